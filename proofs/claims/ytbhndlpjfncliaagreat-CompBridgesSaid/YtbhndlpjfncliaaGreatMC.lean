/-
  Edges of a graph, but one: split and merged again they are the same: the plain law.
-/
import Derived.Test.YtbhndlpjfncliaaGreatMB
import Derived.Test.YtbhndlpjfncliaaGreatMS
namespace Go.Proofs.YtbhndlpjfncliaaGreat
set_option linter.unusedVariables false
set_option linter.unusedSimpArgs false
set_option linter.unnecessarySimpa false
open Go.Hp Go.RowKit

theorem splE_sum (f : Ed → Int) (hf : ∀ (u v a b : Int), f (u, v, a) + f (u, v, b) = f (u, v, a + b)) (h0 : ∀ u v : Int, f (u, v, 0) = 0) (e : Ed) : tsum f (splE e) = f e := by
  obtain ⟨u, v, w⟩ := e
  have hp := pcs_pos w
  unfold splE
  simp only
  rw [tsum_app, tsum_rep]
  show ((pcs w - 1).toNat : Int) * f (u, v, big) + (f (u, v, w - (pcs w - 1) * big) + tsum f []) = _
  have e0 : tsum f [] = 0 := rfl
  have hm : ∀ k : Nat, (k : Int) * f (u, v, big) = f (u, v, (k : Int) * big) := fun k => by
    induction k with
    | zero => simp [h0]
    | succ k ih =>
      have e1 : ((k + 1 : Nat) : Int) * f (u, v, big) = (k : Int) * f (u, v, big) + f (u, v, big) := by
        rw [Int.natCast_add, Int.add_mul]; omega
      have e2 : ((k + 1 : Nat) : Int) * big = (k : Int) * big + big := by
        rw [Int.natCast_add, Int.add_mul]; omega
      rw [e1, e2, ih, hf]
  rw [hm, e0, Int.add_zero, hf]
  have : (((pcs w - 1).toNat : Nat) : Int) = pcs w - 1 := by omega
  rw [this]
  congr 3
  omega
theorem splL_sum (f : Ed → Int) (hf : ∀ (u v a b : Int), f (u, v, a) + f (u, v, b) = f (u, v, a + b)) (h0 : ∀ u v : Int, f (u, v, 0) = 0) : ∀ l : List Ed, tsum f (splL l) = tsum f l
  | [] => rfl
  | e :: l => by
    have ih := splL_sum f hf h0 l
    show tsum f (splE e ++ splL l) = _
    rw [tsum_app, splE_sum f hf h0, ih, tsum_cons]
theorem splE_mem {e x : Ed} (h : x ∈ splE e) (he : 0 ≤ e.2.2) : x.1 = e.1 ∧ x.2.1 = e.2.1 ∧ 0 ≤ x.2.2 ∧ x.2.2 ≤ 2147483648 := by
  obtain ⟨u, v, w⟩ := e
  unfold splE at h
  simp only at h he ⊢
  rcases List.mem_append.1 h with h | h
  · have := List.eq_of_mem_replicate h
    subst this
    unfold big; simp
  · obtain rfl := List.mem_singleton.1 h
    simp only
    refine ⟨trivial, trivial, ?_⟩
    unfold big pcs
    split <;> omega
theorem splL_mem {l : List Ed} {x : Ed} (h : x ∈ splL l) : ∃ e ∈ l, x ∈ splE e := by
  unfold splL at h
  exact List.mem_flatMap.1 h
theorem pcs_sum : ∀ {l : List Ed}, (∀ e ∈ l, 0 ≤ e.2.2) → 2147483648 * (pcsL l).sum ≤ wsum l + 2147483648 * (l.length : Int)
  | [], _ => by simp [pcsL, wsum, tsum]
  | e :: l, h => by
    have ih := pcs_sum (l := l) fun x hx => h x (by simp [hx])
    have h1 := h e (by simp)
    have h2 : 2147483648 * pcs e.2.2 ≤ e.2.2 + 2147483648 := by unfold pcs; split <;> omega
    have e1 : (pcsL (e :: l)).sum = pcs e.2.2 + (pcsL l).sum := by simp [pcsL]
    have e2 : wsum (e :: l) = e.2.2 + wsum l := rfl
    rw [e1, e2, List.length_cons]
    omega
theorem normE_same {e : Ed} (h : e.1 < e.2.1) : normE e = e := by
  rcases normE_key e with ⟨a, b⟩ | ⟨a, b⟩
  · exact Prod.ext a (Prod.ext b (normE_w e))
  · have : ¬ e.1 > e.2.1 := by omega
    unfold normE at *
    rw [if_neg this]
theorem chkE_ok {n : Int} {e : Ed} (h : 0 ≤ e.1 ∧ e.1 < n ∧ 0 ≤ e.2.1 ∧ e.2.1 < n ∧ 0 ≤ e.2.2 ∧ e.2.2 ≤ 2147483648) : chkE n e = 0 := chkE_0 (by omega) (by omega)
theorem chksE_ok {n : Int} : ∀ {l : List Ed} {i : Nat}, Chk n l → (chksE n i l).1 = 0
  | [], _, _ => rfl
  | x :: l, i, h => by
    unfold chksE
    rw [if_neg (by rw [chkE_ok (h x (by simp))]; simp)]
    exact chksE_ok fun y hy => h y (by simp [hy])
theorem net_small {n : Int} {l : List Ed} (c : Chk n l) (hl : l.length ≤ 1048576) : (netL l).length ≤ l.length ∧ wsum (netL l) ≤ 2147483648 * (l.length : Int) := by
  have hg : good l := fun x hx => (c x hx).2.2.2.2.1
  have hs := wsum_le c
  obtain ⟨P, h1, m⟩ := merged hg (by omega)
  rcases merge_both l with ⟨g, _⟩ | ⟨P', S, g, gS, p, up⟩
  · rw [h1] at g; cases g
  rw [h1] at g
  obtain rfl := Option.some.inj g
  rw [sort_filter p up] at m
  have hlen := fold_len l [] P (fun x hx => by cases hx) c.fit h1
  have pl : (P.filter nz).length = (S.filter nz).length := (p.filter nz).length_eq
  have e : netL l = S.filter nz := by unfold netL; rw [gS]; rfl
  rw [e]
  refine ⟨?_, Int.le_trans m.sum hs⟩
  have := List.length_filter_le nz P
  rw [← pl]; simp at hlen; omega
section
variable {n : Nat} {L : List Ed} {i : Nat}
theorem wo_canon (G : Gr n L) : Canon (woL L i) := by
  refine ⟨?_, fun x hx => G.canon.2 x (wo_sub hx)⟩
  have hs : (woL L i).Sublist L := by
    have : (L.take i ++ L.drop (i + 1)).Sublist (L.take i ++ L.drop i) := List.Sublist.append_left (by
      have : L.drop (i + 1) = (L.drop i).drop 1 := by rw [List.drop_drop]
      rw [this]; exact List.drop_sublist _ _) _
    rwa [List.take_append_drop] at this
  exact List.Pairwise.sublist hs G.canon.1
theorem wo_len : (woL L i).length ≤ L.length := by
  unfold woL; rw [List.length_append, List.length_take, List.length_drop]; omega
theorem wo_wsum (G : Gr n L) : wsum (woL L i) ≤ wsum L := by
  have h0 : ∀ m : List Ed, (∀ x ∈ m, x ∈ L) → 0 ≤ wsum m := fun m hm => good_sum fun x hx => by have := G.range x (hm x hx); omega
  by_cases c : i < L.length
  · obtain ⟨e, he⟩ := get_lt c
    have h : L = L.take i ++ e :: L.drop (i + 1) := by rw [← drop_cons he, List.take_append_drop]
    have h1 : wsum L = wsum (L.take i) + (e.2.2 + wsum (L.drop (i + 1))) := by
      have : wsum (L.take i ++ e :: L.drop (i + 1)) = _ := tsum_app wf_ _ _
      rw [← h] at this; exact this
    have h2 : wsum (woL L i) = wsum (L.take i) + wsum (L.drop (i + 1)) := tsum_app wf_ _ _
    have := G.range e (List.mem_of_getElem? he)
    omega
  · have : woL L i = L := by unfold woL; rw [List.take_of_length_le (by omega), List.drop_of_length_le (by omega), List.append_nil]
    rw [this]; exact Int.le_refl _
/-- A graph without an edge, split: it is a graph, and the same. -/
theorem wo_net (G : Gr n L) (hn : n ≤ 4096) (hl : L.length ≤ 40) (hw : wsum L ≤ 2147483648 * 40) :
    splOk (woL L i) ∧ (newE n (splL (woL L i))).1 = 0 ∧ netL (splL (woL L i)) = woL L i ∧ (splL (woL L i)).length ≤ 80 := by
  have C := wo_canon (i := i) G
  have hr : ∀ e ∈ woL L i, 0 ≤ e.1 ∧ e.1 < e.2.1 ∧ e.2.1 < n ∧ 0 < e.2.2 := fun e he => G.range e (wo_sub he)
  have hg : ∀ e ∈ woL L i, 0 ≤ e.2.2 := fun e he => by have := hr e he; omega
  have hs := pcs_sum hg
  have hwl := wo_len (L := L) (i := i)
  have hww := wo_wsum (i := i) G
  have hsum : (pcsL (woL L i)).sum ≤ 80 := by omega
  have hlen := splL_len (woL L i)
  have chk : Chk n (splL (woL L i)) := fun x hx => by
    obtain ⟨e, he, hx⟩ := splL_mem hx
    have r := hr e he
    obtain ⟨h1, h2, h3, h4⟩ := splE_mem hx (hg e he)
    omega
  have hg2 : good (splL (woL L i)) := fun x hx => (chk x hx).2.2.2.2.1
  have sumw : wsum (splL (woL L i)) = wsum (woL L i) := splL_sum wf_ (fun u v a b => rfl) (fun u v => rfl) _
  refine ⟨⟨hg, by omega⟩, ?_, ?_, by omega⟩
  · unfold newE
    rw [if_neg (by omega), if_neg (by omega)]
    exact chksE_ok chk
  · obtain ⟨P, h1, m⟩ := merged hg2 (by omega)
    rcases merge_both (splL (woL L i)) with ⟨g, _⟩ | ⟨P', S, g, gS, p, up⟩
    · rw [h1] at g; cases g
    rw [h1] at g
    obtain rfl := Option.some.inj g
    rw [sort_filter p up] at m
    have e : netL (splL (woL L i)) = S.filter nz := by unfold netL; rw [gS]; rfl
    rw [e]
    refine canon_one m.canon C fun u v huv => ?_
    rw [m.kw u v huv]
    have : (splL (woL L i)).map normE = splL (woL L i) := by
      refine (List.map_congr_left fun x hx => ?_).trans (List.map_id _)
      obtain ⟨e, he, hx⟩ := splL_mem hx
      have r := hr e he
      obtain ⟨h1, h2, _⟩ := splE_mem hx (hg e he)
      exact normE_same (by omega)
    rw [this]
    refine splL_sum (kf u v) (fun a b c d => ?_) (fun a b => ?_) _
    · unfold kf; simp only; split <;> omega
    · unfold kf; simp
end
end Go.Proofs.YtbhndlpjfncliaaGreat
