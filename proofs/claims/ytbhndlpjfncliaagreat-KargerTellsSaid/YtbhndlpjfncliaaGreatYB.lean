/-
  Nets: a graph that lies in memory that was there: its size, its edges, who is near.
-/
import Derived.Test.YtbhndlpjfncliaaGreatYA
namespace Go.Proofs.YtbhndlpjfncliaaGreat
set_option linter.unusedVariables false
set_option linter.unusedSimpArgs false
set_option linter.unnecessarySimpa false
open Go.Hp Go.RowKit
attribute [local irreducible] Go.Hp.iteB Go.Hp.stC Go.Hp.newP

structure NetG (h : Heap) (g n : Nat) (L : List Ed) (N : List (List Nat)) : Prop where
  gr : Gr n L
  hn : n ≤ 4096
  ex : ∃ (nr cm : Nat) (qm : Option Addr) (E : List Nr), Hp.cell h ⟨g, 0, none⟩ = some (.slice (some ⟨nr, 0, none⟩) n n) ∧ Hp.cell h ⟨g, 2, none⟩ = some (.slice qm L.length cm) ∧ valsAt h qm (eV L) ∧
    valsAt h (some ⟨nr, 0, none⟩) (nrV E) ∧ nrL E = N ∧ E.length = n ∧ ∀ e ∈ E, valsAt h e.q (natV e.l)
theorem NetG.ext {h h' : Heap} {g n : Nat} {L : List Ed} {N : List (List Nat)} (k : NetG h g n L N) (e : Ext h h') : NetG h' g n L N := by
  obtain ⟨a, b, nr, cm, qm, E, c1, c2, v, v2, d1, d2, d3⟩ := k
  exact ⟨a, b, nr, cm, qm, E, e.cell' c1, e.cell' c2, v.ext e, v2.ext e, d1, d2, fun x hx => (d3 x hx).ext e⟩
theorem NetK.atG {h0 : Base} {R L' : Rws} {h : Heap} {g n : Nat} {L : List Ed} {N : List (List Nat)} (k : NetK h0 R g n L N) (s : St h0 h L') (hs : ∀ x ∈ R, x ∈ L') : NetG h g n L N := by
  obtain ⟨a, b, nr, dg, cm, qm, tot, E, k1, k2, k3, k4, k5, k6⟩ := k
  have v := k1 h L' s hs
  refine ⟨a, b, nr, cm, qm, E, ?_, ?_, k2 h L' s hs, k3 h L' s hs, k4, k5, fun e he => k6 e he h L' s hs⟩
  · obtain ⟨x, hx, hc⟩ := v 0 _ rfl; cases hx; rw [add_mk, Nat.zero_add] at hc; exact hc
  · obtain ⟨x, hx, hc⟩ := v 2 _ rfl; cases hx; rw [add_mk, Nat.zero_add] at hc; exact hc
section
variable {h0 : Base} {R : Rws} {g n : Nat} {L : List Ed} {N : List (List Nat)}
theorem GN_of {h : Heap} {K : Int → Heap → Prop} (nh : NetG h0.heap g n L N) (s : St h0 h R) (hk : K (n : Int) h) : net_Net_N (some ⟨g, 0, none⟩) h K := by
  obtain ⟨_, _, nr, cm, qm, E, c0, _⟩ := nh
  unfold net_Net_N
  exact iteB_neg rfl ⟨_, n, n, s.ext.cell' c0, hk⟩
theorem GN_nil {h : Heap} {K : Int → Heap → Prop} (hk : K 0 h) : net_Net_N none h K := by unfold net_Net_N; exact iteB_pos rfl hk
theorem GEdges_nil {h : Heap} {K : Option Addr → Nat → Nat → Heap → Prop} (hk : K none 0 0 h) : net_Net_Edges none h K := by unfold net_Net_Edges; exact iteB_pos rfl hk
theorem GEdges_of {h : Heap} {K : Option Addr → Nat → Nat → Heap → Prop} (nh : NetG h0.heap g n L N) (s : St h0 h R)
    (hk : ∀ q c X h', Own3 q c L X → St h0 h' (X ++ R) → K q L.length c h') : net_Net_Edges (some ⟨g, 0, none⟩) h K := by
  obtain ⟨gr, hn, nr, cm, qm, E, c0, c2, vm, _⟩ := nh
  have hl := gr.len
  unfold net_Net_Edges
  refine iteB_neg rfl ⟨qm, L.length, cm, s.ext.cell' c2, callP3.self ?_⟩
  unfold slices_Clone_Lapi_Edge_api_Edge
  cases qm with
  | none =>
    have : L = [] := by
      cases L with
      | nil => rfl
      | cons e r => obtain ⟨a, ha, _⟩ := vm 0 (.int .i64 e.1) rfl; cases ha
    subst this
    exact iteB_pos rfl (hk none 0 [] h Own3.nil s)
  | some a =>
    refine iteB_neg rfl (St.new_ (cs := []) s fun b h1 s1 => ?_)
    refine ⟨eV L, (by have := cellsAt_vals (vm.ext s1.ext); rwa [eV_len] at this), ?_⟩
    refine app_k (k := 3) (l := []) (X := [(b, [])]) (.inr ⟨b, [], rfl, rfl, rfl⟩) s1 (by omega) rfl rfl (eV_len L) rfl (eV_flat L) (by omega) fun q' c' X' h' o' s' => ?_
    rw [Nat.zero_add]
    rw [List.nil_append] at o'
    refine hk q' c' X' h' ?_ s'
    rcases o' with ⟨o1, o2, o3, o4⟩ | o'
    · refine .inl ⟨o1, o2, ?_, o4⟩
      have := congrArg List.length o3
      rw [eV_len] at this
      exact List.length_eq_zero_iff.1 (by rw [List.length_nil] at this; omega)
    · exact .inr o'
end
end Go.Proofs.YtbhndlpjfncliaaGreat
