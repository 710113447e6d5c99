/-
  Sides: the iterator over the edges that cross: what it gives.
-/
import Derived.RangeFuncBox
import Derived.RangeFuncNested
import Derived.RangeFuncBound
import Derived.RangeFuncCalls
import Derived.RangeFuncLeaves
import Derived.Shelf.Abstract
import Derived.Shelf.RegionOpen
import Derived.WalkKit
import Derived.OwnWalkIn
import Derived.TacticsInMore
import Derived.LoopNIn
import Derived.LoopIn
import Derived.Maps.AppendAt
import Derived.Test.YtbhndlpjfncliaaGreatSA
namespace Go.Proofs.YtbhndlpjfncliaaGreat
open Go Go.Proofs Go.RowKit Go.Shelf Go.Hp
attribute [local go_sem] Oper.semAt_some
set_option linter.unusedVariables false
set_option linter.unusedSimpArgs false

/-- What a round keeps: what lay, but for one box; rows of edges. -/
structure Kp (n₁ B : Nat) (W W' : World) : Prop where
  size : W.heap.size ≤ W'.heap.size
  old : ∀ k, k < n₁ → k ≠ B → W'.heap[k]? = W.heap[k]?
  edg : ∀ (k : Nat) cs f, W.heap[k]? = some (Obj.cells cs 82 f) → W'.heap[k]? = some (Obj.cells cs 82 f)
theorem Kp.trans {n₁ B : Nat} {X Y Z : World} (h : Kp n₁ B X Y) (k : Kp n₁ B Y Z) : Kp n₁ B X Z :=
  ⟨Nat.le_trans h.size k.size, fun i h1 h2 => (k.old i h1 h2).trans (h.old i h1 h2), fun i cs f hi => k.edg i cs f (h.edg i cs f hi)⟩
theorem Kp.book {n₁ B : Nat} (W : World) (l : Nat) (o o' : Obj) (hl : n₁ ≤ l) (h : W.heap[l]? = some o) (hc : o.isCells = false) (_ : o.isWalk = false) : Kp n₁ B W (W.putObj l o') :=
  ⟨(grownBy_putObj' W l o').size, fun k h1 h2 => World.putObj_heap_other (by omega), fun k cs f hk => by
    rw [World.putObj_heap_other (fun e => by subst e; rw [h] at hk; cases hk; cases hc)]; exact hk⟩

theorem cell_block {h h' : Heap} {b j : Nat} (e : h'[b]? = h[b]?) : Hp.cell h' ⟨b, j, none⟩ = Hp.cell h ⟨b, j, none⟩ := by
  unfold Hp.cell; simp only [e]
theorem isV_block {h h' : Heap} {a : VA} {n : Nat} {f : Nat → Bool} (hv : isV h a n f) (e1 : h'[a.1]? = h[a.1]?) (e2 : h'[a.2]? = h[a.2]?) : isV h' a n f :=
  ⟨fun j => (cell_block e1).trans (hv.1 j), fun j => (cell_block e2).trans (hv.2 j)⟩

theorem quiet_grown {w w' : World} (ho : Out w w') (hh : w'.heap = w.heap) : w.grownBy w' none := ⟨ho.os, ho.tape, ho.output, by rw [hh]; exact Nat.le_refl _, fun _ _ _ => by rw [hh]⟩
theorem quiet_below {w w' : World} (B : Nat) (ho : Out w w') (hh : w'.heap = w.heap) : Below B w w' := ⟨ho.os, ho.tape, ho.output, by rw [hh]; exact Nat.le_refl _, fun _ _ => by rw [hh]⟩
theorem has_quiet {w : World} {a : VA} {n : Nat} {f : Nat → Bool} (hn : n ≤ 4096) (hv : isV w.heap a n f) (v : Int) : Calls Tryz.prog 117 #[.pointer (some ⟨a.1, 0, none⟩), .int .i64 v] w fun e w' => e = .returned (.bool (hasV f n v)) ∧ ∃ m, w' = w.drewN m := by
  letI : DKc := ⟨True⟩
  have hc := (vset_Set_Has.calls (a1 := some ⟨a.1, 0, none⟩) (a2 := v) (h := w.heap) (K := fun r h' => r = hasV f n v ∧ h' = w.heap) (Has_of hn hv ⟨rfl, rfl⟩) w rfl).2
  refine hc.mono ?_
  rintro e w' ⟨v, rfl, ho, hr⟩
  have hv := vset_Set_Has.ret_elim (K' := fun v' h' => v' = .bool (hasV f n _) ∧ h' = w.heap) (by rintro r h' ⟨rfl, rfl⟩; exact ⟨rfl, rfl⟩) hr
  exact ⟨by rw [hv.1], _, Go.Hp.Out.drewN trivial ho hv.2⟩

/-- Where the edges' copy lies. -/
def cloneAt (h : Heap) (q : Option Addr) (L : List Ed) : Prop := L = [] ∨ ∃ (b : Nat) (z : List Value), q = some ⟨b, 0, none⟩ ∧ h[b]? = some (Obj.cells (eV L ++ z).toArray 82 (0, 0))
theorem Edges_obj {h : Heap} {g cm : Nat} {qm : Option Addr} {L : List Ed} {K : Option Addr → Nat → Nat → Heap → Prop} (hg : Hp.cell h ⟨g, 2, none⟩ = some (.slice qm L.length cm)) (hL : valsAt h qm (eV L)) (hl : L.length ≤ 1048576)
    (hk : ∀ q c h', h.size ≤ h'.size → (∀ k, k < h.size → h'[k]? = h[k]?) → cloneAt h' q L → K q L.length c h') : net_Net_Edges (some ⟨g, 0, none⟩) h K := by
  unfold net_Net_Edges
  refine iteB_neg rfl ⟨qm, L.length, cm, hg, callP3.self ?_⟩
  unfold slices_Clone_Lapi_Edge_api_Edge
  cases qm with
  | none =>
    have : L = [] := by
      cases L with
      | nil => rfl
      | cons e r => obtain ⟨a, ha, _⟩ := hL 0 (.int .i64 e.1) rfl; cases ha
    subst this
    exact iteB_pos rfl (hk none 0 h (Nat.le_refl _) (fun _ _ => rfl) (.inl rfl))
  | some a =>
    refine iteB_neg rfl ?_
    unfold newP
    have e0 : ∀ k, k < h.size → (h.push (.cells #[] 82))[k]? = h[k]? := fun k hk => by rw [Array.getElem?_push]; rw [if_neg (by omega)]
    refine ⟨eV L, ⟨by rw [eV_len], fun j hj => ?_⟩, ?_⟩
    · obtain ⟨x, hx⟩ : ∃ x, (eV L)[j]? = some x := ⟨_, List.getElem?_eq_getElem (by rw [eV_len]; exact hj)⟩
      obtain ⟨a', ha, hc⟩ := hL j x hx
      cases ha
      refine ⟨a, rfl, ?_⟩
      rw [hx, ← hc]
      exact ((Ext.refl h).push _).cell' hc ▸ hc.symm
    · unfold appP
      refine ⟨fun hc => ?_, fun hc => ⟨by omega, by omega, [], ⟨by simp, fun j hj => absurd hj (by simp)⟩, fun c _ => ?_⟩⟩
      · have : L = [] := List.length_eq_zero_iff.1 (by omega)
        subst this
        exact hk _ 0 _ (by simp) (fun k hk => e0 k hk) (.inl rfl)
      · rw [Nat.zero_add]
        refine hk _ c _ (by simp; omega) (fun k hk => ?_) (.inr ⟨_, zeroRow [.int .i64 0, .int .i64 0, .int .i64 0] (c - L.length), rfl, ?_⟩)
        · rw [Array.getElem?_push, if_neg (by simp; omega)]; exact e0 k hk
        · rw [Array.getElem?_push, if_pos rfl]; simp
theorem edges_calls {w : World} {g cm : Nat} {qm : Option Addr} {L : List Ed} (hg : w.cell? ⟨g, 2, none⟩ = some (.slice qm L.length cm)) (hL : valsAt w.heap qm (eV L)) (hl : L.length ≤ 1048576) :
    Calls Tryz.prog 46 #[.pointer (some ⟨g, 0, none⟩)] w fun e w' => ∃ q c, e = .returned (.slice q L.length c) ∧ w.grownBy w' none ∧ cloneAt w'.heap q L := by
  have hc := (net_Net_Edges.calls (a1 := some ⟨g, 0, none⟩) (h := w.heap) (K := fun q l c h' => l = L.length ∧ w.heap.size ≤ h'.size ∧ (∀ k, k < w.heap.size → h'[k]? = w.heap[k]?) ∧ cloneAt h' q L) (Edges_obj hg hL hl fun q c h' h1 h2 h3 => ⟨rfl, h1, h2, h3⟩) w rfl).2
  refine hc.mono ?_
  rintro e w' ⟨v, rfl, ho, hr⟩
  have hv := net_Net_Edges.ret_elim (K' := fun v' h' => ∃ q c, v' = .slice q L.length c ∧ w.heap.size ≤ h'.size ∧ (∀ k, k < w.heap.size → h'[k]? = w.heap[k]?) ∧ cloneAt h' q L) (by rintro q l c h' ⟨rfl, h1, h2, h3⟩; exact ⟨q, c, rfl, h1, h2, h3⟩) hr
  obtain ⟨q, c, rfl, h1, h2, h3⟩ := hv
  exact ⟨q, c, rfl, ⟨ho.os, ho.tape, ho.output, h1, fun k hk _ => h2 k hk⟩, h3⟩
end Go.Proofs.YtbhndlpjfncliaaGreat
