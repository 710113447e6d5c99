/-
  The law 'FintWeights': the lists.
-/
import Derived.Test.YtnmeoeakepcieaaI5
namespace Go.Proofs.Ytnmeoeakepcieaa
set_option linter.unusedVariables false
set_option linter.unusedSimpArgs false
open Go.Hp Go.RowKit
attribute [local irreducible] Go.Hp.iteB

theorem zeroRow_len (z : Value) (n : Nat) : (zeroRow [z] n).length = n := length_zeroRow1 z n

/-- Weights. -/
theorem F8_of {q : Option Addr} {qc : Nat} {h : Heap} {bs : List Nat} {K : Option Addr → Nat → Nat → Int → Int → Heap → Prop} (hlen : bs.length ≤ 100) (hbs : ∀ b ∈ bs, b < 18446744073709551616) (hv : valsAt h q (bs.map (Value.float .f64)))
    (hk0 : ∀ i e h', firstErr bs 0 = some (i, e) → Ext h h' → K none 0 0 e i h')
    (hk2 : ∀ a h', firstErr bs 0 = none → Ext h h' → row h' a (bs.map fun b => Value.int .i64 (weightR b).1) → K (some ⟨a, 0, none⟩) bs.length bs.length 0 0 h') : F8 q bs.length qc h K := by
  unfold F8
  refine ⟨⟨by omega, by omega, by omega, by omega⟩, ?_⟩
  rw [Int.toNat_natCast]
  refine newP_intro fun a h3 ha hs e r => ?_
  refine ⟨bs.length + 1, F8_l0 (h0 := h) rfl (by omega) hbs (by omega) hv hk0 (fun h' hn e' r' => hk2 a h' hn e' r') bs.length 0 h3 _ (by omega) e r (zeroRow_len _ _) (fun j hj => absurd hj (by omega)) (by rw [List.drop_zero])⟩

/-- Are two slices of numbers the same? -/
theorem F10_l0 {K0 : Bool → Heap → Prop} {K2 : Heap → Prop} {q q2 : Option Addr} {c c2 n : Nat} {h : Heap} {xs : List Int} (hn : n = xs.length) (hlen : xs.length < 9223372036854775808) (hv : valsAt h q (xs.map (Value.int .i64))) (hv2 : valsAt h q2 (xs.map (Value.int .i64))) (hk : K2 h) :
    ∀ (d i : Nat), i + d = n → F10.l0 K0 K2 (d + 1) q n c q2 n c2 (i : Int) h
  | 0, i, hi => by
    unfold F10.l0 F10.b0
    exact iteB_neg (decide_eq_false (by omega)) hk
  | d + 1, i, hi => by
    have hib : i < xs.length := by omega
    obtain ⟨x, hx⟩ : ∃ x, xs[i]? = some x := ⟨_, List.getElem?_eq_getElem hib⟩
    have ih := F10_l0 (K0 := K0) (c := c) (c2 := c2) hn hlen hv hv2 hk d (i + 1) (by omega)
    obtain ⟨p, rfl, hp⟩ := hv i (.int .i64 x) (by rw [List.getElem?_map, hx]; rfl)
    obtain ⟨p2, rfl, hp2⟩ := hv2 i (.int .i64 x) (by rw [List.getElem?_map, hx]; rfl)
    unfold F10.l0 F10.b0
    refine iteB_pos (decide_eq_true (by omega)) ?_
    rw [chkP_some]
    refine ⟨⟨by omega, by omega⟩, x, by rw [show ((i : Int).toNat * 1) = i by omega]; exact hp, ⟨by omega, by omega⟩, x, by rw [show ((i : Int).toNat * 1) = i by omega]; exact hp2, iteB_neg (by simp) ?_⟩
    rw [wrap_id (by omega) (by omega), show (i : Int) + 1 = ((i + 1 : Nat) : Int) by omega]; exact ih
theorem F10_of {q q2 : Option Addr} {c c2 : Nat} {h : Heap} {xs : List Int} {K : Bool → Heap → Prop} (hlen : xs.length < 9223372036854775808) (hv : valsAt h q (xs.map (Value.int .i64))) (hv2 : valsAt h q2 (xs.map (Value.int .i64))) (hk : K true h) :
    F10 q xs.length c q2 xs.length c2 h K := by
  unfold F10
  exact iteB_neg (by simp) ⟨xs.length + 1, F10_l0 rfl hlen hv hv2 hk xs.length 0 (by omega)⟩
end Go.Proofs.Ytnmeoeakepcieaa
