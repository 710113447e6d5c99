/-
  The law 'FintWeights': its own lines.
-/
import Derived.Test.YtnmeoeakepcieaaI8
namespace Go.Proofs.Ytnmeoeakepcieaa
set_option linter.unusedVariables false
set_option linter.unusedSimpArgs false
open Go.Hp Go.RowKit
attribute [local irreducible] Go.Hp.iteB

theorem F3_l0 {K2 : Option Addr → Nat → Nat → Heap → Prop} {q : Option Addr} {qc n : Nat} {h0 : Heap} {bs : List Nat} (hn : n = bs.length) (hlen : bs.length ≤ 100)
    (hv : valsAt h0 q (bs.map fun (b : Nat) => Value.int .u64 (b : Int)))
    (hk2 : ∀ q' c' h', Ext h0 h' → valsAt h' q' (bs.map (Value.float .f64)) → K2 q' bs.length c' h') :
    ∀ (d i : Nat) (h : Heap) (s : Option Addr) (sc : Nat), i + d = n → Ext h0 h → ownS h0 h s sc ((bs.take i).map (Value.float .f64)) → F3.l0 K2 (d + 1) q n qc s i sc (i : Int) h
  | 0, i, h, s, sc, hi, e, o => by
    unfold F3.l0 F3.b0
    have hib : i = bs.length := by omega
    subst hib
    rw [List.take_length] at o
    exact iteB_neg (decide_eq_false (by omega)) (hk2 s sc h e o.vals)
  | d + 1, i, h, s, sc, hi, e, o => by
    have hib : i < bs.length := by omega
    obtain ⟨b, hb⟩ : ∃ b, bs[i]? = some b := ⟨_, List.getElem?_eq_getElem hib⟩
    have htake : bs.take (i + 1) = bs.take i ++ [b] := by rw [List.take_add_one, hb]; rfl
    obtain ⟨p, rfl, hp⟩ := hv i (.int .u64 b) (by rw [List.getElem?_map, hb]; rfl)
    unfold F3.l0 F3.b0
    refine iteB_pos (decide_eq_true (by omega)) ?_
    rw [chkP_some]
    refine ⟨⟨by omega, by omega⟩, (b : Int), by rw [show ((i : Int).toNat * 1) = i by omega]; exact e.cell' hp, ?_⟩
    refine qcallP1.of b (fun R hR => F7_of hR) ?_
    refine newP_intro fun a23 h24 ha23 hs24 e24 r24 => ?_
    refine ⟨[.float .f64 b], cellsAt_row r24 (n := 1 * 1) (by simp), ?_⟩
    have hl : ((bs.take i).map (Value.float .f64)).length = i := by simp; omega
    have happ := ownS.app (e := 25) (bytes := 8) (z := .float .f64 0) (v := .float .f64 b) (o.ext e24) (e.trans e24) (by rfl) (by rw [hl]; omega)
      (K := fun q l c h => F3.l0 K2 (d + 1) (some p) n qc q l c (IntKind.i64.wrap ((i : Int) + 1)) h) (fun q' c' h' o' e' _ _ => by
        rw [hl, wrap_id (by omega) (by omega), show (i : Int) + 1 = ((i + 1 : Nat) : Int) by omega]
        refine F3_l0 hn hlen hv hk2 d (i + 1) h' q' c' (by omega) e' ?_
        rw [htake, List.map_append]; exact o')
    rw [hl] at happ
    exact happ
end Go.Proofs.Ytnmeoeakepcieaa
