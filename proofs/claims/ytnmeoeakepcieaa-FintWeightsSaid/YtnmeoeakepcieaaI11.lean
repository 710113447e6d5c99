/-
  The law 'FintWeights': the contract.
-/
import Derived.Test.YtnmeoeakepcieaaI10
namespace Go.Proofs.Ytnmeoeakepcieaa
set_option linter.unusedVariables false
set_option linter.unusedSimpArgs false
open Go.Hp Go.RowKit
attribute [local irreducible] Go.Hp.iteB

theorem F3_of {q : Option Addr} {qc : Nat} {h : Heap} {bs : List Nat} {K : Bool → Heap → Prop} (hbs : ∀ b ∈ bs, b < 18446744073709551616) (hv : valsAt h q (bs.map fun (b : Nat) => Value.int .u64 (b : Int)))
    (hk : ∀ h', Ext h h' → K true h') : F3 q bs.length qc h K := by
  unfold F3
  refine iteB_intro (fun _ => qcallP1.of true (fun R hR => F6_of hR) (hk h (Ext.refl h))) (fun c => ?_)
  have c := of_decide_eq_false c
  have hlen : bs.length ≤ 100 := by omega
  refine ⟨bs.length + 1, F3_l0 rfl hlen hv (fun q4 c4 h4 e4 v4 => ?_) bs.length 0 h none 0 (by omega) (Ext.refl h) (.inl ⟨rfl, rfl, by simp⟩)⟩
  refine callP5.self (F8_of hlen hbs v4 (fun i e h9 hf e9 => ?_) (fun a h9 hf e9 r9 => ?_))
  · refine callP5.self (F9_of hlen hbs (hv.ext (e4.trans e9)) (fun i' e' h13 hf' e13 => ?_) (fun q' c' h13 hf' => by rw [hf] at hf'; cases hf'))
    rw [hf] at hf'; cases hf'
    exact F3_tail (ws := []) (e4.trans (e9.trans e13)) (by simp) (fun i v hi => by simp at hi) (fun i v hi => by simp at hi) hk
  · refine callP5.self (F9_of hlen hbs (hv.ext (e4.trans e9)) (fun i' e' h13 hf' => by rw [hf] at hf'; cases hf') (fun q' c' h13 hf' e13 v13 => ?_))
    have hl : (bs.map fun b => (weightR b).1).length = bs.length := by simp
    have hm : (bs.map fun b => (weightR b).1).map (Value.int .i64) = bs.map fun b => Value.int .i64 (weightR b).1 := by rw [List.map_map]; rfl
    have ht := F3_tail (h0 := h) (ws := bs.map fun b => (weightR b).1) (x6 := some ⟨a, 0, none⟩) (x10 := q') (x6c := bs.length) (x10c := c') (e := 0) (i := 0) (e4.trans (e9.trans e13)) (by rw [hl]; exact hlen) (by rw [hm]; exact valsAt.row (r9.ext e13) (fun i v hi => by rw [Nat.zero_add]; exact hi)) (by rw [hm]; exact v13) hk
    rw [hl] at ht; exact ht
end Go.Proofs.Ytnmeoeakepcieaa
