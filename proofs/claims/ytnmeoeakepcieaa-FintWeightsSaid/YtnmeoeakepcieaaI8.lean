/-
  The law 'FintWeights'.
-/
import Derived.Test.YtnmeoeakepcieaaI7
namespace Go.Proofs.Ytnmeoeakepcieaa
set_option linter.unusedVariables false
set_option linter.unusedSimpArgs false
open Go.Hp Go.RowKit
attribute [local irreducible] Go.Hp.iteB

theorem F9_of {q : Option Addr} {qc : Nat} {h : Heap} {bs : List Nat} {K : Option Addr → Nat → Nat → Int → Int → Heap → Prop} (hlen : bs.length ≤ 100) (hbs : ∀ b ∈ bs, b < 18446744073709551616)
    (hv : valsAt h q (bs.map fun (b : Nat) => Value.int .u64 (b : Int)))
    (hk0 : ∀ (i : Nat) (e : Int) h', firstErr bs 0 = some (i, e) → Ext h h' → K none 0 0 e i h')
    (hk2 : ∀ q' c' h', firstErr bs 0 = none → Ext h h' → valsAt h' q' (bs.map fun b => Value.int .i64 (weightR b).1) → K q' bs.length c' 0 0 h') : F9 q bs.length qc h K := by
  unfold F9
  refine newP_intro fun a h3 ha hs e r => ?_
  refine ⟨bs.length + 1, F9_l0 (h0 := h) rfl hlen hbs e (by omega) r hv (fun i er h' hf e' r' => ?_) (fun q' c' h' hf e' o' => ?_) bs.length 0 h3 none 0 (by omega) (Ext.refl _) (.inl ⟨rfl, rfl, by simp⟩) (by rw [List.drop_zero])⟩
  · exact ⟨none, 0, 0, by rw [r'.cell]; rfl, er, by rw [add_mk, r'.cell]; rfl, (i : Int), by rw [add_mk, r'.cell]; rfl, hk0 i er h' hf e'⟩
  · have q3 := r.ext e'
    rw [show ((⟨a, 0, none⟩ : Addr).add 1) = ⟨a, 1, none⟩ by rfl, show ((⟨a, 0, none⟩ : Addr).add 2) = ⟨a, 2, none⟩ by rfl]
    refine stC_row q3 (by simp) ?_
    have q17 := q3.set 0 (.slice q' bs.length c')
    refine stC_row q17 (by simp) ?_
    have q18 := q17.set 1 (.int .i64 0)
    refine stC_row q18 (by simp) ?_
    have q19 := q18.set 2 (.int .i64 0)
    simp only [List.set] at q19
    have hne : ∀ b, q' = some ⟨b, 0, none⟩ → a ≠ b := by
      intro b hb
      rcases o' with ⟨z, _⟩ | ⟨b', cs, z, hb', _⟩
      · rw [z] at hb; cases hb
      · rw [z] at hb; cases hb; omega
    have o19 := ((o'.other (p := ⟨a, 0, none⟩) hne (.slice q' bs.length c')).other (p := ⟨a, 1, none⟩) hne (.int .i64 0)).other (p := ⟨a, 2, none⟩) hne (.int .i64 0)
    refine ⟨q', bs.length, c', by rw [q19.cell]; rfl, 0, by rw [q19.cell]; rfl, 0, by rw [q19.cell]; rfl, hk2 q' c' _ hf ?_ o19.vals⟩
    have ha' : h.size ≤ a := by omega
    exact (((e.trans e').setC (p := ⟨a, 0, none⟩) ha' _).setC (p := ⟨a, 1, none⟩) ha' _).setC (p := ⟨a, 2, none⟩) ha' _
end Go.Proofs.Ytnmeoeakepcieaa
