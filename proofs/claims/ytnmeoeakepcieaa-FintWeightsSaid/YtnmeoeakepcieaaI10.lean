/-
  The law 'FintWeights', whole.
-/
import Derived.Test.YtnmeoeakepcieaaI9
namespace Go.Proofs.Ytnmeoeakepcieaa
set_option linter.unusedVariables false
set_option linter.unusedSimpArgs false
open Go.Hp Go.RowKit
attribute [local irreducible] Go.Hp.iteB

theorem F3_tail {h0 h13 : Heap} {x6 x10 : Option Addr} {x6c x10c : Nat} {ws : List Int} {e i : Int} {K : Bool → Heap → Prop} (e13 : Ext h0 h13) (hlen : ws.length ≤ 100) (hv : valsAt h13 x6 (ws.map (Value.int .i64))) (hv2 : valsAt h13 x10 (ws.map (Value.int .i64))) (hk : ∀ h', Ext h0 h' → K true h') :
    newP h13 (.cells #[(.slice none 0 0), (.int .i64 0), (.int .i64 0)] 33) fun a14 h15 => stC h15 a14 (.slice x10 ws.length x10c) fun h16 => stC h16 (a14.add 1) (.int .i64 e) fun h17 => stC h17 (a14.add 2) (.int .i64 i) fun h18 => (∃ (x19 : Option Addr) (x19l : Nat) (x19c : Nat), cell h18 a14 = some (.slice x19 x19l x19c) ∧ qcallP1 h18 (F10 x6 ws.length x6c x19 x19l x19c h18) fun x20 => iteB x20 (∃ (x21 : Int), cell h18 (a14.add 1) = some (.int .i64 x21) ∧ iteB (e == x21) (∃ (x22 : Int), cell h18 (a14.add 2) = some (.int .i64 x22) ∧ iteB (i == x22) (qcallP1 h18 (F6 h18) fun x23 => K x23 h18) (K false h18)) (K false h18)) (K false h18)) := by
  refine newP_intro fun a h15 ha hs e15 r => ?_
  rw [show ((⟨a, 0, none⟩ : Addr).add 1) = ⟨a, 1, none⟩ by rfl, show ((⟨a, 0, none⟩ : Addr).add 2) = ⟨a, 2, none⟩ by rfl]
  refine stC_row r (by simp) ?_
  have q17 := r.set 0 (.slice x10 ws.length x10c)
  refine stC_row q17 (by simp) ?_
  have q18 := q17.set 1 (.int .i64 e)
  refine stC_row q18 (by simp) ?_
  have q19 := q18.set 2 (.int .i64 i)
  simp only [List.set] at q19
  have ex : Ext h13 _ := ((e15.setC (p := ⟨a, 0, none⟩) (by show h13.size ≤ a; omega) (.slice x10 ws.length x10c)).setC (p := ⟨a, 1, none⟩) (by show h13.size ≤ a; omega) (.int .i64 e)).setC (p := ⟨a, 2, none⟩) (by show h13.size ≤ a; omega) (.int .i64 i)
  refine ⟨x10, ws.length, x10c, by rw [q19.cell]; rfl, qcallP1.of true (fun R hR => F10_of (by omega) (hv.ext ex) (hv2.ext ex) hR) (iteB_pos rfl ⟨e, by rw [q19.cell]; rfl, iteB_pos (by simp) ⟨i, by rw [q19.cell]; rfl, iteB_pos (by simp) ?_⟩⟩)⟩
  exact qcallP1.of true (fun R hR => F6_of hR) (hk _ (e13.trans ex))
end Go.Proofs.Ytnmeoeakepcieaa
