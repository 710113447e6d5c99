/-
  The law 'FintWeights' (under way).
-/
import Derived.Test.YtnmeoeakepcieaaI4
import Derived.Test.YtnmeoeakepcieaaA
namespace Go.Proofs.Ytnmeoeakepcieaa
set_option linter.unusedVariables false
set_option linter.unusedSimpArgs false
open Go.Hp Go.RowKit
attribute [local irreducible] Go.Hp.iteB

/-- The first one that is no weight. -/
def firstErr : List Nat → Nat → Option (Nat × Int)
  | [], _ => none
  | b :: r, i => if (weightR b).2 ≠ 0 then some (i, (weightR b).2) else firstErr r (i + 1)

theorem F8_l0 {K0 : Option Addr → Nat → Nat → Int → Int → Heap → Prop} {K2 : Heap → Prop} {q : Option Addr} {qc a n : Nat} {h0 : Heap} {bs : List Nat} (hn : n = bs.length) (hlen : bs.length < 9223372036854775808) (hbs : ∀ b ∈ bs, b < 18446744073709551616) (ha : h0.size ≤ a)
    (hv : valsAt h0 q (bs.map (Value.float .f64))) (hk0 : ∀ i e h', firstErr bs 0 = some (i, e) → Ext h0 h' → K0 none 0 0 e i h') (hk2 : ∀ h', firstErr bs 0 = none → Ext h0 h' → row h' a (bs.map fun b => Value.int .i64 (weightR b).1) → K2 h') :
    ∀ (d i : Nat) (h : Heap) (cs : List Value), i + d = n → Ext h0 h → row h a cs → cs.length = n → (∀ j, j < i → cs[j]? = (bs.map fun b => Value.int .i64 (weightR b).1)[j]?) → firstErr bs 0 = firstErr (bs.drop i) i →
      F8.l0 K0 K2 (d + 1) ⟨a, 0, none⟩ n n q n qc (n : Int) (i : Int) h
  | 0, i, h, cs, hi, e, r, hc, hj, hf => by
    unfold F8.l0 F8.b0
    refine iteB_neg (decide_eq_false (by omega)) (hk2 h ?_ e ?_)
    · rw [hf, List.drop_eq_nil_of_le (by omega)]; rfl
    · have : cs = bs.map fun b => Value.int .i64 (weightR b).1 := by
        apply List.ext_getElem?
        intro j
        by_cases hjn : j < n
        · exact hj j (by omega)
        · rw [List.getElem?_eq_none (by omega), List.getElem?_eq_none (by simp; omega)]
      rw [← this]; exact r
  | d + 1, i, h, cs, hi, e, r, hc, hj, hf => by
    have hib : i < bs.length := by omega
    obtain ⟨b, hb⟩ : ∃ b, bs[i]? = some b := ⟨_, List.getElem?_eq_getElem hib⟩
    have hbm : b ∈ bs := List.mem_of_getElem? hb
    have hdrop : bs.drop i = b :: bs.drop (i + 1) := by rw [List.drop_eq_getElem_cons hib]; congr 1; exact Option.some.inj ((List.getElem?_eq_getElem hib).symm.trans hb)
    obtain ⟨p, rfl, hp⟩ := hv i (.float .f64 b) (by rw [List.getElem?_map, hb]; rfl)
    rw [hdrop] at hf
    unfold F8.l0 F8.b0
    refine iteB_pos (decide_eq_true (by omega)) ?_
    rw [chkP_some]
    refine ⟨⟨by omega, by omega⟩, b, by rw [show ((i : Int).toNat * 1) = i by omega]; exact e.cell' hp, ?_⟩
    refine qcallP2.of _ _ (fun R hR => F15_of (hbs b hbm) hR) ?_
    by_cases c : (weightR b).2 = 0
    · refine iteB_neg (by simp [c]) ⟨⟨by omega, by omega⟩, ?_⟩
      rw [add_mk, show 0 + (i : Int).toNat * 1 = i by omega, wrap_id (by omega) (by omega), show (i : Int) + 1 = ((i + 1 : Nat) : Int) by omega]
      refine stC_row r (by omega) ?_
      refine F8_l0 hn hlen hbs ha hv hk0 hk2 d (i + 1) _ _ (by omega) (e.setC ha _) (r.set i _) (by simpa using hc) (fun j hj' => ?_) (by rw [hf]; exact if_neg (by simpa using c))
      rw [List.getElem?_set]
      by_cases hij : i = j
      · subst hij; rw [if_pos rfl, if_pos (by omega), List.getElem?_map, hb]; rfl
      · rw [if_neg hij]; exact hj j (by omega)
    · refine iteB_pos (by simpa using c) (hk0 i _ h ?_ e)
      rw [hf]; exact if_pos c
end Go.Proofs.Ytnmeoeakepcieaa
