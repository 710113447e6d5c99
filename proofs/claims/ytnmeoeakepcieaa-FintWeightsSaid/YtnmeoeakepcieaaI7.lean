/-
  The law 'FintWeights': the document's list.
-/
import Derived.Test.YtnmeoeakepcieaaI6
namespace Go.Proofs.Ytnmeoeakepcieaa
set_option linter.unusedVariables false
set_option linter.unusedSimpArgs false
open Go.Hp Go.RowKit
attribute [local irreducible] Go.Hp.iteB

theorem F9_l0 {K0 : Heap → Prop} {K2 : Option Addr → Nat → Nat → Heap → Prop} {q : Option Addr} {qc a n : Nat} {h0 h3 : Heap} {bs : List Nat} (hn : n = bs.length) (hlen : bs.length ≤ 100) (hbs : ∀ b ∈ bs, b < 18446744073709551616) (e03 : Ext h0 h3) (ha : h0.size ≤ a) (r3 : row h3 a [.slice none 0 0, .int .i64 0, .int .i64 0])
    (hv : valsAt h0 q (bs.map fun (b : Nat) => Value.int .u64 (b : Int)))
    (hk0 : ∀ (i : Nat) (e : Int) h', firstErr bs 0 = some (i, e) → Ext h0 h' → row h' a [.slice none 0 0, .int .i64 e, .int .i64 (i : Int)] → K0 h')
    (hk2 : ∀ q' c' h', firstErr bs 0 = none → Ext h3 h' → ownS h3 h' q' c' (bs.map fun b => Value.int .i64 (weightR b).1) → K2 q' bs.length c' h') :
    ∀ (d i : Nat) (h : Heap) (s : Option Addr) (sc : Nat), i + d = n → Ext h3 h → ownS h3 h s sc ((bs.take i).map fun b => Value.int .i64 (weightR b).1) → firstErr bs 0 = firstErr (bs.drop i) i →
      F9.l0 K0 K2 (d + 1) q n qc ⟨a, 0, none⟩ s i sc (i : Int) h
  | 0, i, h, s, sc, hi, e, o, hf => by
    unfold F9.l0 F9.b0
    have hib : i = bs.length := by omega
    subst hib
    rw [List.take_length] at o
    exact iteB_neg (decide_eq_false (by omega)) (hk2 s sc h (by rw [hf, List.drop_length]; rfl) e o)
  | d + 1, i, h, s, sc, hi, e, o, hf => by
    have hib : i < bs.length := by omega
    obtain ⟨b, hb⟩ : ∃ b, bs[i]? = some b := ⟨_, List.getElem?_eq_getElem hib⟩
    have hbm : b ∈ bs := List.mem_of_getElem? hb
    have hdrop : bs.drop i = b :: bs.drop (i + 1) := by rw [List.drop_eq_getElem_cons hib]; congr 1; exact Option.some.inj ((List.getElem?_eq_getElem hib).symm.trans hb)
    have htake : bs.take (i + 1) = bs.take i ++ [b] := by rw [List.take_add_one, hb]; rfl
    obtain ⟨p, rfl, hp⟩ := hv i (.int .u64 b) (by rw [List.getElem?_map, hb]; rfl)
    rw [hdrop] at hf
    unfold F9.l0 F9.b0
    refine iteB_pos (decide_eq_true (by omega)) ?_
    rw [chkP_some]
    refine ⟨⟨by omega, by omega⟩, (b : Int), by rw [show ((i : Int).toNat * 1) = i by omega]; exact (e03.trans e).cell' hp, ?_⟩
    refine callP2.self (F18_of (hbs b hbm) fun h12 e12 => ?_)
    refine newP_intro fun a13 h14 ha13 hs14 e14 r14 => ?_
    rw [show ((⟨a13, 0, none⟩ : Addr).add 1) = ⟨a13, 1, none⟩ by rfl]
    refine stC_row r14 (by simp) ?_
    have r15 := r14.set 0 (.int .i64 (weightR b).1)
    refine stC_row r15 (by simp) ?_
    have r16 := r15.set 1 (.int .i64 (weightR b).2)
    have hsz := e12.size
    have hsz3 := e.size
    have e16 : Ext h _ := ((e12.trans e14).setC (p := ⟨a13, 0, none⟩) (by show h.size ≤ a13; omega) (.int .i64 (weightR b).1)).setC (p := ⟨a13, 1, none⟩) (by show h.size ≤ a13; omega) (.int .i64 (weightR b).2)
    generalize setC (setC h14 ⟨a13, 0, none⟩ (.int .i64 (weightR b).1)) ⟨a13, 1, none⟩ (.int .i64 (weightR b).2) = h16 at *
    simp only [List.set] at r16
    refine ⟨_, by rw [r16.cell]; rfl, ?_⟩
    by_cases c : (weightR b).2 = 0
    · refine iteB_neg (by simp [c]) ⟨_, by rw [r16.cell]; rfl, ?_⟩
      refine newP_intro fun a23 h24 ha23 hs24 e24 r24 => ?_
      refine ⟨[.int .i64 (weightR b).1], cellsAt_row r24 (n := 1 * 1) (by simp), ?_⟩
      have hl : ((bs.take i).map fun b => Value.int .i64 (weightR b).1).length = i := by simp; omega
      have happ := ownS.app (e := 2) (bytes := 8) (z := .int .i64 0) (v := .int .i64 (weightR b).1) (o.ext (e16.trans e24)) (e.trans (e16.trans e24)) (by rfl) (by rw [hl]; omega)
        (K := fun q l c h => F9.l0 K0 K2 (d + 1) (some p) n qc ⟨a, 0, none⟩ q l c (IntKind.i64.wrap ((i : Int) + 1)) h) (fun q' c' h' o' e' _ _ => by
          rw [hl, wrap_id (by omega) (by omega), show (i : Int) + 1 = ((i + 1 : Nat) : Int) by omega]
          refine F9_l0 hn hlen hbs e03 ha r3 hv hk0 hk2 d (i + 1) h' q' c' (by omega) e' ?_ (by rw [hf]; exact if_neg (by simpa using c))
          rw [htake, List.map_append]; exact o')
      rw [hl] at happ
      exact happ
    · refine iteB_pos (by simpa using c) ⟨_, by rw [r16.cell]; rfl, ?_⟩
      have q16 := r3.ext (e.trans e16)
      rw [show ((⟨a, 0, none⟩ : Addr).add 1) = ⟨a, 1, none⟩ by rfl, show ((⟨a, 0, none⟩ : Addr).add 2) = ⟨a, 2, none⟩ by rfl]
      refine stC_row q16 (by simp) ?_
      have q17 := q16.set 0 (.slice none 0 0)
      refine stC_row q17 (by simp) ?_
      have q18 := q17.set 1 (.int .i64 (weightR b).2)
      refine stC_row q18 (by simp) ?_
      have q19 := q18.set 2 (.int .i64 (i : Int))
      simp only [List.set] at q19
      refine hk0 i _ _ (by rw [hf]; exact if_pos c) ?_ q19
      exact (((e03.trans (e.trans e16)).setC (p := ⟨a, 0, none⟩) ha _).setC (p := ⟨a, 1, none⟩) ha _).setC (p := ⟨a, 2, none⟩) ha _
end Go.Proofs.Ytnmeoeakepcieaa
