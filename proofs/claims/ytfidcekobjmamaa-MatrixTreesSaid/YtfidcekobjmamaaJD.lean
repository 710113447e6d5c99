/-
  Matrices of any rows: whether one is too wide; whether it is one of cuts, the program's answer and the document's.
-/
import Derived.Test.YtfidcekobjmamaaJC
import Derived.Test.YtfidcekobjmamaaK1
namespace Go.Proofs.Ytfidcekobjmamaa
set_option linter.unusedVariables false
set_option linter.unusedSimpArgs false
set_option linter.unnecessarySimpa false
open Go.Hp Go.RowKit
attribute [local irreducible] Go.Hp.iteB Go.Hp.stC Go.Hp.newP

def JagV (h : Heap) (q : Option Addr) (L : List (List Int)) : Prop :=
  ∃ qs : List Sl3, qs.length = L.length ∧ valsAt h q (sl3 qs) ∧ ∀ (i : Nat) (x : Sl3) (l : List Int), qs[i]? = some x → L[i]? = some l → x.2.1 = l.length ∧ l.length ≤ x.2.2 ∧ valsAt h x.1 (l.map (Value.int .i64))
theorem JagV.ext {h h' : Heap} {q : Option Addr} {L : List (List Int)} (j : JagV h q L) (e : Ext h h') : JagV h' q L := by
  obtain ⟨qs, h1, h2, h3⟩ := j
  exact ⟨qs, h1, h2.ext e, fun i x l hx hl => ⟨(h3 i x l hx hl).1, (h3 i x l hx hl).2.1, (h3 i x l hx hl).2.2.ext e⟩⟩
theorem JagV.row {h : Heap} {q : Option Addr} {L : List (List Int)} (j : JagV h q L) {i : Nat} {l : List Int} (hl : L[i]? = some l) :
    ∃ (a : Addr) (p : Option Addr) (c : Nat), q = some a ∧ cell h (a.add i) = some (.slice p l.length c) ∧ l.length ≤ c ∧ valsAt h p (l.map (Value.int .i64)) := by
  obtain ⟨qs, h1, h2, h3⟩ := j
  have hi := lt_get hl
  obtain ⟨x, hx⟩ := get_lt (l := qs) (i := i) (by omega)
  obtain ⟨e1, e2, e3⟩ := h3 i x l hx hl
  obtain ⟨a, ha, hc⟩ := h2 i _ (sl3_get hx)
  rw [e1] at hc
  exact ⟨a, x.1, x.2.2, ha, hc, e2, e3⟩
def gM (L : List (List Int)) (i j : Nat) : Int := (L.getD i []).getD j 0
theorem gM_of {L : List (List Int)} {i : Nat} {l : List Int} (hl : L[i]? = some l) (j : Nat) : gM L i j = l.getD j 0 := by simp [gM, List.getD, hl]
theorem lst_at {h : Heap} {p : Option Addr} {j : Nat} {l : List Int} (v : valsAt h p (l.map (Value.int .i64))) (hj : j < l.length) : ∃ a, p = some a ∧ cell h (a.add j) = some (.int .i64 (l.getD j 0)) := v j _ (by simp [List.getD, hj])
/-- One number of a row. -/
theorem JagV.at_ {h : Heap} {q : Option Addr} {L : List (List Int)} (j : JagV h q L) {i k : Nat} {l : List Int} (hl : L[i]? = some l) (hk : k < l.length) :
    ∃ (a : Addr) (p : Addr) (c : Nat), q = some a ∧ cell h (a.add i) = some (.slice (some p) l.length c) ∧ cell h (p.add k) = some (.int .i64 (gM L i k)) := by
  obtain ⟨a, p, c, h1, h2, h3, h4⟩ := j.row hl
  obtain ⟨b, rfl, h5⟩ := lst_at h4 hk
  rw [← gM_of hl] at h5
  exact ⟨a, b, c, h1, h2, h5⟩
theorem JagV.mx {h : Heap} {q : Option Addr} {L : List (List Int)} (j : JagV h q L) (hl : ∀ l ∈ L, l.length = L.length) : MxV h q L.length (gM L) := by
  obtain ⟨qs, h1, h2, h3⟩ := j
  refine ⟨qs, h1, h2, fun i x hx => ?_⟩
  obtain ⟨l, hli⟩ := get_lt (l := L) (i := i) (by rw [← h1]; exact lt_get hx)
  obtain ⟨e1, e2, e3⟩ := h3 i x l hx hli
  have e := hl l (List.mem_of_getElem? hli)
  refine ⟨by omega, by omega, ?_⟩
  have : ints L.length (gM L i) = l.map (Value.int .i64) := by
    rw [← e]
    apply List.ext_getElem?
    intro k
    by_cases c : k < l.length
    · rw [ints_get c, gM_of hli]; simp [List.getD, c]
    · rw [List.getElem?_eq_none (by rw [ints_length]; omega), List.getElem?_eq_none (by simp; omega)]
  rw [this]; exact e3
/-- Its rows are right, and it is the same both ways. -/
structure PlainJ (L : List (List Int)) : Prop where
  lens : ∀ l ∈ L, l.length = L.length
  low : ∀ u v, u < L.length → v < u → 0 ≤ gM L u v ∧ gM L u v = gM L v u
  diag : ∀ u, u < L.length → gM L u u = 0
structure UltraJ (L : List (List Int)) : Prop where
  lens : ∀ l ∈ L, l.length = L.length
  u : UltraM L.length (gM L)
section
variable {h : Heap} {L : List (List Int)} {q : Option Addr} {c : Nat} {K : Bool → Heap → Prop} {K0 : Bool → Heap → Prop}
/-! ### Too wide? -/
theorem wide_l0_ {K2 : Heap → Prop} (j : JagV h q L) (h1 : ¬ (L.length ≤ 40 ∧ ∀ l ∈ L, l.length ≤ 40) → K0 true h) (hk : (L.length ≤ 40 → ∀ l ∈ L, l.length ≤ 40) → K2 h) :
    ∀ (d i : Nat), i + d = min L.length 41 → (∀ k l, k < i → L[k]? = some l → l.length ≤ 40) → straitlaw35_wide.l0 K0 K2 (d + 1) q L.length c (i : Int) h
  | 0, i, hi, hb => by
    unfold straitlaw35_wide.l0 straitlaw35_wide.b0
    intro jn
    have : K2 h := hk fun hle l hl => by
      obtain ⟨k, hk⟩ := List.mem_iff_getElem?.1 hl
      exact hb k l (by have := lt_get hk; omega) hk
    exact iteB_intro (fun e => iteB_intro (fun e2 => by have := of_decide_eq_true e; have := of_decide_eq_true e2; omega) fun _ => this) fun _ => this
  | d + 1, i, hi, hb => by
    unfold straitlaw35_wide.l0 straitlaw35_wide.b0
    obtain ⟨l, hl⟩ := get_lt (l := L) (i := i) (by omega)
    obtain ⟨a, p, c1, he, g, _, _⟩ := j.row hl
    intro jn
    refine iteB_pos (decide_eq_true (by omega)) (iteB_pos (decide_eq_true (by omega)) ?_)
    simp -zeta only [jn]
    rw [he]
    simp -zeta only [chkP_some, Int.toNat_natCast, Nat.mul_one]
    rw [← he]
    refine ⟨by omega, _, _, _, g, iteB_intro (fun e => h1 fun hh => ?_) fun e => ?_⟩
    · have := of_decide_eq_true e
      have := hh.2 l (List.mem_of_getElem? hl); omega
    have e := of_decide_eq_false e
    rw [wrap64 (by omega) (by omega)]
    refine wide_l0_ j h1 hk d (i + 1) (by omega) fun k l' hk' hl' => ?_
    by_cases ek : k = i
    · subst ek; rw [hl] at hl'; obtain rfl := Option.some.inj hl'; omega
    · exact hb k l' (by omega) hl'
theorem Wide_of_ (j : JagV h q L) (h1 : ¬ (L.length ≤ 40 ∧ ∀ l ∈ L, l.length ≤ 40) → K true h) (hk : L.length ≤ 40 → (∀ l ∈ L, l.length ≤ 40) → K false h) : straitlaw35_wide q L.length c h K := by
  unfold straitlaw35_wide
  refine ⟨min L.length 41 + 1, wide_l0_ j h1 (fun hr => ?_) _ 0 (by omega) fun k l hk => by omega⟩
  by_cases e : L.length ≤ 40
  · rw [decide_eq_false (by omega)]; exact hk e (hr e)
  · rw [decide_eq_true (by omega)]; exact h1 fun hh => e hh.1
/-! ### The program's -/
theorem gplain_l1 {K4 : Heap → Prop} {u c1 : Nat} {p : Option Addr} {l : List Int} (j : JagV h q L) (hn : L.length ≤ 256) (hu : L[u]? = some l) (hlen : l.length = L.length) (vr : valsAt h p (l.map (Value.int .i64))) (hlens : ∀ v l', v < u → L[v]? = some l' → l'.length = L.length)
    (h0 : ¬ PlainJ L → K0 false h) (hk : (∀ v, v < u → 0 ≤ gM L u v ∧ gM L u v = gM L v u) → K4 h) :
    ∀ (d i : Nat), i + d = u → (∀ v, v < i → 0 ≤ gM L u v ∧ gM L u v = gM L v u) → matrix_plain.l1 K0 K4 (d + 1) q L.length c (u : Int) p l.length c1 q L.length c (L.length : Int) (u : Int) (u : Int) (i : Int) h
  | 0, i, hi, hb => by
    unfold matrix_plain.l1 matrix_plain.b1
    have : i = u := by omega
    subst this
    exact iteB_neg (decide_eq_false (by omega)) (hk hb)
  | d + 1, i, hi, hb => by
    unfold matrix_plain.l1 matrix_plain.b1
    have hul := lt_get hu
    obtain ⟨li, hli⟩ := get_lt (l := L) (i := i) (by omega)
    have hil := hlens i li (by omega) hli
    obtain ⟨ar, rfl, g1⟩ := lst_at vr (j := i) (by omega)
    rw [← gM_of hu] at g1
    obtain ⟨a1, p1, d1, he, g2, g3⟩ := j.at_ hli (k := u) (by omega)
    refine iteB_pos (decide_eq_true (by omega)) ?_
    rw [he]
    simp -zeta only [chkP_some, Int.toNat_natCast, Nat.mul_one]
    refine ⟨by omega, _, g1, iteB_intro (fun e => h0 fun U => ?_) fun e => ⟨by omega, _, g1, by omega, _, _, _, g2, ?_⟩⟩
    · have e := of_decide_eq_true e
      have := (U.low u i hul (by omega)).1; omega
    simp -zeta only [chkP_some, Int.toNat_natCast, Nat.mul_one]
    have e := of_decide_eq_false e
    refine ⟨by omega, _, g3, iteB_intro (fun e2 => h0 fun U => ?_) fun e2 => ?_⟩
    · have e2 : ¬ gM L u i = gM L i u := by simpa using e2
      exact e2 (U.low u i hul (by omega)).2
    · have e2 : gM L u i = gM L i u := by simpa using e2
      rw [wrap64 (by omega) (by omega), ← he]
      refine gplain_l1 j hn hu hlen vr hlens h0 hk d (i + 1) (by omega) fun v hv => ?_
      by_cases ev : v = i
      · subst ev; exact ⟨by omega, e2⟩
      · exact hb v (by omega)
theorem gplain_l0 {K2 : Heap → Prop} (j : JagV h q L) (hn : L.length ≤ 256) (h0 : ¬ PlainJ L → K0 false h)
    (hk : PlainJ L → K2 h) :
    ∀ (d i : Nat), i + d = L.length → (∀ k l, k < i → L[k]? = some l → l.length = L.length) → (∀ u v, u < i → v < u → 0 ≤ gM L u v ∧ gM L u v = gM L v u) → (∀ u, u < i → gM L u u = 0) →
      matrix_plain.l0 K0 K2 (d + 1) q L.length c q L.length c (L.length : Int) (i : Int) h
  | 0, i, hi, b1, b2, b3 => by
    unfold matrix_plain.l0 matrix_plain.b0
    have : i = L.length := by omega
    subst this
    refine iteB_neg (decide_eq_false (by omega)) (hk ⟨fun l hl => ?_, b2, b3⟩)
    obtain ⟨k, hk⟩ := List.mem_iff_getElem?.1 hl
    exact b1 k l (lt_get hk) hk
  | d + 1, i, hi, b1, b2, b3 => by
    unfold matrix_plain.l0 matrix_plain.b0
    obtain ⟨l, hl⟩ := get_lt (l := L) (i := i) (by omega)
    obtain ⟨a1, p, d1, he, g2, hc, vr⟩ := j.row hl
    refine iteB_pos (decide_eq_true (by omega)) ?_
    rw [he]
    simp -zeta only [chkP_some, Int.toNat_natCast, Nat.mul_one]
    rw [← he]
    refine ⟨by omega, _, _, _, g2, iteB_intro (fun e => h0 fun U => ?_) fun e => bindV_intro fun m hm => ?_⟩
    · have e : ¬ (l.length : Int) = (L.length : Int) := by simpa using e
      have := U.lens l (List.mem_of_getElem? hl); omega
    have e : l.length = L.length := by have e : (l.length : Int) = (L.length : Int) := by simpa using e
                                       omega
    have hm : m = (i : Int) := by rw [hm]; split <;> omega
    subst hm
    obtain ⟨ap, hap, g3⟩ := lst_at vr (j := i) (by omega)
    refine ⟨⟨by omega, by omega⟩, i + 1, ?_⟩
    rw [Int.toNat_natCast]
    refine gplain_l1 j hn hl e vr (fun v l' hv hl' => b1 v l' hv hl') h0 (fun hrow => ?_) i 0 (by omega) fun v hv => by omega
    rw [hap]
    simp -zeta only [chkP_some, Int.toNat_natCast, Nat.mul_one]
    rw [← gM_of hl] at g3
    refine ⟨by omega, _, g3, iteB_intro (fun e2 => h0 fun U => ?_) fun e2 => ?_⟩
    · have e2 : ¬ gM L i i = 0 := by simpa using e2
      exact e2 (U.diag i (by omega))
    · have e2 : gM L i i = 0 := by simpa using e2
      rw [wrap64 (by omega) (by omega)]
      refine gplain_l0 j hn h0 hk d (i + 1) (by omega) (fun k l' hk' hl' => ?_) (fun u v hu hv => ?_) fun u hu => ?_
      · by_cases ek : k = i
        · subst ek; rw [hl] at hl'; obtain rfl := Option.some.inj hl'; exact e
        · exact b1 k l' (by omega) hl'
      · by_cases ek : u = i
        · subst ek; exact hrow v hv
        · exact b2 u v (by omega) hv
      · by_cases ek : u = i
        · subst ek; exact e2
        · exact b3 u (by omega)
end
end Go.Proofs.Ytfidcekobjmamaa
