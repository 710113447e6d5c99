/-
  Texts: words as a line, the program's.
-/
import Derived.Test.YtnepdopakngpfaaDoorW8
namespace Go.Proofs.YtnepdopakngpfaaDoor
set_option linter.unusedVariables false
set_option linter.unusedSimpArgs false
set_option linter.unnecessarySimpa false
open Go.Proofs Go.Shelf Go.RowKit Go.Hp
/-- Put together with blanks between. -/
def tailJ (acc : List UInt8) : List (List UInt8) → List UInt8
  | [] => acc
  | x :: r => tailJ (acc ++ [32] ++ x) r
def joinB : List (List UInt8) → List UInt8
  | [] => []
  | x :: r => tailJ x r
def sumL (ls : List (List UInt8)) : Nat := (ls.map List.length).sum
theorem sumL_cons (x : List UInt8) (r : List (List UInt8)) : sumL (x :: r) = x.length + sumL r := by simp [sumL]
theorem sumL_mem {ls : List (List UInt8)} {x : List UInt8} (h : x ∈ ls) : x.length ≤ sumL ls := by
  induction ls with
  | nil => cases h
  | cons y r ih =>
    rw [sumL_cons]
    rcases List.mem_cons.1 h with rfl | h
    · omega
    · have := ih h; omega
theorem vals_tail {h : Heap} {q : Option Addr} {l : List Value} (v : valsAt h q l) : valsAt h (q.map (·.add (1 * 1))) (l.drop 1) := fun i x hi => by
  rw [List.getElem?_drop] at hi
  obtain ⟨a, rfl, hc⟩ := v (1 + i) x hi
  exact ⟨a.add (1 * 1), rfl, by rw [← hc]; congr 1; simp [Addr.add, Nat.add_assoc]⟩
section
variable {g0 : Heap} {q : Option Addr} {c : Nat}
theorem join_l0 {h : Heap} {K3 : Int → Heap → Prop} {c1 : ByteArray} {p : Option Addr} {n0 c0 : Nat} {ls : List (List UInt8)} (v : valsAt h q (strV ls)) (hb : ls.length ≤ 2 ^ 20) {s0 : Nat} (hs0 : s0 ≤ 2 ^ 21)
    (hk : K3 ((s0 + sumL ls : Nat) : Int) h) (hT : sumL ls ≤ 2 ^ 21) :
    ∀ (d i s1 : Nat), i + d = ls.length → s1 + sumL (ls.drop i) = s0 + sumL ls → strings_Join.l0 K3 (d + 1) p n0 c0 c1 (s1 : Int) q ls.length c (ls.length : Int) (i : Int) h
  | 0, i, s1, hi, hs => by
    unfold strings_Join.l0 strings_Join.b0
    rw [List.drop_of_length_le (by omega)] at hs
    have : s1 = s0 + sumL ls := by simpa [sumL] using hs
    rw [this]
    exact iteB_neg (decide_eq_false (by omega)) hk
  | d + 1, i, s1, hi, hs => by
    unfold strings_Join.l0 strings_Join.b0
    obtain ⟨x, hx⟩ := get_lt (l := ls) (i := i) (by omega)
    obtain ⟨a, ha, g⟩ := v i (.string (str x)) (by unfold strV; rw [List.getElem?_map, hx]; rfl)
    rw [drop_cons hx, sumL_cons] at hs
    refine iteB_pos (decide_eq_true (by omega)) ?_
    rw [ha]
    simp -zeta only [chkP_some, Int.toNat_natCast, Nat.mul_one]
    rw [← ha]
    refine ⟨by omega, _, g, bindV_intro fun m hm => ?_⟩
    rw [wrap64 (by omega) (by omega)] at hm
    rw [str_size]
    refine iteB_neg (decide_eq_false (by omega)) (bindV_intro fun m2 hm2 => ?_)
    rw [wrap64 (by omega) (by omega)] at hm2
    rw [hm2, wrap64 (by omega) (by omega)]
    rw [show ((s1 : Int) + (x.length : Int)) = ((s1 + x.length : Nat) : Int) by omega]
    exact join_l0 v hb hs0 hk hT d (i + 1) (s1 + x.length) (by omega) (by omega)
theorem join_l1 {K5 : Heap → Prop} {b : Nat} {ls : List (List UInt8)} {w : List UInt8} (v : valsAt g0 q (strV ls)) (hb : ls.length ≤ 2 ^ 20) (hT : sumL ls ≤ 2 ^ 21)
    (hk : ∀ h' , Ext g0 h' → BH g0.size b w h' → K5 h') :
    ∀ (d i : Nat) (h : Heap) (acc : List UInt8), i + d = ls.length → acc.length + sumL (ls.drop i) + d ≤ 2 ^ 24 → tailJ acc (ls.drop i) = w → Ext g0 h → BH g0.size b acc h →
      strings_Join.l1 K5 (d + 1) ⟨#[32]⟩ ⟨b, 0, none⟩ q ls.length c (ls.length : Int) (i : Int) h
  | 0, i, h, acc, hi, hl, hw, e, k => by
    unfold strings_Join.l1 strings_Join.b1
    rw [List.drop_of_length_le (by omega)] at hw
    have hw : acc = w := hw
    subst hw
    exact iteB_neg (decide_eq_false (by omega)) (hk h e k)
  | d + 1, i, h, acc, hi, hl, hw, e, k => by
    unfold strings_Join.l1 strings_Join.b1
    obtain ⟨x, hx⟩ := get_lt (l := ls) (i := i) (by omega)
    have hxl := sumL_mem (List.mem_of_getElem? hx)
    obtain ⟨a, ha, g⟩ := (v.ext e) i (.string (str x)) (by unfold strV; rw [List.getElem?_map, hx]; rfl)
    rw [drop_cons hx] at hw hl
    rw [sumL_cons] at hl
    have hw : tailJ (acc ++ [32] ++ x) (ls.drop (i + 1)) = w := hw
    refine iteB_pos (decide_eq_true (by omega)) ?_
    rw [ha]
    simp -zeta only [chkP_some, Int.toNat_natCast, Nat.mul_one]
    rw [← ha]
    refine ⟨by omega, _, g, callP2.self (WriteString_of (s := [32]) e k (by simp; omega) fun _ _ h2 e2 k2 => callP2.self (WriteString_of e2 k2 (by simp; omega) fun _ _ h3 e3 k3 => ?_))⟩
    rw [wrap64 (by omega) (by omega)]
    refine join_l1 v hb hT hk d (i + 1) h3 (acc ++ [32] ++ x) (by omega) (by simp; omega) hw e3 k3
theorem Join_of {h : Heap} {ls : List (List UInt8)} {K : ByteArray → Heap → Prop} (v : valsAt h q (strV ls)) (hc : ls.length ≤ c) (hb : ls.length ≤ 2 ^ 20) (hT : sumL ls ≤ 2 ^ 21) (hk : ∀ h', Ext h h' → K (str (joinB ls)) h') : strings_Join q ls.length c ⟨#[32]⟩ h K := by
  unfold strings_Join
  refine iteB_intro (fun e => ?_) fun e => iteB_intro (fun e2 => ?_) fun e2 => ?_
  · have e : ls.length = 0 := by have e : (ls.length : Int) = 0 := by simpa using e
                                 omega
    obtain rfl := List.length_eq_zero_iff.1 e
    exact hk h (Ext.refl h)
  · have e2 : ls.length = 1 := by have e2 : (ls.length : Int) = 1 := by simpa using e2
                                  omega
    obtain ⟨x, rfl⟩ : ∃ x, ls = [x] := by
      match ls, e2 with
      | [x], _ => exact ⟨x, rfl⟩
    obtain ⟨a, ha, g⟩ := v 0 (.string (str x)) rfl
    rw [ha]
    simp -zeta only [chkP_some]
    exact ⟨by omega, _, g, hk h (Ext.refl h)⟩
  · have n2 : 2 ≤ ls.length := by
      have e : ¬ (ls.length : Int) = 0 := by simpa using e
      have e2 : ¬ (ls.length : Int) = 1 := by simpa using e2
      omega
    obtain ⟨x, r, hls⟩ : ∃ x r, ls = x :: r := by
      match ls, n2 with
      | x :: r, _ => exact ⟨x, r, rfl⟩
    intro j
    have J : j (((ls.length - 1 : Nat) : Int)) := by
      simp -zeta only [j]
      clear j
      refine ⟨ls.length + 1, join_l0 v hb (s0 := ls.length - 1) (by omega) ?_ hT ls.length 0 (ls.length - 1) (by omega) rfl⟩
      refine new_fresh ?_
      refine callP0.self (Grow_of ((Ext.refl h).push _) (Nat.le_refl _) (by simp) (by omega) fun h2 e2 k2 => ?_)
      obtain ⟨a, ha, g⟩ := (v.ext e2) 0 (.string (str x)) (by rw [hls]; rfl)
      rw [ha]
      simp -zeta only [chkP_some]
      have hx := sumL_mem (ls := ls) (x := x) (by rw [hls]; simp)
      refine ⟨by omega, _, g, callP2.self (WriteString_of e2 k2 (by simp; omega) fun _ _ h3 e3 k3 => ⟨by omega, ?_⟩)⟩
      rw [← ha]
      have e1 : (1 : Int).toNat = 1 := rfl
      rw [e1, if_neg (by omega)]
      have vt := vals_tail v
      have hd : (strV ls).drop 1 = strV r := by rw [hls]; rfl
      rw [hd] at vt
      have hr : ls.length - 1 = r.length := by rw [hls]; simp
      rw [hr]
      have hsr : sumL r ≤ sumL ls := by rw [hls, sumL_cons]; omega
      refine ⟨r.length + 1, join_l1 (g0 := h) (w := joinB ls) vt (by omega) (by omega) (fun h4 e4 k4 => callP1.self (String_of e4 k4 fun h5 e5 => hk h5 e5)) r.length 0 h3 x (by omega) ?_ (by rw [hls]; rfl) e3 (by simpa using k3)⟩
      simp
      omega
    clear_value j
    have hw1 : IntKind.i64.wrap ((ls.length : Int) - 1) = ((ls.length - 1 : Nat) : Int) := by rw [wrap64 (by omega) (by omega)]; omega
    have es : (⟨#[32]⟩ : ByteArray).size = 1 := rfl
    rw [es, hw1]
    refine iteB_pos (by decide) ⟨by omega, bindV_intro fun m hm => ?_⟩
    have hq : (2 : Int) ≤ (9223372036854775807 : Int).tdiv ((ls.length - 1 : Nat) : Int) ∧ (9223372036854775807 : Int).tdiv ((ls.length - 1 : Nat) : Int) ≤ 9223372036854775807 := by
      have e3 : (9223372036854775807 : Int).tdiv ((ls.length - 1 : Nat) : Int) = ((9223372036854775807 / (ls.length - 1) : Nat) : Int) := rfl
      rw [e3]
      have h1 : 2 ≤ 9223372036854775807 / (ls.length - 1) := (Nat.le_div_iff_mul_le (by omega)).2 (by omega)
      have h2 : 9223372036854775807 / (ls.length - 1) ≤ 9223372036854775807 := Nat.div_le_self _ _
      omega
    rw [wrap64 (by omega) (by omega)] at hm
    refine iteB_neg (decide_eq_false (by omega)) (bindV_intro fun m2 hm2 => ?_)
    rw [wrap64 (by omega) (by omega)] at hm2
    have : IntKind.i64.wrap (0 + m2) = ((ls.length - 1 : Nat) : Int) := by rw [wrap64 (by omega) (by omega)]; omega
    rw [this]
    exact J
end
def lineL (ls : List (List UInt8)) : List UInt8 := if ls.all wdB = true then joinB ls else []
section
variable {g0 : Heap} {q : Option Addr} {c : Nat}
theorem line_l0 {K0 : ByteArray → Bool → Heap → Prop} {K2 : Heap → Prop} {ls : List (List UInt8)} (v : valsAt g0 q (strV ls)) (hb : ls.length ≤ 2 ^ 20) (hT : sumL ls ≤ 2 ^ 20)
    (hbad : ls.all wdB = false → ∀ h', Ext g0 h' → K0 ⟨#[]⟩ false h') (hk : ls.all wdB = true → ∀ h', Ext g0 h' → K2 h') :
    ∀ (d i : Nat) (h : Heap), i + d = ls.length → (∀ l ∈ ls.take i, wdB l = true) → Ext g0 h → word_Line.l0 K0 K2 (d + 1) q ls.length c q ls.length c (ls.length : Int) (i : Int) h
  | 0, i, h, hi, hw, e => by
    unfold word_Line.l0 word_Line.b0
    rw [List.take_of_length_le (by omega)] at hw
    exact iteB_neg (decide_eq_false (by omega)) (hk (List.all_eq_true.2 hw) h e)
  | d + 1, i, h, hi, hw, e => by
    unfold word_Line.l0 word_Line.b0
    obtain ⟨x, hx⟩ := get_lt (l := ls) (i := i) (by omega)
    have hxl := sumL_mem (List.mem_of_getElem? hx)
    obtain ⟨a, ha, g⟩ := (v.ext e) i (.string (str x)) (by unfold strV; rw [List.getElem?_map, hx]; rfl)
    refine iteB_pos (decide_eq_true (by omega)) ?_
    rw [ha]
    simp -zeta only [chkP_some, Int.toNat_natCast, Nat.mul_one]
    rw [← ha]
    refine ⟨by omega, _, g, callP1.self (right_of (by omega) fun h' e' => iteB_intro (fun e2 => ?_) fun e2 => ?_)⟩
    · refine hbad ?_ h' (e.trans e')
      rw [List.all_eq_false]
      exact ⟨x, List.mem_of_getElem? hx, by simpa using e2⟩
    · rw [wrap64 (by omega) (by omega)]
      refine line_l0 v hb hT hbad hk d (i + 1) h' (by omega) (fun l hl => ?_) (e.trans e')
      rw [take_snoc hx] at hl
      rcases List.mem_append.1 hl with hl | hl
      · exact hw l hl
      · have : l = x := by simpa using hl
        rw [this]; simpa using e2
theorem Line_of {h : Heap} {ls : List (List UInt8)} {K : ByteArray → Bool → Heap → Prop} (v : valsAt h q (strV ls)) (hc : ls.length ≤ c) (hb : ls.length ≤ 2 ^ 20) (hT : sumL ls ≤ 2 ^ 20) (hk : ∀ h', Ext h h' → K (str (lineL ls)) (ls.all wdB) h') : word_Line q ls.length c h K := by
  unfold word_Line
  refine ⟨ls.length + 1, line_l0 v hb hT (fun e h' x => ?_) (fun e h' x => ?_) ls.length 0 h (by omega) (by simp) (Ext.refl h)⟩
  · have := hk h' x
    unfold lineL at this
    rw [e] at this
    exact this
  · refine callP1.self (Join_of (v.ext x) hc hb (by omega) fun h2 e2 => ?_)
    have := hk h2 (x.trans e2)
    unfold lineL at this
    rw [e] at this
    exact this
end
end Go.Proofs.YtnepdopakngpfaaDoor
