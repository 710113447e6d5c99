/-
  Texts: the law of what is put together and cut apart.
-/
import Derived.Test.YtnepdopakngpfaaDoorWA
namespace Go.Proofs.YtnepdopakngpfaaDoor
set_option linter.unusedVariables false
set_option linter.unusedSimpArgs false
set_option linter.unnecessarySimpa false
open Go.Proofs Go.Shelf Go.RowKit Go.Hp
attribute [local irreducible] Go.Hp.iteB Go.Hp.stC Go.Hp.newP
def minL (ls : List (List UInt8)) : Nat := (ls.map fun x => min 2001 x.length).sum
theorem minL_snoc (ls : List (List UInt8)) (x : List UInt8) : minL (ls ++ [x]) = minL ls + min 2001 x.length := by simp [minL]
theorem minL_take (ls : List (List UInt8)) : ∀ i, minL (ls.take i) ≤ i * 2001
  | 0 => by simp [minL]
  | i + 1 => by
    have := minL_take ls i
    rcases Nat.lt_or_ge i ls.length with h | h
    · obtain ⟨x, hx⟩ := get_lt h
      rw [take_snoc hx, minL_snoc]; omega
    · have e1 : ls.take (i + 1) = ls := List.take_of_length_le (Nat.le_succ_of_le h)
      have e2 : ls.take i = ls := List.take_of_length_le h
      rw [e1]
      rw [e2] at this
      rw [Nat.add_mul]
      exact Nat.le_trans this (Nat.le_add_right _ _)
theorem minL_sum : ∀ (ls : List (List UInt8)), minL ls ≤ 2000 → sumL ls ≤ 2000 ∧ sumL ls = minL ls
  | [], _ => by simp [sumL, minL]
  | x :: r, h => by
    have e : minL (x :: r) = min 2001 x.length + minL r := by simp [minL]
    rw [e] at h
    have := minL_sum r (by omega)
    rw [sumL_cons, e]
    omega
theorem sum_join : ∀ (ls : List (List UInt8)), sumL ls ≤ (joinB ls).length
  | [] => by simp [sumL]
  | [x] => by simp [sumL, joinB, tailJ]
  | x :: y :: r => by
    have := sum_join (y :: r)
    rw [joinB_two, sumL_cons]
    simp; omega
theorem sum_ws (L : List UInt8) : sumL (wsL L) ≤ L.length := by
  unfold wsL
  split
  · simp [sumL]
  · split
    · have := sum_join (segA 32 [] L)
      rw [join_segs] at this
      simpa using this
    · simp [sumL]
section
variable {h : Heap} {q : Option Addr} {c : Nat}
theorem wback_l0 {K2 : Int → Heap → Prop} {s : ByteArray} {ls : List (List UInt8)} (v : valsAt h q (strV ls)) (hk : K2 ((minL (ls.take (min ls.length 101)) : Nat) : Int) h) :
    ∀ (d i : Nat), i + d = min ls.length 101 → straitlaw07_WordBack.l0 K2 (d + 1) q ls.length c s ((minL (ls.take i) : Nat) : Int) (i : Int) h
  | 0, i, hi => by
    unfold straitlaw07_WordBack.l0 straitlaw07_WordBack.b0
    intro j
    have : i = min ls.length 101 := by omega
    subst this
    exact iteB_intro (fun e => iteB_intro (fun e2 => by have := of_decide_eq_true e; have := of_decide_eq_true e2; omega) fun _ => hk) fun _ => hk
  | d + 1, i, hi => by
    unfold straitlaw07_WordBack.l0 straitlaw07_WordBack.b0
    intro j
    obtain ⟨x, hx⟩ := get_lt (l := ls) (i := i) (by omega)
    obtain ⟨a, ha, g⟩ := v i (.string (str x)) (by unfold strV; rw [List.getElem?_map, hx]; rfl)
    have hb := minL_take ls i
    refine iteB_pos (decide_eq_true (by omega)) (iteB_pos (decide_eq_true (by omega)) ?_)
    simp -zeta only [j]
    rw [ha]
    simp -zeta only [chkP_some, Int.toNat_natCast, Nat.mul_one]
    rw [← ha]
    refine ⟨by omega, _, g, bindV_intro fun m hm => ?_⟩
    rw [str_size] at hm
    have hm : m = ((min 2001 x.length : Nat) : Int) := by rw [hm]; split <;> omega
    have hs : IntKind.i64.wrap (((minL (ls.take i) : Nat) : Int) + m) = ((minL (ls.take (i + 1)) : Nat) : Int) := by
      rw [take_snoc hx, minL_snoc, wrap64 (by omega) (by omega)]; omega
    rw [hs, wrap64 (by omega) (by omega)]
    exact wback_l0 v hk d (i + 1) (by omega)
end
section
variable {h0 : Base} {R : Rws}
theorem Words_res2 {h : Heap} {L : List UInt8} {K : Option Addr → Nat → Nat → Bool → Heap → Prop} (hm : MaxThere h0.heap) (hL : L.length ≤ 2 ^ 20) (s : St h0 h R)
    (hk : ∀ h' q c X, (wsL L).length ≤ c → Keeps h0 (X ++ R) q (strV (wsL L)) → St h0 h' (X ++ R) → K q (wsL L).length c (wsB L) h') : word_Words (str L) h K := by
  refine Words_of hm hL s (fun h1 => ?_) (fun h1 h2 h' Y s' => ?_) fun h1 h2 h' b s' => ?_
  · subst h1
    exact hk h none 0 [] (Nat.le_refl _) keeps_none s
  · obtain ⟨e1, e2⟩ := ws_no h1 h2
    have := hk h' none 0 Y (by rw [e2]; exact Nat.le_refl _) (by rw [e2]; exact keeps_none) s'
    rw [e1, e2] at this; exact this
  · obtain ⟨e1, e2⟩ := ws_yes h1 h2
    have := hk h' (some ⟨b, 0, none⟩) (segA 32 [] L).length [(b, strV (segA 32 [] L))] (by rw [e2]; exact Nat.le_refl _) (by rw [e2]; exact Keeps.row (by simp)) s'
    rw [e1, e2] at this; exact this
end
theorem WordBack_of {h : Heap} {L : List UInt8} {ls : List (List UInt8)} {q : Option Addr} {c : Nat} {K : Bool → Heap → Prop} (hm : MaxThere h) (v : valsAt h q (strV ls)) (hc : ls.length ≤ c) (hk : ∀ h', Ext h h' → K true h') : straitlaw07_WordBack q ls.length c (str L) h K := by
  unfold straitlaw07_WordBack
  have aw : ∀ h1, Ext h h1 → callP1 (straitlaw07_awake h1) fun x8 h9 => K x8 h9 := fun h1 e => callP1.self (awake_of (hm.ext e) fun h4 e4 => hk h4 (e.trans e4))
  refine ⟨min ls.length 101 + 1, wback_l0 v ?_ (min ls.length 101) 0 (by omega)⟩
  intro j48
  refine iteB_intro (fun e => aw h (Ext.refl h)) fun e => iteB_intro (fun e2 => aw h (Ext.refl h)) fun e2 => ?_
  rw [str_size]
  refine iteB_intro (fun e3 => aw h (Ext.refl h)) fun e3 => ?_
  have e := of_decide_eq_false e
  have e2 := of_decide_eq_false e2
  have e3 := of_decide_eq_false e3
  rw [List.take_of_length_le (by omega)] at e2
  obtain ⟨hS, _⟩ := minL_sum ls (by omega)
  have hL : L.length ≤ 2000 := by omega
  have hn : ls.length ≤ 100 := by omega
  simp -zeta only [j48]
  clear j48
  intro j47
  have J : ∀ h1, Ext h h1 → j47 h1 := fun h1 e1 => by
    simp -zeta only [j47]
    clear j47
    have n2 := wsL_len L
    have n3 := sum_ws L
    refine callP4.self (Words_res2 (h0 := (h1 : Base)) (R := []) (hm.ext e1) (by omega) (St.refl h1) fun h2 q2 c2 X2 hc2 k2 s2 => ?_)
    refine callP2.self (Line_of (k2.at0 s2) hc2 (by omega) (by omega) fun h3 e3 => ?_)
    have e13 : Ext h h3 := (e1.trans s2.ext).trans e3
    cases hb : wsB L
    · rw [ws_bad hb]
      exact iteB_pos rfl (iteB_neg rfl (iteB_pos rfl (aw h3 e13)))
    · obtain ⟨g1, g2⟩ := line_words hb
      rw [g1, g2]
      exact iteB_neg rfl (iteB_pos rfl (iteB_pos (by simp) (iteB_pos rfl (aw h3 e13))))
  clear_value j47
  refine callP2.self (Line_of v hc (by omega) (by omega) fun h2 e2' => ?_)
  cases ha : ls.all wdB
  · exact iteB_neg rfl (J h2 e2')
  · refine iteB_pos rfl ?_
    have hl : lineL ls = joinB ls := by unfold lineL; rw [if_pos ha]
    rw [hl]
    obtain ⟨w1, w2⟩ := words_line ha
    obtain ⟨l1, l2⟩ := lines_line ha
    have hj := sumL_join ls
    refine callP4.self (Words_res2 (h0 := (h2 : Base)) (R := []) (hm.ext e2') (by omega) (St.refl h2) fun h3 q3 c3 X3 hc3 k3 s3 => ?_)
    have en : (⟨#[10]⟩ : ByteArray) = str [10] := rfl
    rw [en, str_app, str_app, str_app, str_size, str_size, str_size, str_size]
    refine ⟨by simp; omega, by simp; omega, by simp; omega, ?_⟩
    have e23 : Ext h h3 := e2'.trans s3.ext
    refine callP4.self (Lines_res (h0 := (h3 : Base)) (R := []) (hm.ext e23) (by simp; omega) (St.refl h3) fun h4 q4 c4 X4 k4 s4 => ?_)
    rw [w1, w2, l1, l2]
    rw [w2] at k3
    rw [l2] at k4
    refine iteB_neg rfl (qcallP1.of true (fun Q hQ => Same7_of ((k3.at0 s3).ext s4.ext) (v.ext (e23.trans s4.ext)) (by omega) hQ) (iteB_neg rfl (iteB_neg rfl ?_)))
    refine St.new_ (cs := strV [joinB ls, joinB ls]) s4 fun b h5 s5 => qcallP1.of true (fun Q hQ => Same7_of (ls := [joinB ls, joinB ls]) (k4.atC s5) ((Keeps.row (b := b) (by simp)).at0 s5) (by simp) hQ) (iteB_neg rfl (J h5 (e23.trans s5.ext)))
end Go.Proofs.YtnepdopakngpfaaDoor
