/-
  Texts: what lines and words come to, either way; the law.
-/
import Derived.Test.YtnepdopakngpfaaDoorW5
namespace Go.Proofs.YtnepdopakngpfaaDoor
set_option linter.unusedVariables false
set_option linter.unusedSimpArgs false
set_option linter.unnecessarySimpa false
open Go.Proofs Go.Shelf Go.RowKit Go.Hp
attribute [local irreducible] Go.Hp.iteB Go.Hp.stC Go.Hp.newP
def lnB (L : List UInt8) : Bool := decide ((segA 10 [] L).getLast? = some [])
def lnL (L : List UInt8) : List (List UInt8) := if lnB L = true then (segA 10 [] L).dropLast else []
theorem ln_yes {L : List UInt8} {done : List (List UInt8)} (h : done ++ [[]] = segA 10 [] L) : lnB L = true ∧ lnL L = done := by
  have h1 : lnB L = true := by unfold lnB; rw [← h]; simp
  exact ⟨h1, by unfold lnL; rw [if_pos h1, ← h]; simp⟩
theorem ln_no {L l : List UInt8} {done : List (List UInt8)} (h : done ++ [l] = segA 10 [] L) (hl : l ≠ []) : lnB L = false ∧ lnL L = [] := by
  have h1 : lnB L = false := by unfold lnB; rw [← h]; simpa using hl
  exact ⟨h1, by unfold lnL; rw [h1]; rfl⟩
def wsB (L : List UInt8) : Bool := decide (L = []) || (segA 32 [] L).all wdB
def wsL (L : List UInt8) : List (List UInt8) := if L = [] then [] else if (segA 32 [] L).all wdB = true then segA 32 [] L else []
section
variable {h0 : Base} {R : Rws}
theorem keeps_none {R : Rws} : Keeps h0 R none (strV []) := Keeps.nil
theorem Lines_res {h : Heap} {L : List UInt8} {K : Option Addr → Nat → Nat → Bool → Heap → Prop} (hm : MaxThere h0.heap) (hL : L.length ≤ 2 ^ 20) (s : St h0 h R)
    (hk : ∀ h' q c X, Keeps h0 (X ++ R) q (strV (lnL L)) → St h0 h' (X ++ R) → K q (lnL L).length c (lnB L) h') : word_Lines (str L) h K := by
  refine Lines_of hm hL s (fun h' X done l he hl s' => ?_) fun h' q cap X done he o s' => ?_
  · obtain ⟨e1, e2⟩ := ln_no he hl
    have := hk h' none 0 X (by rw [e2]; exact keeps_none) s'
    rw [e1, e2] at this; exact this
  · obtain ⟨e1, e2⟩ := ln_yes he
    have := hk h' q cap X (by rw [e2]; exact o.keeps fun x hx => by simp [hx]) s'
    rw [e1, e2] at this; exact this
theorem RLines_res {h : Heap} {L : List UInt8} {K : Option Addr → Nat → Nat → Bool → Heap → Prop} (hL : L.length ≤ 2 ^ 20) (s : St h0 h R)
    (hk : ∀ h' q c X, Keeps h0 (X ++ R) q (strV (lnL L)) → St h0 h' (X ++ R) → K q (lnL L).length c (lnB L) h') : straitref07_Lines (str L) h K := by
  refine RLines_of hL s (fun h' X done l he hl s' => ?_) fun h' q cap X Y done he o s' => ?_
  · obtain ⟨e1, e2⟩ := ln_no he hl
    have := hk h' none 0 X (by rw [e2]; exact keeps_none) s'
    rw [e1, e2] at this; exact this
  · obtain ⟨e1, e2⟩ := ln_yes he
    have := hk h' q cap (X ++ Y) (by rw [e2]; exact o.keeps fun x hx => by simp [hx]) (by simpa [List.append_assoc] using s')
    rw [e1, e2] at this; exact this
theorem ws_nil : wsB [] = true ∧ wsL [] = [] := ⟨rfl, rfl⟩
theorem ws_no {L : List UInt8} (h1 : L ≠ []) (h2 : (segA 32 [] L).all wdB = false) : wsB L = false ∧ wsL L = [] := by
  unfold wsB wsL; rw [h2, if_neg h1]; simp [h1]
theorem ws_yes {L : List UInt8} (h1 : L ≠ []) (h2 : (segA 32 [] L).all wdB = true) : wsB L = true ∧ wsL L = segA 32 [] L := by
  unfold wsB wsL; rw [h2, if_neg h1]; simp
theorem Words_res {h : Heap} {L : List UInt8} {K : Option Addr → Nat → Nat → Bool → Heap → Prop} (hm : MaxThere h0.heap) (hL : L.length ≤ 2 ^ 20) (s : St h0 h R)
    (hk : ∀ h' q c X, Keeps h0 (X ++ R) q (strV (wsL L)) → St h0 h' (X ++ R) → K q (wsL L).length c (wsB L) h') : word_Words (str L) h K := by
  refine Words_of hm hL s (fun h1 => ?_) (fun h1 h2 h' Y s' => ?_) fun h1 h2 h' b s' => ?_
  · subst h1
    exact hk h none 0 [] keeps_none s
  · obtain ⟨e1, e2⟩ := ws_no h1 h2
    have := hk h' none 0 Y (by rw [e2]; exact keeps_none) s'
    rw [e1, e2] at this; exact this
  · obtain ⟨e1, e2⟩ := ws_yes h1 h2
    have := hk h' (some ⟨b, 0, none⟩) (segA 32 [] L).length [(b, strV (segA 32 [] L))] (by rw [e2]; exact Keeps.row (by simp)) s'
    rw [e1, e2] at this; exact this
theorem RWords_res {h : Heap} {L : List UInt8} {K : Option Addr → Nat → Nat → Bool → Heap → Prop} (hL : L.length ≤ 2 ^ 20) (s : St h0 h R)
    (hk : ∀ h' q c X, Keeps h0 (X ++ R) q (strV (wsL L)) → St h0 h' (X ++ R) → K q (wsL L).length c (wsB L) h') : straitref07_Words (str L) h K := by
  unfold straitref07_Words
  refine s.new_ fun t h1 s1 => ?_
  by_cases c : L = []
  · subst c
    refine ⟨1, ?_⟩
    unfold straitref07_Words.l0 straitref07_Words.b0
    intro j
    clear_value j
    refine iteB_pos rfl (iteB_neg rfl (s1.st0 (by simp) fun h4 s4 => ?_))
    rw [add_mk, Nat.zero_add]
    refine s4.st0 (by simp) fun h5 s5 => ⟨_, _, _, s5.rd0 0, _, s5.rd0 1, ?_⟩
    exact hk h5 none 0 [_] keeps_none s5
  · refine ⟨L.length + 1 + 1, rwords_l0 (R := R) (t := t) (v0 := [.slice none 0 0, .bool false]) hL c rfl (fun hb h' X s' => ?_) (fun hb h' q cap X o s' => ?_) (L.length + 1) 0 0 none 0 [] [] h1 (by omega) (by simp) (by simp) (.inl ⟨by omega, Nat.le_refl _, by simp⟩) (by simpa [strV] using Own.nil) s1⟩
    · refine ⟨_, _, _, s'.rd0 0, _, s'.rd0 1, ?_⟩
      obtain ⟨e1, e2⟩ := ws_no c hb
      have := hk h' none 0 ((t, [.slice none 0 0, .bool false]) :: X) (by rw [e2]; exact keeps_none) s'
      rw [e1, e2] at this; exact this
    · refine s'.st0 (by simp) fun h4 s4 => ?_
      rw [add_mk, Nat.zero_add]
      refine s4.st0 (by simp) fun h5 s5 => ⟨_, _, _, s5.rd0 0, _, s5.rd0 1, ?_⟩
      obtain ⟨e1, e2⟩ := ws_yes c hb
      have := hk h5 q cap ((t, [.slice q (segA 32 [] L).length cap, .bool true]) :: X) (by rw [e2]; exact o.keeps fun x hx => by simp [hx]) s5
      rw [e1, e2] at this; exact this
end
section
variable {h : Heap} {K0 : Bool → Heap → Prop} {K2 : Heap → Prop} {c1 c2 : Nat} {p1 p2 : Option Addr} {ls : List (List UInt8)}
theorem same7_l0 (v1 : valsAt h p1 (strV ls)) (v2 : valsAt h p2 (strV ls)) (hn : ls.length ≤ 2 ^ 40) (hk : K2 h) : ∀ (d i : Nat), i + d = ls.length → straitref07_Same.l0 K0 K2 (d + 1) p1 ls.length c1 p2 ls.length c2 (i : Int) h
  | 0, i, hi => by
    unfold straitref07_Same.l0 straitref07_Same.b0
    exact iteB_neg (decide_eq_false (by omega)) hk
  | d + 1, i, hi => by
    unfold straitref07_Same.l0 straitref07_Same.b0
    obtain ⟨x, hx⟩ := get_lt (l := ls) (i := i) (by omega)
    have gx : (strV ls)[i]? = some (.string (str x)) := by unfold strV; rw [List.getElem?_map, hx]; rfl
    obtain ⟨a1, ha1, g1⟩ := v1 i _ gx
    obtain ⟨a2, ha2, g2⟩ := v2 i _ gx
    refine iteB_pos (decide_eq_true (by omega)) ?_
    rw [ha1, ha2]
    simp -zeta only [chkP_some, Int.toNat_natCast, Nat.mul_one]
    rw [← ha1, ← ha2]
    refine ⟨by omega, _, g1, by omega, _, g2, iteB_neg (by simp) ?_⟩
    rw [wrap64 (by omega) (by omega)]
    exact same7_l0 v1 v2 hn hk d (i + 1) (by omega)
theorem Same7_of {K : Bool → Heap → Prop} (v1 : valsAt h p1 (strV ls)) (v2 : valsAt h p2 (strV ls)) (hn : ls.length ≤ 2 ^ 40) (hk : K true h) : straitref07_Same p1 ls.length c1 p2 ls.length c2 h K := by
  unfold straitref07_Same
  exact iteB_neg (by simp) ⟨ls.length + 1, same7_l0 v1 v2 hn hk ls.length 0 (by omega)⟩
theorem same_of {h0 : Base} {R : Rws} {f : Bool} {K : Bool → Heap → Prop} (k1 : Keeps h0 R p1 (strV ls)) (k2 : Keeps h0 R p2 (strV ls)) (hn : ls.length ≤ 2 ^ 40) (s : St h0 h R) (hk : ∀ h' x, St h0 h' (x :: R) → K true h') :
    straitlaw07_same p1 ls.length c1 f p2 ls.length c2 f h K := by
  unfold straitlaw07_same
  refine s.new_ fun t h1 s1 => ⟨_, s1.rd0 1, iteB_pos (by simp) ⟨_, _, _, s1.rd0 0, qcallP1.of true (fun Q hQ => Same7_of (k1.atC s1) (k2.atC s1) hn hQ) (hk h1 _ s1)⟩⟩
end
theorem lnL_len (L : List UInt8) : (lnL L).length ≤ L.length + 1 := by
  have := (segA_lens 10 L.length L [] (by simp)).2
  unfold lnL
  split
  · simp; omega
  · simp
theorem wsL_len (L : List UInt8) : (wsL L).length ≤ L.length + 1 := by
  have := (segA_lens 32 L.length L [] (by simp)).2
  unfold wsL
  split
  · simp
  · split
    · exact this
    · simp
/-! ### Awake -/
theorem awake_of {h : Heap} {K : Bool → Heap → Prop} (hm : MaxThere h) (hk : ∀ h', Ext h h' → K true h') : straitlaw07_awake h K := by
  unfold straitlaw07_awake
  have l1 : lnL [97, 32, 98, 10, 10] = [[97, 32, 98], []] ∧ lnB [97, 32, 98, 10, 10] = true := by decide
  have l2 : wsL [97, 32, 98] = [[97], [98]] ∧ wsB [97, 32, 98] = true := by decide
  have l3 : wsB [97, 32, 32, 98] = false := by decide
  refine callP4.self (Lines_res (h0 := (h : Base)) (R := []) (L := [97, 32, 98, 10, 10]) hm (by decide) (St.refl h) fun h1 q1 c1 X1 k1 s1 => ?_)
  refine callP4.self (Words_res (L := [97, 32, 98]) hm (by decide) s1 fun h2 q2 c2 X2 k2 s2 => ?_)
  refine callP4.self (Words_res (L := [97, 32, 32, 98]) hm (by decide) s2 fun h3 q3 c3 X3 k3 s3 => ?_)
  rw [l1.1, l1.2, l2.1, l2.2, l3]
  rw [l2.1] at k2
  refine iteB_pos rfl (iteB_pos rfl (iteB_pos rfl (iteB_pos rfl (iteB_pos rfl (callP1.self (Plain_of (s := str [97, 126]) fun h4 e4 => ?_))))))
  have l4 : (!(bytes (str [97, 126])).any plB) = true := by decide
  rw [l4]
  refine iteB_pos rfl (qcallP1.of (1 : Int) (fun Q hQ => ?_) ?_)
  · have v := (k2.at1 s3).ext e4
    rw [strV_map] at v
    refine Key_of (s := str [98]) (l := [str [97], str [98]]) v (by decide) ?_
    have : firstK (str [98]) [str [97], str [98]] 0 = 1 := by
      unfold firstK
      rw [toList_str, toList_str, if_neg (by decide)]
      unfold firstK
      rw [if_pos rfl]; rfl
    rw [this]; exact hQ
  · exact hk h4 (s3.ext.trans e4)
theorem WordCuts_of {h : Heap} {L : List UInt8} {l : List ByteArray} {q : Option Addr} {c : Nat} {K : Bool → Heap → Prop} (hm : MaxThere h) (v : valsAt h q (l.map Value.string)) (hk : ∀ h', Ext h h' → K true h') : straitlaw07_WordCuts (str L) q l.length c h K := by
  unfold straitlaw07_WordCuts
  have aw : ∀ h1, Ext h h1 → callP1 (straitlaw07_awake h1) fun x8 h9 => K x8 h9 := fun h1 e => callP1.self (awake_of (hm.ext e) fun h4 e4 => hk h4 (e.trans e4))
  intro j
  rw [str_size]
  refine iteB_intro (fun e => aw h (Ext.refl h)) fun e => iteB_intro (fun e2 => aw h (Ext.refl h)) fun e2 => ?_
  have e := of_decide_eq_false e
  have e2 := of_decide_eq_false e2
  simp -zeta only [j]
  clear j
  have hL : L.length ≤ 2 ^ 20 := by omega
  have n1 := lnL_len L
  have n2 := wsL_len L
  refine callP4.self (Lines_res (h0 := (h : Base)) (R := []) hm hL (St.refl h) fun h1 q1 c1 X1 k1 s1 => ?_)
  refine callP4.self (Words_res hm hL s1 fun h2 q2 c2 X2 k2 s2 => ?_)
  refine callP4.self (RLines_res hL s2 fun h3 q3 c3 X3 k3 s3 => ?_)
  refine callP1.self (same_of (k1.sub fun x hx => by simp at hx ⊢; simp [hx]) k3 (by omega) s3 fun h4 x4 s4 => iteB_pos rfl ?_)
  refine callP4.self (RWords_res hL s4 fun h5 q5 c5 X5 k5 s5 => ?_)
  refine callP1.self (same_of (k2.sub fun x hx => by simp at hx ⊢; rcases hx with hx | hx <;> simp [hx]) k5 (by omega) s5 fun h6 x6 s6 => iteB_pos rfl ?_)
  refine callP1.self (Plain_of fun h7 e7 => ?_)
  have e67 := s6.ext.trans e7
  refine qcallP1.of _ (fun Q hQ => RPlain_of (by rw [str_size]; omega) hQ) (iteB_pos (by simp) ?_)
  refine qcallP1.of _ (fun Q hQ => Key_of (v.ext e67) (by omega) hQ) (qcallP1.of _ (fun Q hQ => RKey_of (v.ext e67) (by omega) hQ) (iteB_pos (by simp) (aw h7 e67)))
end Go.Proofs.YtnepdopakngpfaaDoor
