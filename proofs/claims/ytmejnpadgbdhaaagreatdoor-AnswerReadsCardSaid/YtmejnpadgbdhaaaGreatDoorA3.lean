/-
  Answers: printed, compared, and made of an error: the program's; compared: the document's.
-/
import Derived.Test.YtmejnpadgbdhaaaGreatDoorA2
namespace Go.Proofs.YtmejnpadgbdhaaaGreatDoor
set_option linter.unusedVariables false
set_option linter.unusedSimpArgs false
set_option linter.unnecessarySimpa false
open Go.Proofs Go.Shelf Go.RowKit Go.Hp
attribute [local irreducible] Go.Hp.iteB Go.Hp.stC Go.Hp.newP
theorem sumL_app (a b : List (List UInt8)) : sumL (a ++ b) = sumL a + sumL b := by simp [sumL]
theorem side_eq (l : List Int) : sideL l = (if l = [] then [] else [sideW]) ++ l.map Lib.itoa := by
  unfold sideL
  split
  · rename_i h; rw [h]; rfl
  · rfl
theorem ansW_len (a : Ans) : (ansW a).length ≤ a.n.length + a.sd.length + 5 := by
  unfold ansW
  have h1 : (headW a.e).length ≤ 2 := by unfold headW; split <;> simp
  have h2 : (sideL a.sd).length ≤ a.sd.length + 1 := by unfold sideL; split <;> simp
  have h3 : (byteL a.b).length ≤ 2 := by unfold byteL; split <;> simp
  rw [List.length_append, List.length_append, List.length_append, List.length_map]; omega
theorem hexL_len (b : List UInt8) : (hexL b).length ≤ 2 * b.length + 1 := by
  unfold hexL; split
  · simp
  · rw [hexF_len]; omega
theorem ansW_sum {a : Ans} (v : a.Valid) : sumL (ansW a) ≤ 20 * (a.n.length + a.sd.length) + 2 * a.b.length + 64 := by
  unfold ansW
  have h1 : sumL (headW a.e) ≤ 25 := by
    obtain ⟨r0, r1⟩ := inR_iff.1 v.e
    have := itoa_len r0 r1
    unfold headW
    split
    · decide
    · rw [sumL_cons, sumL_cons]; simp [sumL, errW]; omega
  have h2 : sumL (sideL a.sd) ≤ 20 * a.sd.length + 4 := by
    have := sum_itoa a.sd v.sd
    rw [side_eq, sumL_app]
    have : sumL (if a.sd = [] then [] else [sideW]) ≤ 4 := by split <;> decide
    omega
  have h3 : sumL (byteL a.b) ≤ 2 * a.b.length + 6 := by
    have := hexL_len a.b
    unfold byteL
    split
    · simp [sumL]
    · rw [sumL_cons, sumL_cons]; simp [sumL, bytesW]; omega
  have h4 := sum_itoa a.n v.n
  rw [sumL_app, sumL_app, sumL_app]; omega
section
variable {h0 : Base} {R : Rws}
theorem print_l0 {K2 : Option Addr → Nat → Nat → Heap → Prop} {t : Addr} {qn : Option Addr} {cn : Nat} {ns : List Int} {w0 : List (List UInt8)} (f : Facts h0.heap) (kq : Keeps h0 R qn (numV ns)) (hin : ∀ n ∈ ns, inR n = true) (hb : w0.length + ns.length ≤ 2 ^ 20)
    (hk : ∀ h' q c X, Own q c (strV (w0 ++ ns.map Lib.itoa)) X → St h0 h' (X ++ R) → K2 q (w0.length + ns.length) c h') :
    ∀ (d i : Nat) (q : Option Addr) (c : Nat) (X : Rws) (h : Heap), i + d = ns.length → Own q c (strV (w0 ++ (ns.take i).map Lib.itoa)) X → St h0 h (X ++ R) →
      answer_Print.l0 K2 (d + 1) t q (w0.length + i) c qn ns.length cn (ns.length : Int) (i : Int) h := by
  intro d
  induction d with
  | zero =>
    intro i q c X h hi o s
    unfold answer_Print.l0 answer_Print.b0
    obtain rfl : i = ns.length := by omega
    rw [List.take_length] at o
    exact iteB_neg (decide_eq_false (by omega)) (hk h q c X o s)
  | succ d ih =>
    intro i q c X h hi o s
    unfold answer_Print.l0 answer_Print.b0
    obtain ⟨n, hn⟩ := get_lt (l := ns) (i := i) (by omega)
    obtain ⟨a, ha, g⟩ := kq h _ s (fun y hy => by simp [hy]) i _ (numV_get hn)
    refine iteB_pos (decide_eq_true (by omega)) ?_
    rw [ha]
    simp -zeta only [chkP_some, Int.toNat_natCast, Nat.mul_one]
    rw [← ha]
    refine ⟨by omega, _, g, callP1.self (Print_of (f.ext s.ext) (hin n (List.mem_of_getElem? hn)) fun h2 e2 => ?_)⟩
    have hlen : (strV (w0 ++ (ns.take i).map Lib.itoa)).length = w0.length + i := by rw [strV_len, List.length_append, List.length_map, List.length_take]; omega
    refine Own.push1 o (s.ofExt e2) hlen.symm rfl (by rw [hlen]; omega) fun q2 c2 X2 h3 o3 s3 => ?_
    rw [hlen, wrap64 (by omega) (by omega), Nat.add_assoc]
    refine ih (i + 1) q2 c2 X2 h3 (by omega) ?_ s3
    have e : strV (w0 ++ (ns.take i).map Lib.itoa) ++ [Value.string (str (Lib.itoa n))] = strV (w0 ++ (ns.take (i + 1)).map Lib.itoa) := by rw [take_snoc hn]; simp [strV]
    rw [← e]; exact o3
theorem print_l1 {K2 : Option Addr → Nat → Nat → Heap → Prop} {t : Addr} {qn : Option Addr} {cn : Nat} {ns : List Int} {w0 : List (List UInt8)} (f : Facts h0.heap) (kq : Keeps h0 R qn (numV ns)) (hin : ∀ n ∈ ns, inR n = true) (hb : w0.length + ns.length ≤ 2 ^ 20)
    (hk : ∀ h' q c X, Own q c (strV (w0 ++ ns.map Lib.itoa)) X → St h0 h' (X ++ R) → K2 q (w0.length + ns.length) c h') :
    ∀ (d i : Nat) (q : Option Addr) (c : Nat) (X : Rws) (h : Heap), i + d = ns.length → Own q c (strV (w0 ++ (ns.take i).map Lib.itoa)) X → St h0 h (X ++ R) →
      answer_Print.l1 K2 (d + 1) t q (w0.length + i) c qn ns.length cn (ns.length : Int) (i : Int) h := by
  intro d
  induction d with
  | zero =>
    intro i q c X h hi o s
    unfold answer_Print.l1 answer_Print.b1
    obtain rfl : i = ns.length := by omega
    rw [List.take_length] at o
    exact iteB_neg (decide_eq_false (by omega)) (hk h q c X o s)
  | succ d ih =>
    intro i q c X h hi o s
    unfold answer_Print.l1 answer_Print.b1
    obtain ⟨n, hn⟩ := get_lt (l := ns) (i := i) (by omega)
    obtain ⟨a, ha, g⟩ := kq h _ s (fun y hy => by simp [hy]) i _ (numV_get hn)
    refine iteB_pos (decide_eq_true (by omega)) ?_
    rw [ha]
    simp -zeta only [chkP_some, Int.toNat_natCast, Nat.mul_one]
    rw [← ha]
    refine ⟨by omega, _, g, callP1.self (Print_of (f.ext s.ext) (hin n (List.mem_of_getElem? hn)) fun h2 e2 => ?_)⟩
    have hlen : (strV (w0 ++ (ns.take i).map Lib.itoa)).length = w0.length + i := by rw [strV_len, List.length_append, List.length_map, List.length_take]; omega
    refine Own.push1 o (s.ofExt e2) hlen.symm rfl (by rw [hlen]; omega) fun q2 c2 X2 h3 o3 s3 => ?_
    rw [hlen, wrap64 (by omega) (by omega), Nat.add_assoc]
    refine ih (i + 1) q2 c2 X2 h3 (by omega) ?_ s3
    have e : strV (w0 ++ (ns.take i).map Lib.itoa) ++ [Value.string (str (Lib.itoa n))] = strV (w0 ++ (ns.take (i + 1)).map Lib.itoa) := by rw [take_snoc hn]; simp [strV]
    rw [← e]; exact o3
end
def recA (a : Ans) (q1 q2 q3 : Option Addr) (c1 c2 c3 : Nat) : List Value := [.int .i64 a.e, .slice q1 a.n.length c1, .slice q2 a.sd.length c2, .slice q3 a.b.length c3]
theorem APrint_of {h : Heap} {a : Ans} {q1 q2 q3 : Option Addr} {c1 c2 c3 : Nat} {K : ByteArray → Heap → Prop} (f : Facts h) (v : a.Valid) (v1 : valsAt h q1 (numV a.n)) (v2 : valsAt h q2 (numV a.sd)) (v3 : valsAt h q3 (byV a.b))
    (hn : a.n.length ≤ 2 ^ 15) (hs : a.sd.length ≤ 2 ^ 15) (hb : a.b.length ≤ 2 ^ 15) (hk : ∀ h', Ext h h' → K (str (ansT a)) h') : answer_Print a.e q1 a.n.length c1 q2 a.sd.length c2 q3 a.b.length c3 h K := by
  unfold answer_Print
  have hW := ansW_len a
  have hS := ansW_sum v
  refine (St.refl h).new_ (cs := recA a q1 q2 q3 c1 c2 c3) fun t h1 s1 => s1.new_ fun g h2 s2 => ?_
  have fin : ∀ (q : Option Addr) (c : Nat) (X Y : Rws) (h' : Heap), Own q c (strV (ansW a)) X → St (h : Base) h' (X ++ Y) → callP1 (strings_Join q (ansW a).length c (⟨#[32]⟩ : ByteArray) h') fun x h'' => K x h'' := fun q c X Y h' o s => by
    have hc := own_len o
    rw [strV_len] at hc
    exact callP1.self (Join_of (o.vals s) hc (by omega) (by omega) fun h3 e3 => hk h3 (s.ext.trans e3))
  intro j
  have J : ∀ (q : Option Addr) (c : Nat) (X Y : Rws) (h' : Heap), Own q c (strV (headW a.e)) X → St (h : Base) h' (X ++ (Y ++ [(t, recA a q1 q2 q3 c1 c2 c3)])) → j q (headW a.e).length c h' := fun q c X Y h' o s => by
    simp -zeta only [j]
    clear j
    refine ⟨_, _, _, by rw [add_mk, s.rd (b := t) (cs := recA a q1 q2 q3 c1 c2 c3) (by simp)]; rfl, a.n.length + 1, ?_⟩
    have hd : (headW a.e).length ≤ 2 := by unfold headW; split <;> simp
    refine print_l0 (w0 := headW a.e) f (Keeps.old v1) v.n (by omega) (fun h3 q3' c3' X3 o3 s3 => ?_) a.n.length 0 q c X h' (by omega) (by simpa using o) s
    have l3 : (headW a.e).length + a.n.length = (headW a.e ++ a.n.map Lib.itoa).length := by simp
    rw [l3]
    generalize hw1 : headW a.e ++ a.n.map Lib.itoa = w1 at o3
    have hl1 : w1.length ≤ 2 ^ 15 + 2 := by rw [← hw1, List.length_append, List.length_map]; omega
    intro j2
    have J2 : ∀ (q : Option Addr) (c : Nat) (X Y : Rws) (h' : Heap), Own q c (strV (w1 ++ (if a.sd = [] then [] else [sideW]))) X → St (h : Base) h' (X ++ (Y ++ [(t, recA a q1 q2 q3 c1 c2 c3)])) → j2 q (w1 ++ (if a.sd = [] then [] else [sideW])).length c h' := fun q c X Y h' o s => by
      simp -zeta only [j2]
      clear j2
      have hl2 : (w1 ++ (if a.sd = [] then [] else [sideW])).length ≤ 2 ^ 15 + 3 := by rw [List.length_append]; split <;> simp <;> omega
      refine ⟨_, _, _, by rw [add_mk, s.rd (b := t) (cs := recA a q1 q2 q3 c1 c2 c3) (by simp)]; rfl, a.sd.length + 1, ?_⟩
      refine print_l1 (w0 := w1 ++ (if a.sd = [] then [] else [sideW])) f (Keeps.old v2) v.sd (by omega) (fun h4 q4 c4 X4 o4 s4 => ?_) a.sd.length 0 q c X h' (by omega) (by simpa using o) s
      have e4 : w1 ++ (if a.sd = [] then [] else [sideW]) ++ a.sd.map Lib.itoa = w1 ++ sideL a.sd := by rw [side_eq, List.append_assoc]
      have l4 : (w1 ++ (if a.sd = [] then [] else [sideW])).length + a.sd.length = (w1 ++ sideL a.sd).length := by rw [← e4, List.length_append, List.length_append, List.length_append, List.length_map]
      rw [e4] at o4
      rw [l4]
      refine ⟨_, _, _, by rw [add_mk, s4.rd (b := t) (cs := recA a q1 q2 q3 c1 c2 c3) (by simp)]; rfl, ?_⟩
      by_cases hb0 : a.b = []
      · refine iteB_neg (by simp [hb0]) ?_
        have eW : w1 ++ sideL a.sd = ansW a := by
          rw [← hw1]; unfold ansW byteL
          rw [if_pos hb0]; simp
        rw [eW] at o4 ⊢
        exact fin q4 c4 X4 _ h4 o4 s4
      · have hbp : 0 < a.b.length := List.length_pos_iff.2 hb0
        refine iteB_pos (decide_eq_true (by omega)) ⟨_, _, _, by rw [add_mk, s4.rd (b := t) (cs := recA a q1 q2 q3 c1 c2 c3) (by simp)]; rfl, callP1.self (Hex_of (v3.ext s4.ext) (by omega) fun h5 e5 => ?_)⟩
        have s5 := s4.ofExt e5
        refine s5.new_ (cs := strV [bytesW, hexL a.b]) fun g2 h6 s6 => ?_
        have s7 : St (h : Base) h6 (X4 ++ ((g2, strV [bytesW, hexL a.b]) :: (Y ++ [(t, recA a q1 q2 q3 c1 c2 c3)]))) := (St.re s6 (by intro a; simp only [cntR_append, cntR_cons, cntR_nil, List.cons_append, List.nil_append, List.set_cons_zero, List.set_cons_succ]; omega))
        have hl4 : (strV (w1 ++ sideL a.sd)).length = (w1 ++ sideL a.sd).length := strV_len _
        have hl5 : (w1 ++ sideL a.sd).length ≤ 2 ^ 17 := by
          have : (sideL a.sd).length ≤ a.sd.length + 1 := by unfold sideL; split <;> simp
          rw [List.length_append]; omega
        have kg : valsAt h6 (some ⟨g2, 0, none⟩) (strV [bytesW, hexL a.b]) := (Keeps.row (R := (g2, strV [bytesW, hexL a.b]) :: (X4 ++ (Y ++ [(t, recA a q1 q2 q3 c1 c2 c3)]))) (by simp)).at0 s6
        refine Own.pushAll o4 s7 hl4.symm kg rfl rfl (fun v hv => by
          simp [strV] at hv
          rcases hv with rfl | rfl <;> rfl) (by rw [hl4]; omega) fun q8 c8 X8 h8 o8 s8 => ?_
        have eW : w1 ++ sideL a.sd ++ [bytesW, hexL a.b] = ansW a := by
          rw [← hw1]; unfold ansW byteL
          rw [if_neg hb0]; simp
        have eV : strV (w1 ++ sideL a.sd) ++ strV [bytesW, hexL a.b] = strV (ansW a) := by rw [← eW]; simp [strV]
        rw [eV] at o8
        have eL : (strV (w1 ++ sideL a.sd)).length + 2 = (ansW a).length := by rw [hl4, ← eW, List.length_append (bs := [bytesW, hexL a.b])]; rfl
        rw [eL]
        exact fin q8 c8 X8 _ h8 o8 s8
    clear_value j2
    refine ⟨_, _, _, by rw [add_mk, s3.rd (b := t) (cs := recA a q1 q2 q3 c1 c2 c3) (by simp)]; rfl, ?_⟩
    by_cases hs0 : a.sd = []
    · rw [if_pos hs0, List.append_nil] at J2
      exact iteB_neg (by simp [hs0]) (J2 q3' c3' X3 Y h3 o3 s3)
    · have hsp : 0 < a.sd.length := List.length_pos_iff.2 hs0
      rw [if_neg hs0] at J2
      refine iteB_pos (decide_eq_true (by omega)) (Own.push1 o3 s3 (strV_len _).symm rfl (by rw [strV_len]; omega) fun q5 c5 X5 h5 o5 s5 => ?_)
      have eV : strV w1 ++ [Value.string (⟨#[115, 105, 100, 101]⟩ : ByteArray)] = strV (w1 ++ [sideW]) := by simp [strV]; rfl
      rw [eV] at o5
      have := J2 q5 c5 X5 Y h5 o5 s5
      rw [List.length_append] at this
      rw [strV_len]
      exact this
  clear_value j
  refine ⟨_, s2.rd1 0, iteB_intro (fun e => ?_) fun e => ?_⟩
  · have e : a.e ≠ 0 := by simpa using e
    refine ⟨_, s2.rd1 0, callP1.self (Print_of (f.ext s2.ext) v.e fun h3 e3 => (s2.ofExt e3).new_ (cs := strV [errW, Lib.itoa a.e]) fun g2 h4 s4 => ?_)⟩
    have eh : headW a.e = [errW, Lib.itoa a.e] := by unfold headW; rw [if_neg e]
    rw [eh] at J
    exact J (some ⟨g2, 0, none⟩) 2 [(g2, strV [errW, Lib.itoa a.e])] [(g, [.string (⟨#[111, 107]⟩ : ByteArray)])] h4 (Own.made g2 (strV [errW, Lib.itoa a.e])) s4
  · have e : a.e = 0 := by simpa using e
    have eh : headW a.e = [okW] := by unfold headW; rw [if_pos e]
    rw [eh] at J
    exact J (some ⟨g, 0, none⟩) 1 [(g, strV [okW])] [] h2 (Own.made g (strV [okW])) s2
section
variable {h : Heap} {K0 : Bool → Heap → Prop} {K2 : Heap → Prop} {c1 c2 : Nat} {p1 p2 : Option Addr} {l1 l2 : List Int}
theorem EqN_l0 (v1 : valsAt h p1 (numV l1)) (v2 : valsAt h p2 (numV l2)) (hn : l1.length ≤ 2 ^ 40) (hl : l1.length = l2.length) (hb : l1 ≠ l2 → K0 false h) (hk : l1 = l2 → K2 h) : ∀ (d i : Nat), i + d = l1.length → l1.take i = l2.take i → slices_Equal_Lint64_int64.l0 K0 K2 (d + 1) p1 l1.length c1 p2 l2.length c2 (l1.length : Int) (i : Int) h
  | 0, i, hi, ht => by
    unfold slices_Equal_Lint64_int64.l0 slices_Equal_Lint64_int64.b0
    rw [List.take_of_length_le (by omega), List.take_of_length_le (by omega)] at ht
    exact iteB_neg (decide_eq_false (by omega)) (hk ht)
  | d + 1, i, hi, ht => by
    unfold slices_Equal_Lint64_int64.l0 slices_Equal_Lint64_int64.b0
    obtain ⟨x, hx⟩ := get_lt (l := l1) (i := i) (by omega)
    obtain ⟨y, hy⟩ := get_lt (l := l2) (i := i) (by omega)
    obtain ⟨a1, ha1, g1⟩ := v1 i _ (numV_get hx)
    obtain ⟨a2, ha2, g2⟩ := v2 i _ (numV_get hy)
    refine iteB_pos (decide_eq_true (by omega)) ?_
    rw [ha1, ha2]
    simp -zeta only [chkP_some, Int.toNat_natCast, Nat.mul_one]
    rw [← ha1, ← ha2]
    refine ⟨by omega, _, g1, by omega, _, g2, iteB_intro (fun e => hb fun hh => ?_) fun e => ?_⟩
    · subst hh
      rw [hx] at hy
      obtain rfl := Option.some.inj hy
      simp at e
    · have exy : x = y := by simpa using e
      rw [wrap64 (by omega) (by omega)]
      exact EqN_l0 v1 v2 hn hl hb hk d (i + 1) (by omega) (by rw [take_snoc hx, take_snoc hy, ht, exy])
theorem EqN_of {K : Bool → Heap → Prop} (v1 : valsAt h p1 (numV l1)) (v2 : valsAt h p2 (numV l2)) (hn : l1.length ≤ 2 ^ 40) (hk : K (decide (l1 = l2)) h) : slices_Equal_Lint64_int64 p1 l1.length c1 p2 l2.length c2 h K := by
  unfold slices_Equal_Lint64_int64
  refine iteB_intro (fun e => ?_) fun e => ?_
  · have e : ¬ l1 = l2 := fun hh => by rw [hh] at e; simp at e
    rw [decide_eq_false e] at hk; exact hk
  · have e : l1.length = l2.length := by
      have e : (l1.length : Int) = (l2.length : Int) := by simpa using e
      omega
    exact ⟨l1.length + 1, EqN_l0 v1 v2 hn e (fun hh => by rw [decide_eq_false hh] at hk; exact hk) (fun hh => by rw [decide_eq_true hh] at hk; exact hk) l1.length 0 (by omega) rfl⟩
end
section
variable {h : Heap} {K0 : Bool → Heap → Prop} {K2 : Heap → Prop} {c1 c2 : Nat} {p1 p2 : Option Addr} {l1 l2 : List Int}
theorem EqI_l0 (v1 : valsAt h p1 (numV l1)) (v2 : valsAt h p2 (numV l2)) (hn : l1.length ≤ 2 ^ 40) (hl : l1.length = l2.length) (hb : l1 ≠ l2 → K0 false h) (hk : l1 = l2 → K2 h) : ∀ (d i : Nat), i + d = l1.length → l1.take i = l2.take i → slices_Equal_Lint_int.l0 K0 K2 (d + 1) p1 l1.length c1 p2 l2.length c2 (l1.length : Int) (i : Int) h
  | 0, i, hi, ht => by
    unfold slices_Equal_Lint_int.l0 slices_Equal_Lint_int.b0
    rw [List.take_of_length_le (by omega), List.take_of_length_le (by omega)] at ht
    exact iteB_neg (decide_eq_false (by omega)) (hk ht)
  | d + 1, i, hi, ht => by
    unfold slices_Equal_Lint_int.l0 slices_Equal_Lint_int.b0
    obtain ⟨x, hx⟩ := get_lt (l := l1) (i := i) (by omega)
    obtain ⟨y, hy⟩ := get_lt (l := l2) (i := i) (by omega)
    obtain ⟨a1, ha1, g1⟩ := v1 i _ (numV_get hx)
    obtain ⟨a2, ha2, g2⟩ := v2 i _ (numV_get hy)
    refine iteB_pos (decide_eq_true (by omega)) ?_
    rw [ha1, ha2]
    simp -zeta only [chkP_some, Int.toNat_natCast, Nat.mul_one]
    rw [← ha1, ← ha2]
    refine ⟨by omega, _, g1, by omega, _, g2, iteB_intro (fun e => hb fun hh => ?_) fun e => ?_⟩
    · subst hh
      rw [hx] at hy
      obtain rfl := Option.some.inj hy
      simp at e
    · have exy : x = y := by simpa using e
      rw [wrap64 (by omega) (by omega)]
      exact EqI_l0 v1 v2 hn hl hb hk d (i + 1) (by omega) (by rw [take_snoc hx, take_snoc hy, ht, exy])
theorem EqI_of {K : Bool → Heap → Prop} (v1 : valsAt h p1 (numV l1)) (v2 : valsAt h p2 (numV l2)) (hn : l1.length ≤ 2 ^ 40) (hk : K (decide (l1 = l2)) h) : slices_Equal_Lint_int p1 l1.length c1 p2 l2.length c2 h K := by
  unfold slices_Equal_Lint_int
  refine iteB_intro (fun e => ?_) fun e => ?_
  · have e : ¬ l1 = l2 := fun hh => by rw [hh] at e; simp at e
    rw [decide_eq_false e] at hk; exact hk
  · have e : l1.length = l2.length := by
      have e : (l1.length : Int) = (l2.length : Int) := by simpa using e
      omega
    exact ⟨l1.length + 1, EqI_l0 v1 v2 hn e (fun hh => by rw [decide_eq_false hh] at hk; exact hk) (fun hh => by rw [decide_eq_true hh] at hk; exact hk) l1.length 0 (by omega) rfl⟩
end
section
variable {h : Heap} {K0 : Bool → Heap → Prop} {K2 : Heap → Prop} {c1 c2 : Nat} {p1 p2 : Option Addr} {l1 l2 : List UInt8}
theorem EqB_l0 (v1 : valsAt h p1 (byV l1)) (v2 : valsAt h p2 (byV l2)) (hn : l1.length ≤ 2 ^ 40) (hl : l1.length = l2.length) (hb : l1 ≠ l2 → K0 false h) (hk : l1 = l2 → K2 h) : ∀ (d i : Nat), i + d = l1.length → l1.take i = l2.take i → slices_Equal_Lbyte_byte.l0 K0 K2 (d + 1) p1 l1.length c1 p2 l2.length c2 (l1.length : Int) (i : Int) h
  | 0, i, hi, ht => by
    unfold slices_Equal_Lbyte_byte.l0 slices_Equal_Lbyte_byte.b0
    rw [List.take_of_length_le (by omega), List.take_of_length_le (by omega)] at ht
    exact iteB_neg (decide_eq_false (by omega)) (hk ht)
  | d + 1, i, hi, ht => by
    unfold slices_Equal_Lbyte_byte.l0 slices_Equal_Lbyte_byte.b0
    obtain ⟨x, hx⟩ := get_lt (l := l1) (i := i) (by omega)
    obtain ⟨y, hy⟩ := get_lt (l := l2) (i := i) (by omega)
    obtain ⟨a1, ha1, g1⟩ := v1 i _ (byV_get hx)
    obtain ⟨a2, ha2, g2⟩ := v2 i _ (byV_get hy)
    refine iteB_pos (decide_eq_true (by omega)) ?_
    rw [ha1, ha2]
    simp -zeta only [chkP_some, Int.toNat_natCast, Nat.mul_one]
    rw [← ha1, ← ha2]
    refine ⟨by omega, _, g1, by omega, _, g2, iteB_intro (fun e => hb fun hh => ?_) fun e => ?_⟩
    · subst hh
      rw [hx] at hy
      obtain rfl := Option.some.inj hy
      simp at e
    · have exy : x = y := by exact UInt8.toNat_inj.1 (Int.ofNat_inj.1 (by simpa using e))
      rw [wrap64 (by omega) (by omega)]
      exact EqB_l0 v1 v2 hn hl hb hk d (i + 1) (by omega) (by rw [take_snoc hx, take_snoc hy, ht, exy])
theorem EqB_of {K : Bool → Heap → Prop} (v1 : valsAt h p1 (byV l1)) (v2 : valsAt h p2 (byV l2)) (hn : l1.length ≤ 2 ^ 40) (hk : K (decide (l1 = l2)) h) : slices_Equal_Lbyte_byte p1 l1.length c1 p2 l2.length c2 h K := by
  unfold slices_Equal_Lbyte_byte
  refine iteB_intro (fun e => ?_) fun e => ?_
  · have e : ¬ l1 = l2 := fun hh => by rw [hh] at e; simp at e
    rw [decide_eq_false e] at hk; exact hk
  · have e : l1.length = l2.length := by
      have e : (l1.length : Int) = (l2.length : Int) := by simpa using e
      omega
    exact ⟨l1.length + 1, EqB_l0 v1 v2 hn e (fun hh => by rw [decide_eq_false hh] at hk; exact hk) (fun hh => by rw [decide_eq_true hh] at hk; exact hk) l1.length 0 (by omega) rfl⟩
end
section
variable {h : Heap} {K0 : Bool → Heap → Prop} {K2 : Heap → Prop} {c1 c2 : Nat} {p1 p2 : Option Addr} {l1 l2 : List Int}
theorem Eq4_l0 (v1 : valsAt h p1 (numV l1)) (v2 : valsAt h p2 (numV l2)) (hn : l1.length ≤ 2 ^ 40) (hl : l1.length = l2.length) (hb : l1 ≠ l2 → K0 false h) (hk : l1 = l2 → K2 h) : ∀ (d i : Nat), i + d = l1.length → l1.take i = l2.take i → straitref04_Same.l0 K0 K2 (d + 1) p1 l1.length c1 p2 l2.length c2 (i : Int) h
  | 0, i, hi, ht => by
    unfold straitref04_Same.l0 straitref04_Same.b0
    rw [List.take_of_length_le (by omega), List.take_of_length_le (by omega)] at ht
    exact iteB_neg (decide_eq_false (by omega)) (hk ht)
  | d + 1, i, hi, ht => by
    unfold straitref04_Same.l0 straitref04_Same.b0
    obtain ⟨x, hx⟩ := get_lt (l := l1) (i := i) (by omega)
    obtain ⟨y, hy⟩ := get_lt (l := l2) (i := i) (by omega)
    obtain ⟨a1, ha1, g1⟩ := v1 i _ (numV_get hx)
    obtain ⟨a2, ha2, g2⟩ := v2 i _ (numV_get hy)
    refine iteB_pos (decide_eq_true (by omega)) ?_
    rw [ha1, ha2]
    simp -zeta only [chkP_some, Int.toNat_natCast, Nat.mul_one]
    rw [← ha1, ← ha2]
    refine ⟨by omega, _, g1, by omega, _, g2, iteB_intro (fun e => hb fun hh => ?_) fun e => ?_⟩
    · subst hh
      rw [hx] at hy
      obtain rfl := Option.some.inj hy
      simp at e
    · have exy : x = y := by simpa using e
      rw [wrap64 (by omega) (by omega)]
      exact Eq4_l0 v1 v2 hn hl hb hk d (i + 1) (by omega) (by rw [take_snoc hx, take_snoc hy, ht, exy])
theorem Eq4_of {K : Bool → Heap → Prop} (v1 : valsAt h p1 (numV l1)) (v2 : valsAt h p2 (numV l2)) (hn : l1.length ≤ 2 ^ 40) (hk : K (decide (l1 = l2)) h) : straitref04_Same p1 l1.length c1 p2 l2.length c2 h K := by
  unfold straitref04_Same
  refine iteB_intro (fun e => ?_) fun e => ?_
  · have e : ¬ l1 = l2 := fun hh => by rw [hh] at e; simp at e
    rw [decide_eq_false e] at hk; exact hk
  · have e : l1.length = l2.length := by
      have e : (l1.length : Int) = (l2.length : Int) := by simpa using e
      omega
    exact ⟨l1.length + 1, Eq4_l0 v1 v2 hn e (fun hh => by rw [decide_eq_false hh] at hk; exact hk) (fun hh => by rw [decide_eq_true hh] at hk; exact hk) l1.length 0 (by omega) rfl⟩
end
section
variable {h : Heap} {K0 : Bool → Heap → Prop} {K2 : Heap → Prop} {c1 c2 : Nat} {p1 p2 : Option Addr} {l1 l2 : List Int}
theorem Eq9_l0 (v1 : valsAt h p1 (numV l1)) (v2 : valsAt h p2 (numV l2)) (hn : l1.length ≤ 2 ^ 40) (hl : l1.length = l2.length) (hb : l1 ≠ l2 → K0 false h) (hk : l1 = l2 → K2 h) : ∀ (d i : Nat), i + d = l1.length → l1.take i = l2.take i → straitref09_Ints.l0 K0 K2 (d + 1) p1 l1.length c1 p2 l2.length c2 (i : Int) h
  | 0, i, hi, ht => by
    unfold straitref09_Ints.l0 straitref09_Ints.b0
    rw [List.take_of_length_le (by omega), List.take_of_length_le (by omega)] at ht
    exact iteB_neg (decide_eq_false (by omega)) (hk ht)
  | d + 1, i, hi, ht => by
    unfold straitref09_Ints.l0 straitref09_Ints.b0
    obtain ⟨x, hx⟩ := get_lt (l := l1) (i := i) (by omega)
    obtain ⟨y, hy⟩ := get_lt (l := l2) (i := i) (by omega)
    obtain ⟨a1, ha1, g1⟩ := v1 i _ (numV_get hx)
    obtain ⟨a2, ha2, g2⟩ := v2 i _ (numV_get hy)
    refine iteB_pos (decide_eq_true (by omega)) ?_
    rw [ha1, ha2]
    simp -zeta only [chkP_some, Int.toNat_natCast, Nat.mul_one]
    rw [← ha1, ← ha2]
    refine ⟨by omega, _, g1, by omega, _, g2, iteB_intro (fun e => hb fun hh => ?_) fun e => ?_⟩
    · subst hh
      rw [hx] at hy
      obtain rfl := Option.some.inj hy
      simp at e
    · have exy : x = y := by simpa using e
      rw [wrap64 (by omega) (by omega)]
      exact Eq9_l0 v1 v2 hn hl hb hk d (i + 1) (by omega) (by rw [take_snoc hx, take_snoc hy, ht, exy])
theorem Eq9_of {K : Bool → Heap → Prop} (v1 : valsAt h p1 (numV l1)) (v2 : valsAt h p2 (numV l2)) (hn : l1.length ≤ 2 ^ 40) (hk : K (decide (l1 = l2)) h) : straitref09_Ints p1 l1.length c1 p2 l2.length c2 h K := by
  unfold straitref09_Ints
  refine iteB_intro (fun e => ?_) fun e => ?_
  · have e : ¬ l1 = l2 := fun hh => by rw [hh] at e; simp at e
    rw [decide_eq_false e] at hk; exact hk
  · have e : l1.length = l2.length := by
      have e : (l1.length : Int) = (l2.length : Int) := by simpa using e
      omega
    exact ⟨l1.length + 1, Eq9_l0 v1 v2 hn e (fun hh => by rw [decide_eq_false hh] at hk; exact hk) (fun hh => by rw [decide_eq_true hh] at hk; exact hk) l1.length 0 (by omega) rfl⟩
end
def sameA (a b : Ans) : Bool := decide (a.e = b.e) && (decide (a.n = b.n) && (decide (a.sd = b.sd) && decide (a.b = b.b)))
section
variable {h : Heap} {a b : Ans} {q1 q2 q3 p1 p2 p3 : Option Addr} {c1 c2 c3 d1 d2 d3 : Nat} {K : Bool → Heap → Prop}
theorem ASame_of (v1 : valsAt h q1 (numV a.n)) (v2 : valsAt h q2 (numV a.sd)) (v3 : valsAt h q3 (byV a.b)) (w1 : valsAt h p1 (numV b.n)) (w2 : valsAt h p2 (numV b.sd)) (w3 : valsAt h p3 (byV b.b))
    (hn : a.n.length ≤ 2 ^ 40) (hs : a.sd.length ≤ 2 ^ 40) (hb : a.b.length ≤ 2 ^ 40) (hk : ∀ h', Ext h h' → K (sameA a b) h') :
    answer_Same a.e q1 a.n.length c1 q2 a.sd.length c2 q3 a.b.length c3 b.e p1 b.n.length d1 p2 b.sd.length d2 p3 b.b.length d3 h K := by
  unfold answer_Same
  refine (St.refl h).new_ fun t h1 s1 => s1.new_ fun g h2 s2 => ⟨_, s2.rd1 0, _, s2.rd0 0, ?_⟩
  have e2 := s2.ext
  have hk2 := hk h2 e2
  unfold sameA at hk2
  refine iteB_intro (fun e => ?_) fun e => ?_
  · have e : a.e = b.e := by simpa using e
    rw [decide_eq_true e, Bool.true_and] at hk2
    refine ⟨_, _, _, by rw [add_mk]; exact s2.rd1 1, _, _, _, by rw [add_mk]; exact s2.rd0 1, qcallP1.of _ (fun Q hQ => EqN_of (v1.ext e2) (w1.ext e2) hn hQ) (iteB_intro (fun e => ?_) fun e => ?_)⟩
    · rw [e, Bool.true_and] at hk2
      refine ⟨_, _, _, by rw [add_mk]; exact s2.rd1 2, _, _, _, by rw [add_mk]; exact s2.rd0 2, qcallP1.of _ (fun Q hQ => EqI_of (v2.ext e2) (w2.ext e2) hs hQ) (iteB_intro (fun e => ?_) fun e => ?_)⟩
      · rw [e, Bool.true_and] at hk2
        exact ⟨_, _, _, by rw [add_mk]; exact s2.rd1 3, _, _, _, by rw [add_mk]; exact s2.rd0 3, qcallP1.of _ (fun Q hQ => EqB_of (v3.ext e2) (w3.ext e2) hb hQ) hk2⟩
      · rw [e] at hk2; exact hk2
    · rw [e] at hk2; exact hk2
  · have e : ¬ a.e = b.e := by simpa using e
    rw [decide_eq_false e] at hk2; exact hk2
theorem RSame_of (v1 : valsAt h q1 (numV a.n)) (v2 : valsAt h q2 (numV a.sd)) (v3 : valsAt h q3 (byV a.b)) (w1 : valsAt h p1 (numV b.n)) (w2 : valsAt h p2 (numV b.sd)) (w3 : valsAt h p3 (byV b.b))
    (hn : a.n.length ≤ 2 ^ 40) (hs : a.sd.length ≤ 2 ^ 40) (hb : a.b.length ≤ 2 ^ 40) (hk : ∀ h', Ext h h' → K (sameA a b) h') :
    straitref49_Same a.e q1 a.n.length c1 q2 a.sd.length c2 q3 a.b.length c3 b.e p1 b.n.length d1 p2 b.sd.length d2 p3 b.b.length d3 h K := by
  unfold straitref49_Same
  refine (St.refl h).new_ fun t h1 s1 => s1.new_ fun g h2 s2 => ⟨_, s2.rd1 0, _, s2.rd0 0, ?_⟩
  have e2 := s2.ext
  have hk2 := hk h2 e2
  unfold sameA at hk2
  refine iteB_intro (fun e => ?_) fun e => ?_
  · have e : a.e = b.e := by simpa using e
    rw [decide_eq_true e, Bool.true_and] at hk2
    refine ⟨_, _, _, by rw [add_mk]; exact s2.rd1 1, _, _, _, by rw [add_mk]; exact s2.rd0 1, qcallP1.of _ (fun Q hQ => Eq4_of (v1.ext e2) (w1.ext e2) hn hQ) (iteB_intro (fun e => ?_) fun e => ?_)⟩
    · rw [e, Bool.true_and] at hk2
      refine ⟨_, _, _, by rw [add_mk]; exact s2.rd1 2, _, _, _, by rw [add_mk]; exact s2.rd0 2, qcallP1.of _ (fun Q hQ => Eq9_of (v2.ext e2) (w2.ext e2) hs hQ) (iteB_intro (fun e => ?_) fun e => ?_)⟩
      · rw [e, Bool.true_and] at hk2
        refine ⟨_, _, _, by rw [add_mk]; exact s2.rd1 3, a.b, bytesAt_of (v3.ext e2), _, _, _, by rw [add_mk]; exact s2.rd0 3, b.b, bytesAt_of (w3.ext e2), ?_⟩
        have : ((⟨a.b.toArray⟩ : ByteArray).toList == (⟨b.b.toArray⟩ : ByteArray).toList) = decide (a.b = b.b) := by
          have e1 : (⟨a.b.toArray⟩ : ByteArray).toList = a.b := toList_str a.b
          have e3 : (⟨b.b.toArray⟩ : ByteArray).toList = b.b := toList_str b.b
          rw [e1, e3]
          by_cases h : a.b = b.b
          · rw [h]; simp
          · simp [h]
        rw [this]; exact hk2
      · rw [e] at hk2; exact hk2
    · rw [e] at hk2; exact hk2
  · have e : ¬ a.e = b.e := by simpa using e
    rw [decide_eq_false e] at hk2; exact hk2

end
theorem ASame_eq (a : Ans) : sameA a a = true := by simp [sameA]
section
variable {h0 : Base} {R : Rws}
theorem AClone_of {h : Heap} {q : Option Addr} {c : Nat} {l : List Int} {K : Option Addr → Nat → Nat → Heap → Prop} (v : Keeps h0 R q (numV l)) (hl : l.length ≤ 2 ^ 20) (s : St h0 h R)
    (hk : ∀ h' q2 c2 X, Keeps h0 X q2 (numV l) → St h0 h' (X ++ R) → K q2 l.length c2 h') : slices_Clone_Lint64_int64 q l.length c h K := by
  unfold slices_Clone_Lint64_int64
  cases q with
  | none =>
    have e : l = [] := by
      cases l with
      | nil => rfl
      | cons x r => obtain ⟨a, ha, _⟩ := v.at0 s 0 _ rfl; cases ha
    subst e
    exact iteB_pos rfl (hk h none 0 [] Keeps.nil s)
  | some a =>
    refine iteB_neg rfl (s.new_ (cs := []) fun b h1 s1 => ?_)
    have o1 : Own (some ⟨b, 0, none⟩) 0 (numV []) [(b, [])] := .inr ⟨b, [], rfl, rfl, rfl⟩
    refine Own.pushAll (n := l.length) o1 s1 rfl (v.atC s1) (numV_len l).symm (by omega) (fun x hx => by
      obtain ⟨y, _, rfl⟩ := List.mem_map.1 hx; rfl) (by simp [numV]; omega) fun q2 c2 X2 h2 o2 s2 => ?_
    have := hk h2 q2 c2 X2 (o2.keeps fun y hy => by simp [hy]) s2
    simpa [numV] using this
end
end Go.Proofs.YtmejnpadgbdhaaaGreatDoor
