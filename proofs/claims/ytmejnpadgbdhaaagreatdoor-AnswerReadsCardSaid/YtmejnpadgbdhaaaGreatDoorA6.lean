/-
  Answers: printed by the document; answers of errors; the program reads and prints at all.
-/
import Derived.Test.YtmejnpadgbdhaaaGreatDoorA5
namespace Go.Proofs.YtmejnpadgbdhaaaGreatDoor
set_option linter.unusedVariables false
set_option linter.unusedSimpArgs false
set_option linter.unnecessarySimpa false
open Go.Proofs Go.Shelf Go.RowKit Go.Hp
attribute [local irreducible] Go.Hp.iteB Go.Hp.stC Go.Hp.newP
theorem hexD_cut : ∀ n : Fin 16, ((hexD.take (n.val + 1)).drop n.val) = [hx n.val] := by decide
theorem dig_ext {n : Nat} (h : n < 16) : (⟨#[48, 49, 50, 51, 52, 53, 54, 55, 56, 57, 97, 98, 99, 100, 101, 102]⟩ : ByteArray).extract n (n + 1) = str [hx n] := by
  rw [extract_str]
  have e2 : bytes (⟨#[48, 49, 50, 51, 52, 53, 54, 55, 56, 57, 97, 98, 99, 100, 101, 102]⟩ : ByteArray) = hexD := rfl
  rw [e2, hexD_cut ⟨n, h⟩]
section
variable {h : Heap} {q : Option Addr} {c : Nat} {b : List UInt8}
theorem rhex_l0 {K2 : ByteArray → Heap → Prop} (v : valsAt h q (byV b)) (hb : b.length ≤ 2 ^ 20) (hk : K2 (str (hexF b)) h) :
    ∀ (d i : Nat), i + d = b.length → straitref48_Hex.l0 K2 (d + 1) q b.length c (⟨#[48, 49, 50, 51, 52, 53, 54, 55, 56, 57, 97, 98, 99, 100, 101, 102]⟩ : ByteArray) (str (hexF (b.take i))) (i : Int) h
  | 0, i, hi => by
    unfold straitref48_Hex.l0 straitref48_Hex.b0
    rw [List.take_of_length_le (by omega)]
    exact iteB_neg (decide_eq_false (by omega)) hk
  | d + 1, i, hi => by
    unfold straitref48_Hex.l0 straitref48_Hex.b0
    obtain ⟨x, hx0⟩ := get_lt (l := b) (i := i) (by omega)
    obtain ⟨a, ha, g⟩ := v i _ (byV_get hx0)
    have hlt := x.toNat_lt
    have hlen : (hexF (b.take i)).length = 2 * i := by rw [hexF_len, List.length_take]; omega
    have t1 : (x.toNat : Int).tdiv 16 = ((x.toNat / 16 : Nat) : Int) := by rw [Int.tdiv_eq_ediv_of_nonneg (by omega)]; omega
    have t2 : (x.toNat : Int).tmod 16 = ((x.toNat % 16 : Nat) : Int) := by rw [Int.tmod_eq_emod_of_nonneg (by omega)]; omega
    have sz : (⟨#[48, 49, 50, 51, 52, 53, 54, 55, 56, 57, 97, 98, 99, 100, 101, 102]⟩ : ByteArray).size = 16 := rfl
    have n16 : (16 : Int) ≠ 0 := by decide
    refine iteB_pos (decide_eq_true (by omega)) ?_
    rw [ha]
    simp -zeta only [chkP_some, Int.toNat_natCast, Nat.mul_one]
    refine ⟨by omega, _, g, n16, by omega, _, g, n16, ?_⟩
    rw [t1, u8wrap (x := ((x.toNat / 16 : Nat) : Int)) (by omega) (by omega), u8wrap (by omega) (by omega)]
    refine bindV_intro fun m hm => ?_
    rw [hm, show ((x.toNat / 16 : Nat) : Int) + 1 = ((x.toNat / 16 + 1 : Nat) : Int) by omega, Int.toNat_natCast, Int.toNat_natCast, dig_ext (by omega), str_app, sz]
    refine ⟨by omega, by omega, by rw [str_size, str_size, hlen]; simp; omega, by omega, _, g, n16, by omega, _, g, n16, ?_⟩
    rw [t2, u8wrap (by omega) (by omega), show ((x.toNat % 16 : Nat) : Int) + 1 = ((x.toNat % 16 + 1 : Nat) : Int) by omega, Int.toNat_natCast, Int.toNat_natCast, dig_ext (by omega)]
    refine ⟨by omega, by omega, by rw [str_size, str_size]; simp only [List.length_append, hlen]; simp; omega, ?_⟩
    rw [str_app, wrap64 (by omega) (by omega), ← ha]
    have := rhex_l0 v hb hk d (i + 1) (by omega)
    rw [take_snoc hx0, hexF_snoc] at this
    simpa using this
theorem RHex_of {K : ByteArray → Heap → Prop} (v : valsAt h q (byV b)) (hb : b.length ≤ 2 ^ 20) (hk : K (str (hexL b)) h) : straitref48_Hex q b.length c h K := by
  unfold straitref48_Hex
  by_cases e : b = []
  · subst e
    exact iteB_pos rfl hk
  · have eh : hexL b = hexF b := by unfold hexL; rw [if_neg e]
    rw [eh] at hk
    exact iteB_neg (by simp [e]) ⟨b.length + 1, rhex_l0 v hb hk b.length 0 (by omega)⟩
end
section
variable {g0 : Heap} {q1 q2 q3 : Option Addr} {n1 n2 n3 c1 c2 c3 : Nat}
theorem rprint_l0 {K2 : ByteArray → Heap → Prop} {ns : List Int} {w0 : List (List UInt8)} (v : valsAt g0 q1 (numV ns)) (hin : ∀ n ∈ ns, inR n = true) (hw : w0 ≠ []) (hb : sumL w0 + w0.length + 21 * ns.length ≤ 2 ^ 22)
    (hk : ∀ h', Ext g0 h' → K2 (str (joinB (w0 ++ ns.map Lib.itoa))) h') :
    ∀ (d i : Nat) (h : Heap), i + d = ns.length → Ext g0 h → straitref49_Print.l0 K2 (d + 1) q1 ns.length c1 q2 n2 c2 q3 n3 c3 (str (joinB (w0 ++ (ns.take i).map Lib.itoa))) (i : Int) h
  | 0, i, h, hi, e => by
    unfold straitref49_Print.l0 straitref49_Print.b0
    rw [List.take_of_length_le (by omega)]
    exact iteB_neg (decide_eq_false (by omega)) (hk h e)
  | d + 1, i, h, hi, e => by
    unfold straitref49_Print.l0 straitref49_Print.b0
    obtain ⟨n, hn⟩ := get_lt (l := ns) (i := i) (by omega)
    obtain ⟨r0, r1⟩ := inR_iff.1 (hin n (List.mem_of_getElem? hn))
    have hl2 := itoa_len r0 r1
    have hl : (joinB (w0 ++ (ns.take i).map Lib.itoa)).length ≤ 2 ^ 22 := by
      have h1 := sumL_join (w0 ++ (ns.take i).map Lib.itoa)
      have h2 := sum_itoa (ns.take i) fun m hm => hin m (List.mem_of_mem_take hm)
      have h3 : (ns.take i).length ≤ ns.length := by rw [List.length_take]; omega
      rw [sumL_app, List.length_append, List.length_map] at h1
      omega
    obtain ⟨a, ha, g⟩ := (v.ext e) i _ (numV_get hn)
    have e32 : (⟨#[32]⟩ : ByteArray) = str [32] := rfl
    rw [ha]
    simp -zeta only [chkP_some, Int.toNat_natCast, Nat.mul_one]
    rw [← ha, e32, str_app, str_size, str_size, str_size]
    refine iteB_pos (decide_eq_true (by omega)) ⟨by simp only [List.length_cons, List.length_nil]; omega, by omega, _, g, callP1.self (RPrint_of r0 r1 fun h3 e3 => ⟨by rw [str_size]; simp only [List.length_append, List.length_cons, List.length_nil]; omega, ?_⟩)⟩
    rw [wrap64 (by omega) (by omega), str_app]
    have := rprint_l0 v hin hw hb hk d (i + 1) h3 (by omega) (e.trans e3)
    rw [take_snoc hn, List.map_append, ← List.append_assoc] at this
    have ej := joinB_snoc (a := w0 ++ (ns.take i).map Lib.itoa) (Lib.itoa n) (by simp [hw])
    rw [show [n].map Lib.itoa = [Lib.itoa n] from rfl, ej] at this
    exact this
theorem rprint_l0s {K2 : ByteArray → Heap → Prop} {ns : List Int} {w0 : List (List UInt8)} (v : valsAt g0 q1 (numV ns)) (hin : ∀ n ∈ ns, inR n = true) (hw : w0 ≠ []) (hb : sumL w0 + w0.length + 21 * ns.length ≤ 2 ^ 22)
    (hk : ∀ h', Ext g0 h' → K2 (str (joinB (w0 ++ ns.map Lib.itoa))) h') {h : Heap} (e : Ext g0 h) : straitref49_Print.l0 K2 (ns.length + 1) q1 ns.length c1 q2 n2 c2 q3 n3 c3 (str (joinB w0)) 0 h := by
  have := rprint_l0 (q2 := q2) (q3 := q3) (n2 := n2) (n3 := n3) (c1 := c1) (c2 := c2) (c3 := c3) v hin hw hb hk ns.length 0 h (by omega) e
  simp only [List.take_zero, List.map_nil, List.append_nil] at this
  exact this
theorem rprint_l1 {K2 : ByteArray → Heap → Prop} {ns : List Int} {w0 : List (List UInt8)} (v : valsAt g0 q2 (numV ns)) (hin : ∀ n ∈ ns, inR n = true) (hw : w0 ≠ []) (hb : sumL w0 + w0.length + 21 * ns.length ≤ 2 ^ 22)
    (hk : ∀ h', Ext g0 h' → K2 (str (joinB (w0 ++ ns.map Lib.itoa))) h') :
    ∀ (d i : Nat) (h : Heap), i + d = ns.length → Ext g0 h → straitref49_Print.l1 K2 (d + 1) q2 ns.length c2 q3 n3 c3 (str (joinB (w0 ++ (ns.take i).map Lib.itoa))) (i : Int) h
  | 0, i, h, hi, e => by
    unfold straitref49_Print.l1 straitref49_Print.b1
    rw [List.take_of_length_le (by omega)]
    exact iteB_neg (decide_eq_false (by omega)) (hk h e)
  | d + 1, i, h, hi, e => by
    unfold straitref49_Print.l1 straitref49_Print.b1
    obtain ⟨n, hn⟩ := get_lt (l := ns) (i := i) (by omega)
    obtain ⟨r0, r1⟩ := inR_iff.1 (hin n (List.mem_of_getElem? hn))
    have hl2 := itoa_len r0 r1
    have hl : (joinB (w0 ++ (ns.take i).map Lib.itoa)).length ≤ 2 ^ 22 := by
      have h1 := sumL_join (w0 ++ (ns.take i).map Lib.itoa)
      have h2 := sum_itoa (ns.take i) fun m hm => hin m (List.mem_of_mem_take hm)
      have h3 : (ns.take i).length ≤ ns.length := by rw [List.length_take]; omega
      rw [sumL_app, List.length_append, List.length_map] at h1
      omega
    obtain ⟨a, ha, g⟩ := (v.ext e) i _ (numV_get hn)
    have e32 : (⟨#[32]⟩ : ByteArray) = str [32] := rfl
    rw [ha]
    simp -zeta only [chkP_some, Int.toNat_natCast, Nat.mul_one]
    rw [← ha, e32, str_app, str_size, str_size, str_size]
    refine iteB_pos (decide_eq_true (by omega)) ⟨by simp only [List.length_cons, List.length_nil]; omega, by omega, _, g, callP1.self (RPrint_of r0 r1 fun h3 e3 => ⟨by rw [str_size]; simp only [List.length_append, List.length_cons, List.length_nil]; omega, ?_⟩)⟩
    rw [wrap64 (by omega) (by omega), str_app]
    have := rprint_l1 v hin hw hb hk d (i + 1) h3 (by omega) (e.trans e3)
    rw [take_snoc hn, List.map_append, ← List.append_assoc] at this
    have ej := joinB_snoc (a := w0 ++ (ns.take i).map Lib.itoa) (Lib.itoa n) (by simp [hw])
    rw [show [n].map Lib.itoa = [Lib.itoa n] from rfl, ej] at this
    exact this
theorem rprint_l1s {K2 : ByteArray → Heap → Prop} {ns : List Int} {w0 : List (List UInt8)} (v : valsAt g0 q2 (numV ns)) (hin : ∀ n ∈ ns, inR n = true) (hw : w0 ≠ []) (hb : sumL w0 + w0.length + 21 * ns.length ≤ 2 ^ 22)
    (hk : ∀ h', Ext g0 h' → K2 (str (joinB (w0 ++ ns.map Lib.itoa))) h') {h : Heap} (e : Ext g0 h) : straitref49_Print.l1 K2 (ns.length + 1) q2 ns.length c2 q3 n3 c3 (str (joinB w0)) 0 h := by
  have := rprint_l1 (q3 := q3) (n3 := n3) (c2 := c2) (c3 := c3) v hin hw hb hk ns.length 0 h (by omega) e
  simp only [List.take_zero, List.map_nil, List.append_nil] at this
  exact this
end
theorem ext_trans' {a b c : Heap} (h : Ext a b) (k : Ext b c) : Ext a c := h.trans k
theorem RAPrint_of {h : Heap} {a : Ans} {q1 q2 q3 : Option Addr} {c1 c2 c3 : Nat} {K : ByteArray → Heap → Prop} (v : a.Valid) (v1 : valsAt h q1 (numV a.n)) (v2 : valsAt h q2 (numV a.sd)) (v3 : valsAt h q3 (byV a.b))
    (hn : a.n.length ≤ 2 ^ 15) (hs : a.sd.length ≤ 2 ^ 15) (hb : a.b.length ≤ 2 ^ 15) (hk : ∀ h', Ext h h' → K (str (ansT a)) h') : straitref49_Print a.e q1 a.n.length c1 q2 a.sd.length c2 q3 a.b.length c3 h K := by
  unfold straitref49_Print
  obtain ⟨r0, r1⟩ := inR_iff.1 v.e
  have hle := itoa_len r0 r1
  intro j
  have J : ∀ h', Ext h h' → j (str (joinB (headW a.e))) h' := fun h' e => by
    simp -zeta only [j]
    clear j
    have hd : headW a.e ≠ [] := by unfold headW; split <;> simp
    have hd2 : sumL (headW a.e) + (headW a.e).length ≤ 27 := by
      unfold headW
      split
      · decide
      · rw [sumL_cons, sumL_cons]; simp [sumL, errW]; omega
    refine ⟨a.n.length + 1, ?_⟩
    refine rprint_l0s (w0 := headW a.e) v1 v.n hd (by omega) (fun h3 e3 => ?_) e
    generalize hw1 : headW a.e ++ a.n.map Lib.itoa = w1
    have hwn : w1 ≠ [] := by rw [← hw1]; simp [hd]
    have hws : sumL w1 + w1.length ≤ 27 + 21 * a.n.length := by
      have := sum_itoa a.n v.n
      rw [← hw1, sumL_app, List.length_append, List.length_map]; omega
    have hjl := sumL_join w1
    intro j2
    have J2 : ∀ w2, w2 = w1 ++ (if a.sd = [] then [] else [sideW]) → j2 (str (joinB w2)) := fun w2 hw2 => by
      simp -zeta only [j2]
      clear j2
      have hwn2 : w2 ≠ [] := by rw [hw2]; simp [hwn]
      have hws2 : sumL w2 + w2.length ≤ 32 + 21 * a.n.length := by
        have : sumL (if a.sd = [] then [] else [sideW]) + (if a.sd = [] then [] else [sideW]).length ≤ 5 := by split <;> decide
        rw [hw2, sumL_app, List.length_append]; omega
      refine ⟨a.sd.length + 1, ?_⟩
      refine rprint_l1s (w0 := w2) v2 v.sd hwn2 (by omega) (fun h5 e5 => ?_) e3
      have e4 : w2 ++ a.sd.map Lib.itoa = w1 ++ sideL a.sd := by rw [hw2, side_eq, List.append_assoc]
      rw [e4]
      have hw4 : sumL (w1 ++ sideL a.sd) + (w1 ++ sideL a.sd).length ≤ 32 + 21 * a.n.length + 21 * a.sd.length := by
        have := sum_itoa a.sd v.sd
        rw [← e4, sumL_app, List.length_append, List.length_map]; omega
      have hjl4 := sumL_join (w1 ++ sideL a.sd)
      by_cases hb0 : a.b = []
      · refine iteB_neg (by simp [hb0]) ?_
        have eW : w1 ++ sideL a.sd = ansW a := by
          rw [← hw1]; unfold ansW byteL
          rw [if_pos hb0]; simp
        have := hk h5 e5
        unfold ansT at this
        rw [← eW] at this
        exact this
      · have hbp : 0 < a.b.length := List.length_pos_iff.2 hb0
        have eb : (⟨#[32, 98, 121, 116, 101, 115, 32]⟩ : ByteArray) = str ([32] ++ bytesW ++ [32]) := rfl
        rw [eb, str_app, str_size, str_size, str_size]
        have hx1 := hexL_len a.b
        refine iteB_pos (decide_eq_true (by omega)) ⟨by simp only [List.length_append, List.length_cons, List.length_nil, bytesW]; omega, qcallP1.of _ (fun Q hQ => RHex_of (v3.ext e5) (by omega) hQ) ⟨by rw [str_size]; simp only [List.length_append, List.length_cons, List.length_nil, bytesW] at *; omega, ?_⟩⟩
        rw [str_app]
        have eW : w1 ++ sideL a.sd ++ [bytesW] ++ [hexL a.b] = ansW a := by
          rw [← hw1]; unfold ansW byteL
          rw [if_neg hb0]; simp
        have := hk h5 e5
        unfold ansT at this
        rw [← eW, joinB_snoc _ (by simp), joinB_snoc _ (by simp [hwn])] at this
        simpa using this
    clear_value j2
    by_cases hs0 : a.sd = []
    · have := J2 w1 (by rw [if_pos hs0, List.append_nil])
      exact iteB_neg (by simp [hs0]) this
    · have hsp : 0 < a.sd.length := List.length_pos_iff.2 hs0
      have := J2 (w1 ++ [sideW]) (by rw [if_neg hs0])
      rw [joinB_snoc _ hwn] at this
      have es : (⟨#[32, 115, 105, 100, 101]⟩ : ByteArray) = str ([32] ++ sideW) := rfl
      rw [es, str_app, str_size, str_size]
      refine iteB_pos (decide_eq_true (by omega)) ⟨by simp only [List.length_append, List.length_cons, List.length_nil, sideW]; omega, ?_⟩
      rw [← List.append_assoc]
      exact this
  clear_value j
  refine iteB_intro (fun e => ?_) fun e => ?_
  · have e : a.e ≠ 0 := by simpa using e
    have eh : joinB (headW a.e) = errW ++ [32] ++ Lib.itoa a.e := by unfold headW; rw [if_neg e]; rfl
    refine callP1.self (RPrint_of r0 r1 fun h2 e2 => ⟨?_, ?_⟩)
    · rw [str_size]
      have : (⟨#[101, 114, 114, 111, 114, 32]⟩ : ByteArray).size = 6 := rfl
      rw [this]; omega
    · have := J h2 e2
      rw [eh] at this
      have ee : (⟨#[101, 114, 114, 111, 114, 32]⟩ : ByteArray) = str (errW ++ [32]) := rfl
      rw [ee, str_app]
      exact this
  · have e : a.e = 0 := by simpa using e
    have eh : joinB (headW a.e) = okW := by unfold headW; rw [if_pos e]; rfl
    have := J h (Ext.refl h)
    rw [eh] at this
    exact this
section
variable {h0 : Base} {R : Rws}
abbrev KF := Int → (Option Addr) → Nat → Nat → (Option Addr) → Nat → Nat → (Option Addr) → Nat → Nat → Heap → Prop
theorem AFail_of {h : Heap} {e : Int} {q : Option Addr} {c : Nat} {l : List Int} {K : KF} (v : Keeps h0 R q (numV l)) (hl : l.length ≤ 2 ^ 20) (s : St h0 h R)
    (hk : ∀ h' q2 c2 X, Keeps h0 (X ++ R) q2 (numV l) → St h0 h' (X ++ R) → K e q2 l.length c2 none 0 0 none 0 0 h') : answer_Fail e q l.length c h K := by
  unfold answer_Fail
  refine s.new_ (cs := recA Ans.none none none none 0 0 0) fun t h1 s1 => callP3.self (AClone_of v.cons hl s1 fun h2 q2 c2 X k s2 => ?_)
  simp -zeta only [add_mk, Nat.zero_add]
  have s3 : St h0 h2 ((t, recA Ans.none none none none 0 0 0) :: (X ++ R)) := (St.re s2 (by intro a; simp only [cntR_append, cntR_cons, cntR_nil, List.cons_append, List.nil_append, List.set_cons_zero, List.set_cons_succ]; omega))
  refine s3.st0 (by simp [recA]) fun h4 s4 => s4.st0 (by simp [recA]) fun h5 s5 => s5.st0 (by simp [recA]) fun h6 s6 => s6.st0 (by simp [recA]) fun h7 s7 => ?_
  have s7 : St h0 h7 ((t, [.int .i64 e, .slice q2 l.length c2, .slice none 0 0, .slice none 0 0]) :: (X ++ R)) := s7
  refine ⟨_, s7.rd0 0, _, _, _, s7.rd0 1, _, _, _, s7.rd0 2, _, _, _, s7.rd0 3, ?_⟩
  exact hk h7 q2 c2 ((t, [.int .i64 e, .slice q2 l.length c2, .slice none 0 0, .slice none 0 0]) :: X) (k.sub fun y hy => by simp [hy]) s7
end
end Go.Proofs.YtmejnpadgbdhaaaGreatDoor
