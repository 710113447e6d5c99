/-
  Edges split, the document's (turned from the edges' own texts).
-/
import Derived.Test.YtbhndlpjfncliaaGreatY5
import Derived.Test.YtbhndlpjfncliaaGreatB0
namespace Go.Proofs.YtbhndlpjfncliaaGreat
set_option linter.unusedVariables false
set_option linter.unusedSimpArgs false
set_option linter.unnecessarySimpa false
open Go.Hp Go.RowKit
attribute [local irreducible] Go.Hp.iteB Go.Hp.stC Go.Hp.newP

theorem sum_nonnegI : ∀ l : List Int, (∀ x ∈ l, 0 ≤ x) → 0 ≤ l.sum
  | [], _ => by simp
  | x :: l, h => by
    have h1 := h x (by simp)
    have h2 := sum_nonnegI l fun y hy => h y (by simp [hy])
    rw [List.sum_cons]; omega
/-- How many pieces a weight comes to. -/
def pcs (w : Int) : Int := if w ≤ 2147483648 then 1 else (w - 1) / 2147483648 + 1
theorem pcs_pos (w : Int) : 1 ≤ pcs w := by unfold pcs; split <;> omega
theorem pcs_le {w : Int} (h : w ≤ 9223372036854775807) : pcs w ≤ 4294967296 := by unfold pcs; split <;> omega
theorem pcs_one {w : Int} (h : w ≤ 2147483648) : pcs w = 1 := if_pos h
theorem pcs_more {w : Int} (h : ¬ w ≤ 2147483648) : pcs w = pcs (w - 2147483648) + 1 := by
  unfold pcs; rw [if_neg h]; split <;> omega
def big : Int := 2147483648
/-- What is cut off, and what is left. -/
def splE (e : Ed) : List Ed := List.replicate (pcs e.2.2 - 1).toNat (e.1, e.2.1, big) ++ [(e.1, e.2.1, e.2.2 - (pcs e.2.2 - 1) * big)]
theorem splE_len (e : Ed) : ((splE e).length : Int) = pcs e.2.2 := by
  have := pcs_pos e.2.2
  simp only [splE, List.length_append, List.length_replicate, List.length_cons, List.length_nil]; omega
theorem splE_one {e : Ed} (h : e.2.2 ≤ 2147483648) : splE e = [e] := by unfold splE; rw [pcs_one h]; simp
theorem splE_more {u v w : Int} (h : ¬ w ≤ 2147483648) : splE (u, v, w) = (u, v, big) :: splE (u, v, w - 2147483648) := by
  have h1 := pcs_pos (w - 2147483648)
  unfold splE
  simp only
  rw [pcs_more h, show (pcs (w - 2147483648) + 1 - 1).toNat = (pcs (w - 2147483648) - 1).toNat + 1 by omega, List.replicate_succ, List.cons_append]
  have e : w - (pcs (w - 2147483648) + 1 - 1) * big = w - 2147483648 - (pcs (w - 2147483648) - 1) * big := by unfold big; omega
  rw [e]
def splL (l : List Ed) : List Ed := l.flatMap splE
def pcsL (l : List Ed) : List Int := l.map fun e => pcs e.2.2
theorem splL_len : ∀ l : List Ed, ((splL l).length : Int) = (pcsL l).sum
  | [] => rfl
  | e :: l => by
    have := splL_len l
    have h := splE_len e
    simp only [splL, pcsL, List.flatMap_cons, List.length_append, List.map_cons, List.sum_cons] at *
    omega
theorem splL_app (l m : List Ed) : splL (l ++ m) = splL l ++ splL m := by simp [splL]
theorem splL_one (e : Ed) : splL [e] = splE e := by simp [splL]
/-- Can they be split at all? -/
def splOk (l : List Ed) : Prop := (∀ e ∈ l, 0 ≤ e.2.2) ∧ (pcsL l).sum ≤ 1048576
theorem pcsL_nonneg (l : List Ed) : ∀ x ∈ pcsL l, 0 ≤ x := fun x hx => by
  obtain ⟨e, _, rfl⟩ := List.mem_map.1 hx
  have := pcs_pos e.2.2; omega
theorem pcsL_sum (l : List Ed) : 0 ≤ (pcsL l).sum := sum_nonnegI _ (pcsL_nonneg l)
theorem pcsL_app (l m : List Ed) : (pcsL (l ++ m)).sum = (pcsL l).sum + (pcsL m).sum := by simp [pcsL]
theorem pcsL_take (l : List Ed) (i : Nat) : (pcsL (l.take i)).sum ≤ (pcsL l).sum := by
  have h := pcsL_app (l.take i) (l.drop i)
  rw [List.take_append_drop] at h
  have := pcsL_sum (l.drop i); omega
theorem splL_take_len {l : List Ed} (h : (pcsL l).sum ≤ 1048576) (i : Nat) : (splL (l.take i)).length ≤ 1048576 := by
  have h1 := splL_len (l.take i)
  have h2 := pcsL_take l i
  omega
section
variable {h0 : Base} {R : Rws}
end
theorem pcs_alt {w : Int} (h : 0 ≤ w) : pcs w = w / 2147483648 + (if w = 0 ∨ w % 2147483648 ≠ 0 then 1 else 0) := by
  unfold pcs; split <;> split <;> omega
theorem not_ok_neg {l : List Ed} {i : Nat} {u v w : Int} (hx : l[i]? = some (u, v, w)) (h : w < 0) : ¬ splOk l := fun ok => by
  have := ok.1 _ (List.mem_of_getElem? hx); simp only at this; omega
theorem not_ok_big {l : List Ed} {i : Nat} (h : 1048576 < (pcsL (l.take i)).sum) : ¬ splOk l := fun ok => by
  have := pcsL_take l i; have := ok.2; omega
theorem pcsL_snoc {l : List Ed} {i : Nat} {u v w : Int} (hx : l[i]? = some (u, v, w)) : (pcsL (l.take (i + 1))).sum = (pcsL (l.take i)).sum + pcs w := by
  rw [take_snoc hx, pcsL_app]; simp [pcsL]

section
variable {h0 : Base} {R : Rws}
theorem rsplit_l0 {K0 K2 : Heap → Prop} {b k cl : Nat} {q : Option Addr} {l : List Ed} (hl : l.length = k) (hb : k < 2 ^ 30) (hw : fitsL l) (kl : Keeps h0 R q (eV l))
    (hk0 : ¬ splOk l → ∀ h', St h0 h' ((b, [.slice none 0 0, .bool false]) :: R) → K0 h') (hk2 : ∀ h', splOk l → St h0 h' ((b, [.slice none 0 0, .bool false]) :: R) → K2 h') :
    ∀ (d i : Nat) (n : Int) (h : Heap), i + d = k → (∀ e ∈ l.take i, 0 ≤ e.2.2) → n = (pcsL (l.take i)).sum → n ≤ 1048576 → St h0 h ((b, [.slice none 0 0, .bool false]) :: R) → straitref15_Split.l0 K0 K2 (d + 1) q k cl ⟨b, 0, none⟩ n (i : Int) h
  | 0, i, n, h, hi, hnn, hn, hn2, s => by
    unfold straitref15_Split.l0 straitref15_Split.b0
    rw [List.take_of_length_le (by omega)] at hnn hn
    exact iteB_neg (decide_eq_false (by omega)) (hk2 h ⟨hnn, by omega⟩ s)
  | d + 1, i, n, h, hi, hnn, hn, hn2, s => by
    unfold straitref15_Split.l0 straitref15_Split.b0
    obtain ⟨⟨u, v, w⟩, hx⟩ := get_lt (l := l) (i := i) (by omega)
    have hwx : fits w := hw _ (List.mem_of_getElem? hx)
    have hn0 := pcsL_sum (l.take i)
    have vl := kl.atC s
    have e31 : (2 : Int) ^ 31 = 2147483648 := by decide
    refine iteB_pos (decide_eq_true (by omega)) ?_
    have bad : ¬ splOk l → stC h ⟨b, 0, none⟩ (.slice none 0 0) fun h1015 => stC h1015 ((⟨b, 0, none⟩ : Addr).add 1) (.bool false) fun h1016 => K0 h1016 := fun no => by
      refine s.st0 (by simp) fun h2 s2 => ?_
      try simp -zeta only [chkP_some, iteB_true, iteB_false, add_mk, Nat.zero_add, Nat.add_zero, Nat.mul_one, Nat.reduceAdd, Int.toNat_natCast, ex_int, ex_slice, ex_ptr, ex_bool, ex_str, ex_flt, ex_any, bnd_in, List.getElem?_cons_zero, List.getElem?_cons_succ, List.set_cons_zero, List.set_cons_succ, List.cons_append, List.nil_append, bne_self_eq_false, beq_self_eq_true, Bool.not_true, Bool.not_false, Option.isNone_some, Option.isNone_none, eq_self, true_and, and_true, and_self]
      exact s2.st0 (by simp) fun h3 s3 => hk0 no h3 s3
    intro j
    have J : 0 ≤ w → w / 2147483648 ≤ 1048576 → j := fun w0 w1 => by
      simp -zeta only [j]
      simp -zeta (disch := omega) only [chkP_some, iteB_true, iteB_false, add_mk, Nat.zero_add, Nat.add_zero, Nat.mul_one, Nat.reduceAdd, Int.toNat_natCast, ex_int, ex_slice, ex_ptr, ex_bool, ex_str, ex_flt, ex_any, bnd_in, List.getElem?_cons_zero, List.getElem?_cons_succ, List.set_cons_zero, List.set_cons_succ, List.cons_append, List.nil_append, bne_self_eq_false, beq_self_eq_true, Bool.not_true, Bool.not_false, Option.isNone_some, Option.isNone_none, eq_self, true_and, and_true, and_self, vals_edge2 vl hx, e31]
      refine ⟨by omega, ?_⟩
      rw [Int.fdiv_eq_ediv_of_nonneg _ (by omega), wrap64 (by omega) (by omega)]
      refine bindV_intro fun m hm => ?_
      subst hm
      intro j2
      have J2 : ∀ y : Int, y = (pcsL (l.take (i + 1))).sum → j2 y := fun y hy => by
        simp -zeta only [j2]
        refine iteB_intro (fun c => bad (not_ok_big (i := i + 1) ?_)) (fun c => ?_)
        · have c := of_decide_eq_true c; omega
        · have c := of_decide_eq_false c
          rw [wrap64 (by omega) (by omega)]
          refine rsplit_l0 hl hb hw kl hk0 hk2 d (i + 1) y h (by omega) (fun e he => ?_) hy (by omega) s
          rw [take_snoc hx] at he
          rcases List.mem_append.1 he with he | he
          · exact hnn e he
          · simp only [List.mem_singleton] at he; subst he; exact w0
      clear_value j2
      have hs := pcsL_snoc hx
      rw [pcs_alt w0] at hs
      rw [wrap64 (by omega) (by omega)]
      refine iteB_intro (fun c => J2 _ ?_) (fun c => ?_)
      · have c : w = 0 := by simpa using c
        rw [hs, if_pos (.inl c)]; omega
      · have c : ¬ w = 0 := by simpa using c
        refine ⟨by decide, iteB_intro (fun c2 => J2 _ ?_) (fun c2 => J2 _ ?_)⟩
        · have c2 : ¬ w.tmod 2147483648 = 0 := by simpa using c2
          rw [Int.tmod_eq_emod_of_nonneg w0] at c2
          rw [hs, if_pos (.inr c2)]; omega
        · have c2 : w.tmod 2147483648 = 0 := by simpa using c2
          rw [Int.tmod_eq_emod_of_nonneg w0] at c2
          rw [hs, if_neg (by omega)]; omega
    clear_value j
    simp -zeta (disch := omega) only [chkP_some, iteB_true, iteB_false, Int.toNat_natCast, ex_int, bnd_in, vals_edge2 vl hx, e31]
    refine iteB_intro (fun c => bad (not_ok_neg hx (of_decide_eq_true c))) (fun c => ?_)
    have c := of_decide_eq_false c
    refine ⟨by omega, ?_⟩
    rw [Int.fdiv_eq_ediv_of_nonneg _ (by omega)]
    refine iteB_intro (fun c2 => bad (not_ok_big (i := i + 1) ?_)) (fun c2 => J (by omega) ?_)
    · have c2 := of_decide_eq_true c2
      rw [pcsL_snoc hx, pcs_alt (by omega)]; split <;> omega
    · have c2 := of_decide_eq_false c2; omega

theorem rsplit_l2 {K6 : Option Addr → Nat → Nat → Int → Heap → Prop} {b cl k i : Nat} {q : Option Addr} {l : List Ed} {u v w0 : Int} {B : List Ed} {c0 : List Value} (hl : l.length = k) (hx : l[i]? = some (u, v, w0)) (kl : Keeps h0 R q (eV l)) :
    ∀ (d : Nat) (w : Int) (h : Heap) (A : List Ed) (q' : Option Addr) (c' : Nat) (X : Rws), 0 ≤ w → w ≤ 9223372036854775807 → (pcs w - 1).toNat = d → A ++ splE (u, v, w) = B → B.length < 2 ^ 30 → Own3 q' c' A X → St h0 h (X ++ (b, c0) :: R) →
    (∀ h' A' q2 c2 X2 w2, Own3 q2 c2 A' X2 → A' ++ [(u, v, w2)] = B → St h0 h' (X2 ++ (b, c0) :: R) → K6 q2 A'.length c2 w2 h') →
      straitref15_Split.l2 K6 (d + 1) q k cl ⟨b, 0, none⟩ q' A.length c' (i : Int) w h
  | 0, w, h, A, q', c', X, h1, h2, hd, hB, hlen, o, s, hk => by
    unfold straitref15_Split.l2 straitref15_Split.b2
    have hw : w ≤ 2147483648 := Int.not_lt.1 fun hc => by
      have h3 := pcs_more (w := w) (by omega)
      have := pcs_pos (w - 2147483648)
      omega
    refine iteB_neg (decide_eq_false (by omega)) (hk h A q' c' X w o ?_ s)
    rw [← hB, splE_one hw]
  | d + 1, w, h, A, q', c', X, h1, h2, hd, hB, hlen, o, s, hk => by
    unfold straitref15_Split.l2 straitref15_Split.b2
    have hw : ¬ w ≤ 2147483648 := fun hc => by rw [pcs_one hc] at hd; omega
    have hik := lt_get hx
    refine iteB_pos (decide_eq_true (by omega)) ?_
    have hmore := pcs_more hw
    rw [splE_more hw] at hB
    have vl : valsAt h q (eV l) := (kl.cons (y := (b, c0))).at1 s
    have v1 : ∀ {G : Int → Prop}, (chkP q fun a' => ∃ y : Int, cell h ((a'.add (i * 3)).add 1) = some (.int .i64 y) ∧ G y) = G v := by
      intro G; simp only [addr_add]; exact vals_int vl (eV_get1 hx)
    simp -zeta (disch := omega) only [chkP_some, iteB_true, iteB_false, add_mk, Nat.zero_add, Nat.add_zero, Nat.mul_one, Nat.reduceAdd, Int.toNat_natCast, ex_int, ex_slice, ex_ptr, ex_bool, ex_str, ex_flt, ex_any, bnd_in, List.getElem?_cons_zero, List.getElem?_cons_succ, List.set_cons_zero, List.set_cons_succ, List.cons_append, List.nil_append, bne_self_eq_false, beq_self_eq_true, Bool.not_true, Bool.not_false, Option.isNone_some, Option.isNone_none, eq_self, true_and, and_true, and_self, vals_int vl (eV_get0 hx), v1]
    have hlA : A.length < 2 ^ 30 := by rw [← hB] at hlen; simp only [List.length_append, List.length_cons] at hlen; omega
    refine Own3.push1 o s rfl (by omega) fun q2 c2 X2 h3 o2 s3 => ?_
    rw [wrap64 (by omega) (by omega)]
    have := rsplit_l2 (K6 := K6) (B := B) (cl := cl) hl hx kl d (w - 2147483648) h3 (A ++ [(u, v, big)]) q2 c2 X2 (by omega) (by omega) (by omega) (by rw [← hB]; simp) hlen o2 s3 hk
    simpa using this

theorem rsplit_l1 {K4 : Option Addr → Nat → Nat → Heap → Prop} {b k cl : Nat} {q : Option Addr} {l : List Ed} {c0 : List Value} (hl : l.length = k) (hb : k < 2 ^ 30) (hw : fitsL l) (hok : splOk l) (kl : Keeps h0 R q (eV l))
    (hk : ∀ h' q' c' X', Own3 q' c' (splL l) X' → St h0 h' (X' ++ (b, c0) :: R) → K4 q' (splL l).length c' h') :
    ∀ (d i : Nat) (h : Heap) (q' : Option Addr) (c' : Nat) (X : Rws), i + d = k → Own3 q' c' (splL (l.take i)) X → St h0 h (X ++ (b, c0) :: R) → straitref15_Split.l1 K4 (d + 1) q k cl ⟨b, 0, none⟩ q' (splL (l.take i)).length c' (i : Int) h
  | 0, i, h, q', c', X, hi, o, s => by
    unfold straitref15_Split.l1 straitref15_Split.b1
    rw [List.take_of_length_le (by omega)] at o ⊢
    exact iteB_neg (decide_eq_false (by omega)) (hk h q' c' X o s)
  | d + 1, i, h, q', c', X, hi, o, s => by
    unfold straitref15_Split.l1 straitref15_Split.b1
    obtain ⟨⟨u, v, w⟩, hx⟩ := get_lt (l := l) (i := i) (by omega)
    have hwx : fits w := hw _ (List.mem_of_getElem? hx)
    have hw0 : 0 ≤ w := hok.1 _ (List.mem_of_getElem? hx)
    have kl2 := kl.cons (y := (b, c0))
    have vl : valsAt h q (eV l) := kl2.at1 s
    refine iteB_pos (decide_eq_true (by omega)) ?_
    simp -zeta (disch := omega) only [chkP_some, iteB_true, iteB_false, add_mk, Nat.zero_add, Nat.add_zero, Nat.mul_one, Nat.reduceAdd, Int.toNat_natCast, ex_int, ex_slice, ex_ptr, ex_bool, ex_str, ex_flt, ex_any, bnd_in, List.getElem?_cons_zero, List.getElem?_cons_succ, List.set_cons_zero, List.set_cons_succ, List.cons_append, List.nil_append, bne_self_eq_false, beq_self_eq_true, Bool.not_true, Bool.not_false, Option.isNone_some, Option.isNone_none, eq_self, true_and, and_true, and_self, vals_edge2 vl hx]
    have hB : splL (l.take (i + 1)) = splL (l.take i) ++ splE (u, v, w) := by rw [take_snoc hx, splL_app, splL_one]
    have hlen := splL_take_len hok.2 (i + 1)
    refine ⟨(pcs w - 1).toNat + 1, rsplit_l2 (B := splL (l.take (i + 1))) (cl := cl) (c0 := c0) hl hx kl (pcs w - 1).toNat w h (splL (l.take i)) q' c' X hw0 hwx.2 rfl hB.symm (by omega) o s (fun h6 A' q2 c2 X2 w2 o2 hA s6 => ?_)⟩
    have vl : valsAt h6 q (eV l) := kl2.at1 s6
    have v1 : ∀ {G : Int → Prop}, (chkP q fun a' => ∃ y : Int, cell h6 ((a'.add (i * 3)).add 1) = some (.int .i64 y) ∧ G y) = G v := by
      intro G; simp only [addr_add]; exact vals_int vl (eV_get1 hx)
    simp -zeta (disch := omega) only [chkP_some, iteB_true, iteB_false, add_mk, Nat.zero_add, Nat.add_zero, Nat.mul_one, Nat.reduceAdd, Int.toNat_natCast, ex_int, ex_slice, ex_ptr, ex_bool, ex_str, ex_flt, ex_any, bnd_in, List.getElem?_cons_zero, List.getElem?_cons_succ, List.set_cons_zero, List.set_cons_succ, List.cons_append, List.nil_append, bne_self_eq_false, beq_self_eq_true, Bool.not_true, Bool.not_false, Option.isNone_some, Option.isNone_none, eq_self, true_and, and_true, and_self, vals_int vl (eV_get0 hx), v1]
    have hlA : A'.length < 2 ^ 30 := by rw [← hA] at hlen; simp only [List.length_append, List.length_cons] at hlen; omega
    refine Own3.push1 o2 s6 rfl (by omega) fun q3 c3 X3 h7 o3 s7 => ?_
    rw [wrap64 (by omega) (by omega)]
    rw [hA] at o3
    have hl3 : A'.length + 1 = (splL (l.take (i + 1))).length := by rw [← hA]; simp
    rw [hl3]
    exact rsplit_l1 hl hb hw hok kl hk d (i + 1) h7 q3 c3 X3 (by omega) o3 s7
theorem RSplit_of {h : Heap} {k cl : Nat} {q : Option Addr} {l : List Ed} {K : Option Addr → Nat → Nat → Bool → Heap → Prop} (hl : l.length = k) (hb : k < 2 ^ 30) (hw : fitsL l) (kl : Keeps h0 R q (eV l)) (s : St h0 h R)
    (hk0 : ¬ splOk l → ∀ h', St h0 h' R → K none 0 0 false h')
    (hk : splOk l → ∀ h' q c X, Own3 q c (splL l) X → St h0 h' (X ++ R) → K q (splL l).length c true h') : straitref15_Split q k cl h K := by
  unfold straitref15_Split
  refine s.new_ fun b h1 s1 => ⟨k + 1, rsplit_l0 hl hb hw kl (fun no h2 s2 => ?_) (fun h2 ok s2 => ?_) k 0 0 h1 (by omega) (fun e he => by cases he) rfl (by omega) s1⟩
  · try simp -zeta (disch := omega) only [chkP_some, iteB_true, iteB_false, add_mk, Nat.zero_add, Nat.add_zero, Nat.mul_one, Nat.reduceAdd, Int.toNat_natCast, ex_int, ex_slice, ex_ptr, ex_bool, ex_str, ex_flt, ex_any, bnd_in, List.getElem?_cons_zero, List.getElem?_cons_succ, List.set_cons_zero, List.set_cons_succ, List.cons_append, List.nil_append, bne_self_eq_false, beq_self_eq_true, Bool.not_true, Bool.not_false, Option.isNone_some, Option.isNone_none, eq_self, true_and, and_true, and_self, s2.rd0]
    exact hk0 no h2 s2.tail
  · refine ⟨k + 1, rsplit_l1 hl hb hw ok kl (fun h3 q' c' X' o3 s3 => ?_) k 0 h2 none 0 [] (by omega) Own3.nil s2⟩
    refine St.st s3 (by simp) fun h4 s4 => ?_
    try simp -zeta only [chkP_some, iteB_true, iteB_false, add_mk, Nat.zero_add, Nat.add_zero, Nat.mul_one, Nat.reduceAdd, Int.toNat_natCast, ex_int, ex_slice, ex_ptr, ex_bool, ex_str, ex_flt, ex_any, bnd_in, List.getElem?_cons_zero, List.getElem?_cons_succ, List.set_cons_zero, List.set_cons_succ, List.cons_append, List.nil_append, bne_self_eq_false, beq_self_eq_true, Bool.not_true, Bool.not_false, Option.isNone_some, Option.isNone_none, eq_self, true_and, and_true, and_self]
    refine St.st s4 (by simp) fun h5 s5 => ?_
    simp only [List.set_cons_zero, List.set_cons_succ, Nat.zero_add] at s5
    have r0 : ∀ j, cell h5 ⟨b, j, none⟩ = [Value.slice q' (splL l).length c', .bool true][j]? := s5.rd (by simp)
    simp -zeta (disch := omega) only [chkP_some, iteB_true, iteB_false, add_mk, Nat.zero_add, Nat.add_zero, Nat.mul_one, Nat.reduceAdd, Int.toNat_natCast, ex_int, ex_slice, ex_ptr, ex_bool, ex_str, ex_flt, ex_any, bnd_in, List.getElem?_cons_zero, List.getElem?_cons_succ, List.set_cons_zero, List.set_cons_succ, List.cons_append, List.nil_append, bne_self_eq_false, beq_self_eq_true, Bool.not_true, Bool.not_false, Option.isNone_some, Option.isNone_none, eq_self, true_and, and_true, and_self, r0]
    exact hk ok h5 q' c' X' o3 ((St.re s5 (by intro a; simp only [cntR_append, cntR_cons, cntR_nil, List.cons_append, List.nil_append, List.set_cons_zero, List.set_cons_succ]; omega)))

end

end Go.Proofs.YtbhndlpjfncliaaGreat
