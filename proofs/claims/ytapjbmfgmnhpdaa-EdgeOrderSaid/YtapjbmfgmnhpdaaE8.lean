/-
  The document's edges: split, merged, compared.
-/
import Derived.Test.YtapjbmfgmnhpdaaE7
namespace Go.Proofs.Ytapjbmfgmnhpdaa
set_option linter.unusedVariables false
set_option linter.unusedSimpArgs false
set_option linter.unnecessarySimpa false
open Go.Hp Go.RowKit
attribute [local irreducible] Go.Hp.iteB Go.Hp.stC Go.Hp.newP

theorem pcs_alt {w : Int} (h : 0 ≤ w) : pcs w = w / 2147483648 + (if w = 0 ∨ w % 2147483648 ≠ 0 then 1 else 0) := by
  unfold pcs; split <;> split <;> omega
theorem not_ok_neg {l : List Ed} {i : Nat} {u v w : Int} (hx : l[i]? = some (u, v, w)) (h : w < 0) : ¬ splOk l := fun ok => by
  have := ok.1 _ (List.mem_of_getElem? hx); simp only at this; omega
theorem not_ok_big {l : List Ed} {i : Nat} (h : 1048576 < (pcsL (l.take i)).sum) : ¬ splOk l := fun ok => by
  have := pcsL_take l i; have := ok.2; omega
theorem pcsL_snoc {l : List Ed} {i : Nat} {u v w : Int} (hx : l[i]? = some (u, v, w)) : (pcsL (l.take (i + 1))).sum = (pcsL (l.take i)).sum + pcs w := by
  rw [take_snoc hx, pcsL_app]; simp [pcsL]

section
variable {h0 : Base} {R : Rws}
theorem rsplit_l0 {K0 K2 : Heap → Prop} {b k cl : Nat} {q : Option Addr} {l : List Ed} (hl : l.length = k) (hb : k < 2 ^ 30) (hw : fitsL l) (kl : Keeps h0 R q (eV l))
    (hk0 : ¬ splOk l → ∀ h', St h0 h' ((b, [.slice none 0 0, .bool false]) :: R) → K0 h') (hk2 : ∀ h', splOk l → St h0 h' ((b, [.slice none 0 0, .bool false]) :: R) → K2 h') :
    ∀ (d i : Nat) (n : Int) (h : Heap), i + d = k → (∀ e ∈ l.take i, 0 ≤ e.2.2) → n = (pcsL (l.take i)).sum → n ≤ 1048576 → St h0 h ((b, [.slice none 0 0, .bool false]) :: R) → straitref15_Split.l0 K0 K2 (d + 1) q k cl ⟨b, 0, none⟩ n (i : Int) h
  | 0, i, n, h, hi, hnn, hn, hn2, s => by
    unfold straitref15_Split.l0 straitref15_Split.b0
    rw [List.take_of_length_le (by omega)] at hnn hn
    exact iteB_neg (decide_eq_false (by omega)) (hk2 h ⟨hnn, by omega⟩ s)
  | d + 1, i, n, h, hi, hnn, hn, hn2, s => by
    unfold straitref15_Split.l0 straitref15_Split.b0
    obtain ⟨⟨u, v, w⟩, hx⟩ := get_lt (l := l) (i := i) (by omega)
    have hwx : fits w := hw _ (List.mem_of_getElem? hx)
    have hn0 := pcsL_sum (l.take i)
    have vl := kl.atC s
    have e31 : (2 : Int) ^ 31 = 2147483648 := by decide
    refine iteB_pos (decide_eq_true (by omega)) ?_
    have bad : ¬ splOk l → stC h ⟨b, 0, none⟩ (.slice none 0 0) fun h1015 => stC h1015 ((⟨b, 0, none⟩ : Addr).add 1) (.bool false) fun h1016 => K0 h1016 := fun no => by
      refine s.st0 (by simp) fun h2 s2 => ?_
      try simp -zeta only [chkP_some, iteB_true, iteB_false, add_mk, Nat.zero_add, Nat.add_zero, Nat.mul_one, Nat.reduceAdd, Int.toNat_natCast, ex_int, ex_slice, ex_ptr, ex_bool, ex_str, ex_flt, ex_any, bnd_in, List.getElem?_cons_zero, List.getElem?_cons_succ, List.set_cons_zero, List.set_cons_succ, List.cons_append, List.nil_append, bne_self_eq_false, beq_self_eq_true, Bool.not_true, Bool.not_false, Option.isNone_some, Option.isNone_none, eq_self, true_and, and_true, and_self]
      exact s2.st0 (by simp) fun h3 s3 => hk0 no h3 s3
    intro j
    have J : 0 ≤ w → w / 2147483648 ≤ 1048576 → j := fun w0 w1 => by
      simp -zeta only [j]
      simp -zeta (disch := omega) only [chkP_some, iteB_true, iteB_false, add_mk, Nat.zero_add, Nat.add_zero, Nat.mul_one, Nat.reduceAdd, Int.toNat_natCast, ex_int, ex_slice, ex_ptr, ex_bool, ex_str, ex_flt, ex_any, bnd_in, List.getElem?_cons_zero, List.getElem?_cons_succ, List.set_cons_zero, List.set_cons_succ, List.cons_append, List.nil_append, bne_self_eq_false, beq_self_eq_true, Bool.not_true, Bool.not_false, Option.isNone_some, Option.isNone_none, eq_self, true_and, and_true, and_self, vals_edge2 vl hx, e31]
      refine ⟨by omega, ?_⟩
      rw [Int.fdiv_eq_ediv_of_nonneg _ (by omega), wrap64 (by omega) (by omega)]
      refine bindV_intro fun m hm => ?_
      subst hm
      intro j2
      have J2 : ∀ y : Int, y = (pcsL (l.take (i + 1))).sum → j2 y := fun y hy => by
        simp -zeta only [j2]
        refine iteB_intro (fun c => bad (not_ok_big (i := i + 1) ?_)) (fun c => ?_)
        · have c := of_decide_eq_true c; omega
        · have c := of_decide_eq_false c
          rw [wrap64 (by omega) (by omega)]
          refine rsplit_l0 hl hb hw kl hk0 hk2 d (i + 1) y h (by omega) (fun e he => ?_) hy (by omega) s
          rw [take_snoc hx] at he
          rcases List.mem_append.1 he with he | he
          · exact hnn e he
          · simp only [List.mem_singleton] at he; subst he; exact w0
      clear_value j2
      have hs := pcsL_snoc hx
      rw [pcs_alt w0] at hs
      rw [wrap64 (by omega) (by omega)]
      refine iteB_intro (fun c => J2 _ ?_) (fun c => ?_)
      · have c : w = 0 := by simpa using c
        rw [hs, if_pos (.inl c)]; omega
      · have c : ¬ w = 0 := by simpa using c
        refine ⟨by decide, iteB_intro (fun c2 => J2 _ ?_) (fun c2 => J2 _ ?_)⟩
        · have c2 : ¬ w.tmod 2147483648 = 0 := by simpa using c2
          rw [Int.tmod_eq_emod_of_nonneg w0] at c2
          rw [hs, if_pos (.inr c2)]; omega
        · have c2 : w.tmod 2147483648 = 0 := by simpa using c2
          rw [Int.tmod_eq_emod_of_nonneg w0] at c2
          rw [hs, if_neg (by omega)]; omega
    clear_value j
    simp -zeta (disch := omega) only [chkP_some, iteB_true, iteB_false, Int.toNat_natCast, ex_int, bnd_in, vals_edge2 vl hx, e31]
    refine iteB_intro (fun c => bad (not_ok_neg hx (of_decide_eq_true c))) (fun c => ?_)
    have c := of_decide_eq_false c
    refine ⟨by omega, ?_⟩
    rw [Int.fdiv_eq_ediv_of_nonneg _ (by omega)]
    refine iteB_intro (fun c2 => bad (not_ok_big (i := i + 1) ?_)) (fun c2 => J (by omega) ?_)
    · have c2 := of_decide_eq_true c2
      rw [pcsL_snoc hx, pcs_alt (by omega)]; split <;> omega
    · have c2 := of_decide_eq_false c2; omega

theorem rsplit_l2 {K6 : Option Addr → Nat → Nat → Int → Heap → Prop} {b cl k i : Nat} {q : Option Addr} {l : List Ed} {u v w0 : Int} {B : List Ed} {c0 : List Value} (hl : l.length = k) (hx : l[i]? = some (u, v, w0)) (kl : Keeps h0 R q (eV l)) :
    ∀ (d : Nat) (w : Int) (h : Heap) (A : List Ed) (q' : Option Addr) (c' : Nat) (X : Rws), 0 ≤ w → w ≤ 9223372036854775807 → (pcs w - 1).toNat = d → A ++ splE (u, v, w) = B → B.length < 2 ^ 30 → Own3 q' c' A X → St h0 h (X ++ (b, c0) :: R) →
    (∀ h' A' q2 c2 X2 w2, Own3 q2 c2 A' X2 → A' ++ [(u, v, w2)] = B → St h0 h' (X2 ++ (b, c0) :: R) → K6 q2 A'.length c2 w2 h') →
      straitref15_Split.l2 K6 (d + 1) q k cl ⟨b, 0, none⟩ q' A.length c' (i : Int) w h
  | 0, w, h, A, q', c', X, h1, h2, hd, hB, hlen, o, s, hk => by
    unfold straitref15_Split.l2 straitref15_Split.b2
    have hw : w ≤ 2147483648 := Int.not_lt.1 fun hc => by
      have h3 := pcs_more (w := w) (by omega)
      have := pcs_pos (w - 2147483648)
      omega
    refine iteB_neg (decide_eq_false (by omega)) (hk h A q' c' X w o ?_ s)
    rw [← hB, splE_one hw]
  | d + 1, w, h, A, q', c', X, h1, h2, hd, hB, hlen, o, s, hk => by
    unfold straitref15_Split.l2 straitref15_Split.b2
    have hw : ¬ w ≤ 2147483648 := fun hc => by rw [pcs_one hc] at hd; omega
    have hik := lt_get hx
    refine iteB_pos (decide_eq_true (by omega)) ?_
    have hmore := pcs_more hw
    rw [splE_more hw] at hB
    have vl : valsAt h q (eV l) := (kl.cons (y := (b, c0))).at1 s
    have v1 : ∀ {G : Int → Prop}, (chkP q fun a' => ∃ y : Int, cell h ((a'.add (i * 3)).add 1) = some (.int .i64 y) ∧ G y) = G v := by
      intro G; simp only [addr_add]; exact vals_int vl (eV_get1 hx)
    simp -zeta (disch := omega) only [chkP_some, iteB_true, iteB_false, add_mk, Nat.zero_add, Nat.add_zero, Nat.mul_one, Nat.reduceAdd, Int.toNat_natCast, ex_int, ex_slice, ex_ptr, ex_bool, ex_str, ex_flt, ex_any, bnd_in, List.getElem?_cons_zero, List.getElem?_cons_succ, List.set_cons_zero, List.set_cons_succ, List.cons_append, List.nil_append, bne_self_eq_false, beq_self_eq_true, Bool.not_true, Bool.not_false, Option.isNone_some, Option.isNone_none, eq_self, true_and, and_true, and_self, vals_int vl (eV_get0 hx), v1]
    have hlA : A.length < 2 ^ 30 := by rw [← hB] at hlen; simp only [List.length_append, List.length_cons] at hlen; omega
    refine Own3.push1 o s rfl (by omega) fun q2 c2 X2 h3 o2 s3 => ?_
    rw [wrap64 (by omega) (by omega)]
    have := rsplit_l2 (K6 := K6) (B := B) (cl := cl) hl hx kl d (w - 2147483648) h3 (A ++ [(u, v, big)]) q2 c2 X2 (by omega) (by omega) (by omega) (by rw [← hB]; simp) hlen o2 s3 hk
    simpa using this

theorem rsplit_l1 {K4 : Option Addr → Nat → Nat → Heap → Prop} {b k cl : Nat} {q : Option Addr} {l : List Ed} {c0 : List Value} (hl : l.length = k) (hb : k < 2 ^ 30) (hw : fitsL l) (hok : splOk l) (kl : Keeps h0 R q (eV l))
    (hk : ∀ h' q' c' X', Own3 q' c' (splL l) X' → St h0 h' (X' ++ (b, c0) :: R) → K4 q' (splL l).length c' h') :
    ∀ (d i : Nat) (h : Heap) (q' : Option Addr) (c' : Nat) (X : Rws), i + d = k → Own3 q' c' (splL (l.take i)) X → St h0 h (X ++ (b, c0) :: R) → straitref15_Split.l1 K4 (d + 1) q k cl ⟨b, 0, none⟩ q' (splL (l.take i)).length c' (i : Int) h
  | 0, i, h, q', c', X, hi, o, s => by
    unfold straitref15_Split.l1 straitref15_Split.b1
    rw [List.take_of_length_le (by omega)] at o ⊢
    exact iteB_neg (decide_eq_false (by omega)) (hk h q' c' X o s)
  | d + 1, i, h, q', c', X, hi, o, s => by
    unfold straitref15_Split.l1 straitref15_Split.b1
    obtain ⟨⟨u, v, w⟩, hx⟩ := get_lt (l := l) (i := i) (by omega)
    have hwx : fits w := hw _ (List.mem_of_getElem? hx)
    have hw0 : 0 ≤ w := hok.1 _ (List.mem_of_getElem? hx)
    have kl2 := kl.cons (y := (b, c0))
    have vl : valsAt h q (eV l) := kl2.at1 s
    refine iteB_pos (decide_eq_true (by omega)) ?_
    simp -zeta (disch := omega) only [chkP_some, iteB_true, iteB_false, add_mk, Nat.zero_add, Nat.add_zero, Nat.mul_one, Nat.reduceAdd, Int.toNat_natCast, ex_int, ex_slice, ex_ptr, ex_bool, ex_str, ex_flt, ex_any, bnd_in, List.getElem?_cons_zero, List.getElem?_cons_succ, List.set_cons_zero, List.set_cons_succ, List.cons_append, List.nil_append, bne_self_eq_false, beq_self_eq_true, Bool.not_true, Bool.not_false, Option.isNone_some, Option.isNone_none, eq_self, true_and, and_true, and_self, vals_edge2 vl hx]
    have hB : splL (l.take (i + 1)) = splL (l.take i) ++ splE (u, v, w) := by rw [take_snoc hx, splL_app, splL_one]
    have hlen := splL_take_len hok.2 (i + 1)
    refine ⟨(pcs w - 1).toNat + 1, rsplit_l2 (B := splL (l.take (i + 1))) (cl := cl) (c0 := c0) hl hx kl (pcs w - 1).toNat w h (splL (l.take i)) q' c' X hw0 hwx.2 rfl hB.symm (by omega) o s (fun h6 A' q2 c2 X2 w2 o2 hA s6 => ?_)⟩
    have vl : valsAt h6 q (eV l) := kl2.at1 s6
    have v1 : ∀ {G : Int → Prop}, (chkP q fun a' => ∃ y : Int, cell h6 ((a'.add (i * 3)).add 1) = some (.int .i64 y) ∧ G y) = G v := by
      intro G; simp only [addr_add]; exact vals_int vl (eV_get1 hx)
    simp -zeta (disch := omega) only [chkP_some, iteB_true, iteB_false, add_mk, Nat.zero_add, Nat.add_zero, Nat.mul_one, Nat.reduceAdd, Int.toNat_natCast, ex_int, ex_slice, ex_ptr, ex_bool, ex_str, ex_flt, ex_any, bnd_in, List.getElem?_cons_zero, List.getElem?_cons_succ, List.set_cons_zero, List.set_cons_succ, List.cons_append, List.nil_append, bne_self_eq_false, beq_self_eq_true, Bool.not_true, Bool.not_false, Option.isNone_some, Option.isNone_none, eq_self, true_and, and_true, and_self, vals_int vl (eV_get0 hx), v1]
    have hlA : A'.length < 2 ^ 30 := by rw [← hA] at hlen; simp only [List.length_append, List.length_cons] at hlen; omega
    refine Own3.push1 o2 s6 rfl (by omega) fun q3 c3 X3 h7 o3 s7 => ?_
    rw [wrap64 (by omega) (by omega)]
    rw [hA] at o3
    have hl3 : A'.length + 1 = (splL (l.take (i + 1))).length := by rw [← hA]; simp
    rw [hl3]
    exact rsplit_l1 hl hb hw hok kl hk d (i + 1) h7 q3 c3 X3 (by omega) o3 s7
theorem RSplit_of {h : Heap} {k cl : Nat} {q : Option Addr} {l : List Ed} {K : Option Addr → Nat → Nat → Bool → Heap → Prop} (hl : l.length = k) (hb : k < 2 ^ 30) (hw : fitsL l) (kl : Keeps h0 R q (eV l)) (s : St h0 h R)
    (hk0 : ¬ splOk l → ∀ h', St h0 h' R → K none 0 0 false h')
    (hk : splOk l → ∀ h' q c X, Own3 q c (splL l) X → St h0 h' (X ++ R) → K q (splL l).length c true h') : straitref15_Split q k cl h K := by
  unfold straitref15_Split
  refine s.new_ fun b h1 s1 => ⟨k + 1, rsplit_l0 hl hb hw kl (fun no h2 s2 => ?_) (fun h2 ok s2 => ?_) k 0 0 h1 (by omega) (fun e he => by cases he) rfl (by omega) s1⟩
  · try simp -zeta (disch := omega) only [chkP_some, iteB_true, iteB_false, add_mk, Nat.zero_add, Nat.add_zero, Nat.mul_one, Nat.reduceAdd, Int.toNat_natCast, ex_int, ex_slice, ex_ptr, ex_bool, ex_str, ex_flt, ex_any, bnd_in, List.getElem?_cons_zero, List.getElem?_cons_succ, List.set_cons_zero, List.set_cons_succ, List.cons_append, List.nil_append, bne_self_eq_false, beq_self_eq_true, Bool.not_true, Bool.not_false, Option.isNone_some, Option.isNone_none, eq_self, true_and, and_true, and_self, s2.rd0]
    exact hk0 no h2 s2.tail
  · refine ⟨k + 1, rsplit_l1 hl hb hw ok kl (fun h3 q' c' X' o3 s3 => ?_) k 0 h2 none 0 [] (by omega) Own3.nil s2⟩
    refine St.st s3 (by simp) fun h4 s4 => ?_
    try simp -zeta only [chkP_some, iteB_true, iteB_false, add_mk, Nat.zero_add, Nat.add_zero, Nat.mul_one, Nat.reduceAdd, Int.toNat_natCast, ex_int, ex_slice, ex_ptr, ex_bool, ex_str, ex_flt, ex_any, bnd_in, List.getElem?_cons_zero, List.getElem?_cons_succ, List.set_cons_zero, List.set_cons_succ, List.cons_append, List.nil_append, bne_self_eq_false, beq_self_eq_true, Bool.not_true, Bool.not_false, Option.isNone_some, Option.isNone_none, eq_self, true_and, and_true, and_self]
    refine St.st s4 (by simp) fun h5 s5 => ?_
    simp only [List.set_cons_zero, List.set_cons_succ, Nat.zero_add] at s5
    have r0 : ∀ j, cell h5 ⟨b, j, none⟩ = [Value.slice q' (splL l).length c', .bool true][j]? := s5.rd (by simp)
    simp -zeta (disch := omega) only [chkP_some, iteB_true, iteB_false, add_mk, Nat.zero_add, Nat.add_zero, Nat.mul_one, Nat.reduceAdd, Int.toNat_natCast, ex_int, ex_slice, ex_ptr, ex_bool, ex_str, ex_flt, ex_any, bnd_in, List.getElem?_cons_zero, List.getElem?_cons_succ, List.set_cons_zero, List.set_cons_succ, List.cons_append, List.nil_append, bne_self_eq_false, beq_self_eq_true, Bool.not_true, Bool.not_false, Option.isNone_some, Option.isNone_none, eq_self, true_and, and_true, and_self, r0]
    exact hk ok h5 q' c' X' o3 ((St.re s5 (by intro a; simp only [cntR_append, cntR_cons, cntR_nil, List.cons_append, List.nil_append, List.set_cons_zero, List.set_cons_succ]; omega)))

/-! ### One more among those in order -/
def gtK (x e : Ed) : Prop := x.1 > e.1 ∨ (x.1 = e.1 ∧ x.2.1 > e.2.1)
instance (x e : Ed) : Decidable (gtK x e) := by unfold gtK; exact inferInstance
def addD (e : Ed) : Bool → List Ed → Option (List Ed)
  | d, [] => some (if d then [] else [e])
  | d, x :: r => if sameK x e then (if fits (x.2.2 + e.2.2) then (addD e true r).map ((x.1, x.2.1, x.2.2 + e.2.2) :: ·) else none)
    else if d = false ∧ gtK x e then (addD e true r).map (fun t => e :: x :: t) else (addD e d r).map (x :: ·)
theorem addD_cons (e : Ed) (d : Bool) (x : Ed) (r : List Ed) : addD e d (x :: r) = if sameK x e then (if fits (x.2.2 + e.2.2) then (addD e true r).map ((x.1, x.2.1, x.2.2 + e.2.2) :: ·) else none)
    else if d = false ∧ gtK x e then (addD e true r).map (fun t => e :: x :: t) else (addD e d r).map (x :: ·) := rfl

theorem radd_l0 {K0 : Heap → Prop} {K2 : Option Addr → Nat → Nat → Bool → Heap → Prop} {b3 b4 k cl : Nat} {q : Option Addr} {l : List Ed} {eu ev ew : Int} (hl : l.length = k) (hb : k < 2 ^ 30) (hw : fitsL l) (he : fits ew) (kl : Keeps h0 R q (eV l))
    (hk0 : addD (eu, ev, ew) false l = none → ∀ h' X, St h0 h' (X ++ (b4, [.slice none 0 0, .bool false]) :: R) → K0 h')
    (hk2 : ∀ h' q' c' X A dn, addD (eu, ev, ew) false l = some (if dn then A else A ++ [(eu, ev, ew)]) → A.length < 2 ^ 31 → Own3 q' c' A X → St h0 h' (X ++ (b4, [.slice none 0 0, .bool false]) :: (b3, [.int .i64 eu, .int .i64 ev, .int .i64 ew]) :: R) → K2 q' A.length c' dn h') :
    ∀ (d i : Nat) (h : Heap) (A : List Ed) (q' : Option Addr) (c' : Nat) (X : Rws) (dn : Bool), i + d = k → A.length ≤ 2 * i → (addD (eu, ev, ew) dn (l.drop i)).map (A ++ ·) = addD (eu, ev, ew) false l → Own3 q' c' A X → St h0 h (X ++ (b4, [.slice none 0 0, .bool false]) :: (b3, [.int .i64 eu, .int .i64 ev, .int .i64 ew]) :: R) →
      straitref15_add.l0 K0 K2 (d + 1) q k cl ⟨b3, 0, none⟩ ⟨b4, 0, none⟩ q' A.length c' dn (i : Int) h
  | 0, i, h, A, q', c', X, dn, hi, hA, hD, o, s => by
    unfold straitref15_add.l0 straitref15_add.b0
    rw [List.drop_of_length_le (by omega)] at hD
    refine iteB_neg (decide_eq_false (by omega)) (hk2 h q' c' X A dn ?_ (by omega) o s)
    rw [← hD]
    cases dn <;> simp [addD]
  | d + 1, i, h, A, q', c', X, dn, hi, hA, hD, o, s => by
    unfold straitref15_add.l0 straitref15_add.b0
    obtain ⟨⟨u, v, w⟩, hx⟩ := get_lt (l := l) (i := i) (by omega)
    have hwx : fits w := hw _ (List.mem_of_getElem? hx)
    have vl : valsAt h q (eV l) := ((kl.cons (y := (b3, _))).cons (y := (b4, _))).at1 s
    rw [drop_cons hx, addD_cons] at hD
    refine iteB_pos (decide_eq_true (by omega)) ?_
    simp -zeta (disch := omega) only [chkP_some, Int.toNat_natCast, bnd_in, vals_edge vl hx]
    refine s.new_ fun b1 h1 s1 => ?_
    simp -zeta only [add_mk, Nat.zero_add]
    refine s1.st0 (by simp) fun h2 s2 => s2.st0 (by simp) fun h3 s3 => s3.st0 (by simp) fun h4 s4 => ?_
    have s4 : St h0 h4 (X ++ (b1, [.int .i64 u, .int .i64 v, .int .i64 w]) :: (b4, [.slice none 0 0, .bool false]) :: (b3, [.int .i64 eu, .int .i64 ev, .int .i64 ew]) :: R) := s4.perm List.perm_middle.symm
    have rx : ∀ j, cell h4 ⟨b1, j, none⟩ = [Value.int .i64 u, .int .i64 v, .int .i64 w][j]? := s4.rd (by simp)
    have re : ∀ j, cell h4 ⟨b3, j, none⟩ = [Value.int .i64 eu, .int .i64 ev, .int .i64 ew][j]? := s4.rd (by simp)
    intro j
    have J : ∀ (h5 : Heap) (A2 : List Ed) (q2 : Option Addr) (c2 : Nat) (Y : Rws) (dn2 : Bool) (w2 : Int), A2.length ≤ 2 * i + 1 → Own3 q2 c2 A2 Y → St h0 h5 (Y ++ (b1, [.int .i64 u, .int .i64 v, .int .i64 w2]) :: (b4, [.slice none 0 0, .bool false]) :: (b3, [.int .i64 eu, .int .i64 ev, .int .i64 ew]) :: R) →
        (addD (eu, ev, ew) dn2 (l.drop (i + 1))).map (fun t => A2 ++ (u, v, w2) :: t) = addD (eu, ev, ew) false l → j q2 A2.length c2 dn2 h5 := fun h5 A2 q2 c2 Y dn2 w2 hA2 o2 s5 hD2 => by
      simp -zeta only [j]
      have rx : ∀ j, cell h5 ⟨b1, j, none⟩ = [Value.int .i64 u, .int .i64 v, .int .i64 w2][j]? := s5.rd (by simp)
      simp -zeta (disch := omega) only [chkP_some, iteB_true, iteB_false, add_mk, Nat.zero_add, Nat.add_zero, Nat.mul_one, Nat.reduceAdd, Int.toNat_natCast, ex_int, ex_slice, ex_ptr, ex_bool, ex_str, ex_flt, ex_any, bnd_in, List.getElem?_cons_zero, List.getElem?_cons_succ, List.set_cons_zero, List.set_cons_succ, List.cons_append, List.nil_append, bne_self_eq_false, beq_self_eq_true, Bool.not_true, Bool.not_false, Option.isNone_some, Option.isNone_none, eq_self, true_and, and_true, and_self, rx]
      refine Own3.push1 o2 s5 rfl (by omega) fun q3 c3 X3 h6 o3 s6 => ?_
      rw [wrap64 (by omega) (by omega)]
      have := radd_l0 (cl := cl) hl hb hw he kl hk0 hk2 d (i + 1) h6 (A2 ++ [(u, v, w2)]) q3 c3 X3 dn2 (by omega) (by simp; omega) (by rw [← hD2]; congr 1; funext t; simp) o3 ((St.re s6 (by intro a; simp only [cntR_append, cntR_cons, cntR_nil, List.cons_append, List.nil_append, List.set_cons_zero, List.set_cons_succ]; omega)))
      simpa using this
    clear_value j
    intro j2
    have J2t : u = eu → v = ev → j2 true := fun e1 e2 => by
      subst e1 e2
      rw [if_pos ⟨rfl, rfl⟩] at hD
      simp only at hD
      simp -zeta only [j2]
      simp -zeta (disch := omega) only [chkP_some, iteB_true, iteB_false, add_mk, Nat.zero_add, Nat.add_zero, Nat.mul_one, Nat.reduceAdd, Int.toNat_natCast, ex_int, ex_slice, ex_ptr, ex_bool, ex_str, ex_flt, ex_any, bnd_in, List.getElem?_cons_zero, List.getElem?_cons_succ, List.set_cons_zero, List.set_cons_succ, List.cons_append, List.nil_append, bne_self_eq_false, beq_self_eq_true, Bool.not_true, Bool.not_false, Option.isNone_some, Option.isNone_none, eq_self, true_and, and_true, and_self, rx, re]
      refine callP2.self (ref_Add_of hwx he s4 fun h5 s5 => s5.new_ fun b5 h6 s6 => ?_)
      simp -zeta only [chkP_some, iteB_true, iteB_false, add_mk, Nat.zero_add, Nat.add_zero, Nat.mul_one, Nat.reduceAdd, Int.toNat_natCast, ex_int, ex_slice, ex_ptr, ex_bool, ex_str, ex_flt, ex_any, bnd_in, List.getElem?_cons_zero, List.getElem?_cons_succ, List.set_cons_zero, List.set_cons_succ, List.cons_append, List.nil_append, bne_self_eq_false, beq_self_eq_true, Bool.not_true, Bool.not_false, Option.isNone_some, Option.isNone_none, eq_self, true_and, and_true, and_self]
      refine s6.st0 (by simp) fun h7 s7 => s7.st0 (by simp) fun h8 s8 => ?_
      simp -zeta (disch := omega) only [chkP_some, iteB_true, iteB_false, add_mk, Nat.zero_add, Nat.add_zero, Nat.mul_one, Nat.reduceAdd, Int.toNat_natCast, ex_int, ex_slice, ex_ptr, ex_bool, ex_str, ex_flt, ex_any, bnd_in, List.getElem?_cons_zero, List.getElem?_cons_succ, List.set_cons_zero, List.set_cons_succ, List.cons_append, List.nil_append, bne_self_eq_false, beq_self_eq_true, Bool.not_true, Bool.not_false, Option.isNone_some, Option.isNone_none, eq_self, true_and, and_true, and_self, s8.rd0]
      unfold addR at s8 ⊢
      by_cases hf : fits (w + ew)
      · rw [if_pos hf] at hD s8 ⊢
        simp -zeta (disch := omega) only [chkP_some, iteB_true, iteB_false, add_mk, Nat.zero_add, Nat.add_zero, Nat.mul_one, Nat.reduceAdd, Int.toNat_natCast, ex_int, ex_slice, ex_ptr, ex_bool, ex_str, ex_flt, ex_any, bnd_in, List.getElem?_cons_zero, List.getElem?_cons_succ, List.set_cons_zero, List.set_cons_succ, List.cons_append, List.nil_append, bne_self_eq_false, beq_self_eq_true, Bool.not_true, Bool.not_false, Option.isNone_some, Option.isNone_none, eq_self, true_and, and_true, and_self]
        have s8 := s8.tail
        refine St.st s8 (by simp) fun h9 s9 => ?_
        refine J h9 A q' c' X true (w + ew) (by omega) o s9 ?_
        rw [← hD, Option.map_map]; rfl
      · rw [if_neg hf] at hD s8 ⊢
        simp -zeta (disch := omega) only [chkP_some, iteB_true, iteB_false, add_mk, Nat.zero_add, Nat.add_zero, Nat.mul_one, Nat.reduceAdd, Int.toNat_natCast, ex_int, ex_slice, ex_ptr, ex_bool, ex_str, ex_flt, ex_any, bnd_in, List.getElem?_cons_zero, List.getElem?_cons_succ, List.set_cons_zero, List.set_cons_succ, List.cons_append, List.nil_append, bne_self_eq_false, beq_self_eq_true, Bool.not_true, Bool.not_false, Option.isNone_some, Option.isNone_none, eq_self, true_and, and_true, and_self]
        have s8 := s8.tail
        have s8 : St h0 h8 ((X ++ [(b1, [.int .i64 u, .int .i64 v, .int .i64 w])]) ++ (b4, [.slice none 0 0, .bool false]) :: (b3, [.int .i64 u, .int .i64 v, .int .i64 ew]) :: R) := by simpa using s8
        refine St.st s8 (by simp) fun h9 s9 => ?_
        try simp -zeta only [chkP_some, iteB_true, iteB_false, add_mk, Nat.zero_add, Nat.add_zero, Nat.mul_one, Nat.reduceAdd, Int.toNat_natCast, ex_int, ex_slice, ex_ptr, ex_bool, ex_str, ex_flt, ex_any, bnd_in, List.getElem?_cons_zero, List.getElem?_cons_succ, List.set_cons_zero, List.set_cons_succ, List.cons_append, List.nil_append, bne_self_eq_false, beq_self_eq_true, Bool.not_true, Bool.not_false, Option.isNone_some, Option.isNone_none, eq_self, true_and, and_true, and_self]
        refine St.st s9 (by simp) fun h10 s10 => ?_
        refine hk0 ?_ h10 (X ++ [(b1, [.int .i64 u, .int .i64 v, .int .i64 w])]) ((St.re s10 (by intro a; simp only [cntR_append, cntR_cons, cntR_nil, List.cons_append, List.nil_append, List.set_cons_zero, List.set_cons_succ]; omega)))
        rw [← hD]; rfl
    have J2f : ¬ (u = eu ∧ v = ev) → j2 false := fun ne => by
      rw [if_neg (show ¬ sameK (u, v, w) (eu, ev, ew) from ne)] at hD
      simp -zeta only [j2]
      refine iteB_neg rfl ?_
      intro j3
      have J3t : dn = false → gtK (u, v, w) (eu, ev, ew) → j3 true := fun e1 e2 => by
        rw [if_pos ⟨e1, e2⟩] at hD
        simp -zeta only [j3]
        simp -zeta (disch := omega) only [chkP_some, iteB_true, iteB_false, add_mk, Nat.zero_add, Nat.add_zero, Nat.mul_one, Nat.reduceAdd, Int.toNat_natCast, ex_int, ex_slice, ex_ptr, ex_bool, ex_str, ex_flt, ex_any, bnd_in, List.getElem?_cons_zero, List.getElem?_cons_succ, List.set_cons_zero, List.set_cons_succ, List.cons_append, List.nil_append, bne_self_eq_false, beq_self_eq_true, Bool.not_true, Bool.not_false, Option.isNone_some, Option.isNone_none, eq_self, true_and, and_true, and_self, re]
        refine Own3.push1 o s4 rfl (by omega) fun q3 c3 X3 h6 o3 s6 => ?_
        have := J h6 (A ++ [(eu, ev, ew)]) q3 c3 X3 true w (by simp; omega) o3 s6 (by
          rw [← hD, Option.map_map]; congr 1; funext t; simp)
        simpa using this
      have J3f : ¬ (dn = false ∧ gtK (u, v, w) (eu, ev, ew)) → j3 false := fun e1 => by
        rw [if_neg e1] at hD
        simp -zeta only [j3]
        refine iteB_neg rfl (J h4 A q' c' X dn w (by omega) o s4 ?_)
        rw [← hD, Option.map_map]; rfl
      clear_value j3
      unfold gtK at J3t J3f
      simp only at J3t J3f
      refine iteB_intro (fun c => ?_) (fun c => J3f (fun h => by rw [h.1] at c; cases c))
      have c : dn = false := by simpa using c
      simp -zeta (disch := omega) only [chkP_some, iteB_true, iteB_false, add_mk, Nat.zero_add, Nat.add_zero, Nat.mul_one, Nat.reduceAdd, Int.toNat_natCast, ex_int, ex_slice, ex_ptr, ex_bool, ex_str, ex_flt, ex_any, bnd_in, List.getElem?_cons_zero, List.getElem?_cons_succ, List.set_cons_zero, List.set_cons_succ, List.cons_append, List.nil_append, bne_self_eq_false, beq_self_eq_true, Bool.not_true, Bool.not_false, Option.isNone_some, Option.isNone_none, eq_self, true_and, and_true, and_self, rx, re]
      refine iteB_intro (fun c1 => J3t c (.inl (of_decide_eq_true c1))) (fun c1 => ?_)
      have c1 := of_decide_eq_false c1
      refine iteB_intro (fun c2 => ?_) (fun c2 => J3f ?_)
      · have c2 : u = eu := by simpa using c2
        by_cases c3 : v > ev
        · rw [decide_eq_true c3]; exact J3t c (.inr ⟨c2, c3⟩)
        · rw [decide_eq_false c3]; exact J3f (fun h => by omega)
      · have c2 : ¬ u = eu := by simpa using c2
        rintro ⟨_, h⟩; omega
    clear_value j2
    simp -zeta (disch := omega) only [chkP_some, iteB_true, iteB_false, add_mk, Nat.zero_add, Nat.add_zero, Nat.mul_one, Nat.reduceAdd, Int.toNat_natCast, ex_int, ex_slice, ex_ptr, ex_bool, ex_str, ex_flt, ex_any, bnd_in, List.getElem?_cons_zero, List.getElem?_cons_succ, List.set_cons_zero, List.set_cons_succ, List.cons_append, List.nil_append, bne_self_eq_false, beq_self_eq_true, Bool.not_true, Bool.not_false, Option.isNone_some, Option.isNone_none, eq_self, true_and, and_true, and_self, rx, re]
    refine iteB_intro (fun c => ?_) (fun c => J2f (fun h => by rw [h.1] at c; simp at c))
    have c : u = eu := by simpa using c
    by_cases c2 : v = ev
    · rw [show (v == ev) = true by simpa using c2]; exact J2t c c2
    · rw [show (v == ev) = false by simpa using c2]; exact J2f (fun h => c2 h.2)
theorem RAdd_of {h : Heap} {k cl : Nat} {q : Option Addr} {l : List Ed} {e : Ed} {K : Option Addr → Nat → Nat → Bool → Heap → Prop} (hl : l.length = k) (hb : k < 2 ^ 30) (hw : fitsL l) (he : fits e.2.2) (kl : Keeps h0 R q (eV l)) (s : St h0 h R)
    (hk0 : addD e false l = none → ∀ h', St h0 h' R → K none 0 0 false h')
    (hk : ∀ S, addD e false l = some S → ∀ h' q c X, Own3 q c S X → St h0 h' (X ++ R) → K q S.length c true h') : straitref15_add q k cl e.1 e.2.1 e.2.2 h K := by
  obtain ⟨eu, ev, ew⟩ := e
  unfold straitref15_add
  refine s.new_ fun b3 h1 s1 => s1.new_ fun b4 h2 s2 => ⟨k + 1, radd_l0 (eu := eu) (ev := ev) (ew := ew) hl hb hw he kl (fun no h3 X s3 => ?_) (fun h3 q' c' X A dn hD hAl o s3 => ?_) k 0 h2 [] none 0 [] false (by omega) (by simp) (by simp) Own3.nil s2⟩
  · have r0 : ∀ j, cell h3 ⟨b4, j, none⟩ = [Value.slice none 0 0, .bool false][j]? := s3.rd (by simp)
    simp -zeta (disch := omega) only [chkP_some, iteB_true, iteB_false, add_mk, Nat.zero_add, Nat.add_zero, Nat.mul_one, Nat.reduceAdd, Int.toNat_natCast, ex_int, ex_slice, ex_ptr, ex_bool, ex_str, ex_flt, ex_any, bnd_in, List.getElem?_cons_zero, List.getElem?_cons_succ, List.set_cons_zero, List.set_cons_succ, List.cons_append, List.nil_append, bne_self_eq_false, beq_self_eq_true, Bool.not_true, Bool.not_false, Option.isNone_some, Option.isNone_none, eq_self, true_and, and_true, and_self, r0]
    exact hk0 no h3 s3.drop.tail
  · have fin : ∀ (h4 : Heap) (S : List Ed) (q2 : Option Addr) (c2 : Nat) (Y : Rws), addD (eu, ev, ew) false l = some S → Own3 q2 c2 S Y → St h0 h4 (Y ++ (b4, [.slice none 0 0, .bool false]) :: (b3, [.int .i64 eu, .int .i64 ev, .int .i64 ew]) :: R) →
        (stC h4 ⟨b4, 0, none⟩ (.slice q2 S.length c2) fun h32 => stC h32 ((⟨b4, 0, none⟩ : Addr).add 1) (.bool true) fun h33 => (∃ (x34 : Option Addr) (x34l : Nat) (x34c : Nat), cell h33 ⟨b4, 0, none⟩ = some (.slice x34 x34l x34c) ∧ ∃ (x35 : Bool), cell h33 ((⟨b4, 0, none⟩ : Addr).add 1) = some (.bool x35) ∧ K x34 x34l x34c x35 h33)) := fun h4 S q2 c2 Y hS o2 s4 => by
      refine St.st s4 (by simp) fun h5 s5 => ?_
      try simp -zeta only [chkP_some, iteB_true, iteB_false, add_mk, Nat.zero_add, Nat.add_zero, Nat.mul_one, Nat.reduceAdd, Int.toNat_natCast, ex_int, ex_slice, ex_ptr, ex_bool, ex_str, ex_flt, ex_any, bnd_in, List.getElem?_cons_zero, List.getElem?_cons_succ, List.set_cons_zero, List.set_cons_succ, List.cons_append, List.nil_append, bne_self_eq_false, beq_self_eq_true, Bool.not_true, Bool.not_false, Option.isNone_some, Option.isNone_none, eq_self, true_and, and_true, and_self]
      refine St.st s5 (by simp) fun h6 s6 => ?_
      simp only [List.set_cons_zero, List.set_cons_succ, Nat.zero_add] at s6
      have r0 : ∀ j, cell h6 ⟨b4, j, none⟩ = [Value.slice q2 S.length c2, .bool true][j]? := s6.rd (by simp)
      simp -zeta (disch := omega) only [chkP_some, iteB_true, iteB_false, add_mk, Nat.zero_add, Nat.add_zero, Nat.mul_one, Nat.reduceAdd, Int.toNat_natCast, ex_int, ex_slice, ex_ptr, ex_bool, ex_str, ex_flt, ex_any, bnd_in, List.getElem?_cons_zero, List.getElem?_cons_succ, List.set_cons_zero, List.set_cons_succ, List.cons_append, List.nil_append, bne_self_eq_false, beq_self_eq_true, Bool.not_true, Bool.not_false, Option.isNone_some, Option.isNone_none, eq_self, true_and, and_true, and_self, r0]
      exact hk S hS h6 q2 c2 Y o2 ((St.re s6 (by intro a; simp only [cntR_append, cntR_cons, cntR_nil, List.cons_append, List.nil_append, List.set_cons_zero, List.set_cons_succ]; omega)))
    cases dn with
    | true => exact iteB_neg rfl (fin h3 A q' c' X hD o s3)
    | false =>
      refine iteB_pos rfl ?_
      have re : ∀ j, cell h3 ⟨b3, j, none⟩ = [Value.int .i64 eu, .int .i64 ev, .int .i64 ew][j]? := s3.rd (by simp)
      simp -zeta (disch := omega) only [chkP_some, add_mk, Nat.zero_add, re, ex_int, List.getElem?_cons_zero, List.getElem?_cons_succ]
      refine Own3.push1 o s3 rfl (by omega) fun q3 c3 X3 h6 o3 s6 => ?_
      have := fin h6 _ q3 c3 X3 hD o3 s6
      simpa using this
end
end Go.Proofs.Ytapjbmfgmnhpdaa
