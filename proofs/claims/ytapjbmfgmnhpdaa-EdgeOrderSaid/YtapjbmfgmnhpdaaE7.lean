/-
  Edges split: the program's, and the document's.
-/
import Derived.Test.YtapjbmfgmnhpdaaE6
namespace Go.Proofs.Ytapjbmfgmnhpdaa
set_option linter.unusedVariables false
set_option linter.unusedSimpArgs false
set_option linter.unnecessarySimpa false
open Go.Hp Go.RowKit
attribute [local irreducible] Go.Hp.iteB Go.Hp.stC Go.Hp.newP

/-- How many pieces a weight comes to. -/
def pcs (w : Int) : Int := if w ≤ 2147483648 then 1 else (w - 1) / 2147483648 + 1
theorem pcs_pos (w : Int) : 1 ≤ pcs w := by unfold pcs; split <;> omega
theorem pcs_le {w : Int} (h : w ≤ 9223372036854775807) : pcs w ≤ 4294967296 := by unfold pcs; split <;> omega
theorem pcs_one {w : Int} (h : w ≤ 2147483648) : pcs w = 1 := if_pos h
theorem pcs_more {w : Int} (h : ¬ w ≤ 2147483648) : pcs w = pcs (w - 2147483648) + 1 := by
  unfold pcs; rw [if_neg h]; split <;> omega
def big : Int := 2147483648
/-- What is cut off, and what is left. -/
def splE (e : Ed) : List Ed := List.replicate (pcs e.2.2 - 1).toNat (e.1, e.2.1, big) ++ [(e.1, e.2.1, e.2.2 - (pcs e.2.2 - 1) * big)]
theorem splE_len (e : Ed) : ((splE e).length : Int) = pcs e.2.2 := by
  have := pcs_pos e.2.2
  simp only [splE, List.length_append, List.length_replicate, List.length_cons, List.length_nil]; omega
theorem splE_one {e : Ed} (h : e.2.2 ≤ 2147483648) : splE e = [e] := by unfold splE; rw [pcs_one h]; simp
theorem splE_more {u v w : Int} (h : ¬ w ≤ 2147483648) : splE (u, v, w) = (u, v, big) :: splE (u, v, w - 2147483648) := by
  have h1 := pcs_pos (w - 2147483648)
  unfold splE
  simp only
  rw [pcs_more h, show (pcs (w - 2147483648) + 1 - 1).toNat = (pcs (w - 2147483648) - 1).toNat + 1 by omega, List.replicate_succ, List.cons_append]
  have e : w - (pcs (w - 2147483648) + 1 - 1) * big = w - 2147483648 - (pcs (w - 2147483648) - 1) * big := by unfold big; omega
  rw [e]
def splL (l : List Ed) : List Ed := l.flatMap splE
def pcsL (l : List Ed) : List Int := l.map fun e => pcs e.2.2
theorem splL_len : ∀ l : List Ed, ((splL l).length : Int) = (pcsL l).sum
  | [] => rfl
  | e :: l => by
    have := splL_len l
    have h := splE_len e
    simp only [splL, pcsL, List.flatMap_cons, List.length_append, List.map_cons, List.sum_cons] at *
    omega
theorem splL_app (l m : List Ed) : splL (l ++ m) = splL l ++ splL m := by simp [splL]
theorem splL_one (e : Ed) : splL [e] = splE e := by simp [splL]
/-- Can they be split at all? -/
def splOk (l : List Ed) : Prop := (∀ e ∈ l, 0 ≤ e.2.2) ∧ (pcsL l).sum ≤ 1048576
theorem pcsL_nonneg (l : List Ed) : ∀ x ∈ pcsL l, 0 ≤ x := fun x hx => by
  obtain ⟨e, _, rfl⟩ := List.mem_map.1 hx
  have := pcs_pos e.2.2; omega
theorem pcsL_sum (l : List Ed) : 0 ≤ (pcsL l).sum := sum_nonneg _ (pcsL_nonneg l)
theorem pcsL_app (l m : List Ed) : (pcsL (l ++ m)).sum = (pcsL l).sum + (pcsL m).sum := by simp [pcsL]
theorem pcsL_take (l : List Ed) (i : Nat) : (pcsL (l.take i)).sum ≤ (pcsL l).sum := by
  have h := pcsL_app (l.take i) (l.drop i)
  rw [List.take_append_drop] at h
  have := pcsL_sum (l.drop i); omega
theorem splL_take_len {l : List Ed} (h : (pcsL l).sum ≤ 1048576) (i : Nat) : (splL (l.take i)).length ≤ 1048576 := by
  have h1 := splL_len (l.take i)
  have h2 := pcsL_take l i
  omega
theorem pcsL_bound : ∀ (l : List Ed), fitsL l → (pcsL l).sum ≤ 4294967296 * (l.length : Int)
  | [], _ => by simp [pcsL]
  | e :: l, h => by
    have h1 := pcsL_bound l fun x hx => h x (by simp [hx])
    have h2 := h e (by simp)
    unfold fits at h2
    have h3 := pcs_le h2.2
    simp only [pcsL, List.map_cons, List.sum_cons, List.length_cons] at *
    omega
theorem pcsL_exact {l : List Ed} (hf : fitsL l) (hl : l.length < 2 ^ 30) : sumR (pcsL l) = ((pcsL l).sum, true) := by
  have := pcsL_bound l hf
  unfold sumR
  rw [sumR_exact (by omega) (pcsL_nonneg l) (by omega)]
  congr 1; omega

section
variable {h0 : Base} {R : Rws}
theorem pieces_of {h : Heap} {e : Ed} {K : Int → Heap → Prop} (hf : fits e.2.2) (hn : 0 ≤ e.2.2) (s : St h0 h R) (hk : ∀ h', St h0 h' R → K (pcs e.2.2) h') : edge_pieces e.1 e.2.1 e.2.2 h K := by
  obtain ⟨u, v, w⟩ := e
  unfold edge_pieces
  refine s.new_ fun b h1 s1 => ?_
  try simp -zeta (disch := omega) only [chkP_some, iteB_true, iteB_false, add_mk, Nat.zero_add, Nat.add_zero, Nat.mul_one, Nat.reduceAdd, Int.toNat_natCast, ex_int, ex_slice, ex_ptr, ex_bool, ex_str, ex_flt, ex_any, bnd_in, List.getElem?_cons_zero, List.getElem?_cons_succ, List.set_cons_zero, List.set_cons_succ, List.cons_append, List.nil_append, bne_self_eq_false, beq_self_eq_true, Bool.not_true, Bool.not_false, Option.isNone_some, Option.isNone_none, eq_self, true_and, and_true, and_self, s1.rd0]
  refine ⟨by decide, ?_⟩
  have hk := hk h1 s1.tail
  simp only at hf hn hk
  unfold fits at hf
  rw [wrap64 (x := w - 1) (by omega) (by omega)]
  have e1 : pcs w = max ((w - 1).tdiv 2147483648 + 1) 1 := by
    unfold pcs
    by_cases c : w = 0
    · subst c; rfl
    · rw [Int.tdiv_eq_ediv_of_nonneg (by omega)]; split <;> omega
  have e2 : (w - 1).tdiv 2147483648 ≤ 4294967296 ∧ -1 ≤ (w - 1).tdiv 2147483648 := by
    by_cases c : w = 0
    · subst c; decide
    · rw [Int.tdiv_eq_ediv_of_nonneg (by omega)]; omega
  refine bindV_intro fun n hn' => ?_
  rw [wrap64 (by omega) (by omega)] at hn'
  subst hn'
  rw [wrap64 (by omega) (by omega)]
  refine bindV_intro fun m hm => ?_
  rw [hm]
  have e3 : (if (w - 1).tdiv 2147483648 + 1 > 1 then (w - 1).tdiv 2147483648 + 1 else 1) = pcs w := by rw [e1]; split <;> omega
  rw [e3]; exact hk

theorem split_l0 {K0 : Option Addr → Nat → Nat → Bool → Heap → Prop} {K2 : Heap → Prop} {b k cl c0 : Nat} {q q0 : Option Addr} {k0 : Nat} {l : List Ed} (hl : l.length = k) (hb : k < 2 ^ 30) (hw : fitsL l) (kl : Keeps h0 R q (eV l))
    (hk0 : ¬ splOk l → ∀ h', St h0 h' R → K0 none 0 0 false h') (hk2 : ∀ h', (∀ e ∈ l, 0 ≤ e.2.2) → St h0 h' ((b, accV ((pcsL l).sum, true)) :: R) → K2 h') :
    ∀ (d i : Nat) (h : Heap), i + d = k → (∀ e ∈ l.take i, 0 ≤ e.2.2) → St h0 h ((b, accV (sumR (pcsL (l.take i)))) :: R) → edge_Split.l0 K0 K2 (d + 1) q0 k0 c0 ⟨b, 0, none⟩ q k cl (k : Int) (i : Int) h
  | 0, i, h, hi, hnn, s => by
    unfold edge_Split.l0 edge_Split.b0
    rw [List.take_of_length_le (by omega)] at s hnn
    rw [pcsL_exact hw (by omega)] at s
    exact iteB_neg (decide_eq_false (by omega)) (hk2 h hnn s)
  | d + 1, i, h, hi, hnn, s => by
    unfold edge_Split.l0 edge_Split.b0
    obtain ⟨⟨u, v, w⟩, hx⟩ := get_lt (l := l) (i := i) (by omega)
    have hwx : fits w := hw _ (List.mem_of_getElem? hx)
    have vl := kl.atC s
    refine iteB_pos (decide_eq_true (by omega)) ?_
    simp -zeta (disch := omega) only [chkP_some, iteB_true, iteB_false, add_mk, Nat.zero_add, Nat.add_zero, Nat.mul_one, Nat.reduceAdd, Int.toNat_natCast, ex_int, ex_slice, ex_ptr, ex_bool, ex_str, ex_flt, ex_any, bnd_in, List.getElem?_cons_zero, List.getElem?_cons_succ, List.set_cons_zero, List.set_cons_succ, List.cons_append, List.nil_append, bne_self_eq_false, beq_self_eq_true, Bool.not_true, Bool.not_false, Option.isNone_some, Option.isNone_none, eq_self, true_and, and_true, and_self, vals_edge vl hx]
    refine s.new_ fun b1 h1 s1 => s1.st0 (by simp) fun h2 s2 => s2.st0 (by simp) fun h3 s3 => s3.st0 (by simp) fun h4 s4 => ?_
    try simp -zeta (disch := omega) only [chkP_some, iteB_true, iteB_false, add_mk, Nat.zero_add, Nat.add_zero, Nat.mul_one, Nat.reduceAdd, Int.toNat_natCast, ex_int, ex_slice, ex_ptr, ex_bool, ex_str, ex_flt, ex_any, bnd_in, List.getElem?_cons_zero, List.getElem?_cons_succ, List.set_cons_zero, List.set_cons_succ, List.cons_append, List.nil_append, bne_self_eq_false, beq_self_eq_true, Bool.not_true, Bool.not_false, Option.isNone_some, Option.isNone_none, eq_self, true_and, and_true, and_self, s4.rd0]
    refine iteB_intro (fun c => hk0 (fun ok => ?_) h4 s4.tail.tail) (fun c => ?_)
    · have c := of_decide_eq_true c
      have := ok.1 _ (List.mem_of_getElem? hx)
      simp only at this; omega
    have c := of_decide_eq_false c
    refine callP1.self (pieces_of (e := (u, v, w)) hwx (by simp only; omega) s4 fun h5 s5 => ?_)
    have hp : fits (pcs w) := by
      have h1 := pcs_pos w
      unfold fits at hwx ⊢
      have h2 := pcs_le hwx.2
      omega
    refine callP1.self (Put_of (sumR_fits _) hp s5.pull1 fun r h6 s6 => ?_)
    rw [wrap64 (by omega) (by omega)]
    refine split_l0 hl hb hw kl hk0 hk2 d (i + 1) h6 (by omega) (fun e he => ?_) ?_
    · rw [take_snoc hx] at he
      rcases List.mem_append.1 he with he | he
      · exact hnn e he
      · simp only [List.mem_singleton] at he; subst he; simp only; omega
    · rw [take_snoc hx, show pcsL (l.take i ++ [(u, v, w)]) = pcsL (l.take i) ++ [pcs w] by simp [pcsL], sumR_snoc]
      exact s6.pull1.tail

/-- Pieces cut off. -/
theorem split_l2 {K6 : Option Addr → Nat → Nat → Heap → Prop} {b cl k : Nat} {q : Option Addr} {x y : Int} {u v : Int} {B : List Ed} :
    ∀ (d i : Nat) (w : Int) (h : Heap) (A : List Ed) (q' : Option Addr) (c' : Nat) (X : Rws), 0 ≤ w → w ≤ 9223372036854775807 → (pcs w - 1).toNat = d → A ++ splE (u, v, w) = B → B.length < 2 ^ 30 → i + d < 2 ^ 40 → Own3 q' c' A X → St h0 h (X ++ (b, [.int .i64 u, .int .i64 v, .int .i64 w]) :: R) →
    (∀ h' A' q2 c2 X2 w2, Own3 q2 c2 A' X2 → A' ++ [(u, v, w2)] = B → St h0 h' (X2 ++ (b, [.int .i64 u, .int .i64 v, .int .i64 w2]) :: R) → K6 q2 A'.length c2 h') →
      edge_Split.l2 K6 (d + 1) q' A.length c' ⟨b, 0, none⟩ q k cl x y ((i + d : Nat) : Int) (i : Int) h
  | 0, i, w, h, A, q', c', X, h1, h2, hd, hB, hlen, hi, o, s, hk => by
    unfold edge_Split.l2 edge_Split.b2
    refine iteB_neg (decide_eq_false (by omega)) (hk h A q' c' X w o ?_ s)
    rw [← hB]
    have : ¬ ¬ w ≤ 2147483648 := fun hc => by
      have h3 := pcs_more hc
      have := pcs_pos (w - 2147483648)
      omega
    rw [splE_one (by simp only; omega)]
  | d + 1, i, w, h, A, q', c', X, h1, h2, hd, hB, hlen, hi, o, s, hk => by
    unfold edge_Split.l2 edge_Split.b2
    refine iteB_pos (decide_eq_true (by omega)) ?_
    have hw : ¬ w ≤ 2147483648 := fun hc => by rw [pcs_one hc] at hd; omega
    have hmore := pcs_more hw
    rw [splE_more hw] at hB
    have r0 : ∀ j, cell h ⟨b, j, none⟩ = [Value.int .i64 u, .int .i64 v, .int .i64 w][j]? := s.rd (by simp)
    simp -zeta (disch := omega) only [chkP_some, iteB_true, iteB_false, add_mk, Nat.zero_add, Nat.add_zero, Nat.mul_one, Nat.reduceAdd, Int.toNat_natCast, ex_int, ex_slice, ex_ptr, ex_bool, ex_str, ex_flt, ex_any, bnd_in, List.getElem?_cons_zero, List.getElem?_cons_succ, List.set_cons_zero, List.set_cons_succ, List.cons_append, List.nil_append, bne_self_eq_false, beq_self_eq_true, Bool.not_true, Bool.not_false, Option.isNone_some, Option.isNone_none, eq_self, true_and, and_true, and_self, r0]
    have hlA : A.length < 2 ^ 30 := by rw [← hB] at hlen; simp only [List.length_append, List.length_cons] at hlen; omega
    refine Own3.push1 o s rfl (by omega) fun q2 c2 X2 h3 o2 s3 => ?_
    have r1 : ∀ j, cell h3 ⟨b, j, none⟩ = [Value.int .i64 u, .int .i64 v, .int .i64 w][j]? := s3.rd (by simp)
    simp -zeta (disch := omega) only [chkP_some, iteB_true, iteB_false, add_mk, Nat.zero_add, Nat.add_zero, Nat.mul_one, Nat.reduceAdd, Int.toNat_natCast, ex_int, ex_slice, ex_ptr, ex_bool, ex_str, ex_flt, ex_any, bnd_in, List.getElem?_cons_zero, List.getElem?_cons_succ, List.set_cons_zero, List.set_cons_succ, List.cons_append, List.nil_append, bne_self_eq_false, beq_self_eq_true, Bool.not_true, Bool.not_false, Option.isNone_some, Option.isNone_none, eq_self, true_and, and_true, and_self, r1]
    refine s3.st (by simp) fun h4 s4 => ?_
    rw [wrap64 (by omega) (by omega)] at s4 ⊢
    have := split_l2 (K6 := K6) (B := B) (q := q) (k := k) (cl := cl) (x := x) (y := y) d (i + 1) (w - 2147483648) h4 (A ++ [(u, v, big)]) q2 c2 X2 (by omega) (by omega) (by omega) (by rw [← hB]; simp) hlen (by omega) o2 s4 hk
    simpa [Nat.add_assoc, Nat.add_comm 1 d] using this

theorem split_l1 {K4 : Option Addr → Nat → Nat → Heap → Prop} {k cl : Nat} {q : Option Addr} {l : List Ed} (hl : l.length = k) (hb : k < 2 ^ 30) (hw : fitsL l) (hok : splOk l) (kl : Keeps h0 R q (eV l))
    (hk : ∀ h' q' c' X', Own3 q' c' (splL l) X' → St h0 h' (X' ++ R) → K4 q' (splL l).length c' h') :
    ∀ (d i : Nat) (h : Heap) (q' : Option Addr) (c' : Nat) (X : Rws), i + d = k → Own3 q' c' (splL (l.take i)) X → St h0 h (X ++ R) → edge_Split.l1 K4 (d + 1) q' (splL (l.take i)).length c' q k cl (k : Int) (i : Int) h
  | 0, i, h, q', c', X, hi, o, s => by
    unfold edge_Split.l1 edge_Split.b1
    rw [List.take_of_length_le (by omega)] at o ⊢
    exact iteB_neg (decide_eq_false (by omega)) (hk h q' c' X o s)
  | d + 1, i, h, q', c', X, hi, o, s => by
    unfold edge_Split.l1 edge_Split.b1
    obtain ⟨⟨u, v, w⟩, hx⟩ := get_lt (l := l) (i := i) (by omega)
    have hwx : fits w := hw _ (List.mem_of_getElem? hx)
    have hw0 : 0 ≤ w := hok.1 _ (List.mem_of_getElem? hx)
    have vl := kl.at1 s
    refine iteB_pos (decide_eq_true (by omega)) ?_
    simp -zeta (disch := omega) only [chkP_some, iteB_true, iteB_false, add_mk, Nat.zero_add, Nat.add_zero, Nat.mul_one, Nat.reduceAdd, Int.toNat_natCast, ex_int, ex_slice, ex_ptr, ex_bool, ex_str, ex_flt, ex_any, bnd_in, List.getElem?_cons_zero, List.getElem?_cons_succ, List.set_cons_zero, List.set_cons_succ, List.cons_append, List.nil_append, bne_self_eq_false, beq_self_eq_true, Bool.not_true, Bool.not_false, Option.isNone_some, Option.isNone_none, eq_self, true_and, and_true, and_self, vals_edge vl hx]
    refine s.new_ fun b1 h1 s1 => s1.st0 (by simp) fun h2 s2 => s2.st0 (by simp) fun h3 s3 => s3.st0 (by simp) fun h4 s4 => ?_
    try simp -zeta (disch := omega) only [chkP_some, iteB_true, iteB_false, add_mk, Nat.zero_add, Nat.add_zero, Nat.mul_one, Nat.reduceAdd, Int.toNat_natCast, ex_int, ex_slice, ex_ptr, ex_bool, ex_str, ex_flt, ex_any, bnd_in, List.getElem?_cons_zero, List.getElem?_cons_succ, List.set_cons_zero, List.set_cons_succ, List.cons_append, List.nil_append, bne_self_eq_false, beq_self_eq_true, Bool.not_true, Bool.not_false, Option.isNone_some, Option.isNone_none, eq_self, true_and, and_true, and_self, s4.rd0]
    refine callP1.self (pieces_of (e := (u, v, w)) hwx hw0 s4 fun h5 s5 => ?_)
    simp only
    have hpp := pcs_pos w
    have hpl := pcs_le hwx.2
    have hB : splL (l.take (i + 1)) = splL (l.take i) ++ splE (u, v, w) := by rw [take_snoc hx, splL_app, splL_one]
    have hlen := splL_take_len hok.2 (i + 1)
    refine ⟨(pcs w - 1).toNat + 1, ?_⟩
    have st5 : St h0 h5 (X ++ (b1, [.int .i64 u, .int .i64 v, .int .i64 w]) :: R) := s5.perm List.perm_middle.symm
    have := split_l2 (K6 := fun z2022 z2022l z2022c h2023 => ((∃ (x2025 : Int), cell h2023 ⟨b1, 0, none⟩ = some (.int .i64 x2025) ∧ ∃ (x2026 : Int), cell h2023 ((⟨b1, 0, none⟩ : Addr).add 1) = some (.int .i64 x2026) ∧ ∃ (x2027 : Int), cell h2023 ((⟨b1, 0, none⟩ : Addr).add 2) = some (.int .i64 x2027) ∧ newP h2023 (.cells #[(.int .i64 x2025), (.int .i64 x2026), (.int .i64 x2027)] 24) fun a2028 h2029 => ∃ n2034, cellsAt h2029 (some a2028) (1 * 3) n2034 ∧ appP 24 3 24 [(.int .i64 0), (.int .i64 0), (.int .i64 0)] z2022 z2022l z2022c 1 n2034 h2029 fun q2030 l2031 c2032 h2033 => ((edge_Split.l1 K4 (d + 1) q2030 l2031 c2032 q k cl (k : Int) (IntKind.i64.wrap ((i : Int) + 1)) h2033)))))
      (B := splL (l.take (i + 1))) (q := q) (k := k) (cl := cl) (x := (k : Int)) (y := (i : Int)) (u := u) (v := v) (pcs w - 1).toNat 0 w h5 (splL (l.take i)) q' c' X hw0 hwx.2 rfl hB.symm (by omega) (by omega) o st5 (fun h6 A' q2 c2 X2 w2 o2 hA s6 => ?_)
    · rw [show ((0 + (pcs w - 1).toNat : Nat) : Int) = IntKind.i64.wrap (pcs w - 1) by rw [wrap64 (by omega) (by omega)]; omega] at this
      simp only [add_mk, Nat.zero_add] at this ⊢
      exact this
    · have r1 : ∀ j, cell h6 ⟨b1, j, none⟩ = [Value.int .i64 u, .int .i64 v, .int .i64 w2][j]? := s6.rd (by simp)
      simp -zeta (disch := omega) only [chkP_some, iteB_true, iteB_false, add_mk, Nat.zero_add, Nat.add_zero, Nat.mul_one, Nat.reduceAdd, Int.toNat_natCast, ex_int, ex_slice, ex_ptr, ex_bool, ex_str, ex_flt, ex_any, bnd_in, List.getElem?_cons_zero, List.getElem?_cons_succ, List.set_cons_zero, List.set_cons_succ, List.cons_append, List.nil_append, bne_self_eq_false, beq_self_eq_true, Bool.not_true, Bool.not_false, Option.isNone_some, Option.isNone_none, eq_self, true_and, and_true, and_self, r1]
      have hlA : A'.length < 2 ^ 30 := by rw [← hA] at hlen; simp only [List.length_append, List.length_cons] at hlen; omega
      refine Own3.push1 o2 s6 rfl (by omega) fun q3 c3 X3 h7 o3 s7 => ?_
      rw [wrap64 (by omega) (by omega)]
      rw [hA] at o3
      have hl3 : A'.length + 1 = (splL (l.take (i + 1))).length := by rw [← hA]; simp
      rw [hl3]
      exact split_l1 hl hb hw hok kl hk d (i + 1) h7 q3 c3 X3 (by omega) o3 ((St.re s7 (by intro a; simp only [cntR_append, cntR_cons, cntR_nil, List.cons_append, List.nil_append, List.set_cons_zero, List.set_cons_succ]; omega)))
theorem Split_of {h : Heap} {k cl : Nat} {q : Option Addr} {l : List Ed} {K : Option Addr → Nat → Nat → Bool → Heap → Prop} (hl : l.length = k) (hb : k < 2 ^ 30) (hw : fitsL l) (kl : Keeps h0 R q (eV l)) (s : St h0 h R)
    (hk0 : ¬ splOk l → ∀ h', St h0 h' R → K none 0 0 false h')
    (hk : splOk l → ∀ h' q c X, Own3 q c (splL l) X → St h0 h' (X ++ R) → K q (splL l).length c true h') : edge_Split q k cl h K := by
  unfold edge_Split
  refine s.new_ fun b h1 s1 => ⟨k + 1, split_l0 hl hb hw kl hk0 (fun h2 hnn s2 => ?_) k 0 h1 (by omega) (fun e he => by cases he) s1⟩
  refine qcallP2.of _ _ (fun Q hQ => Value_of s2.rd0 hQ) (iteB_neg rfl ?_)
  refine iteB_intro (fun c => hk0 (fun ok => ?_) h2 s2.tail) (fun c => ?_)
  · have c := of_decide_eq_true c
    have := ok.2; simp only [if_true] at c; omega
  · have c := of_decide_eq_false c
    have hok : splOk l := ⟨hnn, by simp only [if_true] at c; omega⟩
    exact ⟨k + 1, split_l1 hl hb hw hok kl (fun h3 q' c' X' o3 s3 => hk hok h3 q' c' X' o3 s3) k 0 h2 none 0 [] (by omega) Own3.nil s2.tail⟩
end
end Go.Proofs.Ytapjbmfgmnhpdaa
