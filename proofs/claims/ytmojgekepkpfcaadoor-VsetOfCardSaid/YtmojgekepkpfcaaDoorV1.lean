/-
  Sets as bits: what the iterator over a set gives.
-/
import Derived.Test.YtmojgekepkpfcaaDoorV0
import Derived.Test.YtmojgekepkpfcaaDoorGX0
import Derived.Test.YtmojgekepkpfcaaDoorG2
import Derived.Test.YtmojgekepkpfcaaDoorB1
import Derived.Test.YtmojgekepkpfcaaDoorWk
namespace Go.Proofs.YtmojgekepkpfcaaDoor
open Go Go.Proofs Go.RowKit Go.Shelf Go.Hp
attribute [local go_sem] Oper.semAt_some
set_option linter.unusedVariables false
set_option linter.unusedSimpArgs false

/-- The table of the last bits' places. -/
def dbt : List Int := [0, 1, 56, 2, 57, 49, 28, 3, 61, 58, 42, 50, 38, 29, 17, 4, 62, 47, 59, 36, 45, 43, 51, 22, 53, 39, 33, 30, 24, 18, 12, 5, 63, 55, 48, 27, 60, 41, 37, 16, 46, 35, 44, 21, 52, 32, 23, 11, 54, 26, 40, 15, 34, 20, 31, 10, 25, 14, 19, 9, 13, 8, 7, 6]
def Tab (h : Heap) : Prop := ∀ i, i < 64 → cell h ⟨0, i, none⟩ = some (.int .u8 (dbt.getD i 0))
theorem Tab.ext {h h' : Heap} (t : Tab h) (e : Ext h h') : Tab h' := fun i hi => e.cell' (t i hi)

set_option maxRecDepth 100000 in
theorem dbt_at : ∀ t : Nat, t < 64 → 2 ^ t * 285870213051353865 % 18446744073709551616 / 288230376151711744 < 64 ∧
    dbt.getD (2 ^ t * 285870213051353865 % 18446744073709551616 / 288230376151711744) 0 = (t : Int) := by decide +kernel

theorem tz_of {a : Nat} {h : Heap} {K : Int → Heap → Prop} (h0 : a ≠ 0) (hl : a < 18446744073709551616) (ht : Tab h) (hk : K (tz a : Nat) h) : bits_TrailingZeros64 (a : Int) h K := by
  unfold bits_TrailingZeros64
  have e0 : IntKind.u64.wrap (0 - (a : Int)) = ((18446744073709551616 - a : Nat) : Int) := by rw [wrap_u64]; omega
  have e1 : bits .and .u64 (a : Int) (IntKind.u64.wrap (0 - (a : Int))) = ((2 ^ tz a : Nat) : Int) := by
    rw [e0, u64_and_nat _ _ hl (by omega), show (18446744073709551616 : Nat) = 2 ^ 64 by decide, and_neg 64 a h0 hl]
  have t64 : tz a < 64 := tz_lt h0 hl
  obtain ⟨d1, d2⟩ := dbt_at _ t64
  simp only [bindV]
  rw [e1]
  generalize 2 ^ tz a = p at *
  have e2 : (IntKind.u64.wrap ((p : Int) * 285870213051353865)).fdiv (2 ^ 58) = ((p * 285870213051353865 % 18446744073709551616 / 288230376151711744 : Nat) : Int) := by
    rw [wrap_u64, Int.fdiv_eq_ediv_of_nonneg _ (by decide)]; simp only [Int.natCast_ediv, Int.natCast_emod, Int.natCast_mul]; rfl
  rw [e2]
  generalize p * 285870213051353865 % 18446744073709551616 / 288230376151711744 = i at *
  have c1 : (0 : Int) ≤ (i : Int) ∧ (i : Int) < 64 := by omega
  have c2 : cell h ((⟨0, 0, none⟩ : Addr).add ((i : Int).toNat * 1)) = some (.int .u8 (dbt.getD i 0)) := by
    rw [add_mk, show 0 + (i : Int).toNat * 1 = i by omega]; exact ht i d1
  have c3 : IntKind.i64.wrap (dbt.getD i 0) = ((tz a : Nat) : Int) := by rw [d2, wrap_id (by omega) (by omega)]
  have c4 : (((a : Nat) : Int) == 0) = false := by simp; omega
  generalize ((a : Nat) : Int) = z at *
  exact iteB_neg c4 ⟨by decide, c1, dbt.getD i 0, c2, c3.symm ▸ hk⟩

/-- The places of a word's bits, rising. -/
def bitsL (i : Nat) (w : Nat) : List Int := if h : w = 0 then [] else ((i * 64 + tz w : Nat) : Int) :: bitsL i (w &&& (w - 1))
termination_by w
decreasing_by exact Nat.lt_of_le_of_lt Nat.and_le_right (by omega)
theorem bitsL_zero (i : Nat) : bitsL i 0 = [] := by unfold bitsL; simp
theorem bitsL_cons {i w : Nat} (h : w ≠ 0) : bitsL i w = ((i * 64 + tz w : Nat) : Int) :: bitsL i (w &&& (w - 1)) := by rw [bitsL, dif_neg h]
def setL (ws : List Nat) (k : Nat) : List Int := (List.range k).flatMap fun i => bitsL i (ws.getD i 0)
theorem setL_succ (ws : List Nat) (k : Nat) : setL ws (k + 1) = setL ws k ++ bitsL k (ws.getD k 0) := by simp [setL, List.range_succ]

theorem setL_le (ws : List Nat) {k m : Nat} (h : k ≤ m) : (setL ws k).length ≤ (setL ws m).length := by
  induction m with
  | zero => have : k = 0 := by omega
            subst this; exact Nat.le_refl _
  | succ m ih =>
    rcases Nat.lt_or_ge k (m + 1) with h1 | h1
    · have := ih (by omega)
      rw [setL_succ, List.length_append]; omega
    · have : k = m + 1 := by omega
      subst this; exact Nat.le_refl _
theorem quiet_grown {w w' : World} (ho : Out w w') (hh : w'.heap = w.heap) : w.grownBy w' none := ⟨ho.os, ho.tape, ho.output, by rw [hh]; exact Nat.le_refl _, fun _ _ _ => by rw [hh]⟩
theorem quiet_below {w w' : World} (B : Nat) (ho : Out w w') (hh : w'.heap = w.heap) : Below B w w' := ⟨ho.os, ho.tape, ho.output, by rw [hh]; exact Nat.le_refl _, fun _ _ => by rw [hh]⟩
theorem room_calls {w : World} {bs : Nat} {n : Int} (h : w.cell? ⟨bs, 0, none⟩ = some (.int .i64 n)) : Calls Tryd.prog 24 #[.pointer (some ⟨bs, 0, none⟩)] w fun e w' => e = .returned (.int .i64 n) ∧ w.grownBy w' none ∧ ∀ B, Below B w w' := by
  have hc := (vset_Set_Room.calls (a1 := some ⟨bs, 0, none⟩) (h := w.heap) (K := fun r h' => r = n ∧ h' = w.heap) (by unfold vset_Set_Room; exact iteB_neg rfl ⟨n, h, rfl, rfl⟩) w rfl).2
  refine hc.mono ?_
  rintro e w' ⟨v, rfl, ho, hr⟩
  have hv := vset_Set_Room.ret_elim (K' := fun v h' => v = .int .i64 n ∧ h' = w.heap) (by rintro r h' ⟨rfl, rfl⟩; exact ⟨rfl, rfl⟩) hr
  exact ⟨by rw [hv.1], quiet_grown ho hv.2, fun B => quiet_below B ho hv.2⟩
theorem tz_calls {w : World} {a : Nat} (h0 : a ≠ 0) (hl : a < 18446744073709551616) (ht : Tab w.heap) : Calls Tryd.prog 35 #[.int .u64 (a : Int)] w fun e w' => e = .returned (.int .i64 (tz a : Nat)) ∧ w.grownBy w' none ∧ ∀ B, Below B w w' := by
  have hc := (bits_TrailingZeros64.calls (a1 := (a : Int)) (h := w.heap) (K := fun r h' => r = (tz a : Nat) ∧ h' = w.heap) (tz_of h0 hl ht ⟨rfl, rfl⟩) w rfl).2
  refine hc.mono ?_
  rintro e w' ⟨v, rfl, ho, hr⟩
  have hv := bits_TrailingZeros64.ret_elim (K' := fun v h' => v = .int .i64 (tz a : Nat) ∧ h' = w.heap) (by rintro r h' ⟨rfl, rfl⟩; exact ⟨rfl, rfl⟩) hr
  exact ⟨by rw [hv.1], quiet_grown ho hv.2, fun B => quiet_below B ho hv.2⟩

theorem Tab.below {n : Nat} {A B : World} (t : Tab A.heap) (h : Below n A B) (h0 : 0 < n) : Tab B.heap := fun i hi => (h.cell (p := ⟨0, i, none⟩) h0).trans (t i hi)

set_option maxRecDepth 100000 in
set_option maxHeartbeats 2000000 in
theorem all1_in (k : Nat) (hk : 2 ≤ k) (l Bn n₀ bs bw m cap N : Nat) (n : Int) (ws : List Nat) (hm : ws.length = m) (hmn : (n + 64 - 1) / 64 = (m : Int)) (hn : 0 ≤ n ∧ n ≤ 4096) (hw : ∀ x ∈ ws, x < 18446744073709551616) (hb0 : 0 < n₀) (hbn : Bn < n₀) (hbs : bs < n₀) (hbw : bw < n₀) (hN : (setL ws m).length ≤ N)
    (J : List Int → World → Prop) (Jx : List Int → World → Prop)
    (hY : ∀ pre x W, J pre W → pre.length < N → YieldAt Fence.wide (k - 1) Tryd.prog l #[.int .i64 x] W fun e W' => (e = .returned (.bool true) ∧ J (pre ++ [x]) W' ∧ Below n₀ W W') ∨ (e = .returned (.bool false) ∧ Jx (pre ++ [x]) W'))
    (W : World) (hJ : AbidesFrom W.heap.size J) (hBn : W.cell? ⟨Bn, 0, none⟩ = some (.pointer (some ⟨bs, 0, none⟩))) (hs0 : W.cell? ⟨bs, 0, none⟩ = some (.int .i64 n)) (hs1 : W.cell? ⟨bs, 1, none⟩ = some (.slice (some ⟨bw, 0, none⟩) m cap))
    (hws : ∀ i, i < m → W.cell? ⟨bw, i, none⟩ = some (.int .u64 (ws.getD i 0 : Nat))) (ht : Tab W.heap) (h0 : J [] W) :
    CallsIn Fence.wide k Tryd.prog 34 #[.func (.yield l) #[] #[], .pointer (some ⟨Bn, 0, none⟩)] W fun e W' => (∃ v, e = .returned v) ∧ ((∃ ys, ys = setL ws m ∧ J ys W') ∨ (∃ pre, True ∧ Jx pre W')) := by
  have hk1 : 1 ≤ k - 1 := by omega
  subst hm
  refine callsIn_of_wp Tryd.func34 rfl trivial ?_ rfl
  simp only [Tryd.ntmps34, List.size_toArray, List.length_cons, List.length_nil, Nat.reduceAdd, Nat.reduceSub, Array.replicate_succ, Array.replicate_zero, List.push_toArray, List.append_toArray, List.nil_append, List.cons_append]
  gi_wp2_with (refine ⟨trivial, fun _ => by omega, ?_⟩; gi_at_call 24; refine (callsIn_wide.2 (room_calls hs0)).mono ?_; rintro e w' ⟨rfl, hg1, hb1⟩)
  gi_loopw [10] (fun i wr => ∃ j : Nat, j ≤ ws.length ∧ i = .int .i64 j ∧ J (setL ws j) wr ∧ Below n₀ W wr) (fun i _ => ws.length - (intOf i).toNat)
  case atStart => exact ⟨0, Nat.zero_le _, rfl, hJ _ _ _ none h0 hg1 (by simp), hb1 _⟩
  case round =>
    obtain ⟨j, hj, rfl, hJs, hnx⟩ := hrel
    simp only [hmn]
    by_cases hlt : j < ws.length
    · have hp := (hnx.cell (p := ⟨Bn, 0, none⟩) hbn).trans hBn
      have h1 := (hnx.cell (p := ⟨bs, 1, none⟩) hbs).trans hs1
      have hwj := (hnx.cell (p := ⟨bw, j, none⟩) hbw).trans (hws j hlt)
      have hbd : ws.getD j 0 < 18446744073709551616 := by rw [List.getD, List.getElem?_eq_getElem (by omega)]; exact hw _ (List.getElem_mem _)
      have hd : decide (j < ws.length) = true := decide_eq_true hlt
      gi_wp2
      try simp only [hd]
      gi_loopw [4] (fun u wr2 => ∃ (v : Nat) (pre : List Int), u = .int .u64 (v : Int) ∧ v < 18446744073709551616 ∧ bitsL j (ws.getD j 0) = pre ++ bitsL j v ∧ J (setL ws j ++ pre) wr2 ∧ Below n₀ W wr2) (fun u _ => (intOf u).toNat)
      case atStart => exact ⟨ws.getD j 0, [], by simp [List.getD, show j < ws.length by omega], hbd, rfl, by simpa using hJs, hnx⟩
      case round =>
        obtain ⟨v, pre, rfl, hv, hpre, hJ2, hn2⟩ := hrel
        by_cases hv0 : v = 0
        · subst hv0
          gi_wp2
          go_roundw
          case rel => exact ⟨j + 1, by omega, by simp, by rw [setL_succ, hpre, bitsL_zero, List.append_nil]; exact hJ2, hn2⟩
          case measure => simp [intOf]; omega
        · have hlen : (setL ws j ++ pre).length < N := by
            have e1 := setL_le ws (show j + 1 ≤ ws.length from hlt)
            rw [setL_succ, hpre, bitsL_cons hv0] at e1
            simp only [List.length_append, List.length_cons] at e1 ⊢
            omega
          have hand : bits .and .u64 (v : Int) ((v : Int) - 1) = ((v &&& (v - 1) : Nat) : Int) := by
            rw [show (v : Int) - 1 = ((v - 1 : Nat) : Int) by omega, u64_and_nat _ _ hv (by omega)]
          have hbits : tz v < 64 := tz_lt hv0 hv
          gi_wp2_with (refine ⟨trivial, fun _ => by omega, ?_⟩; gi_at_call 35; refine (callsIn_wide.2 (tz_calls hv0 hv (ht.below hn2 hb0))).mono ?_; rintro e w2 ⟨rfl, hg2, hb2⟩; obtain ⟨fn, tmps, assign, body, hy, hR⟩ := hY (setL ws j ++ pre) ((j : Int) * 64 + (tz v : Int)) _ (hJ _ _ _ none hJ2 hg2 (by simp)) hlen)
          refine ⟨fun _ => by omega, hR.mono ?_⟩
          rintro e W3 (⟨rfl, hJ3, hk3⟩ | ⟨rfl, hJx3⟩)
          · gi_wp2
            go_roundw
            case rel =>
              refine ⟨v &&& (v - 1), pre ++ [((j : Int) * 64 + (tz v : Int))], ?_, Nat.lt_of_le_of_lt Nat.and_le_right (by omega), ?_, ?_, hn2.trans ((hb2 _).trans hk3)⟩
              · rfl
              · rw [hpre, bitsL_cons hv0]; simp
              · simpa using hJ3
            case measure =>
              show (((v &&& (v - 1) : Nat) : Int)).toNat < ((v : Nat) : Int).toNat
              rw [Int.toNat_natCast, Int.toNat_natCast]; exact Nat.lt_of_le_of_lt Nat.and_le_right (by omega)
          · gi_wp2
            refine bodyPost_ret (results_none rfl _ _ _) rfl ?_
            exact ⟨⟨_, rfl⟩, .inr ⟨_, trivial, hJx3⟩⟩
    · obtain rfl : j = ws.length := by omega
      gi_wp2
      go_end0
      exact ⟨⟨_, rfl⟩, .inl ⟨_, rfl, hJs⟩⟩
end Go.Proofs.YtmojgekepkpfcaaDoor
