/-
  Sides: the contract of the iterator over the edges that cross.
-/
import Derived.Test.YtbhndlpjfncliaaGreatS0
import Derived.Test.YtbhndlpjfncliaaGreatQt
import Derived.Sort.QuietIn
namespace Go.Proofs.YtbhndlpjfncliaaGreat
open Go Go.Proofs Go.RowKit Go.Shelf Go.Hp
attribute [local go_sem] Oper.semAt_some
set_option linter.unusedVariables false
set_option linter.unusedSimpArgs false

set_option maxRecDepth 100000 in
set_option maxHeartbeats 2000000 in
theorem crossing1_in (k : Nat) (hk : 2 ≤ k) (l n₁ B g a3 a5 cm n : Nat) (a : VA) (f : Nat → Bool) (qm : Option Addr) (L : List Ed) (hn : n ≤ 4096) (hl : L.length ≤ 1048576)
    (b3 : a3 < n₁ ∧ a3 ≠ B) (b5 : a5 < n₁ ∧ a5 ≠ B) (ba1 : a.1 < n₁ ∧ a.1 ≠ B) (ba2 : a.2 < n₁ ∧ a.2 ≠ B)
    (J : List IE → World → Prop) (Jx : List IE → World → Prop)
    (hY : ∀ pre x W, J pre W → pre.length < L.length → YieldAt Fence.wide (k - 1) Tryz.prog l (IE.enc x) W fun e W' => (e = .returned (.bool true) ∧ J (pre ++ [x]) W' ∧ Kp n₁ B W W') ∨ (e = .returned (.bool false) ∧ Jx (pre ++ [x]) W'))
    (W : World) (hnW : n₁ ≤ W.heap.size) (hJ : AbidesFrom W.heap.size J) (h3 : W.cell? ⟨a3, 0, none⟩ = some (.pointer (some ⟨g, 0, none⟩))) (h5 : W.cell? ⟨a5, 0, none⟩ = some (.pointer (some ⟨a.1, 0, none⟩)))
    (hg : W.cell? ⟨g, 2, none⟩ = some (.slice qm L.length cm)) (hL : valsAt W.heap qm (eV L)) (hv : isV W.heap a n f) (h0 : J [] W) :
    CallsIn Fence.wide k Tryz.prog 116 #[.func (.yield l) #[] #[], .pointer (some ⟨a3, 0, none⟩), .pointer (some ⟨a5, 0, none⟩)] W fun e W' => (∃ v, e = .returned v) ∧ ((∃ ys, ys = crs (hasV f n) 0 L ∧ J ys W') ∨ (∃ pre, True ∧ Jx pre W')) := by
  have hk1 : 1 ≤ k - 1 := by omega
  refine callsIn_of_wp Tryz.func116 rfl trivial ?_ rfl
  simp only [Tryz.ntmps116, List.size_toArray, List.length_cons, List.length_nil, Nat.reduceAdd, Nat.reduceSub, Array.replicate_succ, Array.replicate_zero, List.push_toArray, List.append_toArray, List.nil_append, List.cons_append]
  gi_wp2_with (refine ⟨trivial, fun _ => by omega, ?_⟩; gi_at_call 46; refine (callsIn_wide.2 (edges_calls hg hL hl)).mono ?_; rintro e w' ⟨q, c, rfl, hg1, hcl⟩)
  rcases hcl with rfl | ⟨b, z, rfl, hb⟩
  · gi_loopw [9] (fun i wr => i = .int .i64 0 ∧ wr = w') (fun i _ => 0)
    case atStart => exact ⟨rfl, rfl⟩
    case round =>
      obtain ⟨rfl, rfl⟩ := hrel
      gi_wp2
      go_end0
      exact ⟨⟨_, rfl⟩, .inl ⟨_, rfl, hJ _ _ _ none h0 hg1 (by simp)⟩⟩
  · gi_loopw [9] (fun i wr => ∃ j : Nat, j ≤ L.length ∧ i = .int .i64 j ∧ J (crs (hasV f n) 0 (L.take j)) wr ∧ (∀ k, k < n₁ → k ≠ B → wr.heap[k]? = W.heap[k]?) ∧ wr.heap[b]? = some (Obj.cells (eV L ++ z).toArray 82 (0, 0)) ∧ W.heap.size ≤ wr.heap.size) (fun i _ => L.length - (intOf i).toNat)
    case atStart => exact ⟨0, Nat.zero_le _, rfl, hJ _ _ _ none h0 hg1 (by simp), fun k hk _ => hg1.block k (by omega) (by simp), hb, hg1.size⟩
    case round =>
      obtain ⟨j, hj, rfl, hJs, hold, hb, hsz⟩ := hrel
      by_cases hlt : j < L.length
      · obtain ⟨⟨u, v, x⟩, hx⟩ := get_lt hlt
        have c0 : wr.cell? ⟨b, j * 3, none⟩ = some (.int .i64 u) := by
          show Hp.cell wr.heap ⟨b, j * 3, none⟩ = _
          unfold Hp.cell; simp only [hb]; simp only [Option.isSome_none, Bool.false_eq_true, if_false]
          rw [List.getElem?_toArray, List.getElem?_append_left (by rw [eV_len]; omega)]; exact eV_get0 hx
        have c1 : wr.cell? ⟨b, j * 3 + 1, none⟩ = some (.int .i64 v) := by
          show Hp.cell wr.heap ⟨b, j * 3 + 1, none⟩ = _
          unfold Hp.cell; simp only [hb]; simp only [Option.isSome_none, Bool.false_eq_true, if_false]
          rw [List.getElem?_toArray, List.getElem?_append_left (by rw [eV_len]; omega)]; exact eV_get1 hx
        have c2 : wr.cell? ⟨b, j * 3 + 2, none⟩ = some (.int .i64 x) := by
          show Hp.cell wr.heap ⟨b, j * 3 + 2, none⟩ = _
          unfold Hp.cell; simp only [hb]; simp only [Option.isSome_none, Bool.false_eq_true, if_false]
          rw [List.getElem?_toArray, List.getElem?_append_left (by rw [eV_len]; omega)]; exact eV_get2 hx
        have h5r : wr.cell? ⟨a5, 0, none⟩ = some (.pointer (some ⟨a.1, 0, none⟩)) := (cell_block (hold a5 b5.1 b5.2)).trans h5
        have hd : decide ((j : Int) < (L.length : Int)) = true := decide_eq_true (by omega)
        gi_wp2
        obtain ⟨w2, hw2⟩ : ∃ w2, wr.alloc (Obj.cells #[Value.int IntKind.i64 u, Value.int IntKind.i64 v, Value.int IntKind.i64 x] 82) = w2 := ⟨_, rfl⟩
        rw [hw2]
        have g2 : wr.grownBy w2 none := by rw [← hw2]; exact World.grownBy_alloc wr _ none
        have n2 : w2.heap[wr.heap.size]? = some (Obj.cells #[Value.int IntKind.i64 u, Value.int IntKind.i64 v, Value.int IntKind.i64 x] 82 (0, 0)) := by rw [← hw2]; exact World.alloc_heap_new wr _
        have e0 : w2.cell? ⟨wr.heap.size, 0, none⟩ = some (.int .i64 u) := by simp [World.cell?, n2]
        have e1 : w2.cell? ⟨wr.heap.size, 1, none⟩ = some (.int .i64 v) := by simp [World.cell?, n2]
        have e2 : w2.cell? ⟨wr.heap.size, 2, none⟩ = some (.int .i64 x) := by simp [World.cell?, n2]
        have o2 : ∀ k, k < n₁ → k ≠ B → w2.heap[k]? = W.heap[k]? := fun k h1 h2 => (g2.block k (by omega) (by simp)).trans (hold k h1 h2)
        have h52 : w2.cell? ⟨a5, 0, none⟩ = some (.pointer (some ⟨a.1, 0, none⟩)) := (cell_block (o2 a5 b5.1 b5.2)).trans h5
        have hv2 : isV w2.heap a n f := isV_block hv (o2 a.1 ba1.1 ba1.2) (o2 a.2 ba2.1 ba2.2)
        have hb2 : w2.heap[b]? = some (Obj.cells (eV L ++ z).toArray 82 (0, 0)) := (g2.block b (Array.getElem?_eq_some_iff.1 hb).1 (by simp)).trans hb
        have hJ2 : J (crs (hasV f n) 0 (L.take j)) w2 := hJ _ _ _ none hJs g2 (by simp)
        have hdr : ∀ m, w2.grownBy (w2.drewN m) none := fun m => ⟨rfl, rfl, rfl, Nat.le_refl _, fun _ _ _ => rfl⟩
        clear hw2 c0 c1 c2 h5r
        have et := crs_take (hasV f n) hx
        cases hpu : hasV f n u <;> cases hpv : hasV f n v
        · refine wpIn_region_quiet_lit rfl (by kernel_rfl) (by kernel_rfl) ?_
          repeat (gi_big_quiet_step (fail))
          refine BigFrame.wpQuietIn_want (fun _ _ _ _ => trivial) (by rfl) ?_
          intro K1 hK1
          gi_big_quiet_op
          apply Exists.intro
          refine ⟨fun nd => ?_, ?_⟩
          · exact ⟨fun _ => by omega, CallsIn.quiet_of (callsIn_wide.2 (by have := has_quiet (w := w2.drewN nd) hn hv2 u; rw [hpu] at this; exact this))⟩
          go_big_quiet_on
          repeat (gi_big_quiet_step (fail))
          refine BigFrame.wpQuietIn_want (fun _ _ _ _ => trivial) (by rfl) ?_
          intro K1 hK1
          gi_big_quiet_op
          apply Exists.intro
          refine ⟨fun nd => ?_, ?_⟩
          · exact ⟨fun _ => by omega, CallsIn.quiet_of (callsIn_wide.2 (by have := has_quiet (w := w2.drewN nd) hn hv2 v; rw [hpv] at this; exact this))⟩
          go_big_quiet_on
          repeat (gi_big_quiet_step (fail))
          refine BigFrame.wpQuietIn_skip (fun _ _ _ _ => trivial) (by rfl) ?_
          simp [Act.put]
          repeat (gi_big_quiet_step (fail))
          refine wpQuietIn_nil ?_
          first | rintro _ ⟨nq, rfl⟩ | intro nq
          gi_wp2
          go_roundw
          case rel =>
            refine ⟨j + 1, hlt, by go_num, ?_, fun k h1 h2 => o2 k h1 h2, hb2, Nat.le_trans hsz g2.size⟩
            rw [et, hpu, hpv, if_neg (by decide), List.append_nil]
            exact hJ _ _ _ none hJ2 (hdr nq) (by simp)
          case measure => simp [intOf]; omega
        · refine wpIn_region_quiet_tail 13 rfl (by kernel_rfl) (by kernel_rfl) ?_
          simp only [List.take_succ_cons, List.take_zero, List.drop_succ_cons, List.drop_zero]
          repeat (gi_big_quiet_step (fail))
          refine BigFrame.wpQuietIn_want (fun _ _ _ _ => trivial) (by rfl) ?_
          intro K1 hK1
          gi_big_quiet_op
          apply Exists.intro
          refine ⟨fun nd => ?_, ?_⟩
          · exact ⟨fun _ => by omega, CallsIn.quiet_of (callsIn_wide.2 (by have := has_quiet (w := w2.drewN nd) hn hv2 u; rw [hpu] at this; exact this))⟩
          go_big_quiet_on
          repeat (gi_big_quiet_step (fail))
          refine BigFrame.wpQuietIn_want (fun _ _ _ _ => trivial) (by rfl) ?_
          intro K1 hK1
          gi_big_quiet_op
          apply Exists.intro
          refine ⟨fun nd => ?_, ?_⟩
          · exact ⟨fun _ => by omega, CallsIn.quiet_of (callsIn_wide.2 (by have := has_quiet (w := w2.drewN nd) hn hv2 v; rw [hpv] at this; exact this))⟩
          go_big_quiet_on
          repeat (gi_big_quiet_step (fail))
          refine wpQuietIn_nil ?_
          rintro _ ⟨nq, rfl⟩
          obtain ⟨fn, tmps, assign, body, hy, hR⟩ := hY (crs (hasV f n) 0 (L.take j)) (j, (u, v, x)) (w2.drewN nq) (hJ _ _ _ none hJ2 (hdr nq) (by simp)) (by have := crs_len (hasV f n) (L.take j) 0; rw [List.length_take] at this; omega)
          dsimp only [IE.enc] at hy
          gi_wp2
          refine ⟨fun _ => by omega, hR.mono ?_⟩
          rintro e W3 (⟨rfl, hJ3, hk3⟩ | ⟨rfl, hJx3⟩)
          · gi_wp2
            go_roundw
            case rel =>
              refine ⟨j + 1, hlt, by go_num, ?_, fun k h1 h2 => (hk3.old k h1 h2).trans (o2 k h1 h2), hk3.edg b _ _ hb2, Nat.le_trans hsz (Nat.le_trans g2.size hk3.size)⟩
              rw [et, hpu, hpv, if_pos (by decide)]
              exact hJ3
            case measure => simp [intOf]; omega
          · gi_wp2
            refine bodyPost_ret (results_none rfl _ _ _) rfl ?_
            exact ⟨⟨_, rfl⟩, .inr ⟨_, trivial, hJx3⟩⟩
        · refine wpIn_region_quiet_tail 13 rfl (by kernel_rfl) (by kernel_rfl) ?_
          simp only [List.take_succ_cons, List.take_zero, List.drop_succ_cons, List.drop_zero]
          repeat (gi_big_quiet_step (fail))
          refine BigFrame.wpQuietIn_want (fun _ _ _ _ => trivial) (by rfl) ?_
          intro K1 hK1
          gi_big_quiet_op
          apply Exists.intro
          refine ⟨fun nd => ?_, ?_⟩
          · exact ⟨fun _ => by omega, CallsIn.quiet_of (callsIn_wide.2 (by have := has_quiet (w := w2.drewN nd) hn hv2 u; rw [hpu] at this; exact this))⟩
          go_big_quiet_on
          repeat (gi_big_quiet_step (fail))
          refine BigFrame.wpQuietIn_want (fun _ _ _ _ => trivial) (by rfl) ?_
          intro K1 hK1
          gi_big_quiet_op
          apply Exists.intro
          refine ⟨fun nd => ?_, ?_⟩
          · exact ⟨fun _ => by omega, CallsIn.quiet_of (callsIn_wide.2 (by have := has_quiet (w := w2.drewN nd) hn hv2 v; rw [hpv] at this; exact this))⟩
          go_big_quiet_on
          repeat (gi_big_quiet_step (fail))
          refine wpQuietIn_nil ?_
          rintro _ ⟨nq, rfl⟩
          obtain ⟨fn, tmps, assign, body, hy, hR⟩ := hY (crs (hasV f n) 0 (L.take j)) (j, (u, v, x)) (w2.drewN nq) (hJ _ _ _ none hJ2 (hdr nq) (by simp)) (by have := crs_len (hasV f n) (L.take j) 0; rw [List.length_take] at this; omega)
          dsimp only [IE.enc] at hy
          gi_wp2
          refine ⟨fun _ => by omega, hR.mono ?_⟩
          rintro e W3 (⟨rfl, hJ3, hk3⟩ | ⟨rfl, hJx3⟩)
          · gi_wp2
            go_roundw
            case rel =>
              refine ⟨j + 1, hlt, by go_num, ?_, fun k h1 h2 => (hk3.old k h1 h2).trans (o2 k h1 h2), hk3.edg b _ _ hb2, Nat.le_trans hsz (Nat.le_trans g2.size hk3.size)⟩
              rw [et, hpu, hpv, if_pos (by decide)]
              exact hJ3
            case measure => simp [intOf]; omega
          · gi_wp2
            refine bodyPost_ret (results_none rfl _ _ _) rfl ?_
            exact ⟨⟨_, rfl⟩, .inr ⟨_, trivial, hJx3⟩⟩
        · refine wpIn_region_quiet_lit rfl (by kernel_rfl) (by kernel_rfl) ?_
          repeat (gi_big_quiet_step (fail))
          refine BigFrame.wpQuietIn_want (fun _ _ _ _ => trivial) (by rfl) ?_
          intro K1 hK1
          gi_big_quiet_op
          apply Exists.intro
          refine ⟨fun nd => ?_, ?_⟩
          · exact ⟨fun _ => by omega, CallsIn.quiet_of (callsIn_wide.2 (by have := has_quiet (w := w2.drewN nd) hn hv2 u; rw [hpu] at this; exact this))⟩
          go_big_quiet_on
          repeat (gi_big_quiet_step (fail))
          refine BigFrame.wpQuietIn_want (fun _ _ _ _ => trivial) (by rfl) ?_
          intro K1 hK1
          gi_big_quiet_op
          apply Exists.intro
          refine ⟨fun nd => ?_, ?_⟩
          · exact ⟨fun _ => by omega, CallsIn.quiet_of (callsIn_wide.2 (by have := has_quiet (w := w2.drewN nd) hn hv2 v; rw [hpv] at this; exact this))⟩
          go_big_quiet_on
          repeat (gi_big_quiet_step (fail))
          refine BigFrame.wpQuietIn_skip (fun _ _ _ _ => trivial) (by rfl) ?_
          simp [Act.put]
          repeat (gi_big_quiet_step (fail))
          refine wpQuietIn_nil ?_
          first | rintro _ ⟨nq, rfl⟩ | intro nq
          gi_wp2
          go_roundw
          case rel =>
            refine ⟨j + 1, hlt, by go_num, ?_, fun k h1 h2 => o2 k h1 h2, hb2, Nat.le_trans hsz g2.size⟩
            rw [et, hpu, hpv, if_neg (by decide), List.append_nil]
            exact hJ _ _ _ none hJ2 (hdr nq) (by simp)
          case measure => simp [intOf]; omega
      · obtain rfl : j = L.length := by omega
        gi_wp2
        go_end0
        exact ⟨⟨_, rfl⟩, .inl ⟨_, rfl, by rw [List.take_of_length_le (Nat.le_refl _)] at hJs; exact hJs⟩⟩
end Go.Proofs.YtbhndlpjfncliaaGreat
