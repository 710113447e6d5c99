/-
  Sides: Crossing: the numbers of the edges that cross.
-/
import Derived.Test.YtbhndlpjfncliaaS2
namespace Go.Proofs.Ytbhndlpjfncliaa
open Go Go.Proofs Go.RowKit Go.Shelf Go.Hp
attribute [local go_sem] Oper.semAt_some
set_option linter.unusedVariables false
set_option linter.unusedSimpArgs false
set_option linter.unnecessarySimpa false

theorem ownsRow_base {W : World} {base base' : Nat} {e : TypeId} {size : Nat} {v : Value} {k : Nat} {xs : List Value} (h : W.ownsRow base e size v k xs) (hb : base' ≤ base) : W.ownsRow base' e size v k xs := by
  refine ⟨h.1, ?_⟩
  rcases h.2 with h | ⟨g, cap, cur, h1, h2, h3⟩
  · exact .inl h
  · exact .inr ⟨g, cap, cur, h1, Nat.le_trans hb h2, h3⟩
theorem infoI : (Try.prog.info? 3).map (fun i => (i.zero, i.size, i.bytes)) = some (some (.int .i64 0), 1, 8) := by kernel_rfl
section
variable {w : World} {q : Option Addr} {k c : Nat} {l : List Int}
set_option maxRecDepth 100000 in
set_option maxHeartbeats 2000000 in
theorem crossing_err {p : Option Addr} {n : Nat} (hp : ∀ Q : Int → Heap → Prop, Q (n : Int) w.heap → net_Net_N p w.heap Q) (hl : l.length = k) (hb : k < 2 ^ 40) (vl : valsAt w.heap q (l.map (Value.int .i64))) (hc : chkS n l ≠ 0) :
    CallsIn Fence.wide 9 Try.prog 15 #[.pointer p, .slice q k c] w fun e w' => e = .returned (.tuple #[.slice none 0 0, .int .i64 (chkS n l)]) ∧ Below w.heap.size w w' := by
  refine callsIn_of_wp Try.func15 rfl trivial ?_ rfl
  simp only [Try.ntmps15, List.size_toArray, List.length_cons, List.length_nil, Nat.reduceAdd, Nat.reduceSub, Array.replicate_succ, Array.replicate_zero, List.push_toArray, List.append_toArray, List.nil_append, List.cons_append]
  gi_wp2_with (refine ⟨trivial, ?_⟩; gi_at_call 31; refine (callsIn_wide.2 (set_err hp hl hb vl hc)).mono ?_; rintro e w' ⟨rfl, hB⟩)
  refine bodyPost_ret (results_tmp2 rfl _ _ _) rfl ?_
  exact ⟨rfl, hB⟩
set_option maxRecDepth 100000 in
set_option maxHeartbeats 2000000 in
theorem crossing_ok {g n : Nat} {L : List Ed} (nh : NetH w.heap g n L) (hl : l.length = k) (hb : k < 2 ^ 40) (vl : valsAt w.heap q (l.map (Value.int .i64))) (hc : chkS n l = 0) :
    CallsIn Fence.wide 9 Try.prog 15 #[.pointer (some ⟨g, 0, none⟩), .slice q k c] w fun e w' => ∃ v ys, ys = crs (inS n l) 0 L ∧ e = .returned (.tuple #[v, .int .i64 0]) ∧ w'.ownsRow w.heap.size 3 1 v ys.length (ys.map fun x => Value.int .i64 (x.1 : Int)) ∧ Below w.heap.size w w' := by
  obtain ⟨i0, hi, hz0, hz1, hz2⟩ := info_parts infoI
  refine callsIn_of_wp_marks Try.func15 rfl trivial ?_ rfl
  simp only [Try.ntmps15, List.size_toArray, List.length_cons, List.length_nil, Nat.reduceAdd, Nat.reduceSub, Array.replicate_succ, Array.replicate_zero, List.push_toArray, List.append_toArray, List.nil_append, List.cons_append]
  gi_wp2_with (first | (refine ⟨trivial, ?_⟩; gi_at_call 31; refine (callsIn_wide.2 (set_ok nh hl hb vl hc)).mono ?_; rintro e w1 ⟨a, rfl, hB1, hv1⟩) | (refine ⟨trivial, ?_⟩; gi_at_call 32; refine (callsIn_wide.2 crossing_calls).mono ?_; rintro e w2 ⟨rfl, hB2, h3, h5, hsz⟩))
  have hs1 : (w1.alloc (Obj.cells #[Value.slice none 0 0] 22)).heap.size = w1.heap.size + 1 := by simp
  rw [hs1] at hB2 h3 h5 hsz
  obtain ⟨wa, hwa⟩ : ∃ wa, w1.alloc (Obj.cells #[Value.slice none 0 0] 22) = wa := ⟨_, rfl⟩
  have bO : Boxed wa w1.heap.size 22 (.slice none 0 0) := by rw [← hwa]; exact Boxed.new w1 22 _
  have hBa : Below w1.heap.size w1 wa := by rw [← hwa]; exact (Below.refl _ w1).alloc (Nat.le_refl _) _
  rw [hwa] at hB2
  have bO2 : Boxed w2 w1.heap.size 22 (.slice none 0 0) := (hB2.block _ (by omega)).trans bO
  have hB12 : Below w1.heap.size w1 w2 := hBa.trans (hB2.mono (by omega))
  have hB02 : Below w.heap.size w w2 := hB1.trans (hB12.mono hB1.size)
  have nh2 : NetH w2.heap g n L := nh.ext ⟨hB02.size, hB02.block⟩
  obtain ⟨G, hn, nr, cm, qm, c0, c2', vL⟩ := nh2
  have hGl := G.len
  have n1 : 1 ≤ n := by
    rcases Nat.eq_zero_or_pos n with h | h
    · subst h; exact absurd hc (chkS_nil l)
    · exact h
  have ba1 : a.1 < w1.heap.size := by have h := hv1.1 0; simpa using cell_lt (p := ⟨a.1, 0, none⟩) h
  have ba2 : a.2 < w1.heap.size := by have h := hv1.2 0; rw [rowF_get (by unfold nw; omega)] at h; simpa using cell_lt (p := ⟨a.2, 0, none⟩) h
  have hv2 : isV w2.heap a n (setF n l) := isV_block hv1 (hB12.block _ ba1) (hB12.block _ ba2)
  refine wpIn_rangeFunc_ownG rfl (by omega) (gf := 48) (lb := #[Value.pointer (some ⟨w1.heap.size + 1, 0, none⟩), Value.pointer (some ⟨w1.heap.size + 1 + 1, 0, none⟩)]) rfl trivial (fun args w => enters_of Try.func48 (by kernel_rfl) rfl _ _)
    (crossing_stops (n₁ := w2.heap.size) (B := w1.heap.size) 8 (by omega) hn G.len rfl ⟨by omega, by omega⟩ ⟨by omega, by omega⟩ ⟨by omega, by omega⟩ ⟨by omega, by omega⟩ h3 h5 c2' vL hv2)
    Kp.trans Kp.book (Below.refl _ _) (fun _ => rfl)
    (fun pre W => (∃ v, Boxed W w1.heap.size 22 v ∧ W.ownsRow w2.heap.size 3 1 v pre.length (pre.map fun x => Value.int .i64 (x.1 : Int)) ∧ True) ∧ (Below w.heap.size w W ∧ w2.heap.size ≤ W.heap.size)) (fun _ _ _ => False)
    (OwnFrom.and (Own.from (holdsRow_own w2.heap.size w1.heap.size 22 3 1 (fun pre : List IE => pre.length) (fun pre => pre.map fun x => Value.int .i64 (x.1 : Int)) (fun _ _ => True)) _) (OwnFrom.and (ownFrom_below (Nat.le_refl _) hB02.size) (fun _ _ _ _ hs hg _ => Nat.le_trans hs hg.size)))
    (fun _ _ _ _ _ hs _ _ => hs) ⟨⟨_, bO2, World.ownsRow_nil _ _ _ _, trivial⟩, hB02, Nat.le_refl _⟩
    (fun x => (⟨#[Value.pointer (some ⟨g, 0, none⟩), Value.slice q k c, undef, undef, Value.slice none 0 0,
          Value.int IntKind.i64 0, Value.pointer (some ⟨a.1, 0, none⟩), Value.int IntKind.i64 0,
          Value.pointer (some ⟨w1.heap.size, 0, none⟩), .int .i64 (x.1 : Int),
          Value.tuple #[Value.pointer (some ⟨a.1, 0, none⟩), Value.int IntKind.i64 0],
          Value.pointer (some ⟨g, 0, none⟩), Value.slice q k c,
          Value.tuple #[Value.pointer (some ⟨a.1, 0, none⟩), Value.int IntKind.i64 0],
          Value.pointer (some ⟨a.1, 0, none⟩), Value.int IntKind.i64 0, Value.int IntKind.i64 0,
          Value.bool false, undef, Value.pointer (some ⟨g, 0, none⟩),
          Value.pointer (some ⟨a.1, 0, none⟩),
          Value.func (Fn.func 48) #[] #[Value.pointer (some ⟨w1.heap.size + 1, 0, none⟩), Value.pointer (some ⟨w1.heap.size + 1 + 1, 0, none⟩)],
          .int .i64 (x.1 : Int), .agg #[.int .i64 x.2.1, .int .i64 x.2.2.1, .int .i64 x.2.2.2], undef, undef, undef, undef, undef], []⟩ : Act))
    ?assign ?body ?done ?stop
  case assign =>
    rintro l' ⟨i, u, v, y⟩ W K hK
    dsimp only [IE.enc]
    gi_wp2
    exact hK
  case body =>
    rintro l' pre ⟨i, u, v', y⟩ W ⟨⟨v, hv, hrow, _⟩, hB, hs⟩ hlt
    have hc := hv.cell
    gi_wp2_with (gi_at_builtin; refine wpListIn_append_own _ rfl _ _ 22 rfl w2.heap.size 3 i0 (.int .i64 0) 1 8 Try.underlying22 hi hz0 hz1 hz2 rfl (by decide) _ _ _ rfl (hrow.alloc _) ⟨W.heap.size, 0, none⟩ 1 1 [.int .i64 (i : Int)] rfl rfl (cell_one_new _ _ _) (by simp [Value.oneCell']) (by simp [maxLen]; omega) (by omega) (by simp; omega) ?_; intro v'' w3 hown' hgrow _; obtain ⟨g', cap', rfl⟩ := ownsRow_succ hown'; have hv3 : Boxed w3 w1.heap.size 22 v := (hv.alloc _).kept hgrow (hv.not_row (by decide) hrow); have hc1 := hv3.cell; have hf1 := hv3.frozen)
    have h1 := hB1.size
    obtain ⟨hv1, hv2, hr2, hk2, hb2⟩ := hv.appended (n₀ := w1.heap.size) (by decide) (ownsRow_base hrow (by omega)) (by omega) (Nat.le_refl _) (ownsRow_base hown' (by omega)) hgrow
    have gs := grownBy_setCell' w3 w1.heap.size (Value.slice (some ⟨g', 0, none⟩) (pre.length + 1) cap')
    have hr3 := hown'.kept gs (.inr (hv3.not_row (by decide) hown').symm)
    rw [hsz] at hr3
    have keep : ∀ k, k < W.heap.size → k ≠ w1.heap.size → (∀ g cap cur, v = Value.slice (some ⟨g, 0, none⟩) pre.length cap → w1.heap.size + 1 + 2 ≤ g → W.heap[g]? = some (Obj.cells cur 3 (0, 0)) → k ≠ g) → (w3.setCell ⟨w1.heap.size, 0, none⟩ (Value.slice (some ⟨g', 0, none⟩) (pre.length + 1) cap')).heap[k]? = W.heap[k]? := fun k hk hkB hkg => by
      have e0 : some k ≠ v.ownBlock := by
        rcases hrow.2 with ⟨rfl, _⟩ | ⟨g, cap, cur, rfl, hg1, hg2, _⟩
        · simp [Value.ownBlock]
        · intro e
          exact hkg g cap cur rfl (by omega) hg2 (by simpa [Value.ownBlock] using e)
      have e1 := hgrow.block k (by simp; omega) e0
      have hk3 : k < w3.heap.size := by have := hgrow.size; simp at this; omega
      rw [gs.block k hk3 (fun e => hkB (Option.some.inj e)), e1]
      exact Below.heap_alloc W _ k hk
    refine ⟨hk2.from _, ⟨hb2.size, fun k h2 h3 => keep k (by omega) h3 (fun g cap cur _ hg _ => by omega), fun k cs f hk => (keep k (Array.getElem?_eq_some_iff.1 hk).1 (fun e => ?_) (fun g cap cur _ _ hg e => ?_)).trans hk⟩, ⟨_, hv2, by simpa using hr3⟩, hB.trans (hb2.mono h1), by have := hb2.size; omega⟩
    · subst e
      have hv' : W.heap[w1.heap.size]? = _ := hv
      rw [hv'] at hk; cases hk
    · subst e
      rw [hg] at hk; cases hk
  case done =>
    rintro D ys W hD hys ⟨⟨v, hv, hrow, _⟩, hB, hs⟩ hK
    have hcv := hv.cell
    gi_wp2
    refine ⟨by simp, .inl ⟨_, _, rfl, run_takeDeferred hK, ?_⟩⟩
    have hle := hB02.size
    have hr := ownsRow_putObj hrow (.deferred none) hK rfl
    refine ⟨_, results_tmp2 rfl _ _ _, v, ys, hys, rfl, ⟨hr.1, ?_⟩, hB.trans (belowK_b (w := w) (Nat.le_refl _) W D _ _ (by omega) hK rfl rfl)⟩
    rcases hr.2 with h | ⟨g', cap', cur, h1, h2, h3⟩
    · exact .inl h
    · exact .inr ⟨g', cap', cur, h1, by omega, h3⟩
  case stop =>
    rintro D c pre W _ _ h _
    exact h.elim
end
end Go.Proofs.Ytbhndlpjfncliaa
