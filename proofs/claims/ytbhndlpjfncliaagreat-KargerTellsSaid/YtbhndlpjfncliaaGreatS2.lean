/-
  Sides: Weight: the range over the edges that cross.
-/
import Derived.Test.YtbhndlpjfncliaaGreatS1
import Derived.Test.YtbhndlpjfncliaaGreatS4
namespace Go.Proofs.YtbhndlpjfncliaaGreat
open Go Go.Proofs Go.RowKit Go.Shelf Go.Hp
attribute [local go_sem] Oper.semAt_some
set_option linter.unusedVariables false
set_option linter.unusedSimpArgs false
set_option linter.unnecessarySimpa false

/-- A graph in memory, as it lies. -/
structure NetH (h : Heap) (g n : Nat) (L : List Ed) : Prop where
  gr : Gr n L
  hn : n ≤ 4096
  ex : ∃ (nr : Option Addr) (cm : Nat) (qm : Option Addr), Hp.cell h ⟨g, 0, none⟩ = some (.slice nr n n) ∧ Hp.cell h ⟨g, 2, none⟩ = some (.slice qm L.length cm) ∧ valsAt h qm (eV L)
theorem NetH.ext {h h' : Heap} {g n : Nat} {L : List Ed} (k : NetH h g n L) (e : Ext h h') : NetH h' g n L := by
  obtain ⟨a, b, nr, cm, qm, c1, c2, v⟩ := k
  exact ⟨a, b, nr, cm, qm, e.cell' c1, e.cell' c2, v.ext e⟩
theorem NetK.at {h0 : Base} {R L' : Rws} {h : Heap} {g n : Nat} {L : List Ed} {N : List (List Nat)} (k : NetK h0 R g n L N) (s : St h0 h L') (hs : ∀ x ∈ R, x ∈ L') : NetH h g n L := by
  obtain ⟨a, b, nr, dg, cm, qm, tot, E, k1, k2, k3, k4, k5, k6⟩ := k
  have v := k1 h L' s hs
  refine ⟨a, b, some ⟨nr, 0, none⟩, cm, qm, ?_, ?_, k2 h L' s hs⟩
  · obtain ⟨x, hx, hc⟩ := v 0 _ rfl; cases hx; rw [add_mk, Nat.zero_add] at hc; exact hc
  · obtain ⟨x, hx, hc⟩ := v 2 _ rfl; cases hx; rw [add_mk, Nat.zero_add] at hc; exact hc
theorem NN_of {h : Heap} {g n : Nat} {L : List Ed} {K : Int → Heap → Prop} (nh : NetH h g n L) (hk : K (n : Int) h) : net_Net_N (some ⟨g, 0, none⟩) h K := by
  obtain ⟨_, _, nr, cm, qm, c0, _, _⟩ := nh
  unfold net_Net_N
  exact iteB_neg rfl ⟨nr, n, n, c0, hk⟩
theorem NN_nil {h : Heap} {K : Int → Heap → Prop} (hk : K 0 h) : net_Net_N none h K := by unfold net_Net_N; exact iteB_pos rfl hk
abbrev setF (n : Nat) (l : List Int) : Nat → Bool := putL n l fun _ => false
abbrev inS (n : Nat) (l : List Int) (v : Int) : Bool := hasV (setF n l) n v
def wgt (n : Nat) (l : List Int) (L : List Ed) : Int × Int := if chkS n l = 0 then (sumX (crs (inS n l) 0 L), 0) else (0, chkS n l)
theorem chkS_nil (l : List Int) : chkS ((0 : Nat) : Int) l ≠ 0 := by
  unfold chkS
  cases l with
  | nil => simp [riseS]
  | cons x l =>
    rw [if_neg]
    · decide
    · simp only [riseS, Bool.and_eq_true, decide_eq_true_eq]; omega
section
variable {w : World} {q : Option Addr} {k c : Nat} {l : List Int}
theorem set_err {p : Option Addr} {n : Nat} (hp : ∀ Q : Int → Heap → Prop, Q (n : Int) w.heap → net_Net_N p w.heap Q) (hl : l.length = k) (hb : k < 2 ^ 40) (vl : valsAt w.heap q (l.map (Value.int .i64))) (hc : chkS n l ≠ 0) :
    Calls Tryz.prog 90 #[.pointer p, .slice q k c] w fun e w' => e = .returned (.tuple #[.pointer none, .int .i64 (chkS n l)]) ∧ Below w.heap.size w w' := by
  have HC := (side_set.calls (a1 := p) (a2 := q) (a2l := k) (a2c := c) (h := w.heap) (K := fun x e h' => x = none ∧ e = chkS n l ∧ h' = w.heap) (by
    unfold side_set
    exact qcallP1.of _ (fun Q hQ => hp _ hQ) (qcallP1.of _ (fun Q hQ => SCheck_of hl hb vl hQ) (iteB_pos (by simpa using hc) ⟨rfl, rfl, rfl⟩))) w rfl).2
  refine HC.mono ?_
  rintro e w' ⟨v, rfl, ho, hr⟩
  have hv := side_set.ret_elim (K' := fun v' h' => v' = .tuple #[.pointer none, .int .i64 (chkS n l)] ∧ h' = w.heap) (by rintro x e h' ⟨rfl, rfl, rfl⟩; exact ⟨rfl, rfl⟩) hr
  exact ⟨by rw [hv.1], quiet_below _ ho hv.2⟩
theorem set_ok {g n : Nat} {L : List Ed} (nh : NetH w.heap g n L) (hl : l.length = k) (hb : k < 2 ^ 40) (vl : valsAt w.heap q (l.map (Value.int .i64))) (hc : chkS n l = 0) :
    Calls Tryz.prog 90 #[.pointer (some ⟨g, 0, none⟩), .slice q k c] w fun e w' => ∃ a : VA, e = .returned (.tuple #[.pointer (some ⟨a.1, 0, none⟩), .int .i64 0]) ∧ Below w.heap.size w w' ∧ isV w'.heap a n (setF n l) := by
  have HC := (side_set.calls (a1 := some ⟨g, 0, none⟩) (a2 := q) (a2l := k) (a2c := c) (h := w.heap) (K := fun x e h' => ∃ a : VA, x = some ⟨a.1, 0, none⟩ ∧ e = 0 ∧ Ext w.heap h' ∧ isV h' a n (setF n l)) (by
    unfold side_set
    refine qcallP1.of _ (fun Q hQ => NN_of nh hQ) (qcallP1.of _ (fun Q hQ => SCheck_of hl hb vl hQ) (iteB_neg (by rw [hc]; rfl) (qcallP1.of _ (fun Q hQ => NN_of nh hQ) ?_)))
    refine callP1.self (VOf_of (h0 := (w.heap : Base)) (R := []) hl hb (Keeps.old vl) (St.refl w.heap) fun a h' s' => ⟨a, rfl, rfl, s'.ext, ?_⟩)
    rw [roomV_self nh.hn] at s'
    exact St.isV s' (fun x hx => by simp [hx])) w rfl).2
  refine HC.mono ?_
  rintro e w' ⟨v, rfl, ho, hr⟩
  have hv := side_set.ret_elim (K' := fun v' h' => ∃ a : VA, v' = .tuple #[.pointer (some ⟨a.1, 0, none⟩), .int .i64 0] ∧ Ext w.heap h' ∧ isV h' a n (setF n l)) (by rintro x e h' ⟨a, rfl, rfl, h1, h2⟩; exact ⟨a, rfl, h1, h2⟩) hr
  obtain ⟨a, rfl, h1, h2⟩ := hv
  exact ⟨a, rfl, ⟨ho.os, ho.tape, ho.output, h1.size, fun k hk => h1.at_ k hk⟩, h2⟩
theorem crossing_calls {p1 p2 : Option Addr} : Calls Tryz.prog 91 #[.pointer p1, .pointer p2] w fun e w' => e = .returned (.func (.func 116) #[] #[.pointer (some ⟨w.heap.size, 0, none⟩), .pointer (some ⟨w.heap.size + 1, 0, none⟩)]) ∧ Below w.heap.size w w' ∧
    w'.cell? ⟨w.heap.size, 0, none⟩ = some (.pointer p1) ∧ w'.cell? ⟨w.heap.size + 1, 0, none⟩ = some (.pointer p2) ∧ w'.heap.size = w.heap.size + 2 := by
  have HC := (side_crossing.calls (a1 := p1) (a2 := p2) (h := w.heap) (K := fun x h' => x = .func (.func 116) #[] #[.pointer (some ⟨w.heap.size, 0, none⟩), .pointer (some ⟨w.heap.size + 1, 0, none⟩)] ∧ h' = (w.heap.push (.cells #[.pointer p1] 24)).push (.cells #[.pointer p2] 161)) (by
    unfold side_crossing newP
    refine ⟨?_, rfl⟩
    simp) w rfl).2
  refine HC.mono ?_
  rintro e w' ⟨v, rfl, ho, hr⟩
  have hv := side_crossing.ret_elim (K' := fun v' h' => v' = .func (.func 116) #[] #[.pointer (some ⟨w.heap.size, 0, none⟩), .pointer (some ⟨w.heap.size + 1, 0, none⟩)] ∧ h' = (w.heap.push (.cells #[.pointer p1] 24)).push (.cells #[.pointer p2] 161)) (by rintro x h' ⟨rfl, rfl⟩; exact ⟨rfl, rfl⟩) hr
  obtain ⟨rfl, hh⟩ := hv
  refine ⟨rfl, ⟨ho.os, ho.tape, ho.output, by rw [hh]; simp; omega, fun k hk => ?_⟩, ?_, ?_, by rw [hh]; simp⟩
  · rw [hh, Array.getElem?_push, Array.getElem?_push, if_neg (by simp; omega), if_neg (by omega)]
  · have e : w'.heap[w.heap.size]? = some (Obj.cells #[.pointer p1] 24) := by rw [hh, Array.getElem?_push, if_neg (by simp), Array.getElem?_push, if_pos rfl]
    simp [World.cell?, e]
  · have e : w'.heap[w.heap.size + 1]? = some (Obj.cells #[.pointer p2] 161) := by rw [hh, Array.getElem?_push, if_pos (by simp)]
    simp [World.cell?, e]
theorem crossing_stops {n₁ B g cm n a3 a5 : Nat} (m : Nat) (hm : 2 ≤ m) {a : VA} {f : Nat → Bool} {qm : Option Addr} {L : List Ed} (hn : n ≤ 4096) (hl : L.length ≤ 1048576) (h1 : n₁ = w.heap.size)
    (b3 : a3 < n₁ ∧ a3 ≠ B) (b5 : a5 < n₁ ∧ a5 ≠ B) (ba1 : a.1 < n₁ ∧ a.1 ≠ B) (ba2 : a.2 < n₁ ∧ a.2 ≠ B)
    (h3 : w.cell? ⟨a3, 0, none⟩ = some (.pointer (some ⟨g, 0, none⟩))) (h5 : w.cell? ⟨a5, 0, none⟩ = some (.pointer (some ⟨a.1, 0, none⟩))) (hg : w.cell? ⟨g, 2, none⟩ = some (.slice qm L.length cm)) (hL : valsAt w.heap qm (eV L)) (hv : isV w.heap a n f) :
    SeqStopsK Fence.wide m Tryz.prog 116 #[.pointer (some ⟨a3, 0, none⟩), .pointer (some ⟨a5, 0, none⟩)] IE.enc (Kp n₁ B) (fun ys => ys = crs (hasV f n) 0 L) (fun _ => True) L.length w := fun l' J Jx W hW hJ hJx hY h0 => by
  have e : Ext w.heap W.heap := ⟨hW.size, hW.block⟩
  subst h1
  exact crossing1_in m hm l' w.heap.size B g a3 a5 cm n a f qm L hn hl b3 b5 ba1 ba2 J Jx hY W hW.size hJ (e.cell' h3) (e.cell' h5) (e.cell' hg) (hL.ext e) (isV_block hv (hW.block _ ba1.1) (hW.block _ ba2.1)) h0
set_option maxRecDepth 100000 in
set_option maxHeartbeats 2000000 in
theorem weight_err {p : Option Addr} {n : Nat} (hp : ∀ Q : Int → Heap → Prop, Q (n : Int) w.heap → net_Net_N p w.heap Q) (hl : l.length = k) (hb : k < 2 ^ 40) (vl : valsAt w.heap q (l.map (Value.int .i64))) (hc : chkS n l ≠ 0) :
    CallsIn Fence.wide 9 Tryz.prog 58 #[.pointer p, .slice q k c] w fun e w' => e = .returned (.tuple #[.int .i64 0, .int .i64 (chkS n l)]) ∧ Below w.heap.size w w' := by
  refine callsIn_of_wp Tryz.func58 rfl trivial ?_ rfl
  simp only [Tryz.ntmps58, List.size_toArray, List.length_cons, List.length_nil, Nat.reduceAdd, Nat.reduceSub, Array.replicate_succ, Array.replicate_zero, List.push_toArray, List.append_toArray, List.nil_append, List.cons_append]
  gi_wp2_with (refine ⟨trivial, ?_⟩; gi_at_call 90; refine (callsIn_wide.2 (set_err hp hl hb vl hc)).mono ?_; rintro e w' ⟨rfl, hB⟩)
  refine bodyPost_ret (results_tmp2 rfl _ _ _) rfl ?_
  exact ⟨rfl, hB⟩
set_option maxRecDepth 100000 in
set_option maxHeartbeats 2000000 in
theorem weight_ok {g n : Nat} {L : List Ed} (nh : NetH w.heap g n L) (hl : l.length = k) (hb : k < 2 ^ 40) (vl : valsAt w.heap q (l.map (Value.int .i64))) (hc : chkS n l = 0) :
    CallsIn Fence.wide 9 Tryz.prog 58 #[.pointer (some ⟨g, 0, none⟩), .slice q k c] w fun e w' => e = .returned (.tuple #[.int .i64 (sumX (crs (inS n l) 0 L)), .int .i64 0]) ∧ Below w.heap.size w w' := by
  refine callsIn_of_wp_marks Tryz.func58 rfl trivial ?_ rfl
  simp only [Tryz.ntmps58, List.size_toArray, List.length_cons, List.length_nil, Nat.reduceAdd, Nat.reduceSub, Array.replicate_succ, Array.replicate_zero, List.push_toArray, List.append_toArray, List.nil_append, List.cons_append]
  gi_wp2_with (first | (refine ⟨trivial, ?_⟩; gi_at_call 90; refine (callsIn_wide.2 (set_ok nh hl hb vl hc)).mono ?_; rintro e w1 ⟨a, rfl, hB1, hv1⟩) | (refine ⟨trivial, ?_⟩; gi_at_call 91; refine (callsIn_wide.2 crossing_calls).mono ?_; rintro e w2 ⟨rfl, hB2, h3, h5, hsz⟩))
  have hs1 : (w1.alloc (Obj.cells #[Value.int IntKind.i64 0] 2)).heap.size = w1.heap.size + 1 := by simp
  rw [hs1] at hB2 h3 h5 hsz
  obtain ⟨wa, hwa⟩ : ∃ wa, w1.alloc (Obj.cells #[Value.int IntKind.i64 0] 2) = wa := ⟨_, rfl⟩
  have bO : Boxed wa w1.heap.size 2 (.int .i64 0) := by rw [← hwa]; exact Boxed.new w1 2 _
  have hBa : Below w1.heap.size w1 wa := by rw [← hwa]; exact (Below.refl _ w1).alloc (Nat.le_refl _) _
  rw [hwa] at hB2
  have bO2 : Boxed w2 w1.heap.size 2 (.int .i64 0) := (hB2.block _ (by omega)).trans bO
  have hB12 : Below w1.heap.size w1 w2 := hBa.trans (hB2.mono (by omega))
  have hB02 : Below w.heap.size w w2 := hB1.trans (hB12.mono hB1.size)
  have nh2 : NetH w2.heap g n L := nh.ext ⟨hB02.size, hB02.block⟩
  obtain ⟨G, hn, nr, cm, qm, c0, c2', vL⟩ := nh2
  have n1 : 1 ≤ n := by
    rcases Nat.eq_zero_or_pos n with h | h
    · subst h; exact absurd hc (chkS_nil l)
    · exact h
  have ba1 : a.1 < w1.heap.size := by have h := hv1.1 0; simpa using cell_lt (p := ⟨a.1, 0, none⟩) h
  have ba2 : a.2 < w1.heap.size := by have h := hv1.2 0; rw [rowF_get (by unfold nw; omega)] at h; simpa using cell_lt (p := ⟨a.2, 0, none⟩) h
  have hv2 : isV w2.heap a n (setF n l) := isV_block hv1 (hB12.block _ ba1) (hB12.block _ ba2)
  refine wpIn_rangeFunc_ownH rfl (by omega) (gf := 116) (lb := #[Value.pointer (some ⟨w1.heap.size + 1, 0, none⟩), Value.pointer (some ⟨w1.heap.size + 1 + 1, 0, none⟩)]) rfl trivial (fun args w => enters_of Tryz.func116 (by kernel_rfl) rfl _ _)
    (crossing_stops (n₁ := w2.heap.size) (B := w1.heap.size) 8 (by omega) hn G.len rfl ⟨by omega, by omega⟩ ⟨by omega, by omega⟩ ⟨by omega, by omega⟩ ⟨by omega, by omega⟩ h3 h5 c2' vL hv2)
    Kp.trans Kp.book (Below.refl _ _) (fun _ => rfl)
    (fun pre W => Boxed W w1.heap.size 2 (.int .i64 (sumX pre)) ∧ (Below w.heap.size w W ∧ w2.heap.size ≤ W.heap.size)) (fun _ _ _ => False)
    (OwnFrom.and (Own.from (boxed_own _ _ (fun pre => Value.int .i64 (sumX pre))) _) (OwnFrom.and (ownFrom_below (Nat.le_refl _) hB02.size) (fun _ _ _ _ hs hg _ => Nat.le_trans hs hg.size)))
    (fun _ _ _ _ _ hs _ _ => hs) ⟨bO2, hB02, Nat.le_refl _⟩
    (fun x a' W => ∃ Bx, w2.heap.size ≤ Bx ∧ W.heap[Bx]? = some (Obj.cells #[.int .i64 x.2.1, .int .i64 x.2.2.1, .int .i64 x.2.2.2] 82 (0, 0)) ∧ a' = (⟨#[Value.pointer (some ⟨g, 0, none⟩), Value.slice q k c, undef, undef, Value.int IntKind.i64 0,
          Value.int IntKind.i64 0, Value.pointer (some ⟨a.1, 0, none⟩), Value.int IntKind.i64 0,
          Value.pointer (some ⟨w1.heap.size, 0, none⟩), undef, Value.pointer (some ⟨Bx, 0, none⟩),
          Value.tuple #[Value.pointer (some ⟨a.1, 0, none⟩), Value.int IntKind.i64 0],
          Value.pointer (some ⟨g, 0, none⟩), Value.slice q k c,
          Value.tuple #[Value.pointer (some ⟨a.1, 0, none⟩), Value.int IntKind.i64 0],
          Value.pointer (some ⟨a.1, 0, none⟩), Value.int IntKind.i64 0, Value.int IntKind.i64 0,
          Value.bool false, undef, Value.pointer (some ⟨g, 0, none⟩),
          Value.pointer (some ⟨a.1, 0, none⟩),
          Value.func (Fn.func 116) #[] #[Value.pointer (some ⟨w1.heap.size + 1, 0, none⟩), Value.pointer (some ⟨w1.heap.size + 1 + 1, 0, none⟩)],
          .int .i64 (x.1 : Int), .agg #[.int .i64 x.2.1, .int .i64 x.2.2.1, .int .i64 x.2.2.2], undef, undef, undef, undef, undef], []⟩ : Act))
    (fun x a' _ X Y row hs hg hr => by
      obtain ⟨Bx, h1, h2, h3⟩ := hs
      exact ⟨Bx, h1, (hg.block Bx (Array.getElem?_eq_some_iff.1 h2).1 (fun e => by obtain ⟨_, o, ho, hc⟩ := hr Bx e.symm; rw [h2] at ho; cases ho; cases hc)).trans h2, h3⟩)
    ?assign ?body ?done ?stop
  case assign =>
    rintro l' pre ⟨i, u, v, y⟩ W K ⟨hv, hB, hs⟩ hK
    dsimp only [IE.enc]
    gi_wp2
    refine hK _ _ ((KeepsOthers.alloc _ _).from _) ⟨by simp, fun k h1 h2 => Below.heap_alloc W _ k (by omega), fun k cs f hk => (Below.heap_alloc W _ k (Array.getElem?_eq_some_iff.1 hk).1).trans hk⟩ ⟨hv.alloc _, hB.trans ((Below.refl _ W).alloc hB.size _), by simp; omega⟩ ⟨W.heap.size, hs, World.alloc_heap_new W _, rfl⟩
  case body =>
    rintro l' pre ⟨i, u, v, y⟩ a' W hl' ⟨r, hr⟩ ⟨hv, hB, hs⟩ ⟨Bx, hBx, bX, rfl⟩ hlt
    have hcv := hv.cell
    have hfv := hv.frozen
    have c2x : W.cell? ⟨Bx, 2, none⟩ = some (.int .i64 y) := by simp [World.cell?, bX]
    gi_wp2
    have h1 := hB1.size
    have gs := grownBy_setCell' W w1.heap.size (Value.int IntKind.i64 (RowKit.wrap64 (sumX pre + y)))
    refine ⟨(KeepsOthers.setCell _ _ _).from _, ⟨gs.size, fun k h1 h2 => gs.block k (by omega) (fun e => h2 (Option.some.inj e)), fun k cs f hk => (gs.block k (Array.getElem?_eq_some_iff.1 hk).1 (fun e => ?_)).trans hk⟩, ?_, hB.trans ((Below.refl w.heap.size W).setCell (p := ⟨w1.heap.size, 0, none⟩) h1 _), by have := gs.size; omega⟩
    · have e := Option.some.inj e
      subst e
      have hv' : W.heap[w1.heap.size]? = _ := hv
      rw [hv'] at hk; cases hk
    · have ew : IntKind.i64.wrap (sumX pre + y) = RowKit.wrap64 (sumX pre + y) := by rw [IntKind.wrap_i64]; unfold RowKit.wrap64; rfl
      rw [sumX_snoc]
      show Boxed _ _ 2 (.int .i64 (IntKind.i64.wrap (sumX pre + y)))
      rw [ew]; exact hv.set _
  case done =>
    rintro D ys W hD rfl ⟨hv, hB, hs⟩ hK
    have hcv := hv.cell
    gi_wp2
    refine ⟨by simp, .inl ⟨_, _, rfl, run_takeDeferred hK, ?_⟩⟩
    exact ⟨_, results_tmp2 rfl _ _ _, rfl, hB.trans (belowK_b (w := w) (Nat.le_refl _) W D _ _ (by have := hB1.size; omega) hK rfl rfl)⟩
  case stop =>
    rintro D c pre W _ _ h _
    exact h.elim
end
end Go.Proofs.YtbhndlpjfncliaaGreat
