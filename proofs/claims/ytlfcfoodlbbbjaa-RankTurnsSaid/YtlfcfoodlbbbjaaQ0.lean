/-
  What comes out of slices.Values, in a list of one's own: the library's AppendSeq over the library's Values.
-/
import Derived.RangeFuncBox
import Derived.RangeFuncNested
import Derived.RangeFuncBound
import Derived.RangeFuncCalls
import Derived.RangeFuncLeaves
import Derived.Shelf.Abstract
import Derived.Shelf.RegionOpen
import Derived.WalkKit
import Derived.OwnWalkIn
import Derived.TacticsInMore
import Derived.LoopNIn
import Derived.LoopIn
import Derived.Maps.AppendAt
import Derived.Test.YtlfcfoodlbbbjaaG2
import Derived.Test.YtlfcfoodlbbbjaaWk
namespace Go.Proofs.Ytlfcfoodlbbbjaa
open Go Go.Proofs Go.RowKit Go.Shelf Go.Hp
attribute [local go_sem] Oper.semAt_some
set_option linter.unusedVariables false
set_option linter.unusedSimpArgs false
set_option linter.unnecessarySimpa false

theorem infoE : (Try.prog.info? 2).map (fun i => (i.zero, i.size, i.bytes)) = some (some (.int .i64 0), 1, 8) := by kernel_rfl

set_option maxRecDepth 100000 in
set_option maxHeartbeats 2000000 in
theorem appendSeq_in (n : Nat) (hn : 3 ≤ n) (gf : Nat) (lb : Array Value) (egf : ∀ args w, (callFunc gf args).run Try.prog w = .ok (.enter gf args) w) (S : List Int → Prop) (N : Nat) (hlen : N ≤ maxLen) (hbytes : N * 8 ≤ 140737488355328) (w : World)
    (hseq : SeqStopsK Fence.wide (n - 1) Try.prog gf lb (fun x : Int => #[Value.int .i64 x]) (Below w.heap.size) S (fun _ => True) N w) (hS : ∀ xs, S xs → xs.length ≤ N) :
    CallsIn Fence.wide n Try.prog 33 #[.slice none 0 0, .func (.func gf) #[] lb] w fun e W' => ∃ v xs, e = .returned v ∧ S xs ∧ W'.ownsRow w.heap.size 2 1 v xs.length (xs.map (Value.int .i64)) ∧ (v = .slice none 0 0 ↔ xs = []) ∧ Below w.heap.size w W' := by
  have h1 : 1 ≤ n := by omega
  obtain ⟨i0, hi, hz0, hz1, hz2⟩ := info_parts infoE
  refine callsIn_of_wp_marks Try.func33 rfl trivial ?_ rfl
  simp only [Try.ntmps33, List.size_toArray, List.length_cons, List.length_nil, Nat.reduceAdd, Nat.reduceSub, Array.replicate_succ, Array.replicate_zero, List.push_toArray, List.append_toArray, List.nil_append, List.cons_append]
  gi_wp2
  have bO := Boxed.new w 22 (.slice none 0 0)
  have hB0 : Below w.heap.size w (w.alloc (.cells #[.slice none 0 0] 22)) := (Below.refl _ w).alloc (Nat.le_refl _) _
  refine wpIn_rangeFunc_ownG rfl h1 (gf := gf) (lb := lb) rfl trivial egf
    hseq belowK_t (belowK_b (by simp)) hB0 (fun _ => rfl)
    (fun pre W => (∃ v, Boxed W w.heap.size 22 v ∧ W.ownsRow w.heap.size 2 1 v pre.length (pre.map (Value.int .i64)) ∧ (v = .slice none 0 0 ↔ pre = [])) ∧ Below w.heap.size w W)
    (fun _ _ _ => False)
    (OwnFrom.and (Own.from (holdsRow_own w.heap.size w.heap.size 22 2 1 (fun pre => pre.length) (fun pre => pre.map (Value.int .i64)) (fun pre v => v = .slice none 0 0 ↔ pre = [])) _) (ownFrom_below (Nat.le_refl _) (by simp)))
    (fun _ _ _ _ _ hs _ _ => hs)
    ⟨⟨_, bO, World.ownsRow_nil _ _ _ _, by simp⟩, hB0⟩
    (fun x => { tmps := #[.slice none 0 0, .func (.func gf) #[] lb, .pointer (some ⟨w.heap.size, 0, none⟩), undef, .slice none 0 0, .int .i64 x, .func (.func gf) #[] lb, .int .i64 x, undef, undef, undef, undef, undef], defers := [] }) ?assign ?body ?done ?stop
  case assign =>
    intro l x W K hK
    gi_wp2
    exact hK
  case body =>
    rintro l pre x W ⟨⟨v, hv, hrow, hnil⟩, hB⟩ hlt
    have hc := hv.cell
    gi_wp2_with (gi_at_builtin; refine wpListIn_append_own _ rfl _ _ 22 rfl w.heap.size 2 i0 (.int .i64 0) 1 8 Try.underlying22 hi hz0 hz1 hz2 rfl (by decide) _ _ _ rfl (hrow.alloc _) ⟨W.heap.size, 0, none⟩ 1 1 [.int .i64 x] rfl rfl (cell_one_new _ _ _) (by simp [Value.oneCell']) (by omega) (by omega) (by have := hB.size; simp; omega) ?_; intro v' w1 hown' hgrow _; obtain ⟨g', cap', rfl⟩ := ownsRow_succ hown'; obtain ⟨hv1, hv2, hr2, hk2, hb2⟩ := hv.appended (by decide) hrow hB.size (Nat.le_refl _) hown' hgrow; have hc1 := hv1.cell; have hf1 := hv1.frozen)
    exact ⟨hk2.from _, hb2, ⟨_, hv2, by simpa using hr2, by simp⟩, hB.trans hb2⟩
  case done =>
    rintro D ys W hD hys ⟨⟨v, hv, hrow, hnil⟩, hB⟩ hK
    have hc := hv.cell
    gi_wp2
    refine ⟨by simp, .inl ⟨_, _, rfl, run_takeDeferred hK, ?_⟩⟩
    exact ⟨_, results_tmp rfl _ _ _, v, ys, rfl, hys, ownsRow_putObj hrow _ hK rfl, hnil, hB.trans (belowK_b (w := w) (Nat.le_refl _) W D _ _ (by simp at hD; omega) hK rfl rfl)⟩
  case stop =>
    rintro D c pre W _ _ h _
    exact h.elim

set_option maxRecDepth 100000 in
set_option maxHeartbeats 1000000 in
theorem values1_in (n : Nat) (hn : 1 ≤ n) (l Bs n₀ len cap : Nat) (q : Option Addr) (zs : List Int) (hlen : zs.length = len) (hreach : len * 8 ≤ 140737488351232) (hb : ∀ a, q = some a → len ≠ 0 → a.block < n₀) (J Jx : List Int → World → Prop)
    (hY : ∀ pre x W, J pre W → pre.length < len → YieldAt Fence.wide (n - 1) Try.prog l #[.int .i64 x] W fun e W' =>
      (e = .returned (.bool true) ∧ J (pre ++ [x]) W' ∧ Below n₀ W W') ∨ (e = .returned (.bool false) ∧ Jx (pre ++ [x]) W'))
    (W : World) (hBs : W.cell? ⟨Bs, 0, none⟩ = some (.slice q len cap)) (hc : valsAt W.heap q (zs.map (Value.int .i64))) (h0 : J [] W) :
    CallsIn Fence.wide n Try.prog 28 #[.func (.yield l) #[] #[], .pointer (some ⟨Bs, 0, none⟩)] W fun e W' => (∃ v, e = .returned v) ∧
      ((∃ ys, ys = zs ∧ J ys W') ∨ (∃ pre, True ∧ Jx pre W')) := by
  rcases Nat.eq_zero_or_pos len with rfl | hpos
  · obtain rfl : zs = [] := List.length_eq_zero_iff.1 hlen
    refine callsIn_of_wp Try.func28 rfl trivial ?_ rfl
    simp only [Try.ntmps28, List.size_toArray, List.length_cons, List.length_nil, Nat.reduceAdd, Nat.reduceSub, Array.replicate_succ, Array.replicate_zero, List.push_toArray, List.append_toArray, List.nil_append, List.cons_append]
    gi_wp2
    gi_loopw [7] (fun i wr => i = .int .i64 0 ∧ J [] wr) (fun _ _ => 0)
    case atStart => exact ⟨rfl, h0⟩
    case round =>
      obtain ⟨rfl, hJs⟩ := hrel
      gi_wp2
      go_end0
      exact ⟨⟨_, rfl⟩, .inl ⟨_, rfl, hJs⟩⟩
  obtain ⟨z0, hz0⟩ := get_lt (l := zs) (i := 0) (by omega)
  obtain ⟨a, rfl, ha0⟩ := hc 0 (.int .i64 z0) (by simp [hz0])
  have hab := hb a rfl (by omega)
  obtain ⟨b, off, sp⟩ := a
  have hsp : sp = none := by
    cases sp with
    | none => rfl
    | some s =>
      unfold Hp.cell at ha0
      have e : ((⟨b, off, some s⟩ : Addr).add 0) = ⟨b, off, some s⟩ := by unfold Addr.add; rw [if_pos rfl]
      rw [e] at ha0
      split at ha0
      · simp at ha0
      · cases ha0
  subst hsp
  have hcs : ∀ k x, zs[k]? = some x → W.cell? ⟨b, off + k, none⟩ = some (.int .i64 x) := fun k x hk => by
    obtain ⟨a, ea, hc⟩ := hc k (.int .i64 x) (by simp [hk])
    cases ea; rw [add_mk] at hc; exact hc
  refine callsIn_of_wp Try.func28 rfl trivial ?_ rfl
  simp only [Try.ntmps28, List.size_toArray, List.length_cons, List.length_nil, Nat.reduceAdd, Nat.reduceSub, Array.replicate_succ, Array.replicate_zero, List.push_toArray, List.append_toArray, List.nil_append, List.cons_append]
  gi_wp2
  gi_loopw [7] (fun i wr => ∃ k : Nat, k ≤ len ∧ i = .int .i64 k ∧ J (zs.take k) wr ∧ Below n₀ W wr)
    (fun i _ => len - (intOf i).toNat)
  case atStart => exact ⟨0, Nat.zero_le _, rfl, h0, Below.refl _ _⟩
  case round =>
    obtain ⟨k, hk, rfl, hJs, hnx⟩ := hrel
    by_cases hlt : k < len
    · obtain ⟨x, hx⟩ := get_lt (l := zs) (i := k) (by omega)
      have hcx : wr.cell? ⟨b, off + k, none⟩ = some (.int .i64 x) := (hnx.cell (p := ⟨b, off + k, none⟩) hab).trans (hcs k x hx)
      obtain ⟨fn, tmps, assign, body, hy, hR⟩ := hY _ x wr hJs (by rw [List.length_take]; omega)
      gi_wp2
      refine hR.mono ?_
      rintro e W3 (⟨rfl, hJ3, hk3⟩ | ⟨rfl, hJx3⟩)
      · gi_wp2
        go_roundw
        case rel => exact ⟨k + 1, by omega, by simp, by rw [take_snoc hx]; exact hJ3, hnx.trans hk3⟩
        case measure => simp [intOf]; omega
      · gi_wp2
        refine bodyPost_ret (results_none rfl _ _ _) rfl ?_
        exact ⟨⟨_, rfl⟩, .inr ⟨_, trivial, hJx3⟩⟩
    · obtain rfl : k = len := by omega
      gi_wp2
      go_end0
      rw [List.take_of_length_le (by omega)] at hJs
      exact ⟨⟨_, rfl⟩, .inl ⟨_, rfl, hJs⟩⟩

theorem values_stops (n : Nat) (hn : 1 ≤ n) (Bs n₀ len cap : Nat) (q : Option Addr) (zs : List Int) (hlen : zs.length = len) (hreach : len * 8 ≤ 140737488351232) (w : World) (hBs : Bs < w.heap.size) (hn₀ : n₀ ≤ w.heap.size)
    (hc : w.cell? ⟨Bs, 0, none⟩ = some (.slice q len cap)) (hb : ∀ a, q = some a → len ≠ 0 → a.block < n₀) (hv : valsAt w.heap q (zs.map (Value.int .i64))) :
    SeqStopsK Fence.wide n Try.prog 28 #[.pointer (some ⟨Bs, 0, none⟩)] (fun x : Int => #[Value.int .i64 x]) (Below n₀) (fun ys => ys = zs) (fun _ => True) len w := fun l J Jx W hW _ _ hY h0 => by
  have hc' := (hW.cell (p := ⟨Bs, 0, none⟩) hBs).trans hc
  have hv' : valsAt W.heap q (zs.map (Value.int .i64)) := hv.ext ⟨hW.size, hW.block⟩
  exact values1_in n hn l Bs n₀ len cap q zs hlen hreach hb J Jx hY W hc' hv' h0

theorem AppendSeq_of {h0 h : Heap} {R : Rws} {Bs len cap : Nat} {q : Option Addr} {zs : List Int} {K : Option Addr → Nat → Nat → Heap → Prop} (hlen : zs.length = len) (hbig : len ≤ 2 ^ 40)
    (s : St h0 h ((Bs, [.slice q len cap]) :: R)) (hv : valsAt h q (zs.map (Value.int .i64)))
    (hk : ∀ q' c' X h', Go.Hp.Own q' c' (zs.map (Value.int .i64)) X → St h0 h' (X ++ (Bs, [.slice q len cap]) :: R) → K q' len c' h') :
    slices_AppendSeq_Lint64_int64 none 0 0 (.func (.func 28) #[] #[.pointer (some ⟨Bs, 0, none⟩)]) h K := by
  intro w hw
  subst hw
  refine ⟨enters_of Try.func33 (by kernel_rfl) rfl _ _, ?_⟩
  have hBs : Bs < w.heap.size := (s.rows (Bs, [.slice q len cap]) (by simp)).lt
  have hb : ∀ a, q = some a → len ≠ 0 → a.block < w.heap.size := fun a ha hne => by
    obtain ⟨x, hx⟩ := get_lt (l := zs) (i := 0) (by omega)
    obtain ⟨a', ea, hc⟩ := hv 0 (.int .i64 x) (by simp [hx])
    rw [ha] at ea; cases ea
    have := cell_lt hc; simpa using this
  have HS := values_stops 9 (by omega) Bs w.heap.size len cap q zs hlen (by omega) w hBs (Nat.le_refl _) (by rw [cell_eq]; exact s.rd0 0) hb hv
  have HC := appendSeq_in 10 (by omega) 28 #[.pointer (some ⟨Bs, 0, none⟩)] (fun args w => enters_of Try.func28 (by kernel_rfl) rfl _ _) (fun ys => ys = zs) len (by simp [maxLen]; omega) (by omega) w HS (by rintro xs rfl; omega)
  refine (callsIn_wide.1 HC).mono ?_
  rintro e w' ⟨v, xs, rfl, rfl, hrow, hnil, hB⟩
  have hE : Ext w.heap w'.heap := ⟨hB.size, hB.block⟩
  have ho : Out w w' := ⟨hB.tape, hB.os, hB.output, fun d => d.elim⟩
  rcases hrow.2 with ⟨rfl, hz⟩ | ⟨g, cap', cur, rfl, hbase, hg, r1, r2, r3, r4⟩
  · obtain rfl : xs = [] := List.length_eq_zero_iff.1 hz
    refine ⟨_, rfl, ho, ?_⟩
    subst hlen
    exact hk none 0 [] _ Go.Hp.Own.nil (s.ofExt hE)
  · refine ⟨_, rfl, ho, ?_⟩
    rw [hlen]
    have e1 : cur.toList = xs.map (Value.int .i64) ++ cur.toList.drop (xs.length * 1) := by rw [← r4]; exact (List.take_append_drop _ _).symm
    have r : row w'.heap g (xs.map (Value.int .i64) ++ cur.toList.drop (xs.length * 1)) := ⟨2, by rw [← e1]; simpa using hg⟩
    refine hk _ cap' [(g, xs.map (Value.int .i64) ++ cur.toList.drop (xs.length * 1))] _ (.inr ⟨g, _, rfl, ?_, rfl⟩) (s.join ⟨hE, ?_, ?_, by simp⟩)
    · rw [← e1]; simp; omega
    · intro x hx; simp only [List.mem_singleton] at hx; subst hx; exact r
    · intro x hx; simp only [List.mem_singleton] at hx; subst hx; exact hbase
end Go.Proofs.Ytlfcfoodlbbbjaa
