/- WRITTEN BY A PROGRAM OF THIS SESSION (gen.py): what each function asks of memory, and that the model's run comes to it. -/
import Derived.Test.YtlfcfoodlbbbjaaProg
import Derived.Test.YtlfcfoodlbbbjaaFw8

namespace Go.Proofs.Ytlfcfoodlbbbjaa
open Go.Hp
set_option linter.unusedVariables false
set_option linter.unusedSimpArgs false

/-! ### slices.Values[[]int64,int64]: function 22 -/
def slices_Values_Lint64_int64 (a1 : Option Addr) (a1l : Nat) (a1c : Nat) (h : Heap) (K : Value → Heap → Prop) : Prop :=
  newP h (.cells #[(.slice a1 a1l a1c)] 22) fun a2 h3 => ((K (.func (.func 28) #[] #[(.pointer (some a2))]) h3))
def slices_Values_Lint64_int64.ret (K : Value → Heap → Prop) (v : Value) (h : Heap) : Prop := K v h
theorem slices_Values_Lint64_int64.ret_elim {K : Value → Heap → Prop} {K' : Value → Heap → Prop} {v : Value} {h : Heap} (hk : ∀ x h, K x h → K' x h) (hh : slices_Values_Lint64_int64.ret K v h) : K' v h := hk _ _ hh
noncomputable def slices_Values_Lint64_int64.ctx : Ctx := { P := Try.prog, hint := fun t => bif Nat.beq t 44 then some 24 else none, call := fun _ _ _ _ => False, qcall := fun _ _ _ _ => False, quiet := fun f => false, loop := fun _ _ _ _ => False }
theorem slices_Values_Lint64_int64.ok : slices_Values_Lint64_int64.ctx.OK where
  mixed := by kernel_rfl
  mono := fun hh _ => hh.elim
  call := fun hh => hh.elim
  qmono := fun hh _ => hh.elim
  qval := fun hh => hh.elim
  qcall := fun hh => hh.elim
noncomputable def slices_Values_Lint64_int64.code : Code := (Try.f22.body).getD .skip
def slices_Values_Lint64_int64.ann : Ann := .auto
set_option maxRecDepth 100000 in
theorem slices_Values_Lint64_int64.eq (a1 : Option Addr) (a1l : Nat) (a1c : Nat) (h : Heap) (K : Value → Heap → Prop) : evF slices_Values_Lint64_int64.ctx Try.f22 slices_Values_Lint64_int64.ann [(.slice a1 a1l a1c)] h (slices_Values_Lint64_int64.ret K) = slices_Values_Lint64_int64 a1 a1l a1c h K := by kernel_rfl
set_option maxRecDepth 100000 in
theorem slices_Values_Lint64_int64.calls {a1 : Option Addr} {a1l : Nat} {a1c : Nat} {h : Heap} {K : Value → Heap → Prop} (hh : slices_Values_Lint64_int64 a1 a1l a1c h K) (w : World) (hw : w.heap = h) :
    (callFunc 22 #[(.slice a1 a1l a1c)]).run Try.prog w = .ok (.enter 22 #[(.slice a1 a1l a1c)]) w ∧ Calls Try.prog 22 #[(.slice a1 a1l a1c)] w fun e w' => ∃ v, e = .returned v ∧ Out w w' ∧ slices_Values_Lint64_int64.ret K v w'.heap := by
  rw [← slices_Values_Lint64_int64.eq] at hh
  exact fn_calls (args := [(.slice a1 a1l a1c)]) (c := slices_Values_Lint64_int64.code) slices_Values_Lint64_int64.ok Try.func22 (by kernel_rfl) (by kernel_rfl) (by kernel_rfl) (by kernel_rfl) (loops_ok (l := []) (by kernel_rfl) trivial) hh w hw

/-! ### slices.Sort[[]int64,int64]: function 27, by its contract -/
def slices_Sort_Lint64_int64.ret (K : Heap → Prop) (v : Value) (h : Heap) : Prop := match v with
  | (.tuple ⟨[]⟩) => K h
  | _ => False
theorem slices_Sort_Lint64_int64.ret_elim {K : Heap → Prop} {K' : Value → Heap → Prop} {v : Value} {h : Heap} (hk : ∀  h, K h → K' (.tuple #[]) h) (hh : slices_Sort_Lint64_int64.ret K v h) : K' v h := by
  unfold slices_Sort_Lint64_int64.ret at hh
  split at hh
  · exact hk _ hh
  · exact hh.elim
def slices_Sort_Lint64_int64 (a1 : Option Addr) (a1l : Nat) (a1c : Nat) (h : Heap) (K : Heap → Prop) : Prop := ∀ w : World, w.heap = h → (callFunc 27 #[(.slice a1 a1l a1c)]).run Try.prog w = .ok (.enter 27 #[(.slice a1 a1l a1c)]) w ∧ Calls Try.prog 27 #[(.slice a1 a1l a1c)] w fun e w' => ∃ v, e = .returned v ∧ Out w w' ∧ slices_Sort_Lint64_int64.ret K v w'.heap
theorem slices_Sort_Lint64_int64.calls {a1 : Option Addr} {a1l : Nat} {a1c : Nat} {h : Heap} {K : Heap → Prop} (hh : slices_Sort_Lint64_int64 a1 a1l a1c h K) (w : World) (hw : w.heap = h) : (callFunc 27 #[(.slice a1 a1l a1c)]).run Try.prog w = .ok (.enter 27 #[(.slice a1 a1l a1c)]) w ∧ Calls Try.prog 27 #[(.slice a1 a1l a1c)] w fun e w' => ∃ v, e = .returned v ∧ Out w w' ∧ slices_Sort_Lint64_int64.ret K v w'.heap := hh w hw

/-! ### slices.AppendSeq[[]int64,int64]: function 33, by its contract -/
def slices_AppendSeq_Lint64_int64.ret (K : (Option Addr) → Nat → Nat → Heap → Prop) (v : Value) (h : Heap) : Prop := match v with
  | (.slice r3 r3l r3c) => K r3 r3l r3c h
  | _ => False
theorem slices_AppendSeq_Lint64_int64.ret_elim {K : (Option Addr) → Nat → Nat → Heap → Prop} {K' : Value → Heap → Prop} {v : Value} {h : Heap} (hk : ∀ r3 r3l r3c h, K r3 r3l r3c h → K' (.slice r3 r3l r3c) h) (hh : slices_AppendSeq_Lint64_int64.ret K v h) : K' v h := by
  unfold slices_AppendSeq_Lint64_int64.ret at hh
  split at hh
  · exact hk _ _ _ _ hh
  · exact hh.elim
def slices_AppendSeq_Lint64_int64 (a1 : Option Addr) (a1l : Nat) (a1c : Nat) (a2 : Value) (h : Heap) (K : (Option Addr) → Nat → Nat → Heap → Prop) : Prop := ∀ w : World, w.heap = h → (callFunc 33 #[(.slice a1 a1l a1c), a2]).run Try.prog w = .ok (.enter 33 #[(.slice a1 a1l a1c), a2]) w ∧ Calls Try.prog 33 #[(.slice a1 a1l a1c), a2] w fun e w' => ∃ v, e = .returned v ∧ Out w w' ∧ slices_AppendSeq_Lint64_int64.ret K v w'.heap
theorem slices_AppendSeq_Lint64_int64.calls {a1 : Option Addr} {a1l : Nat} {a1c : Nat} {a2 : Value} {h : Heap} {K : (Option Addr) → Nat → Nat → Heap → Prop} (hh : slices_AppendSeq_Lint64_int64 a1 a1l a1c a2 h K) (w : World) (hw : w.heap = h) : (callFunc 33 #[(.slice a1 a1l a1c), a2]).run Try.prog w = .ok (.enter 33 #[(.slice a1 a1l a1c), a2]) w ∧ Calls Try.prog 33 #[(.slice a1 a1l a1c), a2] w fun e w' => ∃ v, e = .returned v ∧ Out w w' ∧ slices_AppendSeq_Lint64_int64.ret K v w'.heap := hh w hw

/-! ### slices.Collect[int64]: function 26 -/
def slices_Collect_int64 (a1 : Value) (h : Heap) (K : (Option Addr) → Nat → Nat → Heap → Prop) : Prop :=
  (callP3 (slices_AppendSeq_Lint64_int64 none 0 0 a1 h) fun x2 x2l x2c h3 => K x2 x2l x2c h3)
def slices_Collect_int64.ret (K : (Option Addr) → Nat → Nat → Heap → Prop) (v : Value) (h : Heap) : Prop := match v with
  | (.slice r4 r4l r4c) => K r4 r4l r4c h
  | _ => False
theorem slices_Collect_int64.ret_elim {K : (Option Addr) → Nat → Nat → Heap → Prop} {K' : Value → Heap → Prop} {v : Value} {h : Heap} (hk : ∀ r4 r4l r4c h, K r4 r4l r4c h → K' (.slice r4 r4l r4c) h) (hh : slices_Collect_int64.ret K v h) : K' v h := by
  unfold slices_Collect_int64.ret at hh
  split at hh
  · exact hk _ _ _ _ hh
  · exact hh.elim
def slices_Collect_int64.call (f : FuncId) (vs : List Value) (h : Heap) (K : Value → Heap → Prop) : Prop := match f, vs with
  | 33, [(.slice a1 a1l a1c), a2] => callP3 (slices_AppendSeq_Lint64_int64 a1 a1l a1c a2 h) fun r3 r3l r3c h' => K (.slice r3 r3l r3c) h'
  | _, _ => False
noncomputable def slices_Collect_int64.ctx : Ctx := { P := Try.prog, hint := fun t => bif Nat.beq t 44 then some 24 else none, call := slices_Collect_int64.call, qcall := fun _ _ _ _ => False, quiet := fun f => false, loop := fun _ _ _ _ => False }
theorem slices_Collect_int64.ok : slices_Collect_int64.ctx.OK where
  mixed := by kernel_rfl
  mono := by
    intro f args h K K' hh hk
    change slices_Collect_int64.call f args h K at hh
    change slices_Collect_int64.call f args h K'
    unfold slices_Collect_int64.call at hh ⊢
    split at hh
    · obtain ⟨R, h1, h2⟩ := hh
      exact ⟨R, h1, fun _ _ _ x hr => hk _ _ (h2 _ _ _ x hr)⟩
    · exact hh.elim
  call := by
    intro f args h K hh w hw
    change slices_Collect_int64.call f args h K at hh
    unfold slices_Collect_int64.call at hh
    split at hh
    · obtain ⟨R, h1, h2⟩ := hh
      obtain ⟨g1, g2⟩ := slices_AppendSeq_Lint64_int64.calls h1 w hw
      exact ⟨g1, g2.mono fun e w' ⟨v, he, ho, hr⟩ => ⟨v, he, ho, slices_AppendSeq_Lint64_int64.ret_elim h2 hr⟩⟩
    · exact hh.elim
  qmono := fun hh _ => hh.elim
  qval := fun hh => hh.elim
  qcall := fun hh => hh.elim
noncomputable def slices_Collect_int64.code : Code := (Try.f26.body).getD .skip
def slices_Collect_int64.ann : Ann := .auto
set_option maxRecDepth 100000 in
theorem slices_Collect_int64.eq (a1 : Value) (h : Heap) (K : (Option Addr) → Nat → Nat → Heap → Prop) : evF slices_Collect_int64.ctx Try.f26 slices_Collect_int64.ann [a1] h (slices_Collect_int64.ret K) = slices_Collect_int64 a1 h K := by kernel_rfl
set_option maxRecDepth 100000 in
theorem slices_Collect_int64.calls {a1 : Value} {h : Heap} {K : (Option Addr) → Nat → Nat → Heap → Prop} (hh : slices_Collect_int64 a1 h K) (w : World) (hw : w.heap = h) :
    (callFunc 26 #[a1]).run Try.prog w = .ok (.enter 26 #[a1]) w ∧ Calls Try.prog 26 #[a1] w fun e w' => ∃ v, e = .returned v ∧ Out w w' ∧ slices_Collect_int64.ret K v w'.heap := by
  rw [← slices_Collect_int64.eq] at hh
  exact fn_calls (args := [a1]) (c := slices_Collect_int64.code) slices_Collect_int64.ok Try.func26 (by kernel_rfl) (by kernel_rfl) (by kernel_rfl) (by kernel_rfl) (loops_ok (l := []) (by kernel_rfl) trivial) hh w hw

/-! ### slices.Sorted[int64]: function 21 -/
def slices_Sorted_int64 (a1 : Value) (h : Heap) (K : (Option Addr) → Nat → Nat → Heap → Prop) : Prop :=
  (callP3 (slices_Collect_int64 a1 h) fun x2 x2l x2c h3 => (callP0 (slices_Sort_Lint64_int64 x2 x2l x2c h3) fun h4 => K x2 x2l x2c h4))
def slices_Sorted_int64.ret (K : (Option Addr) → Nat → Nat → Heap → Prop) (v : Value) (h : Heap) : Prop := match v with
  | (.slice r5 r5l r5c) => K r5 r5l r5c h
  | _ => False
theorem slices_Sorted_int64.ret_elim {K : (Option Addr) → Nat → Nat → Heap → Prop} {K' : Value → Heap → Prop} {v : Value} {h : Heap} (hk : ∀ r5 r5l r5c h, K r5 r5l r5c h → K' (.slice r5 r5l r5c) h) (hh : slices_Sorted_int64.ret K v h) : K' v h := by
  unfold slices_Sorted_int64.ret at hh
  split at hh
  · exact hk _ _ _ _ hh
  · exact hh.elim
def slices_Sorted_int64.call (f : FuncId) (vs : List Value) (h : Heap) (K : Value → Heap → Prop) : Prop := match f, vs with
  | 26, [a1] => callP3 (slices_Collect_int64 a1 h) fun r4 r4l r4c h' => K (.slice r4 r4l r4c) h'
  | 27, [(.slice a1 a1l a1c)] => callP0 (slices_Sort_Lint64_int64 a1 a1l a1c h) fun h' => K (.tuple #[]) h'
  | _, _ => False
noncomputable def slices_Sorted_int64.ctx : Ctx := { P := Try.prog, hint := fun t => bif Nat.beq t 44 then some 24 else none, call := slices_Sorted_int64.call, qcall := fun _ _ _ _ => False, quiet := fun f => false, loop := fun _ _ _ _ => False }
theorem slices_Sorted_int64.ok : slices_Sorted_int64.ctx.OK where
  mixed := by kernel_rfl
  mono := by
    intro f args h K K' hh hk
    change slices_Sorted_int64.call f args h K at hh
    change slices_Sorted_int64.call f args h K'
    unfold slices_Sorted_int64.call at hh ⊢
    split at hh
    · obtain ⟨R, h1, h2⟩ := hh
      exact ⟨R, h1, fun _ _ _ x hr => hk _ _ (h2 _ _ _ x hr)⟩
    · obtain ⟨R, h1, h2⟩ := hh
      exact ⟨R, h1, fun x hr => hk _ _ (h2 x hr)⟩
    · exact hh.elim
  call := by
    intro f args h K hh w hw
    change slices_Sorted_int64.call f args h K at hh
    unfold slices_Sorted_int64.call at hh
    split at hh
    · obtain ⟨R, h1, h2⟩ := hh
      obtain ⟨g1, g2⟩ := slices_Collect_int64.calls h1 w hw
      exact ⟨g1, g2.mono fun e w' ⟨v, he, ho, hr⟩ => ⟨v, he, ho, slices_Collect_int64.ret_elim h2 hr⟩⟩
    · obtain ⟨R, h1, h2⟩ := hh
      obtain ⟨g1, g2⟩ := slices_Sort_Lint64_int64.calls h1 w hw
      exact ⟨g1, g2.mono fun e w' ⟨v, he, ho, hr⟩ => ⟨v, he, ho, slices_Sort_Lint64_int64.ret_elim h2 hr⟩⟩
    · exact hh.elim
  qmono := fun hh _ => hh.elim
  qval := fun hh => hh.elim
  qcall := fun hh => hh.elim
noncomputable def slices_Sorted_int64.code : Code := (Try.f21.body).getD .skip
def slices_Sorted_int64.ann : Ann := .auto
set_option maxRecDepth 100000 in
theorem slices_Sorted_int64.eq (a1 : Value) (h : Heap) (K : (Option Addr) → Nat → Nat → Heap → Prop) : evF slices_Sorted_int64.ctx Try.f21 slices_Sorted_int64.ann [a1] h (slices_Sorted_int64.ret K) = slices_Sorted_int64 a1 h K := by kernel_rfl
set_option maxRecDepth 100000 in
theorem slices_Sorted_int64.calls {a1 : Value} {h : Heap} {K : (Option Addr) → Nat → Nat → Heap → Prop} (hh : slices_Sorted_int64 a1 h K) (w : World) (hw : w.heap = h) :
    (callFunc 21 #[a1]).run Try.prog w = .ok (.enter 21 #[a1]) w ∧ Calls Try.prog 21 #[a1] w fun e w' => ∃ v, e = .returned v ∧ Out w w' ∧ slices_Sorted_int64.ret K v w'.heap := by
  rw [← slices_Sorted_int64.eq] at hh
  exact fn_calls (args := [a1]) (c := slices_Sorted_int64.code) slices_Sorted_int64.ok Try.func21 (by kernel_rfl) (by kernel_rfl) (by kernel_rfl) (by kernel_rfl) (loops_ok (l := []) (by kernel_rfl) trivial) hh w hw

/-! ### strait/rank.Median: function 7 -/
def rank_Median (a1 : Option Addr) (a1l : Nat) (a1c : Nat) (h : Heap) (K : Int → Bool → Heap → Prop) : Prop :=
  ((iteB ((a1l : Int) == (0 : Int)) (K 0 false h) ((callP1 (slices_Values_Lint64_int64 a1 a1l a1c h) fun x2 h3 => callP3 (slices_Sorted_int64 x2 h3) fun x4 x4l x4c h5 => (2 : Int) ≠ 0 ∧ bindV (IntKind.i64.wrap ((IntKind.i64.wrap ((a1l : Int) - 1)).tdiv 2)) fun n6 => chkP x4 fun a7 => (0 ≤ n6 ∧ n6 < (x4l : Int)) ∧ ∃ (x8 : Int), cell h5 (a7.add (n6.toNat * 1)) = some (.int .i64 x8) ∧ K x8 true h5))))
def rank_Median.ret (K : Int → Bool → Heap → Prop) (v : Value) (h : Heap) : Prop := match v with
  | (.tuple ⟨[(.int .i64 r9), (.bool r10)]⟩) => K r9 r10 h
  | _ => False
theorem rank_Median.ret_elim {K : Int → Bool → Heap → Prop} {K' : Value → Heap → Prop} {v : Value} {h : Heap} (hk : ∀ r9 r10 h, K r9 r10 h → K' (.tuple #[(.int .i64 r9), (.bool r10)]) h) (hh : rank_Median.ret K v h) : K' v h := by
  unfold rank_Median.ret at hh
  split at hh
  · exact hk _ _ _ hh
  · exact hh.elim
def rank_Median.call (f : FuncId) (vs : List Value) (h : Heap) (K : Value → Heap → Prop) : Prop := match f, vs with
  | 21, [a1] => callP3 (slices_Sorted_int64 a1 h) fun r5 r5l r5c h' => K (.slice r5 r5l r5c) h'
  | 22, [(.slice a1 a1l a1c)] => callP1 (slices_Values_Lint64_int64 a1 a1l a1c h) fun r4 h' => K r4 h'
  | _, _ => False
noncomputable def rank_Median.ctx : Ctx := { P := Try.prog, hint := fun t => bif Nat.beq t 44 then some 24 else none, call := rank_Median.call, qcall := fun _ _ _ _ => False, quiet := fun f => false, loop := fun _ _ _ _ => False }
theorem rank_Median.ok : rank_Median.ctx.OK where
  mixed := by kernel_rfl
  mono := by
    intro f args h K K' hh hk
    change rank_Median.call f args h K at hh
    change rank_Median.call f args h K'
    unfold rank_Median.call at hh ⊢
    split at hh
    · obtain ⟨R, h1, h2⟩ := hh
      exact ⟨R, h1, fun _ _ _ x hr => hk _ _ (h2 _ _ _ x hr)⟩
    · obtain ⟨R, h1, h2⟩ := hh
      exact ⟨R, h1, fun _ x hr => hk _ _ (h2 _ x hr)⟩
    · exact hh.elim
  call := by
    intro f args h K hh w hw
    change rank_Median.call f args h K at hh
    unfold rank_Median.call at hh
    split at hh
    · obtain ⟨R, h1, h2⟩ := hh
      obtain ⟨g1, g2⟩ := slices_Sorted_int64.calls h1 w hw
      exact ⟨g1, g2.mono fun e w' ⟨v, he, ho, hr⟩ => ⟨v, he, ho, slices_Sorted_int64.ret_elim h2 hr⟩⟩
    · obtain ⟨R, h1, h2⟩ := hh
      obtain ⟨g1, g2⟩ := slices_Values_Lint64_int64.calls h1 w hw
      exact ⟨g1, g2.mono fun e w' ⟨v, he, ho, hr⟩ => ⟨v, he, ho, slices_Values_Lint64_int64.ret_elim h2 hr⟩⟩
    · exact hh.elim
  qmono := fun hh _ => hh.elim
  qval := fun hh => hh.elim
  qcall := fun hh => hh.elim
noncomputable def rank_Median.code : Code := (Try.f7.body).getD .skip
def rank_Median.ann : Ann := .auto
set_option maxRecDepth 100000 in
theorem rank_Median.eq (a1 : Option Addr) (a1l : Nat) (a1c : Nat) (h : Heap) (K : Int → Bool → Heap → Prop) : evF rank_Median.ctx Try.f7 rank_Median.ann [(.slice a1 a1l a1c)] h (rank_Median.ret K) = rank_Median a1 a1l a1c h K := by kernel_rfl
set_option maxRecDepth 100000 in
theorem rank_Median.calls {a1 : Option Addr} {a1l : Nat} {a1c : Nat} {h : Heap} {K : Int → Bool → Heap → Prop} (hh : rank_Median a1 a1l a1c h K) (w : World) (hw : w.heap = h) :
    (callFunc 7 #[(.slice a1 a1l a1c)]).run Try.prog w = .ok (.enter 7 #[(.slice a1 a1l a1c)]) w ∧ Calls Try.prog 7 #[(.slice a1 a1l a1c)] w fun e w' => ∃ v, e = .returned v ∧ Out w w' ∧ rank_Median.ret K v w'.heap := by
  rw [← rank_Median.eq] at hh
  exact fn_calls (args := [(.slice a1 a1l a1c)]) (c := rank_Median.code) rank_Median.ok Try.func7 (by kernel_rfl) (by kernel_rfl) (by kernel_rfl) (by kernel_rfl) (loops_ok (l := []) (by kernel_rfl) trivial) hh w hw

/-! ### strait/rank.Inverse: function 16 -/
def rank_Inverse.b1 (K0 : (Option Addr) → Nat → Nat → Bool → Heap → Prop) (K4 : Heap → Prop) (cont : (Option Addr) → Nat → Nat → Addr → Nat → Nat → (Option Addr) → Nat → Nat → Int → Int → Heap → Prop) (c0_2001 : Option Addr) (c0_2002 : Nat) (c0_2003 : Nat) (c4_2004 : Addr) (c4_2005 : Nat) (c4_2006 : Nat) (c20_2007 : Option Addr) (c20_2008 : Nat) (c20_2009 : Nat) (c21_2010 : Int) (v22_2011 : Int) (h2012 : Heap) : Prop :=
  (iteB (decide (v22_2011 < c21_2010)) ((chkP c20_2007 fun a2013 => (0 ≤ v22_2011 ∧ v22_2011 < (c20_2008 : Int)) ∧ ∃ (x2014 : Int), cell h2012 (a2013.add (v22_2011.toNat * 1)) = some (.int .i64 x2014) ∧ (iteB (decide (x2014 < (0 : Int))) (K0 none 0 0 false h2012) (iteB (decide (x2014 ≥ (c0_2002 : Int))) (K0 none 0 0 false h2012) ((0 ≤ x2014 ∧ x2014 < (c4_2005 : Int)) ∧ ∃ (x2015 : Int), cell h2012 (c4_2004.add (x2014.toNat * 1)) = some (.int .i64 x2015) ∧ (iteB (decide (x2015 ≥ (0 : Int))) (K0 none 0 0 false h2012) (((0 ≤ x2014 ∧ x2014 < (c4_2005 : Int)) ∧ stC h2012 (c4_2004.add (x2014.toNat * 1)) (.int .i64 v22_2011) fun h2019 => ((cont c0_2001 c0_2002 c0_2003 c4_2004 c4_2005 c4_2006 c20_2007 c20_2008 c20_2009 c21_2010 (IntKind.i64.wrap (v22_2011 + 1)) h2019)))))))))) (K4 h2012))
def rank_Inverse.l1 (K0 : (Option Addr) → Nat → Nat → Bool → Heap → Prop) (K4 : Heap → Prop) : Nat → (Option Addr) → Nat → Nat → Addr → Nat → Nat → (Option Addr) → Nat → Nat → Int → Int → Heap → Prop
  | 0, _, _, _, _, _, _, _, _, _, _, _, _ => False
  | m + 1, c0_2001, c0_2002, c0_2003, c4_2004, c4_2005, c4_2006, c20_2007, c20_2008, c20_2009, c21_2010, v22_2011, h => rank_Inverse.b1 K0 K4 (rank_Inverse.l1 K0 K4 m) c0_2001 c0_2002 c0_2003 c4_2004 c4_2005 c4_2006 c20_2007 c20_2008 c20_2009 c21_2010 v22_2011 h
def rank_Inverse.b0 (K2 : Heap → Prop) (cont : (Option Addr) → Nat → Nat → Addr → Nat → Nat → Int → Int → Heap → Prop) (c0_1001 : Option Addr) (c0_1002 : Nat) (c0_1003 : Nat) (c4_1004 : Addr) (c4_1005 : Nat) (c4_1006 : Nat) (c12_1007 : Int) (v13_1008 : Int) (h1009 : Heap) : Prop :=
  (iteB (decide (v13_1008 < c12_1007)) ((((0 ≤ v13_1008 ∧ v13_1008 < (c4_1005 : Int)) ∧ stC h1009 (c4_1004.add (v13_1008.toNat * 1)) (.int .i64 (-1)) fun h1010 => ((cont c0_1001 c0_1002 c0_1003 c4_1004 c4_1005 c4_1006 c12_1007 (IntKind.i64.wrap (v13_1008 + 1)) h1010))))) (K2 h1009))
def rank_Inverse.l0 (K2 : Heap → Prop) : Nat → (Option Addr) → Nat → Nat → Addr → Nat → Nat → Int → Int → Heap → Prop
  | 0, _, _, _, _, _, _, _, _, _ => False
  | m + 1, c0_1001, c0_1002, c0_1003, c4_1004, c4_1005, c4_1006, c12_1007, v13_1008, h => rank_Inverse.b0 K2 (rank_Inverse.l0 K2 m) c0_1001 c0_1002 c0_1003 c4_1004 c4_1005 c4_1006 c12_1007 v13_1008 h
def rank_Inverse (a1 : Option Addr) (a1l : Nat) (a1c : Nat) (h : Heap) (K : (Option Addr) → Nat → Nat → Bool → Heap → Prop) : Prop :=
  ((0 ≤ (a1l : Int) ∧ (a1l : Int) ≤ (a1l : Int) ∧ (a1l : Int) * (8 : Nat) ≤ 2 ^ 47 ∧ (a1l : Int) ≤ 2 ^ 47) ∧ newP h (.cells (zeroRow [(.int .i64 0)] (a1l : Int).toNat).toArray 3) fun a2 h3 => ((∃ m5, rank_Inverse.l0 (fun h4 => (((∃ m10, rank_Inverse.l1 (fun z6 z6l z6c z7 h8 => K z6 z6l z6c z7 h8) (fun h9 => (((K (some a2) ((a1l : Int).toNat) ((a1l : Int).toNat) true h9)))) m10 a1 a1l a1c a2 ((a1l : Int).toNat) ((a1l : Int).toNat) a1 a1l a1c (a1l : Int) 0 h4)))) m5 a1 a1l a1c a2 ((a1l : Int).toNat) ((a1l : Int).toNat) ((a1l : Int).toNat : Int) 0 h3)))
def rank_Inverse.ret (K : (Option Addr) → Nat → Nat → Bool → Heap → Prop) (v : Value) (h : Heap) : Prop := match v with
  | (.tuple ⟨[(.slice r11 r11l r11c), (.bool r12)]⟩) => K r11 r11l r11c r12 h
  | _ => False
theorem rank_Inverse.ret_elim {K : (Option Addr) → Nat → Nat → Bool → Heap → Prop} {K' : Value → Heap → Prop} {v : Value} {h : Heap} (hk : ∀ r11 r11l r11c r12 h, K r11 r11l r11c r12 h → K' (.tuple #[(.slice r11 r11l r11c), (.bool r12)]) h) (hh : rank_Inverse.ret K v h) : K' v h := by
  unfold rank_Inverse.ret at hh
  split at hh
  · exact hk _ _ _ _ _ hh
  · exact hh.elim
def rank_Inverse.r0 (K : Nat → List Value → Heap → Prop) (m : Nat) (vs : List Value) (h : Heap) : Prop := match vs with
  | [(.slice c0_1001 c0_1002 c0_1003), (.slice (some c4_1004) c4_1005 c4_1006), (.int .i64 c12_1007), (.int .i64 v13_1008)] => rank_Inverse.l0 (fun h' => K 2 [(.slice c0_1001 c0_1002 c0_1003), (.slice (some c4_1004) c4_1005 c4_1006)] h') m c0_1001 c0_1002 c0_1003 c4_1004 c4_1005 c4_1006 c12_1007 v13_1008 h
  | _ => False
def rank_Inverse.r1 (K : Nat → List Value → Heap → Prop) (m : Nat) (vs : List Value) (h : Heap) : Prop := match vs with
  | [(.slice c0_2001 c0_2002 c0_2003), (.slice (some c4_2004) c4_2005 c4_2006), (.slice c20_2007 c20_2008 c20_2009), (.int .i64 c21_2010), (.int .i64 v22_2011)] => rank_Inverse.l1 (fun z13 z13l z13c z14 h' => K 0 [(.slice z13 z13l z13c), (.bool z14)] h') (fun h' => K 4 [(.slice (some c4_2004) c4_2005 c4_2006)] h') m c0_2001 c0_2002 c0_2003 c4_2004 c4_2005 c4_2006 c20_2007 c20_2008 c20_2009 c21_2010 v22_2011 h
  | _ => False
def rank_Inverse.loop (i : Nat) (vs : List Value) (h : Heap) (K : Nat → List Value → Heap → Prop) : Prop := match i with
  | 0 => ∃ m, rank_Inverse.r0 K m vs h
  | 1 => ∃ m, rank_Inverse.r1 K m vs h
  | _ => False
noncomputable def rank_Inverse.ctx : Ctx := { P := Try.prog, hint := fun t => bif Nat.beq t 44 then some 24 else none, call := fun _ _ _ _ => False, qcall := fun _ _ _ _ => False, quiet := fun f => false, loop := rank_Inverse.loop }
theorem rank_Inverse.ok : rank_Inverse.ctx.OK where
  mixed := by kernel_rfl
  mono := fun hh _ => hh.elim
  call := fun hh => hh.elim
  qmono := fun hh _ => hh.elim
  qval := fun hh => hh.elim
  qcall := fun hh => hh.elim
noncomputable def rank_Inverse.code : Code := (Try.f16.body).getD .skip
def rank_Inverse.ann : Ann := (.two .auto (.two .auto (.two (.two .auto (.two (.loop 0 [0, 4, 12, 13] [(2, [0, 4])] .auto) .auto)) (.two (.two .auto (.two (.loop 1 [0, 4, 20, 21, 22] [(4, [4]), (0, [2, 3])] .auto) .auto)) .auto))))
noncomputable def rank_Inverse.c1 : Code := sub rank_Inverse.code [1, 1, 1, 0, 1, 0, 0]
def rank_Inverse.a1 : Ann := .auto
def rank_Inverse.keep1 : List Nat := [0, 4, 20, 21, 22]
def rank_Inverse.outs1 : List (Nat × List Nat) := [(4, [4]), (0, [2, 3])]
noncomputable def rank_Inverse.c0 : Code := sub rank_Inverse.code [1, 1, 0, 1, 0, 0]
def rank_Inverse.a0 : Ann := .auto
def rank_Inverse.keep0 : List Nat := [0, 4, 12, 13]
def rank_Inverse.outs0 : List (Nat × List Nat) := [(2, [0, 4])]
set_option maxRecDepth 100000 in
theorem rank_Inverse.L0 : LoopOK rank_Inverse.ctx 48 rank_Inverse.c0 0 rank_Inverse.keep0 rank_Inverse.outs0 := by
  refine loop_ok (n := rank_Inverse.a0) rank_Inverse.ok (by kernel_rfl) (loops_ok (l := []) (by kernel_rfl) ?_) rank_Inverse.r0 ?_ ?_ (fun vs h K hh => hh)
  · exact trivial
  · intro K vs h hh
    unfold rank_Inverse.r0 at hh
    split at hh
    · exact hh
    · exact hh
  · intro K m vs h hh
    unfold rank_Inverse.r0 at hh
    split at hh
    · exact cast (by kernel_rfl) hh
    · exact hh.elim
set_option maxRecDepth 100000 in
theorem rank_Inverse.L1 : LoopOK rank_Inverse.ctx 48 rank_Inverse.c1 1 rank_Inverse.keep1 rank_Inverse.outs1 := by
  refine loop_ok (n := rank_Inverse.a1) rank_Inverse.ok (by kernel_rfl) (loops_ok (l := []) (by kernel_rfl) ?_) rank_Inverse.r1 ?_ ?_ (fun vs h K hh => hh)
  · exact trivial
  · intro K vs h hh
    unfold rank_Inverse.r1 at hh
    split at hh
    · exact hh
    · exact hh
  · intro K m vs h hh
    unfold rank_Inverse.r1 at hh
    split at hh
    · exact cast (by kernel_rfl) hh
    · exact hh.elim
set_option maxRecDepth 100000 in
theorem rank_Inverse.eq (a1 : Option Addr) (a1l : Nat) (a1c : Nat) (h : Heap) (K : (Option Addr) → Nat → Nat → Bool → Heap → Prop) : evF rank_Inverse.ctx Try.f16 rank_Inverse.ann [(.slice a1 a1l a1c)] h (rank_Inverse.ret K) = rank_Inverse a1 a1l a1c h K := by kernel_rfl
set_option maxRecDepth 100000 in
theorem rank_Inverse.calls {a1 : Option Addr} {a1l : Nat} {a1c : Nat} {h : Heap} {K : (Option Addr) → Nat → Nat → Bool → Heap → Prop} (hh : rank_Inverse a1 a1l a1c h K) (w : World) (hw : w.heap = h) :
    (callFunc 16 #[(.slice a1 a1l a1c)]).run Try.prog w = .ok (.enter 16 #[(.slice a1 a1l a1c)]) w ∧ Calls Try.prog 16 #[(.slice a1 a1l a1c)] w fun e w' => ∃ v, e = .returned v ∧ Out w w' ∧ rank_Inverse.ret K v w'.heap := by
  rw [← rank_Inverse.eq] at hh
  exact fn_calls (args := [(.slice a1 a1l a1c)]) (c := rank_Inverse.code) rank_Inverse.ok Try.func16 (by kernel_rfl) (by kernel_rfl) (by kernel_rfl) (by kernel_rfl) (loops_ok (l := [(rank_Inverse.c0, none, 0, rank_Inverse.keep0, rank_Inverse.outs0), (rank_Inverse.c1, none, 1, rank_Inverse.keep1, rank_Inverse.outs1)]) (by kernel_rfl) ⟨rank_Inverse.L0, rank_Inverse.L1, trivial⟩) hh w hw

/-! ### strait/rank.places: function 29 -/
def rank_places.b0 (K2 : Heap → Prop) (cont : Addr → Nat → Nat → Int → Int → Heap → Prop) (c3_1001 : Addr) (c3_1002 : Nat) (c3_1003 : Nat) (c7_1004 : Int) (v8_1005 : Int) (h1006 : Heap) : Prop :=
  (iteB (decide (v8_1005 < c7_1004)) ((((0 ≤ v8_1005 ∧ v8_1005 < (c3_1002 : Int)) ∧ stC h1006 (c3_1001.add (v8_1005.toNat * 1)) (.int .i64 v8_1005) fun h1007 => ((cont c3_1001 c3_1002 c3_1003 c7_1004 (IntKind.i64.wrap (v8_1005 + 1)) h1007))))) (K2 h1006))
def rank_places.l0 (K2 : Heap → Prop) : Nat → Addr → Nat → Nat → Int → Int → Heap → Prop
  | 0, _, _, _, _, _, _ => False
  | m + 1, c3_1001, c3_1002, c3_1003, c7_1004, v8_1005, h => rank_places.b0 K2 (rank_places.l0 K2 m) c3_1001 c3_1002 c3_1003 c7_1004 v8_1005 h
def rank_places (a1 : Int) (h : Heap) (K : (Option Addr) → Nat → Nat → Heap → Prop) : Prop :=
  ((0 ≤ a1 ∧ a1 ≤ a1 ∧ a1 * (8 : Nat) ≤ 2 ^ 47 ∧ a1 ≤ 2 ^ 47) ∧ newP h (.cells (zeroRow [(.int .i64 0)] a1.toNat).toArray 3) fun a2 h3 => ((∃ m5, rank_places.l0 (fun h4 => (((K (some a2) a1.toNat a1.toNat h4)))) m5 a2 a1.toNat a1.toNat a1 0 h3)))
def rank_places.ret (K : (Option Addr) → Nat → Nat → Heap → Prop) (v : Value) (h : Heap) : Prop := match v with
  | (.slice r6 r6l r6c) => K r6 r6l r6c h
  | _ => False
theorem rank_places.ret_elim {K : (Option Addr) → Nat → Nat → Heap → Prop} {K' : Value → Heap → Prop} {v : Value} {h : Heap} (hk : ∀ r6 r6l r6c h, K r6 r6l r6c h → K' (.slice r6 r6l r6c) h) (hh : rank_places.ret K v h) : K' v h := by
  unfold rank_places.ret at hh
  split at hh
  · exact hk _ _ _ _ hh
  · exact hh.elim
def rank_places.r0 (K : Nat → List Value → Heap → Prop) (m : Nat) (vs : List Value) (h : Heap) : Prop := match vs with
  | [(.slice (some c3_1001) c3_1002 c3_1003), (.int .i64 c7_1004), (.int .i64 v8_1005)] => rank_places.l0 (fun h' => K 2 [(.slice (some c3_1001) c3_1002 c3_1003)] h') m c3_1001 c3_1002 c3_1003 c7_1004 v8_1005 h
  | _ => False
def rank_places.loop (i : Nat) (vs : List Value) (h : Heap) (K : Nat → List Value → Heap → Prop) : Prop := match i with
  | 0 => ∃ m, rank_places.r0 K m vs h
  | _ => False
noncomputable def rank_places.ctx : Ctx := { P := Try.prog, hint := fun t => bif Nat.beq t 44 then some 24 else none, call := fun _ _ _ _ => False, qcall := fun _ _ _ _ => False, quiet := fun f => false, loop := rank_places.loop }
theorem rank_places.ok : rank_places.ctx.OK where
  mixed := by kernel_rfl
  mono := fun hh _ => hh.elim
  call := fun hh => hh.elim
  qmono := fun hh _ => hh.elim
  qval := fun hh => hh.elim
  qcall := fun hh => hh.elim
noncomputable def rank_places.code : Code := (Try.f29.body).getD .skip
def rank_places.ann : Ann := (.two .auto (.two .auto (.two (.two .auto (.two (.loop 0 [3, 7, 8] [(2, [3])] .auto) .auto)) .auto)))
noncomputable def rank_places.c0 : Code := sub rank_places.code [1, 1, 0, 1, 0, 0]
def rank_places.a0 : Ann := .auto
def rank_places.keep0 : List Nat := [3, 7, 8]
def rank_places.outs0 : List (Nat × List Nat) := [(2, [3])]
set_option maxRecDepth 100000 in
theorem rank_places.L0 : LoopOK rank_places.ctx 17 rank_places.c0 0 rank_places.keep0 rank_places.outs0 := by
  refine loop_ok (n := rank_places.a0) rank_places.ok (by kernel_rfl) (loops_ok (l := []) (by kernel_rfl) ?_) rank_places.r0 ?_ ?_ (fun vs h K hh => hh)
  · exact trivial
  · intro K vs h hh
    unfold rank_places.r0 at hh
    split at hh
    · exact hh
    · exact hh
  · intro K m vs h hh
    unfold rank_places.r0 at hh
    split at hh
    · exact cast (by kernel_rfl) hh
    · exact hh.elim
set_option maxRecDepth 100000 in
theorem rank_places.eq (a1 : Int) (h : Heap) (K : (Option Addr) → Nat → Nat → Heap → Prop) : evF rank_places.ctx Try.f29 rank_places.ann [(.int .i64 a1)] h (rank_places.ret K) = rank_places a1 h K := by kernel_rfl
set_option maxRecDepth 100000 in
theorem rank_places.calls {a1 : Int} {h : Heap} {K : (Option Addr) → Nat → Nat → Heap → Prop} (hh : rank_places a1 h K) (w : World) (hw : w.heap = h) :
    (callFunc 29 #[(.int .i64 a1)]).run Try.prog w = .ok (.enter 29 #[(.int .i64 a1)]) w ∧ Calls Try.prog 29 #[(.int .i64 a1)] w fun e w' => ∃ v, e = .returned v ∧ Out w w' ∧ rank_places.ret K v w'.heap := by
  rw [← rank_places.eq] at hh
  exact fn_calls (args := [(.int .i64 a1)]) (c := rank_places.code) rank_places.ok Try.func29 (by kernel_rfl) (by kernel_rfl) (by kernel_rfl) (by kernel_rfl) (loops_ok (l := [(rank_places.c0, none, 0, rank_places.keep0, rank_places.outs0)]) (by kernel_rfl) ⟨rank_places.L0, trivial⟩) hh w hw

/-! ### cmp.isNaN[int64]: function 37 -/
def cmp_isNaN_int64 (a1 : Int) (h : Heap) (K : Bool → Heap → Prop) : Prop :=
  ((K (a1 != a1) h))
def cmp_isNaN_int64.ret (K : Bool → Heap → Prop) (v : Value) (h : Heap) : Prop := match v with
  | (.bool r2) => K r2 h
  | _ => False
theorem cmp_isNaN_int64.ret_elim {K : Bool → Heap → Prop} {K' : Value → Heap → Prop} {v : Value} {h : Heap} (hk : ∀ r2 h, K r2 h → K' (.bool r2) h) (hh : cmp_isNaN_int64.ret K v h) : K' v h := by
  unfold cmp_isNaN_int64.ret at hh
  split at hh
  · exact hk _ _ hh
  · exact hh.elim
noncomputable def cmp_isNaN_int64.ctx : Ctx := { P := Try.prog, hint := fun t => bif Nat.beq t 44 then some 24 else none, call := fun _ _ _ _ => False, qcall := fun _ _ _ _ => False, quiet := fun f => false, loop := fun _ _ _ _ => False }
theorem cmp_isNaN_int64.ok : cmp_isNaN_int64.ctx.OK where
  mixed := by kernel_rfl
  mono := fun hh _ => hh.elim
  call := fun hh => hh.elim
  qmono := fun hh _ => hh.elim
  qval := fun hh => hh.elim
  qcall := fun hh => hh.elim
noncomputable def cmp_isNaN_int64.code : Code := (Try.f37.body).getD .skip
def cmp_isNaN_int64.ann : Ann := .auto
set_option maxRecDepth 100000 in
theorem cmp_isNaN_int64.eq (a1 : Int) (h : Heap) (K : Bool → Heap → Prop) : evF cmp_isNaN_int64.ctx Try.f37 cmp_isNaN_int64.ann [(.int .i64 a1)] h (cmp_isNaN_int64.ret K) = cmp_isNaN_int64 a1 h K := by kernel_rfl
set_option maxRecDepth 100000 in
theorem cmp_isNaN_int64.calls {a1 : Int} {h : Heap} {K : Bool → Heap → Prop} (hh : cmp_isNaN_int64 a1 h K) (w : World) (hw : w.heap = h) :
    (callFunc 37 #[(.int .i64 a1)]).run Try.prog w = .ok (.enter 37 #[(.int .i64 a1)]) w ∧ Calls Try.prog 37 #[(.int .i64 a1)] w fun e w' => ∃ v, e = .returned v ∧ Out w w' ∧ cmp_isNaN_int64.ret K v w'.heap := by
  rw [← cmp_isNaN_int64.eq] at hh
  exact fn_calls (args := [(.int .i64 a1)]) (c := cmp_isNaN_int64.code) cmp_isNaN_int64.ok Try.func37 (by kernel_rfl) (by kernel_rfl) (by kernel_rfl) (by kernel_rfl) (loops_ok (l := []) (by kernel_rfl) trivial) hh w hw

/-! ### cmp.Compare[int64]: function 32 -/
def cmp_Compare_int64 (a1 : Int) (a2 : Int) (h : Heap) (K : Int → Heap → Prop) : Prop :=
  (qcallP1 h (cmp_isNaN_int64 a1 h) fun x3 => (qcallP1 h (cmp_isNaN_int64 a2 h) fun x4 => ((iteB x3 ((iteB x4 (K 0 h) (((K (-1) h))))) (((iteB x4 (K 1 h) (((iteB (decide (a1 < a2)) ((K (-1) h)) (((iteB (decide (a1 > a2)) (K 1 h) (K 0 h))))))))))))))
def cmp_Compare_int64.ret (K : Int → Heap → Prop) (v : Value) (h : Heap) : Prop := match v with
  | (.int .i64 r5) => K r5 h
  | _ => False
theorem cmp_Compare_int64.ret_elim {K : Int → Heap → Prop} {K' : Value → Heap → Prop} {v : Value} {h : Heap} (hk : ∀ r5 h, K r5 h → K' (.int .i64 r5) h) (hh : cmp_Compare_int64.ret K v h) : K' v h := by
  unfold cmp_Compare_int64.ret at hh
  split at hh
  · exact hk _ _ hh
  · exact hh.elim
def cmp_Compare_int64.qcall (f : FuncId) (vs : List Value) (h : Heap) (K : Value → Prop) : Prop := match f, vs with
  | 37, [(.int .i64 a1)] => qcallP1 h (cmp_isNaN_int64 a1 h) fun r2 => K (.bool r2)
  | _, _ => False
noncomputable def cmp_Compare_int64.ctx : Ctx := { P := Try.prog, hint := fun t => bif Nat.beq t 44 then some 24 else none, call := fun _ _ _ _ => False, qcall := cmp_Compare_int64.qcall, quiet := fun f => Nat.beq f 37, loop := fun _ _ _ _ => False }
theorem cmp_Compare_int64.ok : cmp_Compare_int64.ctx.OK where
  mixed := by kernel_rfl
  mono := fun hh _ => hh.elim
  call := fun hh => hh.elim
  qmono := by
    intro f args h K K' hh hk
    change cmp_Compare_int64.qcall f args h K at hh
    change cmp_Compare_int64.qcall f args h K'
    unfold cmp_Compare_int64.qcall at hh ⊢
    split at hh
    · obtain ⟨x0, h1, h2⟩ := hh
      exact ⟨x0, h1, hk _ h2⟩
    · exact hh.elim
  qval := by
    intro f args h K hh
    change cmp_Compare_int64.qcall f args h K at hh
    suffices H : ∃ v, K v ∧ cmp_Compare_int64.qcall f args h (· = v) from H
    unfold cmp_Compare_int64.qcall at hh ⊢
    split at hh
    · obtain ⟨x0, h1, h2⟩ := hh
      exact ⟨_, h2, x0, h1, rfl⟩
    · exact hh.elim
  qcall := by
    intro f args h v hh w hw
    change cmp_Compare_int64.qcall f args h (· = v) at hh
    unfold cmp_Compare_int64.qcall at hh
    split at hh
    · obtain ⟨x0, h1, h2⟩ := hh
      obtain ⟨g1, g2⟩ := cmp_isNaN_int64.calls h1 w hw
      refine .inl ⟨g1, g2.mono fun e w' ⟨u, he, ho, hr⟩ => ?_⟩
      have hq := cmp_isNaN_int64.ret_elim (K' := fun u h' => u = v ∧ h' = h) (fun _ h' hr => by obtain ⟨rfl, rfl⟩ := hr; exact ⟨h2, rfl⟩) hr
      exact ⟨hq.1 ▸ he, ho, hq.2⟩
    · exact hh.elim
noncomputable def cmp_Compare_int64.code : Code := (Try.f32.body).getD .skip
def cmp_Compare_int64.ann : Ann := .auto
set_option maxRecDepth 100000 in
theorem cmp_Compare_int64.eq (a1 : Int) (a2 : Int) (h : Heap) (K : Int → Heap → Prop) : evF cmp_Compare_int64.ctx Try.f32 cmp_Compare_int64.ann [(.int .i64 a1), (.int .i64 a2)] h (cmp_Compare_int64.ret K) = cmp_Compare_int64 a1 a2 h K := by kernel_rfl
set_option maxRecDepth 100000 in
theorem cmp_Compare_int64.calls {a1 : Int} {a2 : Int} {h : Heap} {K : Int → Heap → Prop} (hh : cmp_Compare_int64 a1 a2 h K) (w : World) (hw : w.heap = h) :
    (callFunc 32 #[(.int .i64 a1), (.int .i64 a2)]).run Try.prog w = .ok (.enter 32 #[(.int .i64 a1), (.int .i64 a2)]) w ∧ Calls Try.prog 32 #[(.int .i64 a1), (.int .i64 a2)] w fun e w' => ∃ v, e = .returned v ∧ Out w w' ∧ cmp_Compare_int64.ret K v w'.heap := by
  rw [← cmp_Compare_int64.eq] at hh
  exact fn_calls (args := [(.int .i64 a1), (.int .i64 a2)]) (c := cmp_Compare_int64.code) cmp_Compare_int64.ok Try.func32 (by kernel_rfl) (by kernel_rfl) (by kernel_rfl) (by kernel_rfl) (loops_ok (l := []) (by kernel_rfl) trivial) hh w hw

/-! ### strait/rank.By$1: function 24 -/
def rank_By_c1 (a1 : Int) (a2 : Addr) (h : Heap) (K : Int → Heap → Prop) : Prop :=
  (∃ (x3 : Option Addr) (x3l : Nat) (x3c : Nat), cell h a2 = some (.slice x3 x3l x3c) ∧ chkP x3 fun a4 => (0 ≤ a1 ∧ a1 < (x3l : Int)) ∧ ∃ (x5 : Int), cell h (a4.add (a1.toNat * 1)) = some (.int .i64 x5) ∧ K x5 h)
def rank_By_c1.ret (K : Int → Heap → Prop) (v : Value) (h : Heap) : Prop := match v with
  | (.int .i64 r6) => K r6 h
  | _ => False
theorem rank_By_c1.ret_elim {K : Int → Heap → Prop} {K' : Value → Heap → Prop} {v : Value} {h : Heap} (hk : ∀ r6 h, K r6 h → K' (.int .i64 r6) h) (hh : rank_By_c1.ret K v h) : K' v h := by
  unfold rank_By_c1.ret at hh
  split at hh
  · exact hk _ _ hh
  · exact hh.elim
noncomputable def rank_By_c1.ctx : Ctx := { P := Try.prog, hint := fun t => bif Nat.beq t 44 then some 24 else none, call := fun _ _ _ _ => False, qcall := fun _ _ _ _ => False, quiet := fun f => false, loop := fun _ _ _ _ => False }
theorem rank_By_c1.ok : rank_By_c1.ctx.OK where
  mixed := by kernel_rfl
  mono := fun hh _ => hh.elim
  call := fun hh => hh.elim
  qmono := fun hh _ => hh.elim
  qval := fun hh => hh.elim
  qcall := fun hh => hh.elim
noncomputable def rank_By_c1.code : Code := (Try.f24.body).getD .skip
def rank_By_c1.ann : Ann := .auto
set_option maxRecDepth 100000 in
theorem rank_By_c1.eq (a1 : Int) (a2 : Addr) (h : Heap) (K : Int → Heap → Prop) : evF rank_By_c1.ctx Try.f24 rank_By_c1.ann [(.int .i64 a1), (.pointer (some a2))] h (rank_By_c1.ret K) = rank_By_c1 a1 a2 h K := by kernel_rfl
set_option maxRecDepth 100000 in
theorem rank_By_c1.calls {a1 : Int} {a2 : Addr} {h : Heap} {K : Int → Heap → Prop} (hh : rank_By_c1 a1 a2 h K) (w : World) (hw : w.heap = h) :
    (callFunc 24 #[(.int .i64 a1), (.pointer (some a2))]).run Try.prog w = .ok (.enter 24 #[(.int .i64 a1), (.pointer (some a2))]) w ∧ Calls Try.prog 24 #[(.int .i64 a1), (.pointer (some a2))] w fun e w' => ∃ v, e = .returned v ∧ Out w w' ∧ rank_By_c1.ret K v w'.heap := by
  rw [← rank_By_c1.eq] at hh
  exact fn_calls (args := [(.int .i64 a1), (.pointer (some a2))]) (c := rank_By_c1.code) rank_By_c1.ok Try.func24 (by kernel_rfl) (by kernel_rfl) (by kernel_rfl) (by kernel_rfl) (loops_ok (l := []) (by kernel_rfl) trivial) hh w hw

/-! ### strait/rank.sorted[int64]$1: function 31 -/
def rank_sorted_int64_c1 (a1 : Int) (a2 : Int) (a3 : Addr) (h : Heap) (K : Int → Heap → Prop) : Prop :=
  (∃ (q4 : Addr), cell h a3 = some (.func (.func 24) #[] #[(.pointer (some q4))]) ∧ ∃ (q5 : Addr), cell h a3 = some (.func (.func 24) #[] #[(.pointer (some q5))]) ∧ callP1 (rank_By_c1 a1 q4 h) fun x6 h7 => (∃ (q8 : Addr), cell h7 a3 = some (.func (.func 24) #[] #[(.pointer (some q8))]) ∧ ((.func (.func 24) #[] #[(.pointer (some q8))]) : Value) = (.func (.func 24) #[] #[(.pointer (some q5))])) ∧ callP1 (rank_By_c1 a2 q5 h7) fun x9 h10 => qcallP1 h10 (cmp_Compare_int64 x6 x9 h10) fun x11 => K x11 h10)
def rank_sorted_int64_c1.ret (K : Int → Heap → Prop) (v : Value) (h : Heap) : Prop := match v with
  | (.int .i64 r12) => K r12 h
  | _ => False
theorem rank_sorted_int64_c1.ret_elim {K : Int → Heap → Prop} {K' : Value → Heap → Prop} {v : Value} {h : Heap} (hk : ∀ r12 h, K r12 h → K' (.int .i64 r12) h) (hh : rank_sorted_int64_c1.ret K v h) : K' v h := by
  unfold rank_sorted_int64_c1.ret at hh
  split at hh
  · exact hk _ _ hh
  · exact hh.elim
def rank_sorted_int64_c1.call (f : FuncId) (vs : List Value) (h : Heap) (K : Value → Heap → Prop) : Prop := match f, vs with
  | 24, [(.int .i64 a1), (.pointer (some a2))] => callP1 (rank_By_c1 a1 a2 h) fun r6 h' => K (.int .i64 r6) h'
  | _, _ => False
def rank_sorted_int64_c1.qcall (f : FuncId) (vs : List Value) (h : Heap) (K : Value → Prop) : Prop := match f, vs with
  | 32, [(.int .i64 a1), (.int .i64 a2)] => qcallP1 h (cmp_Compare_int64 a1 a2 h) fun r5 => K (.int .i64 r5)
  | _, _ => False
noncomputable def rank_sorted_int64_c1.ctx : Ctx := { P := Try.prog, hint := fun t => bif Nat.beq t 44 then some 24 else none, call := rank_sorted_int64_c1.call, qcall := rank_sorted_int64_c1.qcall, quiet := fun f => Nat.beq f 32, loop := fun _ _ _ _ => False }
theorem rank_sorted_int64_c1.ok : rank_sorted_int64_c1.ctx.OK where
  mixed := by kernel_rfl
  mono := by
    intro f args h K K' hh hk
    change rank_sorted_int64_c1.call f args h K at hh
    change rank_sorted_int64_c1.call f args h K'
    unfold rank_sorted_int64_c1.call at hh ⊢
    split at hh
    · obtain ⟨R, h1, h2⟩ := hh
      exact ⟨R, h1, fun _ x hr => hk _ _ (h2 _ x hr)⟩
    · exact hh.elim
  call := by
    intro f args h K hh w hw
    change rank_sorted_int64_c1.call f args h K at hh
    unfold rank_sorted_int64_c1.call at hh
    split at hh
    · obtain ⟨R, h1, h2⟩ := hh
      obtain ⟨g1, g2⟩ := rank_By_c1.calls h1 w hw
      exact ⟨g1, g2.mono fun e w' ⟨v, he, ho, hr⟩ => ⟨v, he, ho, rank_By_c1.ret_elim h2 hr⟩⟩
    · exact hh.elim
  qmono := by
    intro f args h K K' hh hk
    change rank_sorted_int64_c1.qcall f args h K at hh
    change rank_sorted_int64_c1.qcall f args h K'
    unfold rank_sorted_int64_c1.qcall at hh ⊢
    split at hh
    · obtain ⟨x0, h1, h2⟩ := hh
      exact ⟨x0, h1, hk _ h2⟩
    · exact hh.elim
  qval := by
    intro f args h K hh
    change rank_sorted_int64_c1.qcall f args h K at hh
    suffices H : ∃ v, K v ∧ rank_sorted_int64_c1.qcall f args h (· = v) from H
    unfold rank_sorted_int64_c1.qcall at hh ⊢
    split at hh
    · obtain ⟨x0, h1, h2⟩ := hh
      exact ⟨_, h2, x0, h1, rfl⟩
    · exact hh.elim
  qcall := by
    intro f args h v hh w hw
    change rank_sorted_int64_c1.qcall f args h (· = v) at hh
    unfold rank_sorted_int64_c1.qcall at hh
    split at hh
    · obtain ⟨x0, h1, h2⟩ := hh
      obtain ⟨g1, g2⟩ := cmp_Compare_int64.calls h1 w hw
      refine .inl ⟨g1, g2.mono fun e w' ⟨u, he, ho, hr⟩ => ?_⟩
      have hq := cmp_Compare_int64.ret_elim (K' := fun u h' => u = v ∧ h' = h) (fun _ h' hr => by obtain ⟨rfl, rfl⟩ := hr; exact ⟨h2, rfl⟩) hr
      exact ⟨hq.1 ▸ he, ho, hq.2⟩
    · exact hh.elim
noncomputable def rank_sorted_int64_c1.code : Code := (Try.f31.body).getD .skip
def rank_sorted_int64_c1.ann : Ann := (.two .auto (.two (.reg [0, 0, 3, 0, 0, 31, 63, 127] (.take 0 (.take 1 (.take 4 (.early 3 (.alt 2 (.alt 5 (.take 6 (.take 7 .done)) .noalt) .noalt)))))) .auto))
set_option maxRecDepth 100000 in
theorem rank_sorted_int64_c1.eq (a1 : Int) (a2 : Int) (a3 : Addr) (h : Heap) (K : Int → Heap → Prop) : evF rank_sorted_int64_c1.ctx Try.f31 rank_sorted_int64_c1.ann [(.int .i64 a1), (.int .i64 a2), (.pointer (some a3))] h (rank_sorted_int64_c1.ret K) = rank_sorted_int64_c1 a1 a2 a3 h K := by kernel_rfl
set_option maxRecDepth 100000 in
theorem rank_sorted_int64_c1.calls {a1 : Int} {a2 : Int} {a3 : Addr} {h : Heap} {K : Int → Heap → Prop} (hh : rank_sorted_int64_c1 a1 a2 a3 h K) (w : World) (hw : w.heap = h) :
    (callFunc 31 #[(.int .i64 a1), (.int .i64 a2), (.pointer (some a3))]).run Try.prog w = .ok (.enter 31 #[(.int .i64 a1), (.int .i64 a2), (.pointer (some a3))]) w ∧ Calls Try.prog 31 #[(.int .i64 a1), (.int .i64 a2), (.pointer (some a3))] w fun e w' => ∃ v, e = .returned v ∧ Out w w' ∧ rank_sorted_int64_c1.ret K v w'.heap := by
  rw [← rank_sorted_int64_c1.eq] at hh
  exact fn_calls (args := [(.int .i64 a1), (.int .i64 a2), (.pointer (some a3))]) (c := rank_sorted_int64_c1.code) rank_sorted_int64_c1.ok Try.func31 (by kernel_rfl) (by kernel_rfl) (by kernel_rfl) (by kernel_rfl) (loops_ok (l := []) (by kernel_rfl) trivial) hh w hw

/-! ### slices.insertionSortCmpFunc[int]: function 49 -/
def slices_insertionSortCmpFunc_int_rank_sorted_int64_c1.b1 (K4 : Heap → Prop) (cont : (Option Addr) → Nat → Nat → Int → Int → Addr → Int → Int → Heap → Prop) (c0_2001 : Option Addr) (c0_2002 : Nat) (c0_2003 : Nat) (c1_2004 : Int) (c2_2005 : Int) (c3_2006 : Addr) (c8_2007 : Int) (v9_2008 : Int) (h2009 : Heap) : Prop :=
  let j2027 := (fun (h2018 : Heap) => chkP c0_2001 fun a2019 => (0 ≤ (IntKind.i64.wrap (v9_2008 - 1)) ∧ (IntKind.i64.wrap (v9_2008 - 1)) < (c0_2002 : Int)) ∧ ∃ (x2020 : Int), cell h2018 (a2019.add ((IntKind.i64.wrap (v9_2008 - 1)).toNat * 1)) = some (.int .i64 x2020) ∧ chkP c0_2001 fun a2021 => (0 ≤ v9_2008 ∧ v9_2008 < (c0_2002 : Int)) ∧ ∃ (x2022 : Int), cell h2018 (a2021.add (v9_2008.toNat * 1)) = some (.int .i64 x2022) ∧ chkP c0_2001 fun a2023 => (0 ≤ v9_2008 ∧ v9_2008 < (c0_2002 : Int)) ∧ stC h2018 (a2023.add (v9_2008.toNat * 1)) (.int .i64 x2020) fun h2024 => chkP c0_2001 fun a2025 => (0 ≤ (IntKind.i64.wrap (v9_2008 - 1)) ∧ (IntKind.i64.wrap (v9_2008 - 1)) < (c0_2002 : Int)) ∧ stC h2024 (a2025.add ((IntKind.i64.wrap (v9_2008 - 1)).toNat * 1)) (.int .i64 x2022) fun h2026 => ((cont c0_2001 c0_2002 c0_2003 c1_2004 c2_2005 c3_2006 c8_2007 (IntKind.i64.wrap (v9_2008 - 1)) h2026)));
  iteB (decide (v9_2008 > c1_2004)) (chkP c0_2001 fun a2010 => (0 ≤ v9_2008 ∧ v9_2008 < (c0_2002 : Int)) ∧ ∃ (x2011 : Int), cell h2009 (a2010.add (v9_2008.toNat * 1)) = some (.int .i64 x2011) ∧ chkP c0_2001 fun a2012 => (0 ≤ (IntKind.i64.wrap (v9_2008 - 1)) ∧ (IntKind.i64.wrap (v9_2008 - 1)) < (c0_2002 : Int)) ∧ ∃ (x2013 : Int), cell h2009 (a2012.add ((IntKind.i64.wrap (v9_2008 - 1)).toNat * 1)) = some (.int .i64 x2013) ∧ callP1 (rank_sorted_int64_c1 x2011 x2013 c3_2006 h2009) fun x2014 h2015 => (iteB (decide (x2014 < (0 : Int))) ((j2027 h2015)) (K4 h2015))) (K4 h2009)
def slices_insertionSortCmpFunc_int_rank_sorted_int64_c1.l1 (K4 : Heap → Prop) : Nat → (Option Addr) → Nat → Nat → Int → Int → Addr → Int → Int → Heap → Prop
  | 0, _, _, _, _, _, _, _, _, _ => False
  | m + 1, c0_2001, c0_2002, c0_2003, c1_2004, c2_2005, c3_2006, c8_2007, v9_2008, h => slices_insertionSortCmpFunc_int_rank_sorted_int64_c1.b1 K4 (slices_insertionSortCmpFunc_int_rank_sorted_int64_c1.l1 K4 m) c0_2001 c0_2002 c0_2003 c1_2004 c2_2005 c3_2006 c8_2007 v9_2008 h
def slices_insertionSortCmpFunc_int_rank_sorted_int64_c1.b0 (K2 : Heap → Prop) (cont : (Option Addr) → Nat → Nat → Int → Int → Addr → Int → Heap → Prop) (c0_1001 : Option Addr) (c0_1002 : Nat) (c0_1003 : Nat) (c1_1004 : Int) (c2_1005 : Int) (c3_1006 : Addr) (v8_1007 : Int) (h1008 : Heap) : Prop :=
  (iteB (decide (v8_1007 < c2_1005)) (((∃ m1010, slices_insertionSortCmpFunc_int_rank_sorted_int64_c1.l1 (fun h1009 => (((cont c0_1001 c0_1002 c0_1003 c1_1004 c2_1005 c3_1006 (IntKind.i64.wrap (v8_1007 + 1)) h1009)))) m1010 c0_1001 c0_1002 c0_1003 c1_1004 c2_1005 c3_1006 v8_1007 v8_1007 h1008))) (K2 h1008))
def slices_insertionSortCmpFunc_int_rank_sorted_int64_c1.l0 (K2 : Heap → Prop) : Nat → (Option Addr) → Nat → Nat → Int → Int → Addr → Int → Heap → Prop
  | 0, _, _, _, _, _, _, _, _ => False
  | m + 1, c0_1001, c0_1002, c0_1003, c1_1004, c2_1005, c3_1006, v8_1007, h => slices_insertionSortCmpFunc_int_rank_sorted_int64_c1.b0 K2 (slices_insertionSortCmpFunc_int_rank_sorted_int64_c1.l0 K2 m) c0_1001 c0_1002 c0_1003 c1_1004 c2_1005 c3_1006 v8_1007 h
def slices_insertionSortCmpFunc_int_rank_sorted_int64_c1 (a1 : Option Addr) (a1l : Nat) (a1c : Nat) (a2 : Int) (a3 : Int) (a4 : Addr) (h : Heap) (K : Heap → Prop) : Prop :=
  (∃ m6, slices_insertionSortCmpFunc_int_rank_sorted_int64_c1.l0 (fun h5 => K h5) m6 a1 a1l a1c a2 a3 a4 (IntKind.i64.wrap (a2 + 1)) h)
def slices_insertionSortCmpFunc_int_rank_sorted_int64_c1.ret (K : Heap → Prop) (v : Value) (h : Heap) : Prop := match v with
  | (.tuple ⟨[]⟩) => K h
  | _ => False
theorem slices_insertionSortCmpFunc_int_rank_sorted_int64_c1.ret_elim {K : Heap → Prop} {K' : Value → Heap → Prop} {v : Value} {h : Heap} (hk : ∀  h, K h → K' (.tuple #[]) h) (hh : slices_insertionSortCmpFunc_int_rank_sorted_int64_c1.ret K v h) : K' v h := by
  unfold slices_insertionSortCmpFunc_int_rank_sorted_int64_c1.ret at hh
  split at hh
  · exact hk _ hh
  · exact hh.elim
def slices_insertionSortCmpFunc_int_rank_sorted_int64_c1.call (f : FuncId) (vs : List Value) (h : Heap) (K : Value → Heap → Prop) : Prop := match f, vs with
  | 31, [(.int .i64 a1), (.int .i64 a2), (.pointer (some a3))] => callP1 (rank_sorted_int64_c1 a1 a2 a3 h) fun r12 h' => K (.int .i64 r12) h'
  | _, _ => False
def slices_insertionSortCmpFunc_int_rank_sorted_int64_c1.r0 (K : Nat → List Value → Heap → Prop) (m : Nat) (vs : List Value) (h : Heap) : Prop := match vs with
  | [(.slice c0_1001 c0_1002 c0_1003), (.int .i64 c1_1004), (.int .i64 c2_1005), (.func (.func 31) ⟨[]⟩ ⟨[(.pointer (some c3_1006))]⟩), (.int .i64 v8_1007)] => slices_insertionSortCmpFunc_int_rank_sorted_int64_c1.l0 (fun h' => K 2 [] h') m c0_1001 c0_1002 c0_1003 c1_1004 c2_1005 c3_1006 v8_1007 h
  | _ => False
def slices_insertionSortCmpFunc_int_rank_sorted_int64_c1.r1 (K : Nat → List Value → Heap → Prop) (m : Nat) (vs : List Value) (h : Heap) : Prop := match vs with
  | [(.slice c0_2001 c0_2002 c0_2003), (.int .i64 c1_2004), (.int .i64 c2_2005), (.func (.func 31) ⟨[]⟩ ⟨[(.pointer (some c3_2006))]⟩), (.int .i64 c8_2007), (.int .i64 v9_2008)] => slices_insertionSortCmpFunc_int_rank_sorted_int64_c1.l1 (fun h' => K 4 [(.slice c0_2001 c0_2002 c0_2003), (.int .i64 c1_2004), (.int .i64 c2_2005), (.func (.func 31) #[] #[(.pointer (some c3_2006))]), (.int .i64 c8_2007)] h') m c0_2001 c0_2002 c0_2003 c1_2004 c2_2005 c3_2006 c8_2007 v9_2008 h
  | _ => False
def slices_insertionSortCmpFunc_int_rank_sorted_int64_c1.loop (i : Nat) (vs : List Value) (h : Heap) (K : Nat → List Value → Heap → Prop) : Prop := match i with
  | 0 => ∃ m, slices_insertionSortCmpFunc_int_rank_sorted_int64_c1.r0 K m vs h
  | 1 => ∃ m, slices_insertionSortCmpFunc_int_rank_sorted_int64_c1.r1 K m vs h
  | _ => False
noncomputable def slices_insertionSortCmpFunc_int_rank_sorted_int64_c1.ctx : Ctx := { P := Try.prog, hint := fun t => bif Nat.beq t 44 then some 24 else none, call := slices_insertionSortCmpFunc_int_rank_sorted_int64_c1.call, qcall := fun _ _ _ _ => False, quiet := fun f => false, loop := slices_insertionSortCmpFunc_int_rank_sorted_int64_c1.loop }
theorem slices_insertionSortCmpFunc_int_rank_sorted_int64_c1.ok : slices_insertionSortCmpFunc_int_rank_sorted_int64_c1.ctx.OK where
  mixed := by kernel_rfl
  mono := by
    intro f args h K K' hh hk
    change slices_insertionSortCmpFunc_int_rank_sorted_int64_c1.call f args h K at hh
    change slices_insertionSortCmpFunc_int_rank_sorted_int64_c1.call f args h K'
    unfold slices_insertionSortCmpFunc_int_rank_sorted_int64_c1.call at hh ⊢
    split at hh
    · obtain ⟨R, h1, h2⟩ := hh
      exact ⟨R, h1, fun _ x hr => hk _ _ (h2 _ x hr)⟩
    · exact hh.elim
  call := by
    intro f args h K hh w hw
    change slices_insertionSortCmpFunc_int_rank_sorted_int64_c1.call f args h K at hh
    unfold slices_insertionSortCmpFunc_int_rank_sorted_int64_c1.call at hh
    split at hh
    · obtain ⟨R, h1, h2⟩ := hh
      obtain ⟨g1, g2⟩ := rank_sorted_int64_c1.calls h1 w hw
      exact ⟨g1, g2.mono fun e w' ⟨v, he, ho, hr⟩ => ⟨v, he, ho, rank_sorted_int64_c1.ret_elim h2 hr⟩⟩
    · exact hh.elim
  qmono := fun hh _ => hh.elim
  qval := fun hh => hh.elim
  qcall := fun hh => hh.elim
noncomputable def slices_insertionSortCmpFunc_int_rank_sorted_int64_c1.code : Code := (Try.f49.body).getD .skip
def slices_insertionSortCmpFunc_int_rank_sorted_int64_c1.ann : Ann := (.two .auto (.two (.loop 0 [0, 1, 2, 3, 8] [(2, [])] (.two .auto (.two (.two (.two .auto (.two (.loop 1 [0, 1, 2, 3, 8, 9] [(4, [0, 1, 2, 3, 8])] (.two (.two (.reg [0, 0, 3, 7, 15, 15, 15, 111, 239, 15, 15, 1039, 3599, 7695, 16383, 32767, 65535] (.take 0 (.take 1 (.take 2 (.take 3 (.take 4 (.take 5 (.take 6 (.take 7 (.take 8 (.take 9 (.take 10 (.take 11 (.take 12 (.take 13 (.alt 14 (.take 15 (.take 16 .done)) .noalt)))))))))))))))) .auto) (.two (.two (.reg [0, 0, 0, 0, 8, 0, 0, 64, 224, 480, 0, 0, 3072, 7168, 16355, 32739, 65535, 131071] (.take 0 (.take 1 (.take 2 (.take 3 (.take 4 (.take 5 (.take 6 (.take 7 (.take 8 (.take 9 (.take 10 (.take 11 (.take 12 (.take 13 (.take 14 (.alt 15 (.take 16 (.alt 17 .done .noalt)) .noalt))))))))))))))))) .auto) .auto))) .auto)) .auto) .auto))) .auto))
noncomputable def slices_insertionSortCmpFunc_int_rank_sorted_int64_c1.c1 : Code := sub slices_insertionSortCmpFunc_int_rank_sorted_int64_c1.code [1, 0, 0, 1, 0, 0, 1, 0, 0]
def slices_insertionSortCmpFunc_int_rank_sorted_int64_c1.a1 : Ann := (.two (.two (.reg [0, 0, 3, 7, 15, 15, 15, 111, 239, 15, 15, 1039, 3599, 7695, 16383, 32767, 65535] (.take 0 (.take 1 (.take 2 (.take 3 (.take 4 (.take 5 (.take 6 (.take 7 (.take 8 (.take 9 (.take 10 (.take 11 (.take 12 (.take 13 (.alt 14 (.take 15 (.take 16 .done)) .noalt)))))))))))))))) .auto) (.two (.two (.reg [0, 0, 0, 0, 8, 0, 0, 64, 224, 480, 0, 0, 3072, 7168, 16355, 32739, 65535, 131071] (.take 0 (.take 1 (.take 2 (.take 3 (.take 4 (.take 5 (.take 6 (.take 7 (.take 8 (.take 9 (.take 10 (.take 11 (.take 12 (.take 13 (.take 14 (.alt 15 (.take 16 (.alt 17 .done .noalt)) .noalt))))))))))))))))) .auto) .auto))
def slices_insertionSortCmpFunc_int_rank_sorted_int64_c1.keep1 : List Nat := [0, 1, 2, 3, 8, 9]
def slices_insertionSortCmpFunc_int_rank_sorted_int64_c1.outs1 : List (Nat × List Nat) := [(4, [0, 1, 2, 3, 8])]
noncomputable def slices_insertionSortCmpFunc_int_rank_sorted_int64_c1.c0 : Code := sub slices_insertionSortCmpFunc_int_rank_sorted_int64_c1.code [1, 0, 0]
def slices_insertionSortCmpFunc_int_rank_sorted_int64_c1.a0 : Ann := (.two .auto (.two (.two (.two .auto (.two (.loop 1 [0, 1, 2, 3, 8, 9] [(4, [0, 1, 2, 3, 8])] (.two (.two (.reg [0, 0, 3, 7, 15, 15, 15, 111, 239, 15, 15, 1039, 3599, 7695, 16383, 32767, 65535] (.take 0 (.take 1 (.take 2 (.take 3 (.take 4 (.take 5 (.take 6 (.take 7 (.take 8 (.take 9 (.take 10 (.take 11 (.take 12 (.take 13 (.alt 14 (.take 15 (.take 16 .done)) .noalt)))))))))))))))) .auto) (.two (.two (.reg [0, 0, 0, 0, 8, 0, 0, 64, 224, 480, 0, 0, 3072, 7168, 16355, 32739, 65535, 131071] (.take 0 (.take 1 (.take 2 (.take 3 (.take 4 (.take 5 (.take 6 (.take 7 (.take 8 (.take 9 (.take 10 (.take 11 (.take 12 (.take 13 (.take 14 (.alt 15 (.take 16 (.alt 17 .done .noalt)) .noalt))))))))))))))))) .auto) .auto))) .auto)) .auto) .auto))
def slices_insertionSortCmpFunc_int_rank_sorted_int64_c1.keep0 : List Nat := [0, 1, 2, 3, 8]
def slices_insertionSortCmpFunc_int_rank_sorted_int64_c1.outs0 : List (Nat × List Nat) := [(2, [])]
set_option maxRecDepth 100000 in
theorem slices_insertionSortCmpFunc_int_rank_sorted_int64_c1.L1 : LoopOK slices_insertionSortCmpFunc_int_rank_sorted_int64_c1.ctx 53 slices_insertionSortCmpFunc_int_rank_sorted_int64_c1.c1 1 slices_insertionSortCmpFunc_int_rank_sorted_int64_c1.keep1 slices_insertionSortCmpFunc_int_rank_sorted_int64_c1.outs1 := by
  refine loop_ok (n := slices_insertionSortCmpFunc_int_rank_sorted_int64_c1.a1) slices_insertionSortCmpFunc_int_rank_sorted_int64_c1.ok (by kernel_rfl) (loops_ok (l := []) (by kernel_rfl) ?_) slices_insertionSortCmpFunc_int_rank_sorted_int64_c1.r1 ?_ ?_ (fun vs h K hh => hh)
  · exact trivial
  · intro K vs h hh
    unfold slices_insertionSortCmpFunc_int_rank_sorted_int64_c1.r1 at hh
    split at hh
    · exact hh
    · exact hh
  · intro K m vs h hh
    unfold slices_insertionSortCmpFunc_int_rank_sorted_int64_c1.r1 at hh
    split at hh
    · exact cast (by kernel_rfl) hh
    · exact hh.elim
set_option maxRecDepth 100000 in
theorem slices_insertionSortCmpFunc_int_rank_sorted_int64_c1.L0 : LoopOK slices_insertionSortCmpFunc_int_rank_sorted_int64_c1.ctx 53 slices_insertionSortCmpFunc_int_rank_sorted_int64_c1.c0 0 slices_insertionSortCmpFunc_int_rank_sorted_int64_c1.keep0 slices_insertionSortCmpFunc_int_rank_sorted_int64_c1.outs0 := by
  refine loop_ok (n := slices_insertionSortCmpFunc_int_rank_sorted_int64_c1.a0) slices_insertionSortCmpFunc_int_rank_sorted_int64_c1.ok (by kernel_rfl) (loops_ok (l := [(slices_insertionSortCmpFunc_int_rank_sorted_int64_c1.c1, none, 1, slices_insertionSortCmpFunc_int_rank_sorted_int64_c1.keep1, slices_insertionSortCmpFunc_int_rank_sorted_int64_c1.outs1)]) (by kernel_rfl) ?_) slices_insertionSortCmpFunc_int_rank_sorted_int64_c1.r0 ?_ ?_ (fun vs h K hh => hh)
  · exact ⟨slices_insertionSortCmpFunc_int_rank_sorted_int64_c1.L1, trivial⟩
  · intro K vs h hh
    unfold slices_insertionSortCmpFunc_int_rank_sorted_int64_c1.r0 at hh
    split at hh
    · exact hh
    · exact hh
  · intro K m vs h hh
    unfold slices_insertionSortCmpFunc_int_rank_sorted_int64_c1.r0 at hh
    split at hh
    · exact cast (by kernel_rfl) hh
    · exact hh.elim
set_option maxRecDepth 100000 in
theorem slices_insertionSortCmpFunc_int_rank_sorted_int64_c1.eq (a1 : Option Addr) (a1l : Nat) (a1c : Nat) (a2 : Int) (a3 : Int) (a4 : Addr) (h : Heap) (K : Heap → Prop) : evF slices_insertionSortCmpFunc_int_rank_sorted_int64_c1.ctx Try.f49 slices_insertionSortCmpFunc_int_rank_sorted_int64_c1.ann [(.slice a1 a1l a1c), (.int .i64 a2), (.int .i64 a3), (.func (.func 31) #[] #[(.pointer (some a4))])] h (slices_insertionSortCmpFunc_int_rank_sorted_int64_c1.ret K) = slices_insertionSortCmpFunc_int_rank_sorted_int64_c1 a1 a1l a1c a2 a3 a4 h K := by kernel_rfl
set_option maxRecDepth 100000 in
theorem slices_insertionSortCmpFunc_int_rank_sorted_int64_c1.calls {a1 : Option Addr} {a1l : Nat} {a1c : Nat} {a2 : Int} {a3 : Int} {a4 : Addr} {h : Heap} {K : Heap → Prop} (hh : slices_insertionSortCmpFunc_int_rank_sorted_int64_c1 a1 a1l a1c a2 a3 a4 h K) (w : World) (hw : w.heap = h) :
    (callFunc 49 #[(.slice a1 a1l a1c), (.int .i64 a2), (.int .i64 a3), (.func (.func 31) #[] #[(.pointer (some a4))])]).run Try.prog w = .ok (.enter 49 #[(.slice a1 a1l a1c), (.int .i64 a2), (.int .i64 a3), (.func (.func 31) #[] #[(.pointer (some a4))])]) w ∧ Calls Try.prog 49 #[(.slice a1 a1l a1c), (.int .i64 a2), (.int .i64 a3), (.func (.func 31) #[] #[(.pointer (some a4))])] w fun e w' => ∃ v, e = .returned v ∧ Out w w' ∧ slices_insertionSortCmpFunc_int_rank_sorted_int64_c1.ret K v w'.heap := by
  rw [← slices_insertionSortCmpFunc_int_rank_sorted_int64_c1.eq] at hh
  exact fn_calls (args := [(.slice a1 a1l a1c), (.int .i64 a2), (.int .i64 a3), (.func (.func 31) #[] #[(.pointer (some a4))])]) (c := slices_insertionSortCmpFunc_int_rank_sorted_int64_c1.code) slices_insertionSortCmpFunc_int_rank_sorted_int64_c1.ok Try.func49 (by kernel_rfl) (by kernel_rfl) (by kernel_rfl) (by kernel_rfl) (loops_ok (l := [(slices_insertionSortCmpFunc_int_rank_sorted_int64_c1.c0, none, 0, slices_insertionSortCmpFunc_int_rank_sorted_int64_c1.keep0, slices_insertionSortCmpFunc_int_rank_sorted_int64_c1.outs0)]) (by kernel_rfl) ⟨slices_insertionSortCmpFunc_int_rank_sorted_int64_c1.L0, trivial⟩) hh w hw

/-! ### slices.swapRangeCmpFunc[int]: function 58 -/
def slices_swapRangeCmpFunc_int_rank_sorted_int64_c1.b0 (K2 : Heap → Prop) (cont : (Option Addr) → Nat → Nat → Int → Int → Int → Int → Heap → Prop) (c0_1001 : Option Addr) (c0_1002 : Nat) (c0_1003 : Nat) (c1_1004 : Int) (c2_1005 : Int) (c3_1006 : Int) (v10_1007 : Int) (h1008 : Heap) : Prop :=
  (iteB (decide (v10_1007 < c3_1006)) ((chkP c0_1001 fun a1009 => (0 ≤ (IntKind.i64.wrap (c2_1005 + v10_1007)) ∧ (IntKind.i64.wrap (c2_1005 + v10_1007)) < (c0_1002 : Int)) ∧ ∃ (x1010 : Int), cell h1008 (a1009.add ((IntKind.i64.wrap (c2_1005 + v10_1007)).toNat * 1)) = some (.int .i64 x1010) ∧ chkP c0_1001 fun a1011 => (0 ≤ (IntKind.i64.wrap (c1_1004 + v10_1007)) ∧ (IntKind.i64.wrap (c1_1004 + v10_1007)) < (c0_1002 : Int)) ∧ ∃ (x1012 : Int), cell h1008 (a1011.add ((IntKind.i64.wrap (c1_1004 + v10_1007)).toNat * 1)) = some (.int .i64 x1012) ∧ chkP c0_1001 fun a1013 => (0 ≤ (IntKind.i64.wrap (c1_1004 + v10_1007)) ∧ (IntKind.i64.wrap (c1_1004 + v10_1007)) < (c0_1002 : Int)) ∧ stC h1008 (a1013.add ((IntKind.i64.wrap (c1_1004 + v10_1007)).toNat * 1)) (.int .i64 x1010) fun h1014 => chkP c0_1001 fun a1015 => (0 ≤ (IntKind.i64.wrap (c2_1005 + v10_1007)) ∧ (IntKind.i64.wrap (c2_1005 + v10_1007)) < (c0_1002 : Int)) ∧ stC h1014 (a1015.add ((IntKind.i64.wrap (c2_1005 + v10_1007)).toNat * 1)) (.int .i64 x1012) fun h1016 => ((cont c0_1001 c0_1002 c0_1003 c1_1004 c2_1005 c3_1006 (IntKind.i64.wrap (v10_1007 + 1)) h1016)))) (K2 h1008))
def slices_swapRangeCmpFunc_int_rank_sorted_int64_c1.l0 (K2 : Heap → Prop) : Nat → (Option Addr) → Nat → Nat → Int → Int → Int → Int → Heap → Prop
  | 0, _, _, _, _, _, _, _, _ => False
  | m + 1, c0_1001, c0_1002, c0_1003, c1_1004, c2_1005, c3_1006, v10_1007, h => slices_swapRangeCmpFunc_int_rank_sorted_int64_c1.b0 K2 (slices_swapRangeCmpFunc_int_rank_sorted_int64_c1.l0 K2 m) c0_1001 c0_1002 c0_1003 c1_1004 c2_1005 c3_1006 v10_1007 h
def slices_swapRangeCmpFunc_int_rank_sorted_int64_c1 (a1 : Option Addr) (a1l : Nat) (a1c : Nat) (a2 : Int) (a3 : Int) (a4 : Int) (a5 : Addr) (h : Heap) (K : Heap → Prop) : Prop :=
  (∃ m7, slices_swapRangeCmpFunc_int_rank_sorted_int64_c1.l0 (fun h6 => K h6) m7 a1 a1l a1c a2 a3 a4 0 h)
def slices_swapRangeCmpFunc_int_rank_sorted_int64_c1.ret (K : Heap → Prop) (v : Value) (h : Heap) : Prop := match v with
  | (.tuple ⟨[]⟩) => K h
  | _ => False
theorem slices_swapRangeCmpFunc_int_rank_sorted_int64_c1.ret_elim {K : Heap → Prop} {K' : Value → Heap → Prop} {v : Value} {h : Heap} (hk : ∀  h, K h → K' (.tuple #[]) h) (hh : slices_swapRangeCmpFunc_int_rank_sorted_int64_c1.ret K v h) : K' v h := by
  unfold slices_swapRangeCmpFunc_int_rank_sorted_int64_c1.ret at hh
  split at hh
  · exact hk _ hh
  · exact hh.elim
def slices_swapRangeCmpFunc_int_rank_sorted_int64_c1.r0 (K : Nat → List Value → Heap → Prop) (m : Nat) (vs : List Value) (h : Heap) : Prop := match vs with
  | [(.slice c0_1001 c0_1002 c0_1003), (.int .i64 c1_1004), (.int .i64 c2_1005), (.int .i64 c3_1006), (.int .i64 v10_1007)] => slices_swapRangeCmpFunc_int_rank_sorted_int64_c1.l0 (fun h' => K 2 [] h') m c0_1001 c0_1002 c0_1003 c1_1004 c2_1005 c3_1006 v10_1007 h
  | _ => False
def slices_swapRangeCmpFunc_int_rank_sorted_int64_c1.loop (i : Nat) (vs : List Value) (h : Heap) (K : Nat → List Value → Heap → Prop) : Prop := match i with
  | 0 => ∃ m, slices_swapRangeCmpFunc_int_rank_sorted_int64_c1.r0 K m vs h
  | _ => False
noncomputable def slices_swapRangeCmpFunc_int_rank_sorted_int64_c1.ctx : Ctx := { P := Try.prog, hint := fun t => bif Nat.beq t 44 then some 24 else none, call := fun _ _ _ _ => False, qcall := fun _ _ _ _ => False, quiet := fun f => false, loop := slices_swapRangeCmpFunc_int_rank_sorted_int64_c1.loop }
theorem slices_swapRangeCmpFunc_int_rank_sorted_int64_c1.ok : slices_swapRangeCmpFunc_int_rank_sorted_int64_c1.ctx.OK where
  mixed := by kernel_rfl
  mono := fun hh _ => hh.elim
  call := fun hh => hh.elim
  qmono := fun hh _ => hh.elim
  qval := fun hh => hh.elim
  qcall := fun hh => hh.elim
noncomputable def slices_swapRangeCmpFunc_int_rank_sorted_int64_c1.code : Code := (Try.f58.body).getD .skip
def slices_swapRangeCmpFunc_int_rank_sorted_int64_c1.ann : Ann := (.two .auto (.two (.loop 0 [0, 1, 2, 3, 10] [(2, [])] (.two .auto (.two (.two (.reg [0, 0, 0, 6, 0, 0, 0, 96, 0, 0, 0, 1536, 3840, 7936, 0, 0, 0, 98304, 245760, 507904, 1048335, 2096911, 4194303, 8388607] (.take 0 (.take 1 (.take 2 (.take 3 (.take 4 (.take 5 (.take 6 (.take 7 (.take 8 (.take 9 (.take 10 (.take 11 (.take 12 (.take 13 (.take 14 (.take 15 (.take 16 (.take 17 (.take 18 (.take 19 (.take 20 (.alt 21 (.take 22 (.alt 23 .done .noalt)) .noalt))))))))))))))))))))))) .auto) .auto))) .auto))
noncomputable def slices_swapRangeCmpFunc_int_rank_sorted_int64_c1.c0 : Code := sub slices_swapRangeCmpFunc_int_rank_sorted_int64_c1.code [1, 0, 0]
def slices_swapRangeCmpFunc_int_rank_sorted_int64_c1.a0 : Ann := (.two .auto (.two (.two (.reg [0, 0, 0, 6, 0, 0, 0, 96, 0, 0, 0, 1536, 3840, 7936, 0, 0, 0, 98304, 245760, 507904, 1048335, 2096911, 4194303, 8388607] (.take 0 (.take 1 (.take 2 (.take 3 (.take 4 (.take 5 (.take 6 (.take 7 (.take 8 (.take 9 (.take 10 (.take 11 (.take 12 (.take 13 (.take 14 (.take 15 (.take 16 (.take 17 (.take 18 (.take 19 (.take 20 (.alt 21 (.take 22 (.alt 23 .done .noalt)) .noalt))))))))))))))))))))))) .auto) .auto))
def slices_swapRangeCmpFunc_int_rank_sorted_int64_c1.keep0 : List Nat := [0, 1, 2, 3, 10]
def slices_swapRangeCmpFunc_int_rank_sorted_int64_c1.outs0 : List (Nat × List Nat) := [(2, [])]
set_option maxRecDepth 100000 in
theorem slices_swapRangeCmpFunc_int_rank_sorted_int64_c1.L0 : LoopOK slices_swapRangeCmpFunc_int_rank_sorted_int64_c1.ctx 38 slices_swapRangeCmpFunc_int_rank_sorted_int64_c1.c0 0 slices_swapRangeCmpFunc_int_rank_sorted_int64_c1.keep0 slices_swapRangeCmpFunc_int_rank_sorted_int64_c1.outs0 := by
  refine loop_ok (n := slices_swapRangeCmpFunc_int_rank_sorted_int64_c1.a0) slices_swapRangeCmpFunc_int_rank_sorted_int64_c1.ok (by kernel_rfl) (loops_ok (l := []) (by kernel_rfl) ?_) slices_swapRangeCmpFunc_int_rank_sorted_int64_c1.r0 ?_ ?_ (fun vs h K hh => hh)
  · exact trivial
  · intro K vs h hh
    unfold slices_swapRangeCmpFunc_int_rank_sorted_int64_c1.r0 at hh
    split at hh
    · exact hh
    · exact hh
  · intro K m vs h hh
    unfold slices_swapRangeCmpFunc_int_rank_sorted_int64_c1.r0 at hh
    split at hh
    · exact cast (by kernel_rfl) hh
    · exact hh.elim
set_option maxRecDepth 100000 in
theorem slices_swapRangeCmpFunc_int_rank_sorted_int64_c1.eq (a1 : Option Addr) (a1l : Nat) (a1c : Nat) (a2 : Int) (a3 : Int) (a4 : Int) (a5 : Addr) (h : Heap) (K : Heap → Prop) : evF slices_swapRangeCmpFunc_int_rank_sorted_int64_c1.ctx Try.f58 slices_swapRangeCmpFunc_int_rank_sorted_int64_c1.ann [(.slice a1 a1l a1c), (.int .i64 a2), (.int .i64 a3), (.int .i64 a4), (.func (.func 31) #[] #[(.pointer (some a5))])] h (slices_swapRangeCmpFunc_int_rank_sorted_int64_c1.ret K) = slices_swapRangeCmpFunc_int_rank_sorted_int64_c1 a1 a1l a1c a2 a3 a4 a5 h K := by kernel_rfl
set_option maxRecDepth 100000 in
theorem slices_swapRangeCmpFunc_int_rank_sorted_int64_c1.calls {a1 : Option Addr} {a1l : Nat} {a1c : Nat} {a2 : Int} {a3 : Int} {a4 : Int} {a5 : Addr} {h : Heap} {K : Heap → Prop} (hh : slices_swapRangeCmpFunc_int_rank_sorted_int64_c1 a1 a1l a1c a2 a3 a4 a5 h K) (w : World) (hw : w.heap = h) :
    (callFunc 58 #[(.slice a1 a1l a1c), (.int .i64 a2), (.int .i64 a3), (.int .i64 a4), (.func (.func 31) #[] #[(.pointer (some a5))])]).run Try.prog w = .ok (.enter 58 #[(.slice a1 a1l a1c), (.int .i64 a2), (.int .i64 a3), (.int .i64 a4), (.func (.func 31) #[] #[(.pointer (some a5))])]) w ∧ Calls Try.prog 58 #[(.slice a1 a1l a1c), (.int .i64 a2), (.int .i64 a3), (.int .i64 a4), (.func (.func 31) #[] #[(.pointer (some a5))])] w fun e w' => ∃ v, e = .returned v ∧ Out w w' ∧ slices_swapRangeCmpFunc_int_rank_sorted_int64_c1.ret K v w'.heap := by
  rw [← slices_swapRangeCmpFunc_int_rank_sorted_int64_c1.eq] at hh
  exact fn_calls (args := [(.slice a1 a1l a1c), (.int .i64 a2), (.int .i64 a3), (.int .i64 a4), (.func (.func 31) #[] #[(.pointer (some a5))])]) (c := slices_swapRangeCmpFunc_int_rank_sorted_int64_c1.code) slices_swapRangeCmpFunc_int_rank_sorted_int64_c1.ok Try.func58 (by kernel_rfl) (by kernel_rfl) (by kernel_rfl) (by kernel_rfl) (loops_ok (l := [(slices_swapRangeCmpFunc_int_rank_sorted_int64_c1.c0, none, 0, slices_swapRangeCmpFunc_int_rank_sorted_int64_c1.keep0, slices_swapRangeCmpFunc_int_rank_sorted_int64_c1.outs0)]) (by kernel_rfl) ⟨slices_swapRangeCmpFunc_int_rank_sorted_int64_c1.L0, trivial⟩) hh w hw

/-! ### slices.rotateCmpFunc[int]: function 56 -/
def slices_rotateCmpFunc_int_rank_sorted_int64_c1.b0 (K2 : Int → Heap → Prop) (cont : (Option Addr) → Nat → Nat → Int → Addr → Int → Int → Heap → Prop) (c0_1001 : Option Addr) (c0_1002 : Nat) (c0_1003 : Nat) (c2_1004 : Int) (c4_1005 : Addr) (v10_1006 : Int) (v11_1007 : Int) (h1008 : Heap) : Prop :=
  (iteB (v10_1006 != v11_1007) (((iteB (decide (v10_1006 > v11_1007)) (callP0 (slices_swapRangeCmpFunc_int_rank_sorted_int64_c1 c0_1001 c0_1002 c0_1003 (IntKind.i64.wrap (c2_1004 - v10_1006)) c2_1004 v11_1007 c4_1005 h1008) fun h1009 => ((cont c0_1001 c0_1002 c0_1003 c2_1004 c4_1005 (IntKind.i64.wrap (v10_1006 - v11_1007)) v11_1007 h1009))) (bindV (IntKind.i64.wrap ((IntKind.i64.wrap (c2_1004 + v11_1007)) - v10_1006)) fun n1010 => callP0 (slices_swapRangeCmpFunc_int_rank_sorted_int64_c1 c0_1001 c0_1002 c0_1003 (IntKind.i64.wrap (c2_1004 - v10_1006)) n1010 v10_1006 c4_1005 h1008) fun h1011 => ((cont c0_1001 c0_1002 c0_1003 c2_1004 c4_1005 v10_1006 (IntKind.i64.wrap (v11_1007 - v10_1006)) h1011)))))) (K2 v10_1006 h1008))
def slices_rotateCmpFunc_int_rank_sorted_int64_c1.l0 (K2 : Int → Heap → Prop) : Nat → (Option Addr) → Nat → Nat → Int → Addr → Int → Int → Heap → Prop
  | 0, _, _, _, _, _, _, _, _ => False
  | m + 1, c0_1001, c0_1002, c0_1003, c2_1004, c4_1005, v10_1006, v11_1007, h => slices_rotateCmpFunc_int_rank_sorted_int64_c1.b0 K2 (slices_rotateCmpFunc_int_rank_sorted_int64_c1.l0 K2 m) c0_1001 c0_1002 c0_1003 c2_1004 c4_1005 v10_1006 v11_1007 h
def slices_rotateCmpFunc_int_rank_sorted_int64_c1 (a1 : Option Addr) (a1l : Nat) (a1c : Nat) (a2 : Int) (a3 : Int) (a4 : Int) (a5 : Addr) (h : Heap) (K : Heap → Prop) : Prop :=
  ((∃ m8, slices_rotateCmpFunc_int_rank_sorted_int64_c1.l0 (fun z6 h7 => ((callP0 (slices_swapRangeCmpFunc_int_rank_sorted_int64_c1 a1 a1l a1c (IntKind.i64.wrap (a3 - z6)) a3 z6 a5 h7) fun h9 => K h9))) m8 a1 a1l a1c a3 a5 (IntKind.i64.wrap (a3 - a2)) (IntKind.i64.wrap (a4 - a3)) h))
def slices_rotateCmpFunc_int_rank_sorted_int64_c1.ret (K : Heap → Prop) (v : Value) (h : Heap) : Prop := match v with
  | (.tuple ⟨[]⟩) => K h
  | _ => False
theorem slices_rotateCmpFunc_int_rank_sorted_int64_c1.ret_elim {K : Heap → Prop} {K' : Value → Heap → Prop} {v : Value} {h : Heap} (hk : ∀  h, K h → K' (.tuple #[]) h) (hh : slices_rotateCmpFunc_int_rank_sorted_int64_c1.ret K v h) : K' v h := by
  unfold slices_rotateCmpFunc_int_rank_sorted_int64_c1.ret at hh
  split at hh
  · exact hk _ hh
  · exact hh.elim
def slices_rotateCmpFunc_int_rank_sorted_int64_c1.call (f : FuncId) (vs : List Value) (h : Heap) (K : Value → Heap → Prop) : Prop := match f, vs with
  | 58, [(.slice a1 a1l a1c), (.int .i64 a2), (.int .i64 a3), (.int .i64 a4), (.func (.func 31) ⟨[]⟩ ⟨[(.pointer (some a5))]⟩)] => callP0 (slices_swapRangeCmpFunc_int_rank_sorted_int64_c1 a1 a1l a1c a2 a3 a4 a5 h) fun h' => K (.tuple #[]) h'
  | _, _ => False
def slices_rotateCmpFunc_int_rank_sorted_int64_c1.r0 (K : Nat → List Value → Heap → Prop) (m : Nat) (vs : List Value) (h : Heap) : Prop := match vs with
  | [(.slice c0_1001 c0_1002 c0_1003), (.int .i64 c2_1004), (.func (.func 31) ⟨[]⟩ ⟨[(.pointer (some c4_1005))]⟩), (.int .i64 v10_1006), (.int .i64 v11_1007)] => slices_rotateCmpFunc_int_rank_sorted_int64_c1.l0 (fun z10 h' => K 2 [(.slice c0_1001 c0_1002 c0_1003), (.int .i64 c2_1004), (.func (.func 31) #[] #[(.pointer (some c4_1005))]), (.int .i64 z10)] h') m c0_1001 c0_1002 c0_1003 c2_1004 c4_1005 v10_1006 v11_1007 h
  | _ => False
def slices_rotateCmpFunc_int_rank_sorted_int64_c1.loop (i : Nat) (vs : List Value) (h : Heap) (K : Nat → List Value → Heap → Prop) : Prop := match i with
  | 0 => ∃ m, slices_rotateCmpFunc_int_rank_sorted_int64_c1.r0 K m vs h
  | _ => False
noncomputable def slices_rotateCmpFunc_int_rank_sorted_int64_c1.ctx : Ctx := { P := Try.prog, hint := fun t => bif Nat.beq t 44 then some 24 else none, call := slices_rotateCmpFunc_int_rank_sorted_int64_c1.call, qcall := fun _ _ _ _ => False, quiet := fun f => false, loop := slices_rotateCmpFunc_int_rank_sorted_int64_c1.loop }
theorem slices_rotateCmpFunc_int_rank_sorted_int64_c1.ok : slices_rotateCmpFunc_int_rank_sorted_int64_c1.ctx.OK where
  mixed := by kernel_rfl
  mono := by
    intro f args h K K' hh hk
    change slices_rotateCmpFunc_int_rank_sorted_int64_c1.call f args h K at hh
    change slices_rotateCmpFunc_int_rank_sorted_int64_c1.call f args h K'
    unfold slices_rotateCmpFunc_int_rank_sorted_int64_c1.call at hh ⊢
    split at hh
    · obtain ⟨R, h1, h2⟩ := hh
      exact ⟨R, h1, fun x hr => hk _ _ (h2 x hr)⟩
    · exact hh.elim
  call := by
    intro f args h K hh w hw
    change slices_rotateCmpFunc_int_rank_sorted_int64_c1.call f args h K at hh
    unfold slices_rotateCmpFunc_int_rank_sorted_int64_c1.call at hh
    split at hh
    · obtain ⟨R, h1, h2⟩ := hh
      obtain ⟨g1, g2⟩ := slices_swapRangeCmpFunc_int_rank_sorted_int64_c1.calls h1 w hw
      exact ⟨g1, g2.mono fun e w' ⟨v, he, ho, hr⟩ => ⟨v, he, ho, slices_swapRangeCmpFunc_int_rank_sorted_int64_c1.ret_elim h2 hr⟩⟩
    · exact hh.elim
  qmono := fun hh _ => hh.elim
  qval := fun hh => hh.elim
  qcall := fun hh => hh.elim
noncomputable def slices_rotateCmpFunc_int_rank_sorted_int64_c1.code : Code := (Try.f56.body).getD .skip
def slices_rotateCmpFunc_int_rank_sorted_int64_c1.ann : Ann := (.two .auto (.two .auto (.two (.two (.loop 0 [0, 2, 4, 10, 11] [(2, [0, 2, 4, 10])] .auto) .auto) .auto)))
noncomputable def slices_rotateCmpFunc_int_rank_sorted_int64_c1.c0 : Code := sub slices_rotateCmpFunc_int_rank_sorted_int64_c1.code [1, 1, 0, 0, 0]
def slices_rotateCmpFunc_int_rank_sorted_int64_c1.a0 : Ann := .auto
def slices_rotateCmpFunc_int_rank_sorted_int64_c1.keep0 : List Nat := [0, 2, 4, 10, 11]
def slices_rotateCmpFunc_int_rank_sorted_int64_c1.outs0 : List (Nat × List Nat) := [(2, [0, 2, 4, 10])]
set_option maxRecDepth 100000 in
theorem slices_rotateCmpFunc_int_rank_sorted_int64_c1.L0 : LoopOK slices_rotateCmpFunc_int_rank_sorted_int64_c1.ctx 58 slices_rotateCmpFunc_int_rank_sorted_int64_c1.c0 0 slices_rotateCmpFunc_int_rank_sorted_int64_c1.keep0 slices_rotateCmpFunc_int_rank_sorted_int64_c1.outs0 := by
  refine loop_ok (n := slices_rotateCmpFunc_int_rank_sorted_int64_c1.a0) slices_rotateCmpFunc_int_rank_sorted_int64_c1.ok (by kernel_rfl) (loops_ok (l := []) (by kernel_rfl) ?_) slices_rotateCmpFunc_int_rank_sorted_int64_c1.r0 ?_ ?_ (fun vs h K hh => hh)
  · exact trivial
  · intro K vs h hh
    unfold slices_rotateCmpFunc_int_rank_sorted_int64_c1.r0 at hh
    split at hh
    · exact hh
    · exact hh
  · intro K m vs h hh
    unfold slices_rotateCmpFunc_int_rank_sorted_int64_c1.r0 at hh
    split at hh
    · exact cast (by kernel_rfl) hh
    · exact hh.elim
set_option maxRecDepth 100000 in
theorem slices_rotateCmpFunc_int_rank_sorted_int64_c1.eq (a1 : Option Addr) (a1l : Nat) (a1c : Nat) (a2 : Int) (a3 : Int) (a4 : Int) (a5 : Addr) (h : Heap) (K : Heap → Prop) : evF slices_rotateCmpFunc_int_rank_sorted_int64_c1.ctx Try.f56 slices_rotateCmpFunc_int_rank_sorted_int64_c1.ann [(.slice a1 a1l a1c), (.int .i64 a2), (.int .i64 a3), (.int .i64 a4), (.func (.func 31) #[] #[(.pointer (some a5))])] h (slices_rotateCmpFunc_int_rank_sorted_int64_c1.ret K) = slices_rotateCmpFunc_int_rank_sorted_int64_c1 a1 a1l a1c a2 a3 a4 a5 h K := by kernel_rfl
set_option maxRecDepth 100000 in
theorem slices_rotateCmpFunc_int_rank_sorted_int64_c1.calls {a1 : Option Addr} {a1l : Nat} {a1c : Nat} {a2 : Int} {a3 : Int} {a4 : Int} {a5 : Addr} {h : Heap} {K : Heap → Prop} (hh : slices_rotateCmpFunc_int_rank_sorted_int64_c1 a1 a1l a1c a2 a3 a4 a5 h K) (w : World) (hw : w.heap = h) :
    (callFunc 56 #[(.slice a1 a1l a1c), (.int .i64 a2), (.int .i64 a3), (.int .i64 a4), (.func (.func 31) #[] #[(.pointer (some a5))])]).run Try.prog w = .ok (.enter 56 #[(.slice a1 a1l a1c), (.int .i64 a2), (.int .i64 a3), (.int .i64 a4), (.func (.func 31) #[] #[(.pointer (some a5))])]) w ∧ Calls Try.prog 56 #[(.slice a1 a1l a1c), (.int .i64 a2), (.int .i64 a3), (.int .i64 a4), (.func (.func 31) #[] #[(.pointer (some a5))])] w fun e w' => ∃ v, e = .returned v ∧ Out w w' ∧ slices_rotateCmpFunc_int_rank_sorted_int64_c1.ret K v w'.heap := by
  rw [← slices_rotateCmpFunc_int_rank_sorted_int64_c1.eq] at hh
  exact fn_calls (args := [(.slice a1 a1l a1c), (.int .i64 a2), (.int .i64 a3), (.int .i64 a4), (.func (.func 31) #[] #[(.pointer (some a5))])]) (c := slices_rotateCmpFunc_int_rank_sorted_int64_c1.code) slices_rotateCmpFunc_int_rank_sorted_int64_c1.ok Try.func56 (by kernel_rfl) (by kernel_rfl) (by kernel_rfl) (by kernel_rfl) (loops_ok (l := [(slices_rotateCmpFunc_int_rank_sorted_int64_c1.c0, none, 0, slices_rotateCmpFunc_int_rank_sorted_int64_c1.keep0, slices_rotateCmpFunc_int_rank_sorted_int64_c1.outs0)]) (by kernel_rfl) ⟨slices_rotateCmpFunc_int_rank_sorted_int64_c1.L0, trivial⟩) hh w hw

/-! ### slices.symMergeCmpFunc[int]: function 50, by its contract -/
def slices_symMergeCmpFunc_int_rank_sorted_int64_c1_rec.ret (K : Heap → Prop) (v : Value) (h : Heap) : Prop := match v with
  | (.tuple ⟨[]⟩) => K h
  | _ => False
theorem slices_symMergeCmpFunc_int_rank_sorted_int64_c1_rec.ret_elim {K : Heap → Prop} {K' : Value → Heap → Prop} {v : Value} {h : Heap} (hk : ∀  h, K h → K' (.tuple #[]) h) (hh : slices_symMergeCmpFunc_int_rank_sorted_int64_c1_rec.ret K v h) : K' v h := by
  unfold slices_symMergeCmpFunc_int_rank_sorted_int64_c1_rec.ret at hh
  split at hh
  · exact hk _ hh
  · exact hh.elim
def slices_symMergeCmpFunc_int_rank_sorted_int64_c1_rec (a1 : Option Addr) (a1l : Nat) (a1c : Nat) (a2 : Int) (a3 : Int) (a4 : Int) (a5 : Addr) (h : Heap) (K : Heap → Prop) : Prop := ∀ w : World, w.heap = h → (callFunc 50 #[(.slice a1 a1l a1c), (.int .i64 a2), (.int .i64 a3), (.int .i64 a4), (.func (.func 31) #[] #[(.pointer (some a5))])]).run Try.prog w = .ok (.enter 50 #[(.slice a1 a1l a1c), (.int .i64 a2), (.int .i64 a3), (.int .i64 a4), (.func (.func 31) #[] #[(.pointer (some a5))])]) w ∧ Calls Try.prog 50 #[(.slice a1 a1l a1c), (.int .i64 a2), (.int .i64 a3), (.int .i64 a4), (.func (.func 31) #[] #[(.pointer (some a5))])] w fun e w' => ∃ v, e = .returned v ∧ Out w w' ∧ slices_symMergeCmpFunc_int_rank_sorted_int64_c1_rec.ret K v w'.heap
theorem slices_symMergeCmpFunc_int_rank_sorted_int64_c1_rec.calls {a1 : Option Addr} {a1l : Nat} {a1c : Nat} {a2 : Int} {a3 : Int} {a4 : Int} {a5 : Addr} {h : Heap} {K : Heap → Prop} (hh : slices_symMergeCmpFunc_int_rank_sorted_int64_c1_rec a1 a1l a1c a2 a3 a4 a5 h K) (w : World) (hw : w.heap = h) : (callFunc 50 #[(.slice a1 a1l a1c), (.int .i64 a2), (.int .i64 a3), (.int .i64 a4), (.func (.func 31) #[] #[(.pointer (some a5))])]).run Try.prog w = .ok (.enter 50 #[(.slice a1 a1l a1c), (.int .i64 a2), (.int .i64 a3), (.int .i64 a4), (.func (.func 31) #[] #[(.pointer (some a5))])]) w ∧ Calls Try.prog 50 #[(.slice a1 a1l a1c), (.int .i64 a2), (.int .i64 a3), (.int .i64 a4), (.func (.func 31) #[] #[(.pointer (some a5))])] w fun e w' => ∃ v, e = .returned v ∧ Out w w' ∧ slices_symMergeCmpFunc_int_rank_sorted_int64_c1_rec.ret K v w'.heap := hh w hw

end Go.Proofs.Ytlfcfoodlbbbjaa
