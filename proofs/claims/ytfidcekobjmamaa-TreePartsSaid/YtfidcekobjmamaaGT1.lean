/- WRITTEN BY A PROGRAM OF THIS SESSION (gen.py): what each function asks of memory, and that the model's run comes to it. -/
import Derived.Test.YtfidcekobjmamaaProg
import Derived.Test.YtfidcekobjmamaaFw8
import Derived.Test.YtfidcekobjmamaaGT0
namespace Go.Proofs.Ytfidcekobjmamaa
open Go.Hp
set_option linter.unusedVariables false
set_option linter.unusedSimpArgs false

/-! ### slices.Index[[]int,int]: function 49 -/
def slices_Index_Lint_int.b0 (K0 : Int → Heap → Prop) (K2 : Heap → Prop) (cont : (Option Addr) → Nat → Nat → Int → Int → Int → Heap → Prop) (c0_1001 : Option Addr) (c0_1002 : Nat) (c0_1003 : Nat) (c1_1004 : Int) (c7_1005 : Int) (v8_1006 : Int) (h1007 : Heap) : Prop :=
  (iteB (decide (v8_1006 < c7_1005)) (((chkP c0_1001 fun a1008 => (0 ≤ v8_1006 ∧ v8_1006 < (c0_1002 : Int)) ∧ ∃ (x1009 : Int), cell h1007 (a1008.add (v8_1006.toNat * 1)) = some (.int .i64 x1009) ∧ (iteB (c1_1004 == x1009) (K0 v8_1006 h1007) (((cont c0_1001 c0_1002 c0_1003 c1_1004 c7_1005 (IntKind.i64.wrap (v8_1006 + 1)) h1007))))))) (K2 h1007))
def slices_Index_Lint_int.l0 (K0 : Int → Heap → Prop) (K2 : Heap → Prop) : Nat → (Option Addr) → Nat → Nat → Int → Int → Int → Heap → Prop
  | 0, _, _, _, _, _, _, _ => False
  | m + 1, c0_1001, c0_1002, c0_1003, c1_1004, c7_1005, v8_1006, h => slices_Index_Lint_int.b0 K0 K2 (slices_Index_Lint_int.l0 K0 K2 m) c0_1001 c0_1002 c0_1003 c1_1004 c7_1005 v8_1006 h
def slices_Index_Lint_int (a1 : Option Addr) (a1l : Nat) (a1c : Nat) (a2 : Int) (h : Heap) (K : Int → Heap → Prop) : Prop :=
  ((∃ m6, slices_Index_Lint_int.l0 (fun z3 h4 => K z3 h4) (fun h5 => (((K (-1) h5)))) m6 a1 a1l a1c a2 (a1l : Int) 0 h))
def slices_Index_Lint_int.ret (K : Int → Heap → Prop) (v : Value) (h : Heap) : Prop := match v with
  | (.int .i64 r7) => K r7 h
  | _ => False
theorem slices_Index_Lint_int.ret_elim {K : Int → Heap → Prop} {K' : Value → Heap → Prop} {v : Value} {h : Heap} (hk : ∀ r7 h, K r7 h → K' (.int .i64 r7) h) (hh : slices_Index_Lint_int.ret K v h) : K' v h := by
  unfold slices_Index_Lint_int.ret at hh
  split at hh
  · exact hk _ _ hh
  · exact hh.elim
def slices_Index_Lint_int.r0 (K : Nat → List Value → Heap → Prop) (m : Nat) (vs : List Value) (h : Heap) : Prop := match vs with
  | [(.slice c0_1001 c0_1002 c0_1003), (.int .i64 c1_1004), (.int .i64 c7_1005), (.int .i64 v8_1006)] => slices_Index_Lint_int.l0 (fun z8 h' => K 0 [(.int .i64 z8)] h') (fun h' => K 2 [] h') m c0_1001 c0_1002 c0_1003 c1_1004 c7_1005 v8_1006 h
  | _ => False
def slices_Index_Lint_int.loop (i : Nat) (vs : List Value) (h : Heap) (K : Nat → List Value → Heap → Prop) : Prop := match i with
  | 0 => ∃ m, slices_Index_Lint_int.r0 K m vs h
  | _ => False
noncomputable def slices_Index_Lint_int.ctx : Ctx := { P := Try.prog, call := fun _ _ _ _ => False, qcall := fun _ _ _ _ => False, quiet := fun f => false, loop := slices_Index_Lint_int.loop }
theorem slices_Index_Lint_int.ok : slices_Index_Lint_int.ctx.OK where
  mixed := by kernel_rfl
  mono := fun hh _ => hh.elim
  call := fun hh => hh.elim
  qmono := fun hh _ => hh.elim
  qval := fun hh => hh.elim
  qcall := fun hh => hh.elim
noncomputable def slices_Index_Lint_int.code : Code := (Try.f49.body).getD .skip
def slices_Index_Lint_int.ann : Ann := (.two .auto (.two (.two .auto (.two (.loop 0 [0, 1, 7, 8] [(2, []), (0, [4])] .auto) .auto)) .auto))
noncomputable def slices_Index_Lint_int.c0 : Code := sub slices_Index_Lint_int.code [1, 0, 1, 0, 0]
def slices_Index_Lint_int.a0 : Ann := .auto
def slices_Index_Lint_int.keep0 : List Nat := [0, 1, 7, 8]
def slices_Index_Lint_int.outs0 : List (Nat × List Nat) := [(2, []), (0, [4])]
set_option maxRecDepth 100000 in
theorem slices_Index_Lint_int.L0 : LoopOK slices_Index_Lint_int.ctx 19 slices_Index_Lint_int.c0 0 slices_Index_Lint_int.keep0 slices_Index_Lint_int.outs0 := by
  refine loop_ok (n := slices_Index_Lint_int.a0) slices_Index_Lint_int.ok (by kernel_rfl) (loops_ok (l := []) (by kernel_rfl) ?_) slices_Index_Lint_int.r0 ?_ ?_ (fun vs h K hh => hh)
  · exact trivial
  · intro K vs h hh
    unfold slices_Index_Lint_int.r0 at hh
    split at hh
    · exact hh
    · exact hh
  · intro K m vs h hh
    unfold slices_Index_Lint_int.r0 at hh
    split at hh
    · exact cast (by kernel_rfl) hh
    · exact hh.elim
set_option maxRecDepth 100000 in
theorem slices_Index_Lint_int.eq (a1 : Option Addr) (a1l : Nat) (a1c : Nat) (a2 : Int) (h : Heap) (K : Int → Heap → Prop) : evF slices_Index_Lint_int.ctx Try.f49 slices_Index_Lint_int.ann [(.slice a1 a1l a1c), (.int .i64 a2)] h (slices_Index_Lint_int.ret K) = slices_Index_Lint_int a1 a1l a1c a2 h K := by kernel_rfl
set_option maxRecDepth 100000 in
theorem slices_Index_Lint_int.calls {a1 : Option Addr} {a1l : Nat} {a1c : Nat} {a2 : Int} {h : Heap} {K : Int → Heap → Prop} (hh : slices_Index_Lint_int a1 a1l a1c a2 h K) (w : World) (hw : w.heap = h) :
    (callFunc 49 #[(.slice a1 a1l a1c), (.int .i64 a2)]).run Try.prog w = .ok (.enter 49 #[(.slice a1 a1l a1c), (.int .i64 a2)]) w ∧ Calls Try.prog 49 #[(.slice a1 a1l a1c), (.int .i64 a2)] w fun e w' => ∃ v, e = .returned v ∧ Out w w' ∧ slices_Index_Lint_int.ret K v w'.heap := by
  rw [← slices_Index_Lint_int.eq] at hh
  exact fn_calls (args := [(.slice a1 a1l a1c), (.int .i64 a2)]) (c := slices_Index_Lint_int.code) slices_Index_Lint_int.ok Try.func49 (by kernel_rfl) (by kernel_rfl) (by kernel_rfl) (by kernel_rfl) (loops_ok (l := [(slices_Index_Lint_int.c0, none, 0, slices_Index_Lint_int.keep0, slices_Index_Lint_int.outs0)]) (by kernel_rfl) ⟨slices_Index_Lint_int.L0, trivial⟩) hh w hw

/-! ### strait/tree.Root: function 16 -/
def tree_Root (a1 : Option Addr) (a1l : Nat) (a1c : Nat) (a2 : Option Addr) (a2l : Nat) (a2c : Nat) (h : Heap) (K : Int → Heap → Prop) : Prop :=
  newP h (.cells #[(.slice a1 a1l a1c), (.slice a2 a2l a2c)] 25) fun a3 h4 => (∃ (x5 : Option Addr) (x5l : Nat) (x5c : Nat), cell h4 a3 = some (.slice x5 x5l x5c) ∧ ∃ (x6 : Option Addr) (x6l : Nat) (x6c : Nat), cell h4 (a3.add 1) = some (.slice x6 x6l x6c) ∧ callP1 (tree_Check x5 x5l x5c x6 x6l x6c h4) fun x7 h8 => (iteB (x7 != (0 : Int)) ((K (-1) h8)) ((∃ (x9 : Option Addr) (x9l : Nat) (x9c : Nat), cell h8 a3 = some (.slice x9 x9l x9c) ∧ qcallP1 h8 (slices_Index_Lint_int x9 x9l x9c (-1) h8) fun x10 => K x10 h8))))
def tree_Root.ret (K : Int → Heap → Prop) (v : Value) (h : Heap) : Prop := match v with
  | (.int .i64 r11) => K r11 h
  | _ => False
theorem tree_Root.ret_elim {K : Int → Heap → Prop} {K' : Value → Heap → Prop} {v : Value} {h : Heap} (hk : ∀ r11 h, K r11 h → K' (.int .i64 r11) h) (hh : tree_Root.ret K v h) : K' v h := by
  unfold tree_Root.ret at hh
  split at hh
  · exact hk _ _ hh
  · exact hh.elim
def tree_Root.call (f : FuncId) (vs : List Value) (h : Heap) (K : Value → Heap → Prop) : Prop := match f, vs with
  | 14, [(.agg ⟨[(.slice a1 a1l a1c), (.slice a2 a2l a2c)]⟩)] => callP1 (tree_Check a1 a1l a1c a2 a2l a2c h) fun r10 h' => K (.int .i64 r10) h'
  | _, _ => False
def tree_Root.qcall (f : FuncId) (vs : List Value) (h : Heap) (K : Value → Prop) : Prop := match f, vs with
  | 49, [(.slice a1 a1l a1c), (.int .i64 a2)] => qcallP1 h (slices_Index_Lint_int a1 a1l a1c a2 h) fun r7 => K (.int .i64 r7)
  | _, _ => False
noncomputable def tree_Root.ctx : Ctx := { P := Try.prog, call := tree_Root.call, qcall := tree_Root.qcall, quiet := fun f => Nat.beq f 49, loop := fun _ _ _ _ => False }
theorem tree_Root.ok : tree_Root.ctx.OK where
  mixed := by kernel_rfl
  mono := by
    intro f args h K K' hh hk
    change tree_Root.call f args h K at hh
    change tree_Root.call f args h K'
    unfold tree_Root.call at hh ⊢
    split at hh
    · obtain ⟨R, h1, h2⟩ := hh
      exact ⟨R, h1, fun _ x hr => hk _ _ (h2 _ x hr)⟩
    · exact hh.elim
  call := by
    intro f args h K hh w hw
    change tree_Root.call f args h K at hh
    unfold tree_Root.call at hh
    split at hh
    · obtain ⟨R, h1, h2⟩ := hh
      obtain ⟨g1, g2⟩ := tree_Check.calls h1 w hw
      exact ⟨g1, g2.mono fun e w' ⟨v, he, ho, hr⟩ => ⟨v, he, ho, tree_Check.ret_elim h2 hr⟩⟩
    · exact hh.elim
  qmono := by
    intro f args h K K' hh hk
    change tree_Root.qcall f args h K at hh
    change tree_Root.qcall f args h K'
    unfold tree_Root.qcall at hh ⊢
    split at hh
    · obtain ⟨x0, h1, h2⟩ := hh
      exact ⟨x0, h1, hk _ h2⟩
    · exact hh.elim
  qval := by
    intro f args h K hh
    change tree_Root.qcall f args h K at hh
    suffices H : ∃ v, K v ∧ tree_Root.qcall f args h (· = v) from H
    unfold tree_Root.qcall at hh ⊢
    split at hh
    · obtain ⟨x0, h1, h2⟩ := hh
      exact ⟨_, h2, x0, h1, rfl⟩
    · exact hh.elim
  qcall := by
    intro f args h v hh w hw
    change tree_Root.qcall f args h (· = v) at hh
    unfold tree_Root.qcall at hh
    split at hh
    · obtain ⟨x0, h1, h2⟩ := hh
      obtain ⟨g1, g2⟩ := slices_Index_Lint_int.calls h1 w hw
      refine .inl ⟨g1, g2.mono fun e w' ⟨u, he, ho, hr⟩ => ?_⟩
      have hq := slices_Index_Lint_int.ret_elim (K' := fun u h' => u = v ∧ h' = h) (fun _ h' hr => by obtain ⟨rfl, rfl⟩ := hr; exact ⟨h2, rfl⟩) hr
      exact ⟨hq.1 ▸ he, ho, hq.2⟩
    · exact hh.elim
noncomputable def tree_Root.code : Code := (Try.f16.body).getD .skip
def tree_Root.ann : Ann := .auto
set_option maxRecDepth 100000 in
theorem tree_Root.eq (a1 : Option Addr) (a1l : Nat) (a1c : Nat) (a2 : Option Addr) (a2l : Nat) (a2c : Nat) (h : Heap) (K : Int → Heap → Prop) : evF tree_Root.ctx Try.f16 tree_Root.ann [(.agg #[(.slice a1 a1l a1c), (.slice a2 a2l a2c)])] h (tree_Root.ret K) = tree_Root a1 a1l a1c a2 a2l a2c h K := by kernel_rfl
set_option maxRecDepth 100000 in
theorem tree_Root.calls {a1 : Option Addr} {a1l : Nat} {a1c : Nat} {a2 : Option Addr} {a2l : Nat} {a2c : Nat} {h : Heap} {K : Int → Heap → Prop} (hh : tree_Root a1 a1l a1c a2 a2l a2c h K) (w : World) (hw : w.heap = h) :
    (callFunc 16 #[(.agg #[(.slice a1 a1l a1c), (.slice a2 a2l a2c)])]).run Try.prog w = .ok (.enter 16 #[(.agg #[(.slice a1 a1l a1c), (.slice a2 a2l a2c)])]) w ∧ Calls Try.prog 16 #[(.agg #[(.slice a1 a1l a1c), (.slice a2 a2l a2c)])] w fun e w' => ∃ v, e = .returned v ∧ Out w w' ∧ tree_Root.ret K v w'.heap := by
  rw [← tree_Root.eq] at hh
  exact fn_calls (args := [(.agg #[(.slice a1 a1l a1c), (.slice a2 a2l a2c)])]) (c := tree_Root.code) tree_Root.ok Try.func16 (by kernel_rfl) (by kernel_rfl) (by kernel_rfl) (by kernel_rfl) (loops_ok (l := []) (by kernel_rfl) trivial) hh w hw

/-! ### strait/straitref29.in: function 50 -/
def straitref29_in (a1 : Option Addr) (a1l : Nat) (a1c : Nat) (a2 : Option Addr) (a2l : Nat) (a2c : Nat) (a3 : Int) (h : Heap) (K : Bool → Heap → Prop) : Prop :=
  newP h (.cells #[(.slice a1 a1l a1c), (.slice a2 a2l a2c)] 25) fun a4 h5 => (∃ (x6 : Option Addr) (x6l : Nat) (x6c : Nat), cell h5 a4 = some (.slice x6 x6l x6c) ∧ ∃ (x7 : Option Addr) (x7l : Nat) (x7c : Nat), cell h5 (a4.add 1) = some (.slice x7 x7l x7c) ∧ callP1 (straitref29_Right x6 x6l x6c x7 x7l x7c h5) fun x8 h9 => iteB x8 (iteB (decide (a3 ≥ (0 : Int))) (∃ (x10 : Option Addr) (x10l : Nat) (x10c : Nat), cell h9 a4 = some (.slice x10 x10l x10c) ∧ (K (decide (a3 < (x10l : Int))) h9)) (K false h9)) (K false h9))
def straitref29_in.ret (K : Bool → Heap → Prop) (v : Value) (h : Heap) : Prop := match v with
  | (.bool r13) => K r13 h
  | _ => False
theorem straitref29_in.ret_elim {K : Bool → Heap → Prop} {K' : Value → Heap → Prop} {v : Value} {h : Heap} (hk : ∀ r13 h, K r13 h → K' (.bool r13) h) (hh : straitref29_in.ret K v h) : K' v h := by
  unfold straitref29_in.ret at hh
  split at hh
  · exact hk _ _ hh
  · exact hh.elim
def straitref29_in.call (f : FuncId) (vs : List Value) (h : Heap) (K : Value → Heap → Prop) : Prop := match f, vs with
  | 15, [(.agg ⟨[(.slice a1 a1l a1c), (.slice a2 a2l a2c)]⟩)] => callP1 (straitref29_Right a1 a1l a1c a2 a2l a2c h) fun r33 h' => K (.bool r33) h'
  | _, _ => False
noncomputable def straitref29_in.ctx : Ctx := { P := Try.prog, call := straitref29_in.call, qcall := fun _ _ _ _ => False, quiet := fun f => false, loop := fun _ _ _ _ => False }
theorem straitref29_in.ok : straitref29_in.ctx.OK where
  mixed := by kernel_rfl
  mono := by
    intro f args h K K' hh hk
    change straitref29_in.call f args h K at hh
    change straitref29_in.call f args h K'
    unfold straitref29_in.call at hh ⊢
    split at hh
    · obtain ⟨R, h1, h2⟩ := hh
      exact ⟨R, h1, fun _ x hr => hk _ _ (h2 _ x hr)⟩
    · exact hh.elim
  call := by
    intro f args h K hh w hw
    change straitref29_in.call f args h K at hh
    unfold straitref29_in.call at hh
    split at hh
    · obtain ⟨R, h1, h2⟩ := hh
      obtain ⟨g1, g2⟩ := straitref29_Right.calls h1 w hw
      exact ⟨g1, g2.mono fun e w' ⟨v, he, ho, hr⟩ => ⟨v, he, ho, straitref29_Right.ret_elim h2 hr⟩⟩
    · exact hh.elim
  qmono := fun hh _ => hh.elim
  qval := fun hh => hh.elim
  qcall := fun hh => hh.elim
noncomputable def straitref29_in.code : Code := (Try.f50.body).getD .skip
def straitref29_in.ann : Ann := .auto
set_option maxRecDepth 100000 in
theorem straitref29_in.eq (a1 : Option Addr) (a1l : Nat) (a1c : Nat) (a2 : Option Addr) (a2l : Nat) (a2c : Nat) (a3 : Int) (h : Heap) (K : Bool → Heap → Prop) : evF straitref29_in.ctx Try.f50 straitref29_in.ann [(.agg #[(.slice a1 a1l a1c), (.slice a2 a2l a2c)]), (.int .i64 a3)] h (straitref29_in.ret K) = straitref29_in a1 a1l a1c a2 a2l a2c a3 h K := by kernel_rfl
set_option maxRecDepth 100000 in
theorem straitref29_in.calls {a1 : Option Addr} {a1l : Nat} {a1c : Nat} {a2 : Option Addr} {a2l : Nat} {a2c : Nat} {a3 : Int} {h : Heap} {K : Bool → Heap → Prop} (hh : straitref29_in a1 a1l a1c a2 a2l a2c a3 h K) (w : World) (hw : w.heap = h) :
    (callFunc 50 #[(.agg #[(.slice a1 a1l a1c), (.slice a2 a2l a2c)]), (.int .i64 a3)]).run Try.prog w = .ok (.enter 50 #[(.agg #[(.slice a1 a1l a1c), (.slice a2 a2l a2c)]), (.int .i64 a3)]) w ∧ Calls Try.prog 50 #[(.agg #[(.slice a1 a1l a1c), (.slice a2 a2l a2c)]), (.int .i64 a3)] w fun e w' => ∃ v, e = .returned v ∧ Out w w' ∧ straitref29_in.ret K v w'.heap := by
  rw [← straitref29_in.eq] at hh
  exact fn_calls (args := [(.agg #[(.slice a1 a1l a1c), (.slice a2 a2l a2c)]), (.int .i64 a3)]) (c := straitref29_in.code) straitref29_in.ok Try.func50 (by kernel_rfl) (by kernel_rfl) (by kernel_rfl) (by kernel_rfl) (loops_ok (l := []) (by kernel_rfl) trivial) hh w hw

/-! ### strait/straitref29.Root: function 17 -/
def straitref29_Root (a1 : Option Addr) (a1l : Nat) (a1c : Nat) (a2 : Option Addr) (a2l : Nat) (a2c : Nat) (h : Heap) (K : Int → Heap → Prop) : Prop :=
  newP h (.cells #[(.slice a1 a1l a1c), (.slice a2 a2l a2c)] 25) fun a3 h4 => (∃ (x5 : Option Addr) (x5l : Nat) (x5c : Nat), cell h4 a3 = some (.slice x5 x5l x5c) ∧ ∃ (x6 : Option Addr) (x6l : Nat) (x6c : Nat), cell h4 (a3.add 1) = some (.slice x6 x6l x6c) ∧ callP1 (straitref29_in x5 x5l x5c x6 x6l x6c 0 h4) fun x7 h8 => (iteB (!x7) ((K (-1) h8)) ((∃ (x9 : Option Addr) (x9l : Nat) (x9c : Nat), cell h8 a3 = some (.slice x9 x9l x9c) ∧ ∃ (x10 : Option Addr) (x10l : Nat) (x10c : Nat), cell h8 (a3.add 1) = some (.slice x10 x10l x10c) ∧ callP3 (straitref29_Up x9 x9l x9c x10 x10l x10c 0 h8) fun x11 x11l x11c h12 => (chkP x11 fun a13 => (0 ≤ (IntKind.i64.wrap ((x11l : Int) - 1)) ∧ (IntKind.i64.wrap ((x11l : Int) - 1)) < (x11l : Int)) ∧ ∃ (x14 : Int), cell h12 (a13.add ((IntKind.i64.wrap ((x11l : Int) - 1)).toNat * 1)) = some (.int .i64 x14) ∧ K x14 h12)))))
def straitref29_Root.ret (K : Int → Heap → Prop) (v : Value) (h : Heap) : Prop := match v with
  | (.int .i64 r15) => K r15 h
  | _ => False
theorem straitref29_Root.ret_elim {K : Int → Heap → Prop} {K' : Value → Heap → Prop} {v : Value} {h : Heap} (hk : ∀ r15 h, K r15 h → K' (.int .i64 r15) h) (hh : straitref29_Root.ret K v h) : K' v h := by
  unfold straitref29_Root.ret at hh
  split at hh
  · exact hk _ _ hh
  · exact hh.elim
def straitref29_Root.call (f : FuncId) (vs : List Value) (h : Heap) (K : Value → Heap → Prop) : Prop := match f, vs with
  | 48, [(.agg ⟨[(.slice a1 a1l a1c), (.slice a2 a2l a2c)]⟩), (.int .i64 a3)] => callP3 (straitref29_Up a1 a1l a1c a2 a2l a2c a3 h) fun r9 r9l r9c h' => K (.slice r9 r9l r9c) h'
  | 50, [(.agg ⟨[(.slice a1 a1l a1c), (.slice a2 a2l a2c)]⟩), (.int .i64 a3)] => callP1 (straitref29_in a1 a1l a1c a2 a2l a2c a3 h) fun r13 h' => K (.bool r13) h'
  | _, _ => False
noncomputable def straitref29_Root.ctx : Ctx := { P := Try.prog, call := straitref29_Root.call, qcall := fun _ _ _ _ => False, quiet := fun f => false, loop := fun _ _ _ _ => False }
theorem straitref29_Root.ok : straitref29_Root.ctx.OK where
  mixed := by kernel_rfl
  mono := by
    intro f args h K K' hh hk
    change straitref29_Root.call f args h K at hh
    change straitref29_Root.call f args h K'
    unfold straitref29_Root.call at hh ⊢
    split at hh
    · obtain ⟨R, h1, h2⟩ := hh
      exact ⟨R, h1, fun _ _ _ x hr => hk _ _ (h2 _ _ _ x hr)⟩
    · obtain ⟨R, h1, h2⟩ := hh
      exact ⟨R, h1, fun _ x hr => hk _ _ (h2 _ x hr)⟩
    · exact hh.elim
  call := by
    intro f args h K hh w hw
    change straitref29_Root.call f args h K at hh
    unfold straitref29_Root.call at hh
    split at hh
    · obtain ⟨R, h1, h2⟩ := hh
      obtain ⟨g1, g2⟩ := straitref29_Up.calls h1 w hw
      exact ⟨g1, g2.mono fun e w' ⟨v, he, ho, hr⟩ => ⟨v, he, ho, straitref29_Up.ret_elim h2 hr⟩⟩
    · obtain ⟨R, h1, h2⟩ := hh
      obtain ⟨g1, g2⟩ := straitref29_in.calls h1 w hw
      exact ⟨g1, g2.mono fun e w' ⟨v, he, ho, hr⟩ => ⟨v, he, ho, straitref29_in.ret_elim h2 hr⟩⟩
    · exact hh.elim
  qmono := fun hh _ => hh.elim
  qval := fun hh => hh.elim
  qcall := fun hh => hh.elim
noncomputable def straitref29_Root.code : Code := (Try.f17.body).getD .skip
def straitref29_Root.ann : Ann := .auto
set_option maxRecDepth 100000 in
theorem straitref29_Root.eq (a1 : Option Addr) (a1l : Nat) (a1c : Nat) (a2 : Option Addr) (a2l : Nat) (a2c : Nat) (h : Heap) (K : Int → Heap → Prop) : evF straitref29_Root.ctx Try.f17 straitref29_Root.ann [(.agg #[(.slice a1 a1l a1c), (.slice a2 a2l a2c)])] h (straitref29_Root.ret K) = straitref29_Root a1 a1l a1c a2 a2l a2c h K := by kernel_rfl
set_option maxRecDepth 100000 in
theorem straitref29_Root.calls {a1 : Option Addr} {a1l : Nat} {a1c : Nat} {a2 : Option Addr} {a2l : Nat} {a2c : Nat} {h : Heap} {K : Int → Heap → Prop} (hh : straitref29_Root a1 a1l a1c a2 a2l a2c h K) (w : World) (hw : w.heap = h) :
    (callFunc 17 #[(.agg #[(.slice a1 a1l a1c), (.slice a2 a2l a2c)])]).run Try.prog w = .ok (.enter 17 #[(.agg #[(.slice a1 a1l a1c), (.slice a2 a2l a2c)])]) w ∧ Calls Try.prog 17 #[(.agg #[(.slice a1 a1l a1c), (.slice a2 a2l a2c)])] w fun e w' => ∃ v, e = .returned v ∧ Out w w' ∧ straitref29_Root.ret K v w'.heap := by
  rw [← straitref29_Root.eq] at hh
  exact fn_calls (args := [(.agg #[(.slice a1 a1l a1c), (.slice a2 a2l a2c)])]) (c := straitref29_Root.code) straitref29_Root.ok Try.func17 (by kernel_rfl) (by kernel_rfl) (by kernel_rfl) (by kernel_rfl) (loops_ok (l := []) (by kernel_rfl) trivial) hh w hw

/-! ### strait/tree.Depths: function 19 -/
def tree_Depths (a1 : Option Addr) (a1l : Nat) (a1c : Nat) (a2 : Option Addr) (a2l : Nat) (a2c : Nat) (h : Heap) (K : (Option Addr) → Nat → Nat → Heap → Prop) : Prop :=
  newP h (.cells #[(.slice a1 a1l a1c), (.slice a2 a2l a2c)] 25) fun a3 h4 => (∃ (x5 : Option Addr) (x5l : Nat) (x5c : Nat), cell h4 a3 = some (.slice x5 x5l x5c) ∧ ∃ (x6 : Option Addr) (x6l : Nat) (x6c : Nat), cell h4 (a3.add 1) = some (.slice x6 x6l x6c) ∧ callP4 (tree_depths x5 x5l x5c x6 x6l x6c h4) fun x7 x7l x7c x8 h9 => K x7 x7l x7c h9)
def tree_Depths.ret (K : (Option Addr) → Nat → Nat → Heap → Prop) (v : Value) (h : Heap) : Prop := match v with
  | (.slice r10 r10l r10c) => K r10 r10l r10c h
  | _ => False
theorem tree_Depths.ret_elim {K : (Option Addr) → Nat → Nat → Heap → Prop} {K' : Value → Heap → Prop} {v : Value} {h : Heap} (hk : ∀ r10 r10l r10c h, K r10 r10l r10c h → K' (.slice r10 r10l r10c) h) (hh : tree_Depths.ret K v h) : K' v h := by
  unfold tree_Depths.ret at hh
  split at hh
  · exact hk _ _ _ _ hh
  · exact hh.elim
def tree_Depths.call (f : FuncId) (vs : List Value) (h : Heap) (K : Value → Heap → Prop) : Prop := match f, vs with
  | 47, [(.agg ⟨[(.slice a1 a1l a1c), (.slice a2 a2l a2c)]⟩)] => callP4 (tree_depths a1 a1l a1c a2 a2l a2c h) fun r23 r23l r23c r24 h' => K (.tuple #[(.slice r23 r23l r23c), (.bool r24)]) h'
  | _, _ => False
noncomputable def tree_Depths.ctx : Ctx := { P := Try.prog, call := tree_Depths.call, qcall := fun _ _ _ _ => False, quiet := fun f => false, loop := fun _ _ _ _ => False }
theorem tree_Depths.ok : tree_Depths.ctx.OK where
  mixed := by kernel_rfl
  mono := by
    intro f args h K K' hh hk
    change tree_Depths.call f args h K at hh
    change tree_Depths.call f args h K'
    unfold tree_Depths.call at hh ⊢
    split at hh
    · obtain ⟨R, h1, h2⟩ := hh
      exact ⟨R, h1, fun _ _ _ _ x hr => hk _ _ (h2 _ _ _ _ x hr)⟩
    · exact hh.elim
  call := by
    intro f args h K hh w hw
    change tree_Depths.call f args h K at hh
    unfold tree_Depths.call at hh
    split at hh
    · obtain ⟨R, h1, h2⟩ := hh
      obtain ⟨g1, g2⟩ := tree_depths.calls h1 w hw
      exact ⟨g1, g2.mono fun e w' ⟨v, he, ho, hr⟩ => ⟨v, he, ho, tree_depths.ret_elim h2 hr⟩⟩
    · exact hh.elim
  qmono := fun hh _ => hh.elim
  qval := fun hh => hh.elim
  qcall := fun hh => hh.elim
noncomputable def tree_Depths.code : Code := (Try.f19.body).getD .skip
def tree_Depths.ann : Ann := .auto
set_option maxRecDepth 100000 in
theorem tree_Depths.eq (a1 : Option Addr) (a1l : Nat) (a1c : Nat) (a2 : Option Addr) (a2l : Nat) (a2c : Nat) (h : Heap) (K : (Option Addr) → Nat → Nat → Heap → Prop) : evF tree_Depths.ctx Try.f19 tree_Depths.ann [(.agg #[(.slice a1 a1l a1c), (.slice a2 a2l a2c)])] h (tree_Depths.ret K) = tree_Depths a1 a1l a1c a2 a2l a2c h K := by kernel_rfl
set_option maxRecDepth 100000 in
theorem tree_Depths.calls {a1 : Option Addr} {a1l : Nat} {a1c : Nat} {a2 : Option Addr} {a2l : Nat} {a2c : Nat} {h : Heap} {K : (Option Addr) → Nat → Nat → Heap → Prop} (hh : tree_Depths a1 a1l a1c a2 a2l a2c h K) (w : World) (hw : w.heap = h) :
    (callFunc 19 #[(.agg #[(.slice a1 a1l a1c), (.slice a2 a2l a2c)])]).run Try.prog w = .ok (.enter 19 #[(.agg #[(.slice a1 a1l a1c), (.slice a2 a2l a2c)])]) w ∧ Calls Try.prog 19 #[(.agg #[(.slice a1 a1l a1c), (.slice a2 a2l a2c)])] w fun e w' => ∃ v, e = .returned v ∧ Out w w' ∧ tree_Depths.ret K v w'.heap := by
  rw [← tree_Depths.eq] at hh
  exact fn_calls (args := [(.agg #[(.slice a1 a1l a1c), (.slice a2 a2l a2c)])]) (c := tree_Depths.code) tree_Depths.ok Try.func19 (by kernel_rfl) (by kernel_rfl) (by kernel_rfl) (by kernel_rfl) (loops_ok (l := []) (by kernel_rfl) trivial) hh w hw

/-! ### strait/straitref29.Depths: function 20 -/
def straitref29_Depths.b0 (K2 : (Option Addr) → Nat → Nat → Heap → Prop) (cont : Addr → (Option Addr) → Nat → Nat → Int → Heap → Prop) (c1_1001 : Addr) (v3_1002 : Option Addr) (v3_1002l : Nat) (v3_1002c : Nat) (v4_1003 : Int) (h1004 : Heap) : Prop :=
  let j1024 := (fun (h1012 : Heap) => ∃ (x1013 : Option Addr) (x1013l : Nat) (x1013c : Nat), cell h1012 c1_1001 = some (.slice x1013 x1013l x1013c) ∧ ∃ (x1014 : Option Addr) (x1014l : Nat) (x1014c : Nat), cell h1012 (c1_1001.add 1) = some (.slice x1014 x1014l x1014c) ∧ callP3 (straitref29_Up x1013 x1013l x1013c x1014 x1014l x1014c v4_1003 h1012) fun x1015 x1015l x1015c h1016 => newP h1016 (.cells #[(.int .i64 (IntKind.i64.wrap ((x1015l : Int) - 1)))] 3) fun a1017 h1018 => ∃ n1023, cellsAt h1018 (some a1017) (1 * 1) n1023 ∧ appP 3 1 8 [(.int .i64 0)] v3_1002 v3_1002l v3_1002c 1 n1023 h1018 fun q1019 l1020 c1021 h1022 => ((cont c1_1001 q1019 l1020 c1021 (IntKind.i64.wrap (v4_1003 + 1)) h1022)));
  ∃ (x1005 : Option Addr) (x1005l : Nat) (x1005c : Nat), cell h1004 c1_1001 = some (.slice x1005 x1005l x1005c) ∧ iteB (decide (v4_1003 < (x1005l : Int))) (∃ (x1006 : Option Addr) (x1006l : Nat) (x1006c : Nat), cell h1004 c1_1001 = some (.slice x1006 x1006l x1006c) ∧ ∃ (x1007 : Option Addr) (x1007l : Nat) (x1007c : Nat), cell h1004 (c1_1001.add 1) = some (.slice x1007 x1007l x1007c) ∧ callP1 (straitref29_Right x1006 x1006l x1006c x1007 x1007l x1007c h1004) fun x1008 h1009 => (iteB x1008 ((j1024 h1009)) (K2 v3_1002 v3_1002l v3_1002c h1009))) (K2 v3_1002 v3_1002l v3_1002c h1004)
def straitref29_Depths.l0 (K2 : (Option Addr) → Nat → Nat → Heap → Prop) : Nat → Addr → (Option Addr) → Nat → Nat → Int → Heap → Prop
  | 0, _, _, _, _, _, _ => False
  | m + 1, c1_1001, v3_1002, v3_1002l, v3_1002c, v4_1003, h => straitref29_Depths.b0 K2 (straitref29_Depths.l0 K2 m) c1_1001 v3_1002 v3_1002l v3_1002c v4_1003 h
def straitref29_Depths (a1 : Option Addr) (a1l : Nat) (a1c : Nat) (a2 : Option Addr) (a2l : Nat) (a2c : Nat) (h : Heap) (K : (Option Addr) → Nat → Nat → Heap → Prop) : Prop :=
  newP h (.cells #[(.slice a1 a1l a1c), (.slice a2 a2l a2c)] 25) fun a3 h4 => (((∃ m7, straitref29_Depths.l0 (fun z5 z5l z5c h6 => (K z5 z5l z5c h6)) m7 a3 none 0 0 0 h4)))
def straitref29_Depths.ret (K : (Option Addr) → Nat → Nat → Heap → Prop) (v : Value) (h : Heap) : Prop := match v with
  | (.slice r8 r8l r8c) => K r8 r8l r8c h
  | _ => False
theorem straitref29_Depths.ret_elim {K : (Option Addr) → Nat → Nat → Heap → Prop} {K' : Value → Heap → Prop} {v : Value} {h : Heap} (hk : ∀ r8 r8l r8c h, K r8 r8l r8c h → K' (.slice r8 r8l r8c) h) (hh : straitref29_Depths.ret K v h) : K' v h := by
  unfold straitref29_Depths.ret at hh
  split at hh
  · exact hk _ _ _ _ hh
  · exact hh.elim
def straitref29_Depths.call (f : FuncId) (vs : List Value) (h : Heap) (K : Value → Heap → Prop) : Prop := match f, vs with
  | 15, [(.agg ⟨[(.slice a1 a1l a1c), (.slice a2 a2l a2c)]⟩)] => callP1 (straitref29_Right a1 a1l a1c a2 a2l a2c h) fun r33 h' => K (.bool r33) h'
  | 48, [(.agg ⟨[(.slice a1 a1l a1c), (.slice a2 a2l a2c)]⟩), (.int .i64 a3)] => callP3 (straitref29_Up a1 a1l a1c a2 a2l a2c a3 h) fun r9 r9l r9c h' => K (.slice r9 r9l r9c) h'
  | _, _ => False
def straitref29_Depths.r0 (K : Nat → List Value → Heap → Prop) (m : Nat) (vs : List Value) (h : Heap) : Prop := match vs with
  | [(.pointer (some c1_1001)), (.slice v3_1002 v3_1002l v3_1002c), (.int .i64 v4_1003)] => straitref29_Depths.l0 (fun z9 z9l z9c h' => K 2 [(.slice z9 z9l z9c)] h') m c1_1001 v3_1002 v3_1002l v3_1002c v4_1003 h
  | _ => False
def straitref29_Depths.loop (i : Nat) (vs : List Value) (h : Heap) (K : Nat → List Value → Heap → Prop) : Prop := match i with
  | 0 => ∃ m, straitref29_Depths.r0 K m vs h
  | _ => False
noncomputable def straitref29_Depths.ctx : Ctx := { P := Try.prog, call := straitref29_Depths.call, qcall := fun _ _ _ _ => False, quiet := fun f => false, loop := straitref29_Depths.loop }
theorem straitref29_Depths.ok : straitref29_Depths.ctx.OK where
  mixed := by kernel_rfl
  mono := by
    intro f args h K K' hh hk
    change straitref29_Depths.call f args h K at hh
    change straitref29_Depths.call f args h K'
    unfold straitref29_Depths.call at hh ⊢
    split at hh
    · obtain ⟨R, h1, h2⟩ := hh
      exact ⟨R, h1, fun _ x hr => hk _ _ (h2 _ x hr)⟩
    · obtain ⟨R, h1, h2⟩ := hh
      exact ⟨R, h1, fun _ _ _ x hr => hk _ _ (h2 _ _ _ x hr)⟩
    · exact hh.elim
  call := by
    intro f args h K hh w hw
    change straitref29_Depths.call f args h K at hh
    unfold straitref29_Depths.call at hh
    split at hh
    · obtain ⟨R, h1, h2⟩ := hh
      obtain ⟨g1, g2⟩ := straitref29_Right.calls h1 w hw
      exact ⟨g1, g2.mono fun e w' ⟨v, he, ho, hr⟩ => ⟨v, he, ho, straitref29_Right.ret_elim h2 hr⟩⟩
    · obtain ⟨R, h1, h2⟩ := hh
      obtain ⟨g1, g2⟩ := straitref29_Up.calls h1 w hw
      exact ⟨g1, g2.mono fun e w' ⟨v, he, ho, hr⟩ => ⟨v, he, ho, straitref29_Up.ret_elim h2 hr⟩⟩
    · exact hh.elim
  qmono := fun hh _ => hh.elim
  qval := fun hh => hh.elim
  qcall := fun hh => hh.elim
noncomputable def straitref29_Depths.code : Code := (Try.f20.body).getD .skip
def straitref29_Depths.ann : Ann := (.two .auto (.two .auto (.two (.two .auto (.two (.loop 0 [1, 3, 4] [(2, [3])] .auto) .auto)) .auto)))
noncomputable def straitref29_Depths.c0 : Code := sub straitref29_Depths.code [1, 1, 0, 1, 0, 0]
def straitref29_Depths.a0 : Ann := .auto
def straitref29_Depths.keep0 : List Nat := [1, 3, 4]
def straitref29_Depths.outs0 : List (Nat × List Nat) := [(2, [3])]
set_option maxRecDepth 100000 in
theorem straitref29_Depths.L0 : LoopOK straitref29_Depths.ctx 25 straitref29_Depths.c0 0 straitref29_Depths.keep0 straitref29_Depths.outs0 := by
  refine loop_ok (n := straitref29_Depths.a0) straitref29_Depths.ok (by kernel_rfl) (loops_ok (l := []) (by kernel_rfl) ?_) straitref29_Depths.r0 ?_ ?_ (fun vs h K hh => hh)
  · exact trivial
  · intro K vs h hh
    unfold straitref29_Depths.r0 at hh
    split at hh
    · exact hh
    · exact hh
  · intro K m vs h hh
    unfold straitref29_Depths.r0 at hh
    split at hh
    · exact cast (by kernel_rfl) hh
    · exact hh.elim
set_option maxRecDepth 100000 in
theorem straitref29_Depths.eq (a1 : Option Addr) (a1l : Nat) (a1c : Nat) (a2 : Option Addr) (a2l : Nat) (a2c : Nat) (h : Heap) (K : (Option Addr) → Nat → Nat → Heap → Prop) : evF straitref29_Depths.ctx Try.f20 straitref29_Depths.ann [(.agg #[(.slice a1 a1l a1c), (.slice a2 a2l a2c)])] h (straitref29_Depths.ret K) = straitref29_Depths a1 a1l a1c a2 a2l a2c h K := by kernel_rfl
set_option maxRecDepth 100000 in
theorem straitref29_Depths.calls {a1 : Option Addr} {a1l : Nat} {a1c : Nat} {a2 : Option Addr} {a2l : Nat} {a2c : Nat} {h : Heap} {K : (Option Addr) → Nat → Nat → Heap → Prop} (hh : straitref29_Depths a1 a1l a1c a2 a2l a2c h K) (w : World) (hw : w.heap = h) :
    (callFunc 20 #[(.agg #[(.slice a1 a1l a1c), (.slice a2 a2l a2c)])]).run Try.prog w = .ok (.enter 20 #[(.agg #[(.slice a1 a1l a1c), (.slice a2 a2l a2c)])]) w ∧ Calls Try.prog 20 #[(.agg #[(.slice a1 a1l a1c), (.slice a2 a2l a2c)])] w fun e w' => ∃ v, e = .returned v ∧ Out w w' ∧ straitref29_Depths.ret K v w'.heap := by
  rw [← straitref29_Depths.eq] at hh
  exact fn_calls (args := [(.agg #[(.slice a1 a1l a1c), (.slice a2 a2l a2c)])]) (c := straitref29_Depths.code) straitref29_Depths.ok Try.func20 (by kernel_rfl) (by kernel_rfl) (by kernel_rfl) (by kernel_rfl) (loops_ok (l := [(straitref29_Depths.c0, none, 0, straitref29_Depths.keep0, straitref29_Depths.outs0)]) (by kernel_rfl) ⟨straitref29_Depths.L0, trivial⟩) hh w hw

/-! ### cmp.isNaN[int]: function 71 -/
def cmp_isNaN_int (a1 : Int) (h : Heap) (K : Bool → Heap → Prop) : Prop :=
  ((K (a1 != a1) h))
def cmp_isNaN_int.ret (K : Bool → Heap → Prop) (v : Value) (h : Heap) : Prop := match v with
  | (.bool r2) => K r2 h
  | _ => False
theorem cmp_isNaN_int.ret_elim {K : Bool → Heap → Prop} {K' : Value → Heap → Prop} {v : Value} {h : Heap} (hk : ∀ r2 h, K r2 h → K' (.bool r2) h) (hh : cmp_isNaN_int.ret K v h) : K' v h := by
  unfold cmp_isNaN_int.ret at hh
  split at hh
  · exact hk _ _ hh
  · exact hh.elim
noncomputable def cmp_isNaN_int.ctx : Ctx := { P := Try.prog, call := fun _ _ _ _ => False, qcall := fun _ _ _ _ => False, quiet := fun f => false, loop := fun _ _ _ _ => False }
theorem cmp_isNaN_int.ok : cmp_isNaN_int.ctx.OK where
  mixed := by kernel_rfl
  mono := fun hh _ => hh.elim
  call := fun hh => hh.elim
  qmono := fun hh _ => hh.elim
  qval := fun hh => hh.elim
  qcall := fun hh => hh.elim
noncomputable def cmp_isNaN_int.code : Code := (Try.f71.body).getD .skip
def cmp_isNaN_int.ann : Ann := .auto
set_option maxRecDepth 100000 in
theorem cmp_isNaN_int.eq (a1 : Int) (h : Heap) (K : Bool → Heap → Prop) : evF cmp_isNaN_int.ctx Try.f71 cmp_isNaN_int.ann [(.int .i64 a1)] h (cmp_isNaN_int.ret K) = cmp_isNaN_int a1 h K := by kernel_rfl
set_option maxRecDepth 100000 in
theorem cmp_isNaN_int.calls {a1 : Int} {h : Heap} {K : Bool → Heap → Prop} (hh : cmp_isNaN_int a1 h K) (w : World) (hw : w.heap = h) :
    (callFunc 71 #[(.int .i64 a1)]).run Try.prog w = .ok (.enter 71 #[(.int .i64 a1)]) w ∧ Calls Try.prog 71 #[(.int .i64 a1)] w fun e w' => ∃ v, e = .returned v ∧ Out w w' ∧ cmp_isNaN_int.ret K v w'.heap := by
  rw [← cmp_isNaN_int.eq] at hh
  exact fn_calls (args := [(.int .i64 a1)]) (c := cmp_isNaN_int.code) cmp_isNaN_int.ok Try.func71 (by kernel_rfl) (by kernel_rfl) (by kernel_rfl) (by kernel_rfl) (loops_ok (l := []) (by kernel_rfl) trivial) hh w hw

/-! ### cmp.Compare[int]: function 53 -/
def cmp_Compare_int (a1 : Int) (a2 : Int) (h : Heap) (K : Int → Heap → Prop) : Prop :=
  (qcallP1 h (cmp_isNaN_int a1 h) fun x3 => (qcallP1 h (cmp_isNaN_int a2 h) fun x4 => ((iteB x3 ((iteB x4 (K 0 h) (((K (-1) h))))) (((iteB x4 (K 1 h) (((iteB (decide (a1 < a2)) ((K (-1) h)) (((iteB (decide (a1 > a2)) (K 1 h) (K 0 h))))))))))))))
def cmp_Compare_int.ret (K : Int → Heap → Prop) (v : Value) (h : Heap) : Prop := match v with
  | (.int .i64 r5) => K r5 h
  | _ => False
theorem cmp_Compare_int.ret_elim {K : Int → Heap → Prop} {K' : Value → Heap → Prop} {v : Value} {h : Heap} (hk : ∀ r5 h, K r5 h → K' (.int .i64 r5) h) (hh : cmp_Compare_int.ret K v h) : K' v h := by
  unfold cmp_Compare_int.ret at hh
  split at hh
  · exact hk _ _ hh
  · exact hh.elim
def cmp_Compare_int.qcall (f : FuncId) (vs : List Value) (h : Heap) (K : Value → Prop) : Prop := match f, vs with
  | 71, [(.int .i64 a1)] => qcallP1 h (cmp_isNaN_int a1 h) fun r2 => K (.bool r2)
  | _, _ => False
noncomputable def cmp_Compare_int.ctx : Ctx := { P := Try.prog, call := fun _ _ _ _ => False, qcall := cmp_Compare_int.qcall, quiet := fun f => Nat.beq f 71, loop := fun _ _ _ _ => False }
theorem cmp_Compare_int.ok : cmp_Compare_int.ctx.OK where
  mixed := by kernel_rfl
  mono := fun hh _ => hh.elim
  call := fun hh => hh.elim
  qmono := by
    intro f args h K K' hh hk
    change cmp_Compare_int.qcall f args h K at hh
    change cmp_Compare_int.qcall f args h K'
    unfold cmp_Compare_int.qcall at hh ⊢
    split at hh
    · obtain ⟨x0, h1, h2⟩ := hh
      exact ⟨x0, h1, hk _ h2⟩
    · exact hh.elim
  qval := by
    intro f args h K hh
    change cmp_Compare_int.qcall f args h K at hh
    suffices H : ∃ v, K v ∧ cmp_Compare_int.qcall f args h (· = v) from H
    unfold cmp_Compare_int.qcall at hh ⊢
    split at hh
    · obtain ⟨x0, h1, h2⟩ := hh
      exact ⟨_, h2, x0, h1, rfl⟩
    · exact hh.elim
  qcall := by
    intro f args h v hh w hw
    change cmp_Compare_int.qcall f args h (· = v) at hh
    unfold cmp_Compare_int.qcall at hh
    split at hh
    · obtain ⟨x0, h1, h2⟩ := hh
      obtain ⟨g1, g2⟩ := cmp_isNaN_int.calls h1 w hw
      refine .inl ⟨g1, g2.mono fun e w' ⟨u, he, ho, hr⟩ => ?_⟩
      have hq := cmp_isNaN_int.ret_elim (K' := fun u h' => u = v ∧ h' = h) (fun _ h' hr => by obtain ⟨rfl, rfl⟩ := hr; exact ⟨h2, rfl⟩) hr
      exact ⟨hq.1 ▸ he, ho, hq.2⟩
    · exact hh.elim
noncomputable def cmp_Compare_int.code : Code := (Try.f53.body).getD .skip
def cmp_Compare_int.ann : Ann := .auto
set_option maxRecDepth 100000 in
theorem cmp_Compare_int.eq (a1 : Int) (a2 : Int) (h : Heap) (K : Int → Heap → Prop) : evF cmp_Compare_int.ctx Try.f53 cmp_Compare_int.ann [(.int .i64 a1), (.int .i64 a2)] h (cmp_Compare_int.ret K) = cmp_Compare_int a1 a2 h K := by kernel_rfl
set_option maxRecDepth 100000 in
theorem cmp_Compare_int.calls {a1 : Int} {a2 : Int} {h : Heap} {K : Int → Heap → Prop} (hh : cmp_Compare_int a1 a2 h K) (w : World) (hw : w.heap = h) :
    (callFunc 53 #[(.int .i64 a1), (.int .i64 a2)]).run Try.prog w = .ok (.enter 53 #[(.int .i64 a1), (.int .i64 a2)]) w ∧ Calls Try.prog 53 #[(.int .i64 a1), (.int .i64 a2)] w fun e w' => ∃ v, e = .returned v ∧ Out w w' ∧ cmp_Compare_int.ret K v w'.heap := by
  rw [← cmp_Compare_int.eq] at hh
  exact fn_calls (args := [(.int .i64 a1), (.int .i64 a2)]) (c := cmp_Compare_int.code) cmp_Compare_int.ok Try.func53 (by kernel_rfl) (by kernel_rfl) (by kernel_rfl) (by kernel_rfl) (loops_ok (l := []) (by kernel_rfl) trivial) hh w hw

/-! ### strait/tree.Order$1: function 52 -/
def tree_Order_c1 (a1 : Int) (a2 : Int) (a3 : Addr) (h : Heap) (K : Int → Heap → Prop) : Prop :=
  (∃ (x4 : Option Addr) (x4l : Nat) (x4c : Nat), cell h a3 = some (.slice x4 x4l x4c) ∧ chkP x4 fun a5 => (0 ≤ a1 ∧ a1 < (x4l : Int)) ∧ ∃ (x6 : Int), cell h (a5.add (a1.toNat * 1)) = some (.int .i64 x6) ∧ ∃ (x7 : Option Addr) (x7l : Nat) (x7c : Nat), cell h a3 = some (.slice x7 x7l x7c) ∧ chkP x7 fun a8 => (0 ≤ a2 ∧ a2 < (x7l : Int)) ∧ ∃ (x9 : Int), cell h (a8.add (a2.toNat * 1)) = some (.int .i64 x9) ∧ qcallP1 h (cmp_Compare_int x6 x9 h) fun x10 => K x10 h)
def tree_Order_c1.ret (K : Int → Heap → Prop) (v : Value) (h : Heap) : Prop := match v with
  | (.int .i64 r11) => K r11 h
  | _ => False
theorem tree_Order_c1.ret_elim {K : Int → Heap → Prop} {K' : Value → Heap → Prop} {v : Value} {h : Heap} (hk : ∀ r11 h, K r11 h → K' (.int .i64 r11) h) (hh : tree_Order_c1.ret K v h) : K' v h := by
  unfold tree_Order_c1.ret at hh
  split at hh
  · exact hk _ _ hh
  · exact hh.elim
def tree_Order_c1.qcall (f : FuncId) (vs : List Value) (h : Heap) (K : Value → Prop) : Prop := match f, vs with
  | 53, [(.int .i64 a1), (.int .i64 a2)] => qcallP1 h (cmp_Compare_int a1 a2 h) fun r5 => K (.int .i64 r5)
  | _, _ => False
noncomputable def tree_Order_c1.ctx : Ctx := { P := Try.prog, call := fun _ _ _ _ => False, qcall := tree_Order_c1.qcall, quiet := fun f => Nat.beq f 53, loop := fun _ _ _ _ => False }
theorem tree_Order_c1.ok : tree_Order_c1.ctx.OK where
  mixed := by kernel_rfl
  mono := fun hh _ => hh.elim
  call := fun hh => hh.elim
  qmono := by
    intro f args h K K' hh hk
    change tree_Order_c1.qcall f args h K at hh
    change tree_Order_c1.qcall f args h K'
    unfold tree_Order_c1.qcall at hh ⊢
    split at hh
    · obtain ⟨x0, h1, h2⟩ := hh
      exact ⟨x0, h1, hk _ h2⟩
    · exact hh.elim
  qval := by
    intro f args h K hh
    change tree_Order_c1.qcall f args h K at hh
    suffices H : ∃ v, K v ∧ tree_Order_c1.qcall f args h (· = v) from H
    unfold tree_Order_c1.qcall at hh ⊢
    split at hh
    · obtain ⟨x0, h1, h2⟩ := hh
      exact ⟨_, h2, x0, h1, rfl⟩
    · exact hh.elim
  qcall := by
    intro f args h v hh w hw
    change tree_Order_c1.qcall f args h (· = v) at hh
    unfold tree_Order_c1.qcall at hh
    split at hh
    · obtain ⟨x0, h1, h2⟩ := hh
      obtain ⟨g1, g2⟩ := cmp_Compare_int.calls h1 w hw
      refine .inl ⟨g1, g2.mono fun e w' ⟨u, he, ho, hr⟩ => ?_⟩
      have hq := cmp_Compare_int.ret_elim (K' := fun u h' => u = v ∧ h' = h) (fun _ h' hr => by obtain ⟨rfl, rfl⟩ := hr; exact ⟨h2, rfl⟩) hr
      exact ⟨hq.1 ▸ he, ho, hq.2⟩
    · exact hh.elim
noncomputable def tree_Order_c1.code : Code := (Try.f52.body).getD .skip
def tree_Order_c1.ann : Ann := (.two .auto (.two (.reg [0, 0, 3, 7, 0, 0, 48, 112, 255, 511] (.take 0 (.take 1 (.take 2 (.take 3 (.take 4 (.take 5 (.take 6 (.take 7 (.take 8 (.take 9 .done))))))))))) .auto))
set_option maxRecDepth 100000 in
theorem tree_Order_c1.eq (a1 : Int) (a2 : Int) (a3 : Addr) (h : Heap) (K : Int → Heap → Prop) : evF tree_Order_c1.ctx Try.f52 tree_Order_c1.ann [(.int .i64 a1), (.int .i64 a2), (.pointer (some a3))] h (tree_Order_c1.ret K) = tree_Order_c1 a1 a2 a3 h K := by kernel_rfl
set_option maxRecDepth 100000 in
theorem tree_Order_c1.calls {a1 : Int} {a2 : Int} {a3 : Addr} {h : Heap} {K : Int → Heap → Prop} (hh : tree_Order_c1 a1 a2 a3 h K) (w : World) (hw : w.heap = h) :
    (callFunc 52 #[(.int .i64 a1), (.int .i64 a2), (.pointer (some a3))]).run Try.prog w = .ok (.enter 52 #[(.int .i64 a1), (.int .i64 a2), (.pointer (some a3))]) w ∧ Calls Try.prog 52 #[(.int .i64 a1), (.int .i64 a2), (.pointer (some a3))] w fun e w' => ∃ v, e = .returned v ∧ Out w w' ∧ tree_Order_c1.ret K v w'.heap := by
  rw [← tree_Order_c1.eq] at hh
  exact fn_calls (args := [(.int .i64 a1), (.int .i64 a2), (.pointer (some a3))]) (c := tree_Order_c1.code) tree_Order_c1.ok Try.func52 (by kernel_rfl) (by kernel_rfl) (by kernel_rfl) (by kernel_rfl) (loops_ok (l := []) (by kernel_rfl) trivial) hh w hw

/-! ### slices.insertionSortCmpFunc[int]: function 92 -/
def slices_insertionSortCmpFunc_int_tree_Order_c1.b1 (K4 : Heap → Prop) (cont : (Option Addr) → Nat → Nat → Int → Int → Addr → Int → Int → Heap → Prop) (c0_2001 : Option Addr) (c0_2002 : Nat) (c0_2003 : Nat) (c1_2004 : Int) (c2_2005 : Int) (c3_2006 : Addr) (c8_2007 : Int) (v9_2008 : Int) (h2009 : Heap) : Prop :=
  let j2027 := (fun (h2018 : Heap) => chkP c0_2001 fun a2019 => (0 ≤ (IntKind.i64.wrap (v9_2008 - 1)) ∧ (IntKind.i64.wrap (v9_2008 - 1)) < (c0_2002 : Int)) ∧ ∃ (x2020 : Int), cell h2018 (a2019.add ((IntKind.i64.wrap (v9_2008 - 1)).toNat * 1)) = some (.int .i64 x2020) ∧ chkP c0_2001 fun a2021 => (0 ≤ v9_2008 ∧ v9_2008 < (c0_2002 : Int)) ∧ ∃ (x2022 : Int), cell h2018 (a2021.add (v9_2008.toNat * 1)) = some (.int .i64 x2022) ∧ chkP c0_2001 fun a2023 => (0 ≤ v9_2008 ∧ v9_2008 < (c0_2002 : Int)) ∧ stC h2018 (a2023.add (v9_2008.toNat * 1)) (.int .i64 x2020) fun h2024 => chkP c0_2001 fun a2025 => (0 ≤ (IntKind.i64.wrap (v9_2008 - 1)) ∧ (IntKind.i64.wrap (v9_2008 - 1)) < (c0_2002 : Int)) ∧ stC h2024 (a2025.add ((IntKind.i64.wrap (v9_2008 - 1)).toNat * 1)) (.int .i64 x2022) fun h2026 => ((cont c0_2001 c0_2002 c0_2003 c1_2004 c2_2005 c3_2006 c8_2007 (IntKind.i64.wrap (v9_2008 - 1)) h2026)));
  iteB (decide (v9_2008 > c1_2004)) (chkP c0_2001 fun a2010 => (0 ≤ v9_2008 ∧ v9_2008 < (c0_2002 : Int)) ∧ ∃ (x2011 : Int), cell h2009 (a2010.add (v9_2008.toNat * 1)) = some (.int .i64 x2011) ∧ chkP c0_2001 fun a2012 => (0 ≤ (IntKind.i64.wrap (v9_2008 - 1)) ∧ (IntKind.i64.wrap (v9_2008 - 1)) < (c0_2002 : Int)) ∧ ∃ (x2013 : Int), cell h2009 (a2012.add ((IntKind.i64.wrap (v9_2008 - 1)).toNat * 1)) = some (.int .i64 x2013) ∧ callP1 (tree_Order_c1 x2011 x2013 c3_2006 h2009) fun x2014 h2015 => (iteB (decide (x2014 < (0 : Int))) ((j2027 h2015)) (K4 h2015))) (K4 h2009)
def slices_insertionSortCmpFunc_int_tree_Order_c1.l1 (K4 : Heap → Prop) : Nat → (Option Addr) → Nat → Nat → Int → Int → Addr → Int → Int → Heap → Prop
  | 0, _, _, _, _, _, _, _, _, _ => False
  | m + 1, c0_2001, c0_2002, c0_2003, c1_2004, c2_2005, c3_2006, c8_2007, v9_2008, h => slices_insertionSortCmpFunc_int_tree_Order_c1.b1 K4 (slices_insertionSortCmpFunc_int_tree_Order_c1.l1 K4 m) c0_2001 c0_2002 c0_2003 c1_2004 c2_2005 c3_2006 c8_2007 v9_2008 h
def slices_insertionSortCmpFunc_int_tree_Order_c1.b0 (K2 : Heap → Prop) (cont : (Option Addr) → Nat → Nat → Int → Int → Addr → Int → Heap → Prop) (c0_1001 : Option Addr) (c0_1002 : Nat) (c0_1003 : Nat) (c1_1004 : Int) (c2_1005 : Int) (c3_1006 : Addr) (v8_1007 : Int) (h1008 : Heap) : Prop :=
  (iteB (decide (v8_1007 < c2_1005)) (((∃ m1010, slices_insertionSortCmpFunc_int_tree_Order_c1.l1 (fun h1009 => (((cont c0_1001 c0_1002 c0_1003 c1_1004 c2_1005 c3_1006 (IntKind.i64.wrap (v8_1007 + 1)) h1009)))) m1010 c0_1001 c0_1002 c0_1003 c1_1004 c2_1005 c3_1006 v8_1007 v8_1007 h1008))) (K2 h1008))
def slices_insertionSortCmpFunc_int_tree_Order_c1.l0 (K2 : Heap → Prop) : Nat → (Option Addr) → Nat → Nat → Int → Int → Addr → Int → Heap → Prop
  | 0, _, _, _, _, _, _, _, _ => False
  | m + 1, c0_1001, c0_1002, c0_1003, c1_1004, c2_1005, c3_1006, v8_1007, h => slices_insertionSortCmpFunc_int_tree_Order_c1.b0 K2 (slices_insertionSortCmpFunc_int_tree_Order_c1.l0 K2 m) c0_1001 c0_1002 c0_1003 c1_1004 c2_1005 c3_1006 v8_1007 h
def slices_insertionSortCmpFunc_int_tree_Order_c1 (a1 : Option Addr) (a1l : Nat) (a1c : Nat) (a2 : Int) (a3 : Int) (a4 : Addr) (h : Heap) (K : Heap → Prop) : Prop :=
  (∃ m6, slices_insertionSortCmpFunc_int_tree_Order_c1.l0 (fun h5 => K h5) m6 a1 a1l a1c a2 a3 a4 (IntKind.i64.wrap (a2 + 1)) h)
def slices_insertionSortCmpFunc_int_tree_Order_c1.ret (K : Heap → Prop) (v : Value) (h : Heap) : Prop := match v with
  | (.tuple ⟨[]⟩) => K h
  | _ => False
theorem slices_insertionSortCmpFunc_int_tree_Order_c1.ret_elim {K : Heap → Prop} {K' : Value → Heap → Prop} {v : Value} {h : Heap} (hk : ∀  h, K h → K' (.tuple #[]) h) (hh : slices_insertionSortCmpFunc_int_tree_Order_c1.ret K v h) : K' v h := by
  unfold slices_insertionSortCmpFunc_int_tree_Order_c1.ret at hh
  split at hh
  · exact hk _ hh
  · exact hh.elim
def slices_insertionSortCmpFunc_int_tree_Order_c1.call (f : FuncId) (vs : List Value) (h : Heap) (K : Value → Heap → Prop) : Prop := match f, vs with
  | 52, [(.int .i64 a1), (.int .i64 a2), (.pointer (some a3))] => callP1 (tree_Order_c1 a1 a2 a3 h) fun r11 h' => K (.int .i64 r11) h'
  | _, _ => False
def slices_insertionSortCmpFunc_int_tree_Order_c1.r0 (K : Nat → List Value → Heap → Prop) (m : Nat) (vs : List Value) (h : Heap) : Prop := match vs with
  | [(.slice c0_1001 c0_1002 c0_1003), (.int .i64 c1_1004), (.int .i64 c2_1005), (.func (.func 52) ⟨[]⟩ ⟨[(.pointer (some c3_1006))]⟩), (.int .i64 v8_1007)] => slices_insertionSortCmpFunc_int_tree_Order_c1.l0 (fun h' => K 2 [] h') m c0_1001 c0_1002 c0_1003 c1_1004 c2_1005 c3_1006 v8_1007 h
  | _ => False
def slices_insertionSortCmpFunc_int_tree_Order_c1.r1 (K : Nat → List Value → Heap → Prop) (m : Nat) (vs : List Value) (h : Heap) : Prop := match vs with
  | [(.slice c0_2001 c0_2002 c0_2003), (.int .i64 c1_2004), (.int .i64 c2_2005), (.func (.func 52) ⟨[]⟩ ⟨[(.pointer (some c3_2006))]⟩), (.int .i64 c8_2007), (.int .i64 v9_2008)] => slices_insertionSortCmpFunc_int_tree_Order_c1.l1 (fun h' => K 4 [(.slice c0_2001 c0_2002 c0_2003), (.int .i64 c1_2004), (.int .i64 c2_2005), (.func (.func 52) #[] #[(.pointer (some c3_2006))]), (.int .i64 c8_2007)] h') m c0_2001 c0_2002 c0_2003 c1_2004 c2_2005 c3_2006 c8_2007 v9_2008 h
  | _ => False
def slices_insertionSortCmpFunc_int_tree_Order_c1.loop (i : Nat) (vs : List Value) (h : Heap) (K : Nat → List Value → Heap → Prop) : Prop := match i with
  | 0 => ∃ m, slices_insertionSortCmpFunc_int_tree_Order_c1.r0 K m vs h
  | 1 => ∃ m, slices_insertionSortCmpFunc_int_tree_Order_c1.r1 K m vs h
  | _ => False
noncomputable def slices_insertionSortCmpFunc_int_tree_Order_c1.ctx : Ctx := { P := Try.prog, call := slices_insertionSortCmpFunc_int_tree_Order_c1.call, qcall := fun _ _ _ _ => False, quiet := fun f => false, loop := slices_insertionSortCmpFunc_int_tree_Order_c1.loop }
theorem slices_insertionSortCmpFunc_int_tree_Order_c1.ok : slices_insertionSortCmpFunc_int_tree_Order_c1.ctx.OK where
  mixed := by kernel_rfl
  mono := by
    intro f args h K K' hh hk
    change slices_insertionSortCmpFunc_int_tree_Order_c1.call f args h K at hh
    change slices_insertionSortCmpFunc_int_tree_Order_c1.call f args h K'
    unfold slices_insertionSortCmpFunc_int_tree_Order_c1.call at hh ⊢
    split at hh
    · obtain ⟨R, h1, h2⟩ := hh
      exact ⟨R, h1, fun _ x hr => hk _ _ (h2 _ x hr)⟩
    · exact hh.elim
  call := by
    intro f args h K hh w hw
    change slices_insertionSortCmpFunc_int_tree_Order_c1.call f args h K at hh
    unfold slices_insertionSortCmpFunc_int_tree_Order_c1.call at hh
    split at hh
    · obtain ⟨R, h1, h2⟩ := hh
      obtain ⟨g1, g2⟩ := tree_Order_c1.calls h1 w hw
      exact ⟨g1, g2.mono fun e w' ⟨v, he, ho, hr⟩ => ⟨v, he, ho, tree_Order_c1.ret_elim h2 hr⟩⟩
    · exact hh.elim
  qmono := fun hh _ => hh.elim
  qval := fun hh => hh.elim
  qcall := fun hh => hh.elim
noncomputable def slices_insertionSortCmpFunc_int_tree_Order_c1.code : Code := (Try.f92.body).getD .skip
def slices_insertionSortCmpFunc_int_tree_Order_c1.ann : Ann := (.two .auto (.two (.loop 0 [0, 1, 2, 3, 8] [(2, [])] (.two .auto (.two (.two (.two .auto (.two (.loop 1 [0, 1, 2, 3, 8, 9] [(4, [0, 1, 2, 3, 8])] (.two (.two (.reg [0, 0, 3, 7, 15, 15, 15, 111, 239, 15, 15, 1039, 3599, 7695, 16383, 32767, 65535] (.take 0 (.take 1 (.take 2 (.take 3 (.take 4 (.take 5 (.take 6 (.take 7 (.take 8 (.take 9 (.take 10 (.take 11 (.take 12 (.take 13 (.alt 14 (.take 15 (.take 16 .done)) .noalt)))))))))))))))) .auto) (.two (.two (.reg [0, 0, 0, 0, 8, 0, 0, 64, 224, 480, 0, 0, 3072, 7168, 16355, 32739, 65535, 131071] (.take 0 (.take 1 (.take 2 (.take 3 (.take 4 (.take 5 (.take 6 (.take 7 (.take 8 (.take 9 (.take 10 (.take 11 (.take 12 (.take 13 (.take 14 (.alt 15 (.take 16 (.alt 17 .done .noalt)) .noalt))))))))))))))))) .auto) .auto))) .auto)) .auto) .auto))) .auto))
noncomputable def slices_insertionSortCmpFunc_int_tree_Order_c1.c1 : Code := sub slices_insertionSortCmpFunc_int_tree_Order_c1.code [1, 0, 0, 1, 0, 0, 1, 0, 0]
def slices_insertionSortCmpFunc_int_tree_Order_c1.a1 : Ann := (.two (.two (.reg [0, 0, 3, 7, 15, 15, 15, 111, 239, 15, 15, 1039, 3599, 7695, 16383, 32767, 65535] (.take 0 (.take 1 (.take 2 (.take 3 (.take 4 (.take 5 (.take 6 (.take 7 (.take 8 (.take 9 (.take 10 (.take 11 (.take 12 (.take 13 (.alt 14 (.take 15 (.take 16 .done)) .noalt)))))))))))))))) .auto) (.two (.two (.reg [0, 0, 0, 0, 8, 0, 0, 64, 224, 480, 0, 0, 3072, 7168, 16355, 32739, 65535, 131071] (.take 0 (.take 1 (.take 2 (.take 3 (.take 4 (.take 5 (.take 6 (.take 7 (.take 8 (.take 9 (.take 10 (.take 11 (.take 12 (.take 13 (.take 14 (.alt 15 (.take 16 (.alt 17 .done .noalt)) .noalt))))))))))))))))) .auto) .auto))
def slices_insertionSortCmpFunc_int_tree_Order_c1.keep1 : List Nat := [0, 1, 2, 3, 8, 9]
def slices_insertionSortCmpFunc_int_tree_Order_c1.outs1 : List (Nat × List Nat) := [(4, [0, 1, 2, 3, 8])]
noncomputable def slices_insertionSortCmpFunc_int_tree_Order_c1.c0 : Code := sub slices_insertionSortCmpFunc_int_tree_Order_c1.code [1, 0, 0]
def slices_insertionSortCmpFunc_int_tree_Order_c1.a0 : Ann := (.two .auto (.two (.two (.two .auto (.two (.loop 1 [0, 1, 2, 3, 8, 9] [(4, [0, 1, 2, 3, 8])] (.two (.two (.reg [0, 0, 3, 7, 15, 15, 15, 111, 239, 15, 15, 1039, 3599, 7695, 16383, 32767, 65535] (.take 0 (.take 1 (.take 2 (.take 3 (.take 4 (.take 5 (.take 6 (.take 7 (.take 8 (.take 9 (.take 10 (.take 11 (.take 12 (.take 13 (.alt 14 (.take 15 (.take 16 .done)) .noalt)))))))))))))))) .auto) (.two (.two (.reg [0, 0, 0, 0, 8, 0, 0, 64, 224, 480, 0, 0, 3072, 7168, 16355, 32739, 65535, 131071] (.take 0 (.take 1 (.take 2 (.take 3 (.take 4 (.take 5 (.take 6 (.take 7 (.take 8 (.take 9 (.take 10 (.take 11 (.take 12 (.take 13 (.take 14 (.alt 15 (.take 16 (.alt 17 .done .noalt)) .noalt))))))))))))))))) .auto) .auto))) .auto)) .auto) .auto))
def slices_insertionSortCmpFunc_int_tree_Order_c1.keep0 : List Nat := [0, 1, 2, 3, 8]
def slices_insertionSortCmpFunc_int_tree_Order_c1.outs0 : List (Nat × List Nat) := [(2, [])]
set_option maxRecDepth 100000 in
theorem slices_insertionSortCmpFunc_int_tree_Order_c1.L1 : LoopOK slices_insertionSortCmpFunc_int_tree_Order_c1.ctx 53 slices_insertionSortCmpFunc_int_tree_Order_c1.c1 1 slices_insertionSortCmpFunc_int_tree_Order_c1.keep1 slices_insertionSortCmpFunc_int_tree_Order_c1.outs1 := by
  refine loop_ok (n := slices_insertionSortCmpFunc_int_tree_Order_c1.a1) slices_insertionSortCmpFunc_int_tree_Order_c1.ok (by kernel_rfl) (loops_ok (l := []) (by kernel_rfl) ?_) slices_insertionSortCmpFunc_int_tree_Order_c1.r1 ?_ ?_ (fun vs h K hh => hh)
  · exact trivial
  · intro K vs h hh
    unfold slices_insertionSortCmpFunc_int_tree_Order_c1.r1 at hh
    split at hh
    · exact hh
    · exact hh
  · intro K m vs h hh
    unfold slices_insertionSortCmpFunc_int_tree_Order_c1.r1 at hh
    split at hh
    · exact cast (by kernel_rfl) hh
    · exact hh.elim
set_option maxRecDepth 100000 in
theorem slices_insertionSortCmpFunc_int_tree_Order_c1.L0 : LoopOK slices_insertionSortCmpFunc_int_tree_Order_c1.ctx 53 slices_insertionSortCmpFunc_int_tree_Order_c1.c0 0 slices_insertionSortCmpFunc_int_tree_Order_c1.keep0 slices_insertionSortCmpFunc_int_tree_Order_c1.outs0 := by
  refine loop_ok (n := slices_insertionSortCmpFunc_int_tree_Order_c1.a0) slices_insertionSortCmpFunc_int_tree_Order_c1.ok (by kernel_rfl) (loops_ok (l := [(slices_insertionSortCmpFunc_int_tree_Order_c1.c1, none, 1, slices_insertionSortCmpFunc_int_tree_Order_c1.keep1, slices_insertionSortCmpFunc_int_tree_Order_c1.outs1)]) (by kernel_rfl) ?_) slices_insertionSortCmpFunc_int_tree_Order_c1.r0 ?_ ?_ (fun vs h K hh => hh)
  · exact ⟨slices_insertionSortCmpFunc_int_tree_Order_c1.L1, trivial⟩
  · intro K vs h hh
    unfold slices_insertionSortCmpFunc_int_tree_Order_c1.r0 at hh
    split at hh
    · exact hh
    · exact hh
  · intro K m vs h hh
    unfold slices_insertionSortCmpFunc_int_tree_Order_c1.r0 at hh
    split at hh
    · exact cast (by kernel_rfl) hh
    · exact hh.elim
set_option maxRecDepth 100000 in
theorem slices_insertionSortCmpFunc_int_tree_Order_c1.eq (a1 : Option Addr) (a1l : Nat) (a1c : Nat) (a2 : Int) (a3 : Int) (a4 : Addr) (h : Heap) (K : Heap → Prop) : evF slices_insertionSortCmpFunc_int_tree_Order_c1.ctx Try.f92 slices_insertionSortCmpFunc_int_tree_Order_c1.ann [(.slice a1 a1l a1c), (.int .i64 a2), (.int .i64 a3), (.func (.func 52) #[] #[(.pointer (some a4))])] h (slices_insertionSortCmpFunc_int_tree_Order_c1.ret K) = slices_insertionSortCmpFunc_int_tree_Order_c1 a1 a1l a1c a2 a3 a4 h K := by kernel_rfl
set_option maxRecDepth 100000 in
theorem slices_insertionSortCmpFunc_int_tree_Order_c1.calls {a1 : Option Addr} {a1l : Nat} {a1c : Nat} {a2 : Int} {a3 : Int} {a4 : Addr} {h : Heap} {K : Heap → Prop} (hh : slices_insertionSortCmpFunc_int_tree_Order_c1 a1 a1l a1c a2 a3 a4 h K) (w : World) (hw : w.heap = h) :
    (callFunc 92 #[(.slice a1 a1l a1c), (.int .i64 a2), (.int .i64 a3), (.func (.func 52) #[] #[(.pointer (some a4))])]).run Try.prog w = .ok (.enter 92 #[(.slice a1 a1l a1c), (.int .i64 a2), (.int .i64 a3), (.func (.func 52) #[] #[(.pointer (some a4))])]) w ∧ Calls Try.prog 92 #[(.slice a1 a1l a1c), (.int .i64 a2), (.int .i64 a3), (.func (.func 52) #[] #[(.pointer (some a4))])] w fun e w' => ∃ v, e = .returned v ∧ Out w w' ∧ slices_insertionSortCmpFunc_int_tree_Order_c1.ret K v w'.heap := by
  rw [← slices_insertionSortCmpFunc_int_tree_Order_c1.eq] at hh
  exact fn_calls (args := [(.slice a1 a1l a1c), (.int .i64 a2), (.int .i64 a3), (.func (.func 52) #[] #[(.pointer (some a4))])]) (c := slices_insertionSortCmpFunc_int_tree_Order_c1.code) slices_insertionSortCmpFunc_int_tree_Order_c1.ok Try.func92 (by kernel_rfl) (by kernel_rfl) (by kernel_rfl) (by kernel_rfl) (loops_ok (l := [(slices_insertionSortCmpFunc_int_tree_Order_c1.c0, none, 0, slices_insertionSortCmpFunc_int_tree_Order_c1.keep0, slices_insertionSortCmpFunc_int_tree_Order_c1.outs0)]) (by kernel_rfl) ⟨slices_insertionSortCmpFunc_int_tree_Order_c1.L0, trivial⟩) hh w hw

/-! ### slices.swapRangeCmpFunc[int]: function 142 -/
def slices_swapRangeCmpFunc_int_tree_Order_c1.b0 (K2 : Heap → Prop) (cont : (Option Addr) → Nat → Nat → Int → Int → Int → Int → Heap → Prop) (c0_1001 : Option Addr) (c0_1002 : Nat) (c0_1003 : Nat) (c1_1004 : Int) (c2_1005 : Int) (c3_1006 : Int) (v10_1007 : Int) (h1008 : Heap) : Prop :=
  (iteB (decide (v10_1007 < c3_1006)) ((chkP c0_1001 fun a1009 => (0 ≤ (IntKind.i64.wrap (c2_1005 + v10_1007)) ∧ (IntKind.i64.wrap (c2_1005 + v10_1007)) < (c0_1002 : Int)) ∧ ∃ (x1010 : Int), cell h1008 (a1009.add ((IntKind.i64.wrap (c2_1005 + v10_1007)).toNat * 1)) = some (.int .i64 x1010) ∧ chkP c0_1001 fun a1011 => (0 ≤ (IntKind.i64.wrap (c1_1004 + v10_1007)) ∧ (IntKind.i64.wrap (c1_1004 + v10_1007)) < (c0_1002 : Int)) ∧ ∃ (x1012 : Int), cell h1008 (a1011.add ((IntKind.i64.wrap (c1_1004 + v10_1007)).toNat * 1)) = some (.int .i64 x1012) ∧ chkP c0_1001 fun a1013 => (0 ≤ (IntKind.i64.wrap (c1_1004 + v10_1007)) ∧ (IntKind.i64.wrap (c1_1004 + v10_1007)) < (c0_1002 : Int)) ∧ stC h1008 (a1013.add ((IntKind.i64.wrap (c1_1004 + v10_1007)).toNat * 1)) (.int .i64 x1010) fun h1014 => chkP c0_1001 fun a1015 => (0 ≤ (IntKind.i64.wrap (c2_1005 + v10_1007)) ∧ (IntKind.i64.wrap (c2_1005 + v10_1007)) < (c0_1002 : Int)) ∧ stC h1014 (a1015.add ((IntKind.i64.wrap (c2_1005 + v10_1007)).toNat * 1)) (.int .i64 x1012) fun h1016 => ((cont c0_1001 c0_1002 c0_1003 c1_1004 c2_1005 c3_1006 (IntKind.i64.wrap (v10_1007 + 1)) h1016)))) (K2 h1008))
def slices_swapRangeCmpFunc_int_tree_Order_c1.l0 (K2 : Heap → Prop) : Nat → (Option Addr) → Nat → Nat → Int → Int → Int → Int → Heap → Prop
  | 0, _, _, _, _, _, _, _, _ => False
  | m + 1, c0_1001, c0_1002, c0_1003, c1_1004, c2_1005, c3_1006, v10_1007, h => slices_swapRangeCmpFunc_int_tree_Order_c1.b0 K2 (slices_swapRangeCmpFunc_int_tree_Order_c1.l0 K2 m) c0_1001 c0_1002 c0_1003 c1_1004 c2_1005 c3_1006 v10_1007 h
def slices_swapRangeCmpFunc_int_tree_Order_c1 (a1 : Option Addr) (a1l : Nat) (a1c : Nat) (a2 : Int) (a3 : Int) (a4 : Int) (a5 : Addr) (h : Heap) (K : Heap → Prop) : Prop :=
  (∃ m7, slices_swapRangeCmpFunc_int_tree_Order_c1.l0 (fun h6 => K h6) m7 a1 a1l a1c a2 a3 a4 0 h)
def slices_swapRangeCmpFunc_int_tree_Order_c1.ret (K : Heap → Prop) (v : Value) (h : Heap) : Prop := match v with
  | (.tuple ⟨[]⟩) => K h
  | _ => False
theorem slices_swapRangeCmpFunc_int_tree_Order_c1.ret_elim {K : Heap → Prop} {K' : Value → Heap → Prop} {v : Value} {h : Heap} (hk : ∀  h, K h → K' (.tuple #[]) h) (hh : slices_swapRangeCmpFunc_int_tree_Order_c1.ret K v h) : K' v h := by
  unfold slices_swapRangeCmpFunc_int_tree_Order_c1.ret at hh
  split at hh
  · exact hk _ hh
  · exact hh.elim
def slices_swapRangeCmpFunc_int_tree_Order_c1.r0 (K : Nat → List Value → Heap → Prop) (m : Nat) (vs : List Value) (h : Heap) : Prop := match vs with
  | [(.slice c0_1001 c0_1002 c0_1003), (.int .i64 c1_1004), (.int .i64 c2_1005), (.int .i64 c3_1006), (.int .i64 v10_1007)] => slices_swapRangeCmpFunc_int_tree_Order_c1.l0 (fun h' => K 2 [] h') m c0_1001 c0_1002 c0_1003 c1_1004 c2_1005 c3_1006 v10_1007 h
  | _ => False
def slices_swapRangeCmpFunc_int_tree_Order_c1.loop (i : Nat) (vs : List Value) (h : Heap) (K : Nat → List Value → Heap → Prop) : Prop := match i with
  | 0 => ∃ m, slices_swapRangeCmpFunc_int_tree_Order_c1.r0 K m vs h
  | _ => False
noncomputable def slices_swapRangeCmpFunc_int_tree_Order_c1.ctx : Ctx := { P := Try.prog, call := fun _ _ _ _ => False, qcall := fun _ _ _ _ => False, quiet := fun f => false, loop := slices_swapRangeCmpFunc_int_tree_Order_c1.loop }
theorem slices_swapRangeCmpFunc_int_tree_Order_c1.ok : slices_swapRangeCmpFunc_int_tree_Order_c1.ctx.OK where
  mixed := by kernel_rfl
  mono := fun hh _ => hh.elim
  call := fun hh => hh.elim
  qmono := fun hh _ => hh.elim
  qval := fun hh => hh.elim
  qcall := fun hh => hh.elim
noncomputable def slices_swapRangeCmpFunc_int_tree_Order_c1.code : Code := (Try.f142.body).getD .skip
def slices_swapRangeCmpFunc_int_tree_Order_c1.ann : Ann := (.two .auto (.two (.loop 0 [0, 1, 2, 3, 10] [(2, [])] (.two .auto (.two (.two (.reg [0, 0, 0, 6, 0, 0, 0, 96, 0, 0, 0, 1536, 3840, 7936, 0, 0, 0, 98304, 245760, 507904, 1048335, 2096911, 4194303, 8388607] (.take 0 (.take 1 (.take 2 (.take 3 (.take 4 (.take 5 (.take 6 (.take 7 (.take 8 (.take 9 (.take 10 (.take 11 (.take 12 (.take 13 (.take 14 (.take 15 (.take 16 (.take 17 (.take 18 (.take 19 (.take 20 (.alt 21 (.take 22 (.alt 23 .done .noalt)) .noalt))))))))))))))))))))))) .auto) .auto))) .auto))
noncomputable def slices_swapRangeCmpFunc_int_tree_Order_c1.c0 : Code := sub slices_swapRangeCmpFunc_int_tree_Order_c1.code [1, 0, 0]
def slices_swapRangeCmpFunc_int_tree_Order_c1.a0 : Ann := (.two .auto (.two (.two (.reg [0, 0, 0, 6, 0, 0, 0, 96, 0, 0, 0, 1536, 3840, 7936, 0, 0, 0, 98304, 245760, 507904, 1048335, 2096911, 4194303, 8388607] (.take 0 (.take 1 (.take 2 (.take 3 (.take 4 (.take 5 (.take 6 (.take 7 (.take 8 (.take 9 (.take 10 (.take 11 (.take 12 (.take 13 (.take 14 (.take 15 (.take 16 (.take 17 (.take 18 (.take 19 (.take 20 (.alt 21 (.take 22 (.alt 23 .done .noalt)) .noalt))))))))))))))))))))))) .auto) .auto))
def slices_swapRangeCmpFunc_int_tree_Order_c1.keep0 : List Nat := [0, 1, 2, 3, 10]
def slices_swapRangeCmpFunc_int_tree_Order_c1.outs0 : List (Nat × List Nat) := [(2, [])]
set_option maxRecDepth 100000 in
theorem slices_swapRangeCmpFunc_int_tree_Order_c1.L0 : LoopOK slices_swapRangeCmpFunc_int_tree_Order_c1.ctx 38 slices_swapRangeCmpFunc_int_tree_Order_c1.c0 0 slices_swapRangeCmpFunc_int_tree_Order_c1.keep0 slices_swapRangeCmpFunc_int_tree_Order_c1.outs0 := by
  refine loop_ok (n := slices_swapRangeCmpFunc_int_tree_Order_c1.a0) slices_swapRangeCmpFunc_int_tree_Order_c1.ok (by kernel_rfl) (loops_ok (l := []) (by kernel_rfl) ?_) slices_swapRangeCmpFunc_int_tree_Order_c1.r0 ?_ ?_ (fun vs h K hh => hh)
  · exact trivial
  · intro K vs h hh
    unfold slices_swapRangeCmpFunc_int_tree_Order_c1.r0 at hh
    split at hh
    · exact hh
    · exact hh
  · intro K m vs h hh
    unfold slices_swapRangeCmpFunc_int_tree_Order_c1.r0 at hh
    split at hh
    · exact cast (by kernel_rfl) hh
    · exact hh.elim
set_option maxRecDepth 100000 in
theorem slices_swapRangeCmpFunc_int_tree_Order_c1.eq (a1 : Option Addr) (a1l : Nat) (a1c : Nat) (a2 : Int) (a3 : Int) (a4 : Int) (a5 : Addr) (h : Heap) (K : Heap → Prop) : evF slices_swapRangeCmpFunc_int_tree_Order_c1.ctx Try.f142 slices_swapRangeCmpFunc_int_tree_Order_c1.ann [(.slice a1 a1l a1c), (.int .i64 a2), (.int .i64 a3), (.int .i64 a4), (.func (.func 52) #[] #[(.pointer (some a5))])] h (slices_swapRangeCmpFunc_int_tree_Order_c1.ret K) = slices_swapRangeCmpFunc_int_tree_Order_c1 a1 a1l a1c a2 a3 a4 a5 h K := by kernel_rfl
set_option maxRecDepth 100000 in
theorem slices_swapRangeCmpFunc_int_tree_Order_c1.calls {a1 : Option Addr} {a1l : Nat} {a1c : Nat} {a2 : Int} {a3 : Int} {a4 : Int} {a5 : Addr} {h : Heap} {K : Heap → Prop} (hh : slices_swapRangeCmpFunc_int_tree_Order_c1 a1 a1l a1c a2 a3 a4 a5 h K) (w : World) (hw : w.heap = h) :
    (callFunc 142 #[(.slice a1 a1l a1c), (.int .i64 a2), (.int .i64 a3), (.int .i64 a4), (.func (.func 52) #[] #[(.pointer (some a5))])]).run Try.prog w = .ok (.enter 142 #[(.slice a1 a1l a1c), (.int .i64 a2), (.int .i64 a3), (.int .i64 a4), (.func (.func 52) #[] #[(.pointer (some a5))])]) w ∧ Calls Try.prog 142 #[(.slice a1 a1l a1c), (.int .i64 a2), (.int .i64 a3), (.int .i64 a4), (.func (.func 52) #[] #[(.pointer (some a5))])] w fun e w' => ∃ v, e = .returned v ∧ Out w w' ∧ slices_swapRangeCmpFunc_int_tree_Order_c1.ret K v w'.heap := by
  rw [← slices_swapRangeCmpFunc_int_tree_Order_c1.eq] at hh
  exact fn_calls (args := [(.slice a1 a1l a1c), (.int .i64 a2), (.int .i64 a3), (.int .i64 a4), (.func (.func 52) #[] #[(.pointer (some a5))])]) (c := slices_swapRangeCmpFunc_int_tree_Order_c1.code) slices_swapRangeCmpFunc_int_tree_Order_c1.ok Try.func142 (by kernel_rfl) (by kernel_rfl) (by kernel_rfl) (by kernel_rfl) (loops_ok (l := [(slices_swapRangeCmpFunc_int_tree_Order_c1.c0, none, 0, slices_swapRangeCmpFunc_int_tree_Order_c1.keep0, slices_swapRangeCmpFunc_int_tree_Order_c1.outs0)]) (by kernel_rfl) ⟨slices_swapRangeCmpFunc_int_tree_Order_c1.L0, trivial⟩) hh w hw

/-! ### slices.rotateCmpFunc[int]: function 114 -/
def slices_rotateCmpFunc_int_tree_Order_c1.b0 (K2 : Int → Heap → Prop) (cont : (Option Addr) → Nat → Nat → Int → Addr → Int → Int → Heap → Prop) (c0_1001 : Option Addr) (c0_1002 : Nat) (c0_1003 : Nat) (c2_1004 : Int) (c4_1005 : Addr) (v10_1006 : Int) (v11_1007 : Int) (h1008 : Heap) : Prop :=
  (iteB (v10_1006 != v11_1007) (((iteB (decide (v10_1006 > v11_1007)) (callP0 (slices_swapRangeCmpFunc_int_tree_Order_c1 c0_1001 c0_1002 c0_1003 (IntKind.i64.wrap (c2_1004 - v10_1006)) c2_1004 v11_1007 c4_1005 h1008) fun h1009 => ((cont c0_1001 c0_1002 c0_1003 c2_1004 c4_1005 (IntKind.i64.wrap (v10_1006 - v11_1007)) v11_1007 h1009))) (bindV (IntKind.i64.wrap ((IntKind.i64.wrap (c2_1004 + v11_1007)) - v10_1006)) fun n1010 => callP0 (slices_swapRangeCmpFunc_int_tree_Order_c1 c0_1001 c0_1002 c0_1003 (IntKind.i64.wrap (c2_1004 - v10_1006)) n1010 v10_1006 c4_1005 h1008) fun h1011 => ((cont c0_1001 c0_1002 c0_1003 c2_1004 c4_1005 v10_1006 (IntKind.i64.wrap (v11_1007 - v10_1006)) h1011)))))) (K2 v10_1006 h1008))
def slices_rotateCmpFunc_int_tree_Order_c1.l0 (K2 : Int → Heap → Prop) : Nat → (Option Addr) → Nat → Nat → Int → Addr → Int → Int → Heap → Prop
  | 0, _, _, _, _, _, _, _, _ => False
  | m + 1, c0_1001, c0_1002, c0_1003, c2_1004, c4_1005, v10_1006, v11_1007, h => slices_rotateCmpFunc_int_tree_Order_c1.b0 K2 (slices_rotateCmpFunc_int_tree_Order_c1.l0 K2 m) c0_1001 c0_1002 c0_1003 c2_1004 c4_1005 v10_1006 v11_1007 h
def slices_rotateCmpFunc_int_tree_Order_c1 (a1 : Option Addr) (a1l : Nat) (a1c : Nat) (a2 : Int) (a3 : Int) (a4 : Int) (a5 : Addr) (h : Heap) (K : Heap → Prop) : Prop :=
  ((∃ m8, slices_rotateCmpFunc_int_tree_Order_c1.l0 (fun z6 h7 => ((callP0 (slices_swapRangeCmpFunc_int_tree_Order_c1 a1 a1l a1c (IntKind.i64.wrap (a3 - z6)) a3 z6 a5 h7) fun h9 => K h9))) m8 a1 a1l a1c a3 a5 (IntKind.i64.wrap (a3 - a2)) (IntKind.i64.wrap (a4 - a3)) h))
def slices_rotateCmpFunc_int_tree_Order_c1.ret (K : Heap → Prop) (v : Value) (h : Heap) : Prop := match v with
  | (.tuple ⟨[]⟩) => K h
  | _ => False
theorem slices_rotateCmpFunc_int_tree_Order_c1.ret_elim {K : Heap → Prop} {K' : Value → Heap → Prop} {v : Value} {h : Heap} (hk : ∀  h, K h → K' (.tuple #[]) h) (hh : slices_rotateCmpFunc_int_tree_Order_c1.ret K v h) : K' v h := by
  unfold slices_rotateCmpFunc_int_tree_Order_c1.ret at hh
  split at hh
  · exact hk _ hh
  · exact hh.elim
def slices_rotateCmpFunc_int_tree_Order_c1.call (f : FuncId) (vs : List Value) (h : Heap) (K : Value → Heap → Prop) : Prop := match f, vs with
  | 142, [(.slice a1 a1l a1c), (.int .i64 a2), (.int .i64 a3), (.int .i64 a4), (.func (.func 52) ⟨[]⟩ ⟨[(.pointer (some a5))]⟩)] => callP0 (slices_swapRangeCmpFunc_int_tree_Order_c1 a1 a1l a1c a2 a3 a4 a5 h) fun h' => K (.tuple #[]) h'
  | _, _ => False
def slices_rotateCmpFunc_int_tree_Order_c1.r0 (K : Nat → List Value → Heap → Prop) (m : Nat) (vs : List Value) (h : Heap) : Prop := match vs with
  | [(.slice c0_1001 c0_1002 c0_1003), (.int .i64 c2_1004), (.func (.func 52) ⟨[]⟩ ⟨[(.pointer (some c4_1005))]⟩), (.int .i64 v10_1006), (.int .i64 v11_1007)] => slices_rotateCmpFunc_int_tree_Order_c1.l0 (fun z10 h' => K 2 [(.slice c0_1001 c0_1002 c0_1003), (.int .i64 c2_1004), (.func (.func 52) #[] #[(.pointer (some c4_1005))]), (.int .i64 z10)] h') m c0_1001 c0_1002 c0_1003 c2_1004 c4_1005 v10_1006 v11_1007 h
  | _ => False
def slices_rotateCmpFunc_int_tree_Order_c1.loop (i : Nat) (vs : List Value) (h : Heap) (K : Nat → List Value → Heap → Prop) : Prop := match i with
  | 0 => ∃ m, slices_rotateCmpFunc_int_tree_Order_c1.r0 K m vs h
  | _ => False
noncomputable def slices_rotateCmpFunc_int_tree_Order_c1.ctx : Ctx := { P := Try.prog, call := slices_rotateCmpFunc_int_tree_Order_c1.call, qcall := fun _ _ _ _ => False, quiet := fun f => false, loop := slices_rotateCmpFunc_int_tree_Order_c1.loop }
theorem slices_rotateCmpFunc_int_tree_Order_c1.ok : slices_rotateCmpFunc_int_tree_Order_c1.ctx.OK where
  mixed := by kernel_rfl
  mono := by
    intro f args h K K' hh hk
    change slices_rotateCmpFunc_int_tree_Order_c1.call f args h K at hh
    change slices_rotateCmpFunc_int_tree_Order_c1.call f args h K'
    unfold slices_rotateCmpFunc_int_tree_Order_c1.call at hh ⊢
    split at hh
    · obtain ⟨R, h1, h2⟩ := hh
      exact ⟨R, h1, fun x hr => hk _ _ (h2 x hr)⟩
    · exact hh.elim
  call := by
    intro f args h K hh w hw
    change slices_rotateCmpFunc_int_tree_Order_c1.call f args h K at hh
    unfold slices_rotateCmpFunc_int_tree_Order_c1.call at hh
    split at hh
    · obtain ⟨R, h1, h2⟩ := hh
      obtain ⟨g1, g2⟩ := slices_swapRangeCmpFunc_int_tree_Order_c1.calls h1 w hw
      exact ⟨g1, g2.mono fun e w' ⟨v, he, ho, hr⟩ => ⟨v, he, ho, slices_swapRangeCmpFunc_int_tree_Order_c1.ret_elim h2 hr⟩⟩
    · exact hh.elim
  qmono := fun hh _ => hh.elim
  qval := fun hh => hh.elim
  qcall := fun hh => hh.elim
noncomputable def slices_rotateCmpFunc_int_tree_Order_c1.code : Code := (Try.f114.body).getD .skip
def slices_rotateCmpFunc_int_tree_Order_c1.ann : Ann := (.two .auto (.two .auto (.two (.two (.loop 0 [0, 2, 4, 10, 11] [(2, [0, 2, 4, 10])] .auto) .auto) .auto)))
noncomputable def slices_rotateCmpFunc_int_tree_Order_c1.c0 : Code := sub slices_rotateCmpFunc_int_tree_Order_c1.code [1, 1, 0, 0, 0]
def slices_rotateCmpFunc_int_tree_Order_c1.a0 : Ann := .auto
def slices_rotateCmpFunc_int_tree_Order_c1.keep0 : List Nat := [0, 2, 4, 10, 11]
def slices_rotateCmpFunc_int_tree_Order_c1.outs0 : List (Nat × List Nat) := [(2, [0, 2, 4, 10])]
set_option maxRecDepth 100000 in
theorem slices_rotateCmpFunc_int_tree_Order_c1.L0 : LoopOK slices_rotateCmpFunc_int_tree_Order_c1.ctx 58 slices_rotateCmpFunc_int_tree_Order_c1.c0 0 slices_rotateCmpFunc_int_tree_Order_c1.keep0 slices_rotateCmpFunc_int_tree_Order_c1.outs0 := by
  refine loop_ok (n := slices_rotateCmpFunc_int_tree_Order_c1.a0) slices_rotateCmpFunc_int_tree_Order_c1.ok (by kernel_rfl) (loops_ok (l := []) (by kernel_rfl) ?_) slices_rotateCmpFunc_int_tree_Order_c1.r0 ?_ ?_ (fun vs h K hh => hh)
  · exact trivial
  · intro K vs h hh
    unfold slices_rotateCmpFunc_int_tree_Order_c1.r0 at hh
    split at hh
    · exact hh
    · exact hh
  · intro K m vs h hh
    unfold slices_rotateCmpFunc_int_tree_Order_c1.r0 at hh
    split at hh
    · exact cast (by kernel_rfl) hh
    · exact hh.elim
set_option maxRecDepth 100000 in
theorem slices_rotateCmpFunc_int_tree_Order_c1.eq (a1 : Option Addr) (a1l : Nat) (a1c : Nat) (a2 : Int) (a3 : Int) (a4 : Int) (a5 : Addr) (h : Heap) (K : Heap → Prop) : evF slices_rotateCmpFunc_int_tree_Order_c1.ctx Try.f114 slices_rotateCmpFunc_int_tree_Order_c1.ann [(.slice a1 a1l a1c), (.int .i64 a2), (.int .i64 a3), (.int .i64 a4), (.func (.func 52) #[] #[(.pointer (some a5))])] h (slices_rotateCmpFunc_int_tree_Order_c1.ret K) = slices_rotateCmpFunc_int_tree_Order_c1 a1 a1l a1c a2 a3 a4 a5 h K := by kernel_rfl
set_option maxRecDepth 100000 in
theorem slices_rotateCmpFunc_int_tree_Order_c1.calls {a1 : Option Addr} {a1l : Nat} {a1c : Nat} {a2 : Int} {a3 : Int} {a4 : Int} {a5 : Addr} {h : Heap} {K : Heap → Prop} (hh : slices_rotateCmpFunc_int_tree_Order_c1 a1 a1l a1c a2 a3 a4 a5 h K) (w : World) (hw : w.heap = h) :
    (callFunc 114 #[(.slice a1 a1l a1c), (.int .i64 a2), (.int .i64 a3), (.int .i64 a4), (.func (.func 52) #[] #[(.pointer (some a5))])]).run Try.prog w = .ok (.enter 114 #[(.slice a1 a1l a1c), (.int .i64 a2), (.int .i64 a3), (.int .i64 a4), (.func (.func 52) #[] #[(.pointer (some a5))])]) w ∧ Calls Try.prog 114 #[(.slice a1 a1l a1c), (.int .i64 a2), (.int .i64 a3), (.int .i64 a4), (.func (.func 52) #[] #[(.pointer (some a5))])] w fun e w' => ∃ v, e = .returned v ∧ Out w w' ∧ slices_rotateCmpFunc_int_tree_Order_c1.ret K v w'.heap := by
  rw [← slices_rotateCmpFunc_int_tree_Order_c1.eq] at hh
  exact fn_calls (args := [(.slice a1 a1l a1c), (.int .i64 a2), (.int .i64 a3), (.int .i64 a4), (.func (.func 52) #[] #[(.pointer (some a5))])]) (c := slices_rotateCmpFunc_int_tree_Order_c1.code) slices_rotateCmpFunc_int_tree_Order_c1.ok Try.func114 (by kernel_rfl) (by kernel_rfl) (by kernel_rfl) (by kernel_rfl) (loops_ok (l := [(slices_rotateCmpFunc_int_tree_Order_c1.c0, none, 0, slices_rotateCmpFunc_int_tree_Order_c1.keep0, slices_rotateCmpFunc_int_tree_Order_c1.outs0)]) (by kernel_rfl) ⟨slices_rotateCmpFunc_int_tree_Order_c1.L0, trivial⟩) hh w hw

/-! ### slices.symMergeCmpFunc[int]: function 93, by its contract -/
def slices_symMergeCmpFunc_int_tree_Order_c1_rec.ret (K : Heap → Prop) (v : Value) (h : Heap) : Prop := match v with
  | (.tuple ⟨[]⟩) => K h
  | _ => False
theorem slices_symMergeCmpFunc_int_tree_Order_c1_rec.ret_elim {K : Heap → Prop} {K' : Value → Heap → Prop} {v : Value} {h : Heap} (hk : ∀  h, K h → K' (.tuple #[]) h) (hh : slices_symMergeCmpFunc_int_tree_Order_c1_rec.ret K v h) : K' v h := by
  unfold slices_symMergeCmpFunc_int_tree_Order_c1_rec.ret at hh
  split at hh
  · exact hk _ hh
  · exact hh.elim
def slices_symMergeCmpFunc_int_tree_Order_c1_rec (a1 : Option Addr) (a1l : Nat) (a1c : Nat) (a2 : Int) (a3 : Int) (a4 : Int) (a5 : Addr) (h : Heap) (K : Heap → Prop) : Prop := ∀ w : World, w.heap = h → (callFunc 93 #[(.slice a1 a1l a1c), (.int .i64 a2), (.int .i64 a3), (.int .i64 a4), (.func (.func 52) #[] #[(.pointer (some a5))])]).run Try.prog w = .ok (.enter 93 #[(.slice a1 a1l a1c), (.int .i64 a2), (.int .i64 a3), (.int .i64 a4), (.func (.func 52) #[] #[(.pointer (some a5))])]) w ∧ Calls Try.prog 93 #[(.slice a1 a1l a1c), (.int .i64 a2), (.int .i64 a3), (.int .i64 a4), (.func (.func 52) #[] #[(.pointer (some a5))])] w fun e w' => ∃ v, e = .returned v ∧ Out w w' ∧ slices_symMergeCmpFunc_int_tree_Order_c1_rec.ret K v w'.heap
theorem slices_symMergeCmpFunc_int_tree_Order_c1_rec.calls {a1 : Option Addr} {a1l : Nat} {a1c : Nat} {a2 : Int} {a3 : Int} {a4 : Int} {a5 : Addr} {h : Heap} {K : Heap → Prop} (hh : slices_symMergeCmpFunc_int_tree_Order_c1_rec a1 a1l a1c a2 a3 a4 a5 h K) (w : World) (hw : w.heap = h) : (callFunc 93 #[(.slice a1 a1l a1c), (.int .i64 a2), (.int .i64 a3), (.int .i64 a4), (.func (.func 52) #[] #[(.pointer (some a5))])]).run Try.prog w = .ok (.enter 93 #[(.slice a1 a1l a1c), (.int .i64 a2), (.int .i64 a3), (.int .i64 a4), (.func (.func 52) #[] #[(.pointer (some a5))])]) w ∧ Calls Try.prog 93 #[(.slice a1 a1l a1c), (.int .i64 a2), (.int .i64 a3), (.int .i64 a4), (.func (.func 52) #[] #[(.pointer (some a5))])] w fun e w' => ∃ v, e = .returned v ∧ Out w w' ∧ slices_symMergeCmpFunc_int_tree_Order_c1_rec.ret K v w'.heap := hh w hw

end Go.Proofs.Ytfidcekobjmamaa
