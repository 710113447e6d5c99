/- WRITTEN BY A PROGRAM OF THIS SESSION (gen.py): what each function asks of memory, and that the model's run comes to it. -/
import Derived.Test.YtfidcekobjmamaaProg
import Derived.Test.YtfidcekobjmamaaFw8
import Derived.Test.YtfidcekobjmamaaK0
namespace Go.Proofs.Ytfidcekobjmamaa
open Go.Hp
set_option linter.unusedVariables false
set_option linter.unusedSimpArgs false
set_option linter.unusedSectionVars false

/-! ### strait/straitref29.Same: function 12 -/
def straitref29_Same (a1 : Option Addr) (a1l : Nat) (a1c : Nat) (a2 : Option Addr) (a2l : Nat) (a2c : Nat) (a3 : Option Addr) (a3l : Nat) (a3c : Nat) (a4 : Option Addr) (a4l : Nat) (a4c : Nat) (h : Heap) (K : Bool → Heap → Prop) : Prop :=
  newP h (.cells #[(.slice a1 a1l a1c), (.slice a2 a2l a2c)] 25) fun a5 h6 => newP h6 (.cells #[(.slice a3 a3l a3c), (.slice a4 a4l a4c)] 25) fun a7 h8 => (∃ (x9 : Option Addr) (x9l : Nat) (x9c : Nat), cell h8 a5 = some (.slice x9 x9l x9c) ∧ ∃ (x10 : Option Addr) (x10l : Nat) (x10c : Nat), cell h8 a7 = some (.slice x10 x10l x10c) ∧ qcallP1 h8 (straitref09_Ints x9 x9l x9c x10 x10l x10c h8) fun x11 => iteB x11 (∃ (x12 : Option Addr) (x12l : Nat) (x12c : Nat), cell h8 (a5.add 1) = some (.slice x12 x12l x12c) ∧ ∃ (x13 : Option Addr) (x13l : Nat) (x13c : Nat), cell h8 (a7.add 1) = some (.slice x13 x13l x13c) ∧ qcallP1 h8 (straitref04_Same x12 x12l x12c x13 x13l x13c h8) fun x14 => K x14 h8) (K false h8))
def straitref29_Same.ret (K : Bool → Heap → Prop) (v : Value) (h : Heap) : Prop := match v with
  | (.bool r16) => K r16 h
  | _ => False
theorem straitref29_Same.ret_elim {K : Bool → Heap → Prop} {K' : Value → Heap → Prop} {v : Value} {h : Heap} (hk : ∀ r16 h, K r16 h → K' (.bool r16) h) (hh : straitref29_Same.ret K v h) : K' v h := by
  unfold straitref29_Same.ret at hh
  split at hh
  · exact hk _ _ hh
  · exact hh.elim
def straitref29_Same.qcall (f : FuncId) (vs : List Value) (h : Heap) (K : Value → Prop) : Prop := match f, vs with
  | 18, [(.slice a1 a1l a1c), (.slice a2 a2l a2c)] => qcallP1 h (straitref09_Ints a1 a1l a1c a2 a2l a2c h) fun r7 => K (.bool r7)
  | 40, [(.slice a1 a1l a1c), (.slice a2 a2l a2c)] => qcallP1 h (straitref04_Same a1 a1l a1c a2 a2l a2c h) fun r7 => K (.bool r7)
  | _, _ => False
noncomputable def straitref29_Same.ctx : Ctx := { P := Try.prog, call := fun _ _ _ _ => False, qcall := straitref29_Same.qcall, quiet := fun f => Nat.beq f 18 || Nat.beq f 40 || Nat.beq f 1000069 || Nat.beq f 1000099, loop := fun _ _ _ _ => False }
theorem straitref29_Same.ok [DKc] : straitref29_Same.ctx.OK where
  mixed := by kernel_rfl
  mono := fun hh _ => hh.elim
  call := fun hh => hh.elim
  qmono := by
    intro f args h K K' hh hk
    change straitref29_Same.qcall f args h K at hh
    change straitref29_Same.qcall f args h K'
    unfold straitref29_Same.qcall at hh ⊢
    split at hh
    · obtain ⟨x0, h1, h2⟩ := hh
      exact ⟨x0, h1, hk _ h2⟩
    · obtain ⟨x0, h1, h2⟩ := hh
      exact ⟨x0, h1, hk _ h2⟩
    · exact hh.elim
  qval := by
    intro f args h K hh
    change straitref29_Same.qcall f args h K at hh
    suffices H : ∃ v, K v ∧ straitref29_Same.qcall f args h (· = v) from H
    unfold straitref29_Same.qcall at hh ⊢
    split at hh
    · obtain ⟨x0, h1, h2⟩ := hh
      exact ⟨_, h2, x0, h1, rfl⟩
    · obtain ⟨x0, h1, h2⟩ := hh
      exact ⟨_, h2, x0, h1, rfl⟩
    · exact hh.elim
  qcall := by
    intro f args h v hh w hw
    change straitref29_Same.qcall f args h (· = v) at hh
    unfold straitref29_Same.qcall at hh
    split at hh
    · obtain ⟨x0, h1, h2⟩ := hh
      obtain ⟨g1, g2⟩ := straitref09_Ints.calls h1 w hw
      refine .inl ⟨g1, g2.mono fun e w' ⟨u, he, ho, hr⟩ => ?_⟩
      have hq := straitref09_Ints.ret_elim (K' := fun u h' => u = v ∧ h' = h) (fun _ h' hr => by obtain ⟨rfl, rfl⟩ := hr; exact ⟨h2, rfl⟩) hr
      exact ⟨hq.1 ▸ he, ho, hq.2⟩
    · obtain ⟨x0, h1, h2⟩ := hh
      obtain ⟨g1, g2⟩ := straitref04_Same.calls h1 w hw
      refine .inl ⟨g1, g2.mono fun e w' ⟨u, he, ho, hr⟩ => ?_⟩
      have hq := straitref04_Same.ret_elim (K' := fun u h' => u = v ∧ h' = h) (fun _ h' hr => by obtain ⟨rfl, rfl⟩ := hr; exact ⟨h2, rfl⟩) hr
      exact ⟨hq.1 ▸ he, ho, hq.2⟩
    · exact hh.elim
noncomputable def straitref29_Same.code : Code := (Try.f12.body).getD .skip
def straitref29_Same.ann : Ann := .auto
set_option maxRecDepth 100000 in
theorem straitref29_Same.eq (a1 : Option Addr) (a1l : Nat) (a1c : Nat) (a2 : Option Addr) (a2l : Nat) (a2c : Nat) (a3 : Option Addr) (a3l : Nat) (a3c : Nat) (a4 : Option Addr) (a4l : Nat) (a4c : Nat) (h : Heap) (K : Bool → Heap → Prop) : evF straitref29_Same.ctx Try.f12 straitref29_Same.ann [(.agg #[(.slice a1 a1l a1c), (.slice a2 a2l a2c)]), (.agg #[(.slice a3 a3l a3c), (.slice a4 a4l a4c)])] h (straitref29_Same.ret K) = straitref29_Same a1 a1l a1c a2 a2l a2c a3 a3l a3c a4 a4l a4c h K := by kernel_rfl
set_option maxRecDepth 100000 in
theorem straitref29_Same.calls [DKc] {a1 : Option Addr} {a1l : Nat} {a1c : Nat} {a2 : Option Addr} {a2l : Nat} {a2c : Nat} {a3 : Option Addr} {a3l : Nat} {a3c : Nat} {a4 : Option Addr} {a4l : Nat} {a4c : Nat} {h : Heap} {K : Bool → Heap → Prop} (hh : straitref29_Same a1 a1l a1c a2 a2l a2c a3 a3l a3c a4 a4l a4c h K) (w : World) (hw : w.heap = h) :
    (callFunc 12 #[(.agg #[(.slice a1 a1l a1c), (.slice a2 a2l a2c)]), (.agg #[(.slice a3 a3l a3c), (.slice a4 a4l a4c)])]).run Try.prog w = .ok (.enter 12 #[(.agg #[(.slice a1 a1l a1c), (.slice a2 a2l a2c)]), (.agg #[(.slice a3 a3l a3c), (.slice a4 a4l a4c)])]) w ∧ Calls Try.prog 12 #[(.agg #[(.slice a1 a1l a1c), (.slice a2 a2l a2c)]), (.agg #[(.slice a3 a3l a3c), (.slice a4 a4l a4c)])] w fun e w' => ∃ v, e = .returned v ∧ Out w w' ∧ straitref29_Same.ret K v w'.heap := by
  rw [← straitref29_Same.eq] at hh
  exact fn_calls (args := [(.agg #[(.slice a1 a1l a1c), (.slice a2 a2l a2c)]), (.agg #[(.slice a3 a3l a3c), (.slice a4 a4l a4c)])]) (c := straitref29_Same.code) straitref29_Same.ok Try.func12 (by kernel_rfl) (by kernel_rfl) (by kernel_rfl) (by kernel_rfl) (loops_ok (l := []) (by kernel_rfl) trivial) hh w hw

/-! ### strait/straitlaw35.MatrixTrees: function 8 -/
section
variable [DKc]
def straitlaw35_MatrixTrees (a1 : Option Addr) (a1l : Nat) (a1c : Nat) (a2 : Option Addr) (a2l : Nat) (a2c : Nat) (h : Heap) (K : Bool → Heap → Prop) : Prop :=
  (let j59 : Prop := (qcallP1 h (straitref35_Ultra a1 a1l a1c h) fun x12 => (callP7 (matrix_Tree a1 a1l a1c h) fun x13 x13l x13c x14 x14l x14c x15 h16 => newP h16 (.cells #[(.slice none 0 0), (.slice none 0 0)] 25) fun a17 h18 => stC h18 a17 (.slice x13 x13l x13c) fun h19 => stC h19 (a17.add 1) (.slice x14 x14l x14c) fun h20 => (let j58 := (fun (h32 : Heap) => (iteB (!x12) (iteB (x15 == (1 : Int)) (∃ (x33 : Option Addr) (x33l : Nat) (x33c : Nat), cell h32 a17 = some (.slice x33 x33l x33c) ∧ iteB ((x33l : Int) == (0 : Int)) (∃ (x34 : Option Addr) (x34l : Nat) (x34c : Nat), cell h32 (a17.add 1) = some (.slice x34 x34l x34c) ∧ iteB ((x34l : Int) == (0 : Int)) (callP1 (straitlaw35_awake h32) fun x35 h36 => K x35 h36) (K false h32)) (K false h32)) (K false h32)) ((∃ (x39 : Option Addr) (x39l : Nat) (x39c : Nat), cell h32 a17 = some (.slice x39 x39l x39c) ∧ ∃ (x40 : Option Addr) (x40l : Nat) (x40c : Nat), cell h32 (a17.add 1) = some (.slice x40 x40l x40c) ∧ callP4 (matrix_Of x39 x39l x39c x40 x40l x40c h32) fun x41 x41l x41c x42 h43 => (iteB (x15 == (0 : Int)) (∃ (x44 : Option Addr) (x44l : Nat) (x44c : Nat), cell h43 a17 = some (.slice x44 x44l x44c) ∧ ∃ (x45 : Option Addr) (x45l : Nat) (x45c : Nat), cell h43 (a17.add 1) = some (.slice x45 x45l x45c) ∧ callP6 (straitref35_Tree a1 a1l a1c h43) fun x46 x46l x46c x47 x47l x47c h48 => (∃ (x49 : Option Addr) (x49l : Nat) (x49c : Nat), cell h48 a17 = some (.slice x49 x49l x49c) ∧ ∃ (x50 : Option Addr) (x50l : Nat) (x50c : Nat), cell h48 (a17.add 1) = some (.slice x50 x50l x50c) ∧ ((.agg #[(.slice x49 x49l x49c), (.slice x50 x50l x50c)]) : Value) = (.agg #[(.slice x44 x44l x44c), (.slice x45 x45l x45c)])) ∧ callP1 (straitref29_Same x44 x44l x44c x45 x45l x45c x46 x46l x46c x47 x47l x47c h48) fun x51 h52 => iteB x51 (iteB (x42 == (0 : Int)) (qcallP1 h52 (straitref35_Same x41 x41l x41c a1 a1l a1c h52) fun x53 => iteB x53 (callP1 (straitlaw35_awake h52) fun x54 h55 => K x54 h55) (K false h52)) (K false h52)) (K false h52)) (True ∧ K false h43))))));
  qcallP1 h20 (matrix_Ultra a1 a1l a1c h20) fun x21 => iteB (!(x21 == x12)) (K false h20) (callP1 (matrix_Same a1 a1l a1c a2 a2l a2c h20) fun x22 h23 => qcallP1 h23 (straitref35_Same a1 a1l a1c a2 a2l a2c h23) fun x24 => iteB (!(x22 == x24)) (K false h23) (callP3 (matrix_Values a1 a1l a1c h23) fun x25 x25l x25c h26 => callP3 (straitref35_Values a1 a1l a1c h26) fun x27 x27l x27c h28 => qcallP1 h28 (straitref04_Same x25 x25l x25c x27 x27l x27c h28) fun x29 => (iteB (!x29) (K false h28) ((j58 h28))))))));
  qcallP1 h (straitlaw35_wide a1 a1l a1c h) fun x3 => iteB x3 ((callP1 (straitlaw35_awake h) fun x8 h9 => K x8 h9)) (qcallP1 h (straitlaw35_wide a2 a2l a2c h) fun x4 => (iteB x4 (callP1 (straitlaw35_awake h) fun x10 h11 => K x10 h11) ((j59)))))
def straitlaw35_MatrixTrees.ret (K : Bool → Heap → Prop) (v : Value) (h : Heap) : Prop := match v with
  | (.bool r60) => K r60 h
  | _ => False
theorem straitlaw35_MatrixTrees.ret_elim {K : Bool → Heap → Prop} {K' : Value → Heap → Prop} {v : Value} {h : Heap} (hk : ∀ r60 h, K r60 h → K' (.bool r60) h) (hh : straitlaw35_MatrixTrees.ret K v h) : K' v h := by
  unfold straitlaw35_MatrixTrees.ret at hh
  split at hh
  · exact hk _ _ hh
  · exact hh.elim
def straitlaw35_MatrixTrees.call (f : FuncId) (vs : List Value) (h : Heap) (K : Value → Heap → Prop) : Prop := match f, vs with
  | 12, [(.agg ⟨[(.slice a1 a1l a1c), (.slice a2 a2l a2c)]⟩), (.agg ⟨[(.slice a3 a3l a3c), (.slice a4 a4l a4c)]⟩)] => callP1 (straitref29_Same a1 a1l a1c a2 a2l a2c a3 a3l a3c a4 a4l a4c h) fun r16 h' => K (.bool r16) h'
  | 30, [] => callP1 (straitlaw35_awake h) fun r21 h' => K (.bool r21) h'
  | 31, [(.agg ⟨[(.slice a1 a1l a1c), (.slice a2 a2l a2c)]⟩)] => callP4 (matrix_Of a1 a1l a1c a2 a2l a2c h) fun r18 r18l r18c r19 h' => K (.tuple #[(.slice r18 r18l r18c), (.int .i64 r19)]) h'
  | 33, [(.slice a1 a1l a1c), (.slice a2 a2l a2c)] => callP1 (matrix_Same a1 a1l a1c a2 a2l a2c h) fun r5 h' => K (.bool r5) h'
  | 36, [(.slice a1 a1l a1c)] => callP3 (matrix_Values a1 a1l a1c h) fun r10 r10l r10c h' => K (.slice r10 r10l r10c) h'
  | 39, [(.slice a1 a1l a1c)] => callP7 (matrix_Tree a1 a1l a1c h) fun r70 r70l r70c r71 r71l r71c r72 h' => K (.tuple #[(.agg #[(.slice r70 r70l r70c), (.slice r71 r71l r71c)]), (.int .i64 r72)]) h'
  | 41, [(.slice a1 a1l a1c)] => callP3 (straitref35_Values a1 a1l a1c h) fun r7 r7l r7c h' => K (.slice r7 r7l r7c) h'
  | 42, [(.slice a1 a1l a1c)] => callP6 (straitref35_Tree a1 a1l a1c h) fun r68 r68l r68c r69 r69l r69c h' => K (.agg #[(.slice r68 r68l r68c), (.slice r69 r69l r69c)]) h'
  | _, _ => False
def straitlaw35_MatrixTrees.qcall (f : FuncId) (vs : List Value) (h : Heap) (K : Value → Prop) : Prop := match f, vs with
  | 34, [(.slice a1 a1l a1c), (.slice a2 a2l a2c)] => qcallP1 h (straitref35_Same a1 a1l a1c a2 a2l a2c h) fun r7 => K (.bool r7)
  | 35, [(.slice a1 a1l a1c)] => qcallP1 h (matrix_Ultra a1 a1l a1c h) fun r16 => K (.bool r16)
  | 37, [(.slice a1 a1l a1c)] => qcallP1 h (straitlaw35_wide a1 a1l a1c h) fun r6 => K (.bool r6)
  | 38, [(.slice a1 a1l a1c)] => qcallP1 h (straitref35_Ultra a1 a1l a1c h) fun r10 => K (.bool r10)
  | 40, [(.slice a1 a1l a1c), (.slice a2 a2l a2c)] => qcallP1 h (straitref04_Same a1 a1l a1c a2 a2l a2c h) fun r7 => K (.bool r7)
  | _, _ => False
noncomputable def straitlaw35_MatrixTrees.ctx : Ctx := { P := Try.prog, call := straitlaw35_MatrixTrees.call, qcall := straitlaw35_MatrixTrees.qcall, quiet := fun f => Nat.beq f 34 || Nat.beq f 35 || Nat.beq f 37 || Nat.beq f 38 || Nat.beq f 40 || Nat.beq f 1000069 || Nat.beq f 1000099, loop := fun _ _ _ _ => False }
theorem straitlaw35_MatrixTrees.ok : straitlaw35_MatrixTrees.ctx.OK where
  mixed := by kernel_rfl
  mono := by
    intro f args h K K' hh hk
    change straitlaw35_MatrixTrees.call f args h K at hh
    change straitlaw35_MatrixTrees.call f args h K'
    unfold straitlaw35_MatrixTrees.call at hh ⊢
    split at hh
    · obtain ⟨R, h1, h2⟩ := hh
      exact ⟨R, h1, fun _ x hr => hk _ _ (h2 _ x hr)⟩
    · obtain ⟨R, h1, h2⟩ := hh
      exact ⟨R, h1, fun _ x hr => hk _ _ (h2 _ x hr)⟩
    · obtain ⟨R, h1, h2⟩ := hh
      exact ⟨R, h1, fun _ _ _ _ x hr => hk _ _ (h2 _ _ _ _ x hr)⟩
    · obtain ⟨R, h1, h2⟩ := hh
      exact ⟨R, h1, fun _ x hr => hk _ _ (h2 _ x hr)⟩
    · obtain ⟨R, h1, h2⟩ := hh
      exact ⟨R, h1, fun _ _ _ x hr => hk _ _ (h2 _ _ _ x hr)⟩
    · obtain ⟨R, h1, h2⟩ := hh
      exact ⟨R, h1, fun _ _ _ _ _ _ _ x hr => hk _ _ (h2 _ _ _ _ _ _ _ x hr)⟩
    · obtain ⟨R, h1, h2⟩ := hh
      exact ⟨R, h1, fun _ _ _ x hr => hk _ _ (h2 _ _ _ x hr)⟩
    · obtain ⟨R, h1, h2⟩ := hh
      exact ⟨R, h1, fun _ _ _ _ _ _ x hr => hk _ _ (h2 _ _ _ _ _ _ x hr)⟩
    · exact hh.elim
  call := by
    intro f args h K hh w hw
    change straitlaw35_MatrixTrees.call f args h K at hh
    unfold straitlaw35_MatrixTrees.call at hh
    split at hh
    · obtain ⟨R, h1, h2⟩ := hh
      obtain ⟨g1, g2⟩ := straitref29_Same.calls h1 w hw
      exact ⟨g1, g2.mono fun e w' ⟨v, he, ho, hr⟩ => ⟨v, he, ho, straitref29_Same.ret_elim h2 hr⟩⟩
    · obtain ⟨R, h1, h2⟩ := hh
      obtain ⟨g1, g2⟩ := straitlaw35_awake.calls h1 w hw
      exact ⟨g1, g2.mono fun e w' ⟨v, he, ho, hr⟩ => ⟨v, he, ho, straitlaw35_awake.ret_elim h2 hr⟩⟩
    · obtain ⟨R, h1, h2⟩ := hh
      obtain ⟨g1, g2⟩ := matrix_Of.calls h1 w hw
      exact ⟨g1, g2.mono fun e w' ⟨v, he, ho, hr⟩ => ⟨v, he, ho, matrix_Of.ret_elim h2 hr⟩⟩
    · obtain ⟨R, h1, h2⟩ := hh
      obtain ⟨g1, g2⟩ := matrix_Same.calls h1 w hw
      exact ⟨g1, g2.mono fun e w' ⟨v, he, ho, hr⟩ => ⟨v, he, ho, matrix_Same.ret_elim h2 hr⟩⟩
    · obtain ⟨R, h1, h2⟩ := hh
      obtain ⟨g1, g2⟩ := matrix_Values.calls h1 w hw
      exact ⟨g1, g2.mono fun e w' ⟨v, he, ho, hr⟩ => ⟨v, he, ho, matrix_Values.ret_elim h2 hr⟩⟩
    · obtain ⟨R, h1, h2⟩ := hh
      obtain ⟨g1, g2⟩ := matrix_Tree.calls h1 w hw
      exact ⟨g1, g2.mono fun e w' ⟨v, he, ho, hr⟩ => ⟨v, he, ho, matrix_Tree.ret_elim h2 hr⟩⟩
    · obtain ⟨R, h1, h2⟩ := hh
      obtain ⟨g1, g2⟩ := straitref35_Values.calls h1 w hw
      exact ⟨g1, g2.mono fun e w' ⟨v, he, ho, hr⟩ => ⟨v, he, ho, straitref35_Values.ret_elim h2 hr⟩⟩
    · obtain ⟨R, h1, h2⟩ := hh
      obtain ⟨g1, g2⟩ := straitref35_Tree.calls h1 w hw
      exact ⟨g1, g2.mono fun e w' ⟨v, he, ho, hr⟩ => ⟨v, he, ho, straitref35_Tree.ret_elim h2 hr⟩⟩
    · exact hh.elim
  qmono := by
    intro f args h K K' hh hk
    change straitlaw35_MatrixTrees.qcall f args h K at hh
    change straitlaw35_MatrixTrees.qcall f args h K'
    unfold straitlaw35_MatrixTrees.qcall at hh ⊢
    split at hh
    · obtain ⟨x0, h1, h2⟩ := hh
      exact ⟨x0, h1, hk _ h2⟩
    · obtain ⟨x0, h1, h2⟩ := hh
      exact ⟨x0, h1, hk _ h2⟩
    · obtain ⟨x0, h1, h2⟩ := hh
      exact ⟨x0, h1, hk _ h2⟩
    · obtain ⟨x0, h1, h2⟩ := hh
      exact ⟨x0, h1, hk _ h2⟩
    · obtain ⟨x0, h1, h2⟩ := hh
      exact ⟨x0, h1, hk _ h2⟩
    · exact hh.elim
  qval := by
    intro f args h K hh
    change straitlaw35_MatrixTrees.qcall f args h K at hh
    suffices H : ∃ v, K v ∧ straitlaw35_MatrixTrees.qcall f args h (· = v) from H
    unfold straitlaw35_MatrixTrees.qcall at hh ⊢
    split at hh
    · obtain ⟨x0, h1, h2⟩ := hh
      exact ⟨_, h2, x0, h1, rfl⟩
    · obtain ⟨x0, h1, h2⟩ := hh
      exact ⟨_, h2, x0, h1, rfl⟩
    · obtain ⟨x0, h1, h2⟩ := hh
      exact ⟨_, h2, x0, h1, rfl⟩
    · obtain ⟨x0, h1, h2⟩ := hh
      exact ⟨_, h2, x0, h1, rfl⟩
    · obtain ⟨x0, h1, h2⟩ := hh
      exact ⟨_, h2, x0, h1, rfl⟩
    · exact hh.elim
  qcall := by
    intro f args h v hh w hw
    change straitlaw35_MatrixTrees.qcall f args h (· = v) at hh
    unfold straitlaw35_MatrixTrees.qcall at hh
    split at hh
    · obtain ⟨x0, h1, h2⟩ := hh
      obtain ⟨g1, g2⟩ := straitref35_Same.calls h1 w hw
      refine .inl ⟨g1, g2.mono fun e w' ⟨u, he, ho, hr⟩ => ?_⟩
      have hq := straitref35_Same.ret_elim (K' := fun u h' => u = v ∧ h' = h) (fun _ h' hr => by obtain ⟨rfl, rfl⟩ := hr; exact ⟨h2, rfl⟩) hr
      exact ⟨hq.1 ▸ he, ho, hq.2⟩
    · obtain ⟨x0, h1, h2⟩ := hh
      obtain ⟨g1, g2⟩ := matrix_Ultra.calls h1 w hw
      refine .inl ⟨g1, g2.mono fun e w' ⟨u, he, ho, hr⟩ => ?_⟩
      have hq := matrix_Ultra.ret_elim (K' := fun u h' => u = v ∧ h' = h) (fun _ h' hr => by obtain ⟨rfl, rfl⟩ := hr; exact ⟨h2, rfl⟩) hr
      exact ⟨hq.1 ▸ he, ho, hq.2⟩
    · obtain ⟨x0, h1, h2⟩ := hh
      obtain ⟨g1, g2⟩ := straitlaw35_wide.calls h1 w hw
      refine .inl ⟨g1, g2.mono fun e w' ⟨u, he, ho, hr⟩ => ?_⟩
      have hq := straitlaw35_wide.ret_elim (K' := fun u h' => u = v ∧ h' = h) (fun _ h' hr => by obtain ⟨rfl, rfl⟩ := hr; exact ⟨h2, rfl⟩) hr
      exact ⟨hq.1 ▸ he, ho, hq.2⟩
    · obtain ⟨x0, h1, h2⟩ := hh
      obtain ⟨g1, g2⟩ := straitref35_Ultra.calls h1 w hw
      refine .inl ⟨g1, g2.mono fun e w' ⟨u, he, ho, hr⟩ => ?_⟩
      have hq := straitref35_Ultra.ret_elim (K' := fun u h' => u = v ∧ h' = h) (fun _ h' hr => by obtain ⟨rfl, rfl⟩ := hr; exact ⟨h2, rfl⟩) hr
      exact ⟨hq.1 ▸ he, ho, hq.2⟩
    · obtain ⟨x0, h1, h2⟩ := hh
      obtain ⟨g1, g2⟩ := straitref04_Same.calls h1 w hw
      refine .inl ⟨g1, g2.mono fun e w' ⟨u, he, ho, hr⟩ => ?_⟩
      have hq := straitref04_Same.ret_elim (K' := fun u h' => u = v ∧ h' = h) (fun _ h' hr => by obtain ⟨rfl, rfl⟩ := hr; exact ⟨h2, rfl⟩) hr
      exact ⟨hq.1 ▸ he, ho, hq.2⟩
    · exact hh.elim
noncomputable def straitlaw35_MatrixTrees.code : Code := (Try.f8.body).getD .skip
def straitlaw35_MatrixTrees.ann : Ann := (.two .auto (.two .auto (.two .auto (.two .auto (.two .auto (.two .auto (.two .auto (.two (.reg [0, 1, 3, 7, 7, 23, 63, 127, 255, 511, 1023, 2047, 4095, 8191, 8191, 32767, 65535, 131071, 262143, 524287, 1048575] (.take 0 (.take 1 (.take 2 (.take 4 (.early 3 (.alt 5 (.alt 6 (.take 7 (.take 8 (.take 9 (.take 10 (.take 11 (.take 12 (.take 13 (.take 14 (.take 15 (.take 16 (.take 17 (.alt 18 (.take 19 (.take 20 .done)) .noalt)))))))))))) .noalt) .noalt))))))) .auto))))))))
set_option maxRecDepth 100000 in
theorem straitlaw35_MatrixTrees.eq (a1 : Option Addr) (a1l : Nat) (a1c : Nat) (a2 : Option Addr) (a2l : Nat) (a2c : Nat) (h : Heap) (K : Bool → Heap → Prop) : evF straitlaw35_MatrixTrees.ctx Try.f8 straitlaw35_MatrixTrees.ann [(.slice a1 a1l a1c), (.slice a2 a2l a2c)] h (straitlaw35_MatrixTrees.ret K) = straitlaw35_MatrixTrees a1 a1l a1c a2 a2l a2c h K := by kernel_rfl
set_option maxRecDepth 100000 in
theorem straitlaw35_MatrixTrees.calls {a1 : Option Addr} {a1l : Nat} {a1c : Nat} {a2 : Option Addr} {a2l : Nat} {a2c : Nat} {h : Heap} {K : Bool → Heap → Prop} (hh : straitlaw35_MatrixTrees a1 a1l a1c a2 a2l a2c h K) (w : World) (hw : w.heap = h) :
    (callFunc 8 #[(.slice a1 a1l a1c), (.slice a2 a2l a2c)]).run Try.prog w = .ok (.enter 8 #[(.slice a1 a1l a1c), (.slice a2 a2l a2c)]) w ∧ Calls Try.prog 8 #[(.slice a1 a1l a1c), (.slice a2 a2l a2c)] w fun e w' => ∃ v, e = .returned v ∧ Out w w' ∧ straitlaw35_MatrixTrees.ret K v w'.heap := by
  rw [← straitlaw35_MatrixTrees.eq] at hh
  exact fn_calls (args := [(.slice a1 a1l a1c), (.slice a2 a2l a2c)]) (c := straitlaw35_MatrixTrees.code) straitlaw35_MatrixTrees.ok Try.func8 (by kernel_rfl) (by kernel_rfl) (by kernel_rfl) (by kernel_rfl) (loops_ok (l := []) (by kernel_rfl) trivial) hh w hw
end

end Go.Proofs.Ytfidcekobjmamaa
