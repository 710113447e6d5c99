/- WRITTEN BY A PROGRAM OF THIS SESSION (gen.py): what each function asks of memory, and that the model's run comes to it. -/
import Derived.Test.YtbhndlpjfncliaaProg
import Derived.Test.YtbhndlpjfncliaaFw8
import Derived.Test.YtbhndlpjfncliaaG2
namespace Go.Proofs.Ytbhndlpjfncliaa
open Go.Hp
set_option linter.unusedVariables false
set_option linter.unusedSimpArgs false

/-! ### strait/straitref21.Normal: function 22 -/
def straitref21_Normal (a1 : Int) (a2 : Option Addr) (a2l : Nat) (a2c : Nat) (h : Heap) (K : (Option Addr) → Nat → Nat → Heap → Prop) : Prop :=
  (qcallP1 h (straitref21_In a2 a2l a2c 0 h) fun x3 => (iteB x3 (callP3 (straitref21_Other a1 a2 a2l a2c h) fun x4 x4l x4c h5 => K x4 x4l x4c h5) (K a2 a2l a2c h)))
def straitref21_Normal.ret (K : (Option Addr) → Nat → Nat → Heap → Prop) (v : Value) (h : Heap) : Prop := match v with
  | (.slice r6 r6l r6c) => K r6 r6l r6c h
  | _ => False
theorem straitref21_Normal.ret_elim {K : (Option Addr) → Nat → Nat → Heap → Prop} {K' : Value → Heap → Prop} {v : Value} {h : Heap} (hk : ∀ r6 r6l r6c h, K r6 r6l r6c h → K' (.slice r6 r6l r6c) h) (hh : straitref21_Normal.ret K v h) : K' v h := by
  unfold straitref21_Normal.ret at hh
  split at hh
  · exact hk _ _ _ _ hh
  · exact hh.elim
def straitref21_Normal.call (f : FuncId) (vs : List Value) (h : Heap) (K : Value → Heap → Prop) : Prop := match f, vs with
  | 11, [(.int .i64 a1), (.slice a2 a2l a2c)] => callP3 (straitref21_Other a1 a2 a2l a2c h) fun r6 r6l r6c h' => K (.slice r6 r6l r6c) h'
  | _, _ => False
def straitref21_Normal.qcall (f : FuncId) (vs : List Value) (h : Heap) (K : Value → Prop) : Prop := match f, vs with
  | 26, [(.slice a1 a1l a1c), (.int .i64 a2)] => qcallP1 h (straitref21_In a1 a1l a1c a2 h) fun r7 => K (.bool r7)
  | _, _ => False
noncomputable def straitref21_Normal.ctx : Ctx := { P := Try.prog, call := straitref21_Normal.call, qcall := straitref21_Normal.qcall, quiet := fun f => Nat.beq f 26 || Nat.beq f 1000088, loop := fun _ _ _ _ => False }
theorem straitref21_Normal.ok : straitref21_Normal.ctx.OK where
  mixed := by kernel_rfl
  mono := by
    intro f args h K K' hh hk
    change straitref21_Normal.call f args h K at hh
    change straitref21_Normal.call f args h K'
    unfold straitref21_Normal.call at hh ⊢
    split at hh
    · obtain ⟨R, h1, h2⟩ := hh
      exact ⟨R, h1, fun _ _ _ x hr => hk _ _ (h2 _ _ _ x hr)⟩
    · exact hh.elim
  call := by
    intro f args h K hh w hw
    change straitref21_Normal.call f args h K at hh
    unfold straitref21_Normal.call at hh
    split at hh
    · obtain ⟨R, h1, h2⟩ := hh
      obtain ⟨g1, g2⟩ := straitref21_Other.calls h1 w hw
      exact ⟨g1, g2.mono fun e w' ⟨v, he, ho, hr⟩ => ⟨v, he, ho, straitref21_Other.ret_elim h2 hr⟩⟩
    · exact hh.elim
  qmono := by
    intro f args h K K' hh hk
    change straitref21_Normal.qcall f args h K at hh
    change straitref21_Normal.qcall f args h K'
    unfold straitref21_Normal.qcall at hh ⊢
    split at hh
    · obtain ⟨x0, h1, h2⟩ := hh
      exact ⟨x0, h1, hk _ h2⟩
    · exact hh.elim
  qval := by
    intro f args h K hh
    change straitref21_Normal.qcall f args h K at hh
    suffices H : ∃ v, K v ∧ straitref21_Normal.qcall f args h (· = v) from H
    unfold straitref21_Normal.qcall at hh ⊢
    split at hh
    · obtain ⟨x0, h1, h2⟩ := hh
      exact ⟨_, h2, x0, h1, rfl⟩
    · exact hh.elim
  qcall := by
    intro f args h v hh w hw
    change straitref21_Normal.qcall f args h (· = v) at hh
    unfold straitref21_Normal.qcall at hh
    split at hh
    · obtain ⟨x0, h1, h2⟩ := hh
      obtain ⟨g1, g2⟩ := straitref21_In.calls h1 w hw
      refine .inl ⟨g1, g2.mono fun e w' ⟨u, he, ho, hr⟩ => ?_⟩
      have hq := straitref21_In.ret_elim (K' := fun u h' => u = v ∧ h' = h) (fun _ h' hr => by obtain ⟨rfl, rfl⟩ := hr; exact ⟨h2, rfl⟩) hr
      exact ⟨hq.1 ▸ he, ho, hq.2⟩
    · exact hh.elim
noncomputable def straitref21_Normal.code : Code := (Try.f22.body).getD .skip
def straitref21_Normal.ann : Ann := .auto
set_option maxRecDepth 100000 in
theorem straitref21_Normal.eq (a1 : Int) (a2 : Option Addr) (a2l : Nat) (a2c : Nat) (h : Heap) (K : (Option Addr) → Nat → Nat → Heap → Prop) : evF straitref21_Normal.ctx Try.f22 straitref21_Normal.ann [(.int .i64 a1), (.slice a2 a2l a2c)] h (straitref21_Normal.ret K) = straitref21_Normal a1 a2 a2l a2c h K := by kernel_rfl
set_option maxRecDepth 100000 in
theorem straitref21_Normal.calls {a1 : Int} {a2 : Option Addr} {a2l : Nat} {a2c : Nat} {h : Heap} {K : (Option Addr) → Nat → Nat → Heap → Prop} (hh : straitref21_Normal a1 a2 a2l a2c h K) (w : World) (hw : w.heap = h) :
    (callFunc 22 #[(.int .i64 a1), (.slice a2 a2l a2c)]).run Try.prog w = .ok (.enter 22 #[(.int .i64 a1), (.slice a2 a2l a2c)]) w ∧ Calls Try.prog 22 #[(.int .i64 a1), (.slice a2 a2l a2c)] w fun e w' => ∃ v, e = .returned v ∧ Out w w' ∧ straitref21_Normal.ret K v w'.heap := by
  rw [← straitref21_Normal.eq] at hh
  exact fn_calls (args := [(.int .i64 a1), (.slice a2 a2l a2c)]) (c := straitref21_Normal.code) straitref21_Normal.ok Try.func22 (by kernel_rfl) (by kernel_rfl) (by kernel_rfl) (by kernel_rfl) (loops_ok (l := []) (by kernel_rfl) trivial) hh w hw

/-! ### strait/straitref21.Same: function 23 -/
def straitref21_Same (a1 : Int) (a2 : Option Addr) (a2l : Nat) (a2c : Nat) (a3 : Int) (a4 : Option Addr) (a4l : Nat) (a4c : Nat) (h : Heap) (K : Bool → Heap → Prop) : Prop :=
  newP h (.cells #[(.int .i64 a1), (.slice a2 a2l a2c)] 41) fun a5 h6 => newP h6 (.cells #[(.int .i64 a3), (.slice a4 a4l a4c)] 41) fun a7 h8 => (∃ (x9 : Int), cell h8 a5 = some (.int .i64 x9) ∧ ∃ (x10 : Int), cell h8 a7 = some (.int .i64 x10) ∧ iteB (x9 == x10) (∃ (x11 : Option Addr) (x11l : Nat) (x11c : Nat), cell h8 (a5.add 1) = some (.slice x11 x11l x11c) ∧ ∃ (x12 : Option Addr) (x12l : Nat) (x12c : Nat), cell h8 (a7.add 1) = some (.slice x12 x12l x12c) ∧ qcallP1 h8 (straitref09_Ints x11 x11l x11c x12 x12l x12c h8) fun x13 => K x13 h8) (K false h8))
def straitref21_Same.ret (K : Bool → Heap → Prop) (v : Value) (h : Heap) : Prop := match v with
  | (.bool r15) => K r15 h
  | _ => False
theorem straitref21_Same.ret_elim {K : Bool → Heap → Prop} {K' : Value → Heap → Prop} {v : Value} {h : Heap} (hk : ∀ r15 h, K r15 h → K' (.bool r15) h) (hh : straitref21_Same.ret K v h) : K' v h := by
  unfold straitref21_Same.ret at hh
  split at hh
  · exact hk _ _ hh
  · exact hh.elim
def straitref21_Same.qcall (f : FuncId) (vs : List Value) (h : Heap) (K : Value → Prop) : Prop := match f, vs with
  | 20, [(.slice a1 a1l a1c), (.slice a2 a2l a2c)] => qcallP1 h (straitref09_Ints a1 a1l a1c a2 a2l a2c h) fun r7 => K (.bool r7)
  | _, _ => False
noncomputable def straitref21_Same.ctx : Ctx := { P := Try.prog, call := fun _ _ _ _ => False, qcall := straitref21_Same.qcall, quiet := fun f => Nat.beq f 20 || Nat.beq f 1000088, loop := fun _ _ _ _ => False }
theorem straitref21_Same.ok : straitref21_Same.ctx.OK where
  mixed := by kernel_rfl
  mono := fun hh _ => hh.elim
  call := fun hh => hh.elim
  qmono := by
    intro f args h K K' hh hk
    change straitref21_Same.qcall f args h K at hh
    change straitref21_Same.qcall f args h K'
    unfold straitref21_Same.qcall at hh ⊢
    split at hh
    · obtain ⟨x0, h1, h2⟩ := hh
      exact ⟨x0, h1, hk _ h2⟩
    · exact hh.elim
  qval := by
    intro f args h K hh
    change straitref21_Same.qcall f args h K at hh
    suffices H : ∃ v, K v ∧ straitref21_Same.qcall f args h (· = v) from H
    unfold straitref21_Same.qcall at hh ⊢
    split at hh
    · obtain ⟨x0, h1, h2⟩ := hh
      exact ⟨_, h2, x0, h1, rfl⟩
    · exact hh.elim
  qcall := by
    intro f args h v hh w hw
    change straitref21_Same.qcall f args h (· = v) at hh
    unfold straitref21_Same.qcall at hh
    split at hh
    · obtain ⟨x0, h1, h2⟩ := hh
      obtain ⟨g1, g2⟩ := straitref09_Ints.calls h1 w hw
      refine .inl ⟨g1, g2.mono fun e w' ⟨u, he, ho, hr⟩ => ?_⟩
      have hq := straitref09_Ints.ret_elim (K' := fun u h' => u = v ∧ h' = h) (fun _ h' hr => by obtain ⟨rfl, rfl⟩ := hr; exact ⟨h2, rfl⟩) hr
      exact ⟨hq.1 ▸ he, ho, hq.2⟩
    · exact hh.elim
noncomputable def straitref21_Same.code : Code := (Try.f23.body).getD .skip
def straitref21_Same.ann : Ann := .auto
set_option maxRecDepth 100000 in
theorem straitref21_Same.eq (a1 : Int) (a2 : Option Addr) (a2l : Nat) (a2c : Nat) (a3 : Int) (a4 : Option Addr) (a4l : Nat) (a4c : Nat) (h : Heap) (K : Bool → Heap → Prop) : evF straitref21_Same.ctx Try.f23 straitref21_Same.ann [(.agg #[(.int .i64 a1), (.slice a2 a2l a2c)]), (.agg #[(.int .i64 a3), (.slice a4 a4l a4c)])] h (straitref21_Same.ret K) = straitref21_Same a1 a2 a2l a2c a3 a4 a4l a4c h K := by kernel_rfl
set_option maxRecDepth 100000 in
theorem straitref21_Same.calls {a1 : Int} {a2 : Option Addr} {a2l : Nat} {a2c : Nat} {a3 : Int} {a4 : Option Addr} {a4l : Nat} {a4c : Nat} {h : Heap} {K : Bool → Heap → Prop} (hh : straitref21_Same a1 a2 a2l a2c a3 a4 a4l a4c h K) (w : World) (hw : w.heap = h) :
    (callFunc 23 #[(.agg #[(.int .i64 a1), (.slice a2 a2l a2c)]), (.agg #[(.int .i64 a3), (.slice a4 a4l a4c)])]).run Try.prog w = .ok (.enter 23 #[(.agg #[(.int .i64 a1), (.slice a2 a2l a2c)]), (.agg #[(.int .i64 a3), (.slice a4 a4l a4c)])]) w ∧ Calls Try.prog 23 #[(.agg #[(.int .i64 a1), (.slice a2 a2l a2c)]), (.agg #[(.int .i64 a3), (.slice a4 a4l a4c)])] w fun e w' => ∃ v, e = .returned v ∧ Out w w' ∧ straitref21_Same.ret K v w'.heap := by
  rw [← straitref21_Same.eq] at hh
  exact fn_calls (args := [(.agg #[(.int .i64 a1), (.slice a2 a2l a2c)]), (.agg #[(.int .i64 a3), (.slice a4 a4l a4c)])]) (c := straitref21_Same.code) straitref21_Same.ok Try.func23 (by kernel_rfl) (by kernel_rfl) (by kernel_rfl) (by kernel_rfl) (loops_ok (l := []) (by kernel_rfl) trivial) hh w hw

/-! ### strait/straitlaw21.SideTells: function 5 -/
def straitlaw21_SideTells (a1 : Int) (a2 : Option Addr) (a2l : Nat) (a2c : Nat) (a3 : Option Addr) (a3l : Nat) (a3c : Nat) (h : Heap) (K : Bool → Heap → Prop) : Prop :=
  (let j89 : Prop := (callP3 (net_New (IntKind.i64.wrap a1) a2 a2l a2c h) fun x11 x12 x13 h14 => ((iteB (x12 != (0 : Int)) (callP2 (side_Weight none a3 a3l a3c h14) fun x15 x16 h17 => (qcallP1 h17 (straitref21_Check 0 a3 a3l a3c h17) fun x18 => iteB (x16 == x18) (callP1 (side_Right none 0 a3 a3l a3c h17) fun x19 h20 => iteB (!x19) (callP1 (straitlaw21_awake h20) fun x21 h22 => K x21 h22) (K false h20)) (K false h17))) ((callP6 (straitref16_New (IntKind.i64.wrap a1) a2 a2l a2c h14) fun x25 x26 x26l x26c x27 x28 h29 => newP h29 (.cells #[(.int .i64 0), (.slice none 0 0)] 43) fun a30 h31 => stC h31 a30 (.int .i64 x25) fun h32 => stC h32 (a30.add 1) (.slice x26 x26l x26c) fun h33 => (qcallP1 h33 (straitref21_Check (IntKind.i64.wrap a1) a3 a3l a3c h33) fun x34 => (callP2 (side_Weight x11 a3 a3l a3c h33) fun x35 x36 h37 => (callP4 (side_Crossing x11 a3 a3l a3c h37) fun x38 x38l x38c x39 h40 => (callP4 (side_Normal (IntKind.i64.wrap a1) a3 a3l a3c h40) fun x41 x41l x41c x42 h43 => (callP5 (side_Cut x11 a3 a3l a3c h43) fun x44 x45 x45l x45c x46 h47 => newP h47 (.cells #[(.int .i64 0), (.slice none 0 0)] 41) fun a48 h49 => stC h49 a48 (.int .i64 x44) fun h50 => stC h50 (a48.add 1) (.slice x45 x45l x45c) fun h51 => (let j88 : Prop := ((iteB (x34 != (0 : Int)) (iteB (x35 == (0 : Int)) (iteB ((x38l : Int) == (0 : Int)) (iteB ((x41l : Int) == (0 : Int)) (∃ (x54 : Int), cell h51 a48 = some (.int .i64 x54) ∧ iteB (x54 == (0 : Int)) (∃ (x55 : Option Addr) (x55l : Nat) (x55c : Nat), cell h51 (a48.add 1) = some (.slice x55 x55l x55c) ∧ iteB ((x55l : Int) == (0 : Int)) (callP1 (side_Right x11 0 a3 a3l a3c h51) fun x56 h57 => iteB (!x56) (callP1 (straitlaw21_awake h57) fun x58 h59 => K x58 h59) (K false h57)) (K false h51)) (K false h51)) (K false h51)) (K false h51)) (K false h51)) ((∃ (x62 : Int), cell h51 a30 = some (.int .i64 x62) ∧ ∃ (x63 : Option Addr) (x63l : Nat) (x63c : Nat), cell h51 (a30.add 1) = some (.slice x63 x63l x63c) ∧ callP1 (straitref21_Weight x62 x63 x63l x63c a3 a3l a3c h51) fun x64 h65 => iteB (x35 == x64) (∃ (x66 : Int), cell h65 a30 = some (.int .i64 x66) ∧ ∃ (x67 : Option Addr) (x67l : Nat) (x67c : Nat), cell h65 (a30.add 1) = some (.slice x67 x67l x67c) ∧ callP3 (straitref21_Crossing x66 x67 x67l x67c a3 a3l a3c h65) fun x68 x68l x68c h69 => qcallP1 h69 (straitref09_Ints x38 x38l x38c x68 x68l x68c h69) fun x70 => iteB x70 (callP3 (straitref21_Normal (IntKind.i64.wrap a1) a3 a3l a3c h69) fun x71 x71l x71c h72 => qcallP1 h72 (straitref09_Ints x41 x41l x41c x71 x71l x71c h72) fun x73 => iteB x73 (∃ (x74 : Int), cell h72 a48 = some (.int .i64 x74) ∧ ∃ (x75 : Option Addr) (x75l : Nat) (x75c : Nat), cell h72 (a48.add 1) = some (.slice x75 x75l x75c) ∧ callP1 (straitref21_Same x74 x75 x75l x75c x35 a3 a3l a3c h72) fun x76 h77 => iteB x76 (∃ (x78 : Int), cell h77 a48 = some (.int .i64 x78) ∧ ∃ (x79 : Option Addr) (x79l : Nat) (x79c : Nat), cell h77 (a48.add 1) = some (.slice x79 x79l x79c) ∧ callP1 (side_Right x11 x78 x79 x79l x79c h77) fun x80 h81 => iteB x80 (callP1 (side_Right x11 (IntKind.i64.wrap (x35 + 1)) a3 a3l a3c h81) fun x82 h83 => iteB (!x82) (callP1 (straitlaw21_awake h83) fun x84 h85 => K x84 h85) (K false h83)) (K false h81)) (K false h77)) (K false h72)) (K false h69)) (K false h65)))));
  qcallP1 h51 (side_Check (IntKind.i64.wrap a1) a3 a3l a3c h51) fun x52 => iteB (x52 != x34) (K false h51) (iteB (x36 != x34) (K false h51) (iteB (x39 != x34) (K false h51) (iteB (x42 != x34) (K false h51) ((iteB (x46 != x34) (K false h51) ((j88))))))))))))))))));
  iteB (decide ((a2l : Int) > (60 : Int))) ((callP1 (straitlaw21_awake h) fun x7 h8 => K x7 h8)) ((iteB (decide ((a3l : Int) > (300 : Int))) (callP1 (straitlaw21_awake h) fun x9 h10 => K x9 h10) ((j89)))))
def straitlaw21_SideTells.ret (K : Bool → Heap → Prop) (v : Value) (h : Heap) : Prop := match v with
  | (.bool r90) => K r90 h
  | _ => False
theorem straitlaw21_SideTells.ret_elim {K : Bool → Heap → Prop} {K' : Value → Heap → Prop} {v : Value} {h : Heap} (hk : ∀ r90 h, K r90 h → K' (.bool r90) h) (hh : straitlaw21_SideTells.ret K v h) : K' v h := by
  unfold straitlaw21_SideTells.ret at hh
  split at hh
  · exact hk _ _ hh
  · exact hh.elim
def straitlaw21_SideTells.call (f : FuncId) (vs : List Value) (h : Heap) (K : Value → Heap → Prop) : Prop := match f, vs with
  | 6, [] => callP1 (straitlaw21_awake h) fun r30 h' => K (.bool r30) h'
  | 9, [(.int .i64 a1), (.slice a2 a2l a2c)] => callP3 (net_New a1 a2 a2l a2c h) fun r37 r38 r39 h' => K (.tuple #[(.pointer r37), (.int .i64 r38), (.int .i64 r39)]) h'
  | 10, [(.pointer a1), (.slice a2 a2l a2c)] => callP2 (side_Weight a1 a2 a2l a2c h) fun r3 r4 h' => K (.tuple #[(.int .i64 r3), (.int .i64 r4)]) h'
  | 13, [(.pointer a1), (.agg ⟨[(.int .i64 a2), (.slice a3 a3l a3c)]⟩)] => callP1 (side_Right a1 a2 a3 a3l a3c h) fun r12 h' => K (.bool r12) h'
  | 14, [(.int .i64 a1), (.slice a2 a2l a2c)] => callP6 (straitref16_New a1 a2 a2l a2c h) fun r52 r53 r53l r53c r54 r55 h' => K (.agg #[(.int .i64 r52), (.slice r53 r53l r53c), (.int .i64 r54), (.int .i64 r55)]) h'
  | 15, [(.pointer a1), (.slice a2 a2l a2c)] => callP4 (side_Crossing a1 a2 a2l a2c h) fun r3 r3l r3c r4 h' => K (.tuple #[(.slice r3 r3l r3c), (.int .i64 r4)]) h'
  | 16, [(.int .i64 a1), (.slice a2 a2l a2c)] => callP4 (side_Normal a1 a2 a2l a2c h) fun r11 r11l r11c r12 h' => K (.tuple #[(.slice r11 r11l r11c), (.int .i64 r12)]) h'
  | 17, [(.pointer a1), (.slice a2 a2l a2c)] => callP5 (side_Cut a1 a2 a2l a2c h) fun r18 r19 r19l r19c r20 h' => K (.tuple #[(.agg #[(.int .i64 r18), (.slice r19 r19l r19c)]), (.int .i64 r20)]) h'
  | 19, [(.agg ⟨[(.int .i64 a1), (.slice a2 a2l a2c)]⟩), (.slice a3 a3l a3c)] => callP1 (straitref21_Weight a1 a2 a2l a2c a3 a3l a3c h) fun r13 h' => K (.int .i64 r13) h'
  | 21, [(.agg ⟨[(.int .i64 a1), (.slice a2 a2l a2c)]⟩), (.slice a3 a3l a3c)] => callP3 (straitref21_Crossing a1 a2 a2l a2c a3 a3l a3c h) fun r9 r9l r9c h' => K (.slice r9 r9l r9c) h'
  | 22, [(.int .i64 a1), (.slice a2 a2l a2c)] => callP3 (straitref21_Normal a1 a2 a2l a2c h) fun r6 r6l r6c h' => K (.slice r6 r6l r6c) h'
  | 23, [(.agg ⟨[(.int .i64 a1), (.slice a2 a2l a2c)]⟩), (.agg ⟨[(.int .i64 a3), (.slice a4 a4l a4c)]⟩)] => callP1 (straitref21_Same a1 a2 a2l a2c a3 a4 a4l a4c h) fun r15 h' => K (.bool r15) h'
  | _, _ => False
def straitlaw21_SideTells.qcall (f : FuncId) (vs : List Value) (h : Heap) (K : Value → Prop) : Prop := match f, vs with
  | 12, [(.int .i64 a1), (.slice a2 a2l a2c)] => qcallP1 h (straitref21_Check a1 a2 a2l a2c h) fun r8 => K (.int .i64 r8)
  | 18, [(.int .i64 a1), (.slice a2 a2l a2c)] => qcallP1 h (side_Check a1 a2 a2l a2c h) fun r8 => K (.int .i64 r8)
  | 20, [(.slice a1 a1l a1c), (.slice a2 a2l a2c)] => qcallP1 h (straitref09_Ints a1 a1l a1c a2 a2l a2c h) fun r7 => K (.bool r7)
  | _, _ => False
noncomputable def straitlaw21_SideTells.ctx : Ctx := { P := Try.prog, call := straitlaw21_SideTells.call, qcall := straitlaw21_SideTells.qcall, quiet := fun f => Nat.beq f 12 || Nat.beq f 18 || Nat.beq f 20 || Nat.beq f 1000088, loop := fun _ _ _ _ => False }
theorem straitlaw21_SideTells.ok : straitlaw21_SideTells.ctx.OK where
  mixed := by kernel_rfl
  mono := by
    intro f args h K K' hh hk
    change straitlaw21_SideTells.call f args h K at hh
    change straitlaw21_SideTells.call f args h K'
    unfold straitlaw21_SideTells.call at hh ⊢
    split at hh
    · obtain ⟨R, h1, h2⟩ := hh
      exact ⟨R, h1, fun _ x hr => hk _ _ (h2 _ x hr)⟩
    · obtain ⟨R, h1, h2⟩ := hh
      exact ⟨R, h1, fun _ _ _ x hr => hk _ _ (h2 _ _ _ x hr)⟩
    · obtain ⟨R, h1, h2⟩ := hh
      exact ⟨R, h1, fun _ _ x hr => hk _ _ (h2 _ _ x hr)⟩
    · obtain ⟨R, h1, h2⟩ := hh
      exact ⟨R, h1, fun _ x hr => hk _ _ (h2 _ x hr)⟩
    · obtain ⟨R, h1, h2⟩ := hh
      exact ⟨R, h1, fun _ _ _ _ _ _ x hr => hk _ _ (h2 _ _ _ _ _ _ x hr)⟩
    · obtain ⟨R, h1, h2⟩ := hh
      exact ⟨R, h1, fun _ _ _ _ x hr => hk _ _ (h2 _ _ _ _ x hr)⟩
    · obtain ⟨R, h1, h2⟩ := hh
      exact ⟨R, h1, fun _ _ _ _ x hr => hk _ _ (h2 _ _ _ _ x hr)⟩
    · obtain ⟨R, h1, h2⟩ := hh
      exact ⟨R, h1, fun _ _ _ _ _ x hr => hk _ _ (h2 _ _ _ _ _ x hr)⟩
    · obtain ⟨R, h1, h2⟩ := hh
      exact ⟨R, h1, fun _ x hr => hk _ _ (h2 _ x hr)⟩
    · obtain ⟨R, h1, h2⟩ := hh
      exact ⟨R, h1, fun _ _ _ x hr => hk _ _ (h2 _ _ _ x hr)⟩
    · obtain ⟨R, h1, h2⟩ := hh
      exact ⟨R, h1, fun _ _ _ x hr => hk _ _ (h2 _ _ _ x hr)⟩
    · obtain ⟨R, h1, h2⟩ := hh
      exact ⟨R, h1, fun _ x hr => hk _ _ (h2 _ x hr)⟩
    · exact hh.elim
  call := by
    intro f args h K hh w hw
    change straitlaw21_SideTells.call f args h K at hh
    unfold straitlaw21_SideTells.call at hh
    split at hh
    · obtain ⟨R, h1, h2⟩ := hh
      obtain ⟨g1, g2⟩ := straitlaw21_awake.calls h1 w hw
      exact ⟨g1, g2.mono fun e w' ⟨v, he, ho, hr⟩ => ⟨v, he, ho, straitlaw21_awake.ret_elim h2 hr⟩⟩
    · obtain ⟨R, h1, h2⟩ := hh
      obtain ⟨g1, g2⟩ := net_New.calls h1 w hw
      exact ⟨g1, g2.mono fun e w' ⟨v, he, ho, hr⟩ => ⟨v, he, ho, net_New.ret_elim h2 hr⟩⟩
    · obtain ⟨R, h1, h2⟩ := hh
      obtain ⟨g1, g2⟩ := side_Weight.calls h1 w hw
      exact ⟨g1, g2.mono fun e w' ⟨v, he, ho, hr⟩ => ⟨v, he, ho, side_Weight.ret_elim h2 hr⟩⟩
    · obtain ⟨R, h1, h2⟩ := hh
      obtain ⟨g1, g2⟩ := side_Right.calls h1 w hw
      exact ⟨g1, g2.mono fun e w' ⟨v, he, ho, hr⟩ => ⟨v, he, ho, side_Right.ret_elim h2 hr⟩⟩
    · obtain ⟨R, h1, h2⟩ := hh
      obtain ⟨g1, g2⟩ := straitref16_New.calls h1 w hw
      exact ⟨g1, g2.mono fun e w' ⟨v, he, ho, hr⟩ => ⟨v, he, ho, straitref16_New.ret_elim h2 hr⟩⟩
    · obtain ⟨R, h1, h2⟩ := hh
      obtain ⟨g1, g2⟩ := side_Crossing.calls h1 w hw
      exact ⟨g1, g2.mono fun e w' ⟨v, he, ho, hr⟩ => ⟨v, he, ho, side_Crossing.ret_elim h2 hr⟩⟩
    · obtain ⟨R, h1, h2⟩ := hh
      obtain ⟨g1, g2⟩ := side_Normal.calls h1 w hw
      exact ⟨g1, g2.mono fun e w' ⟨v, he, ho, hr⟩ => ⟨v, he, ho, side_Normal.ret_elim h2 hr⟩⟩
    · obtain ⟨R, h1, h2⟩ := hh
      obtain ⟨g1, g2⟩ := side_Cut.calls h1 w hw
      exact ⟨g1, g2.mono fun e w' ⟨v, he, ho, hr⟩ => ⟨v, he, ho, side_Cut.ret_elim h2 hr⟩⟩
    · obtain ⟨R, h1, h2⟩ := hh
      obtain ⟨g1, g2⟩ := straitref21_Weight.calls h1 w hw
      exact ⟨g1, g2.mono fun e w' ⟨v, he, ho, hr⟩ => ⟨v, he, ho, straitref21_Weight.ret_elim h2 hr⟩⟩
    · obtain ⟨R, h1, h2⟩ := hh
      obtain ⟨g1, g2⟩ := straitref21_Crossing.calls h1 w hw
      exact ⟨g1, g2.mono fun e w' ⟨v, he, ho, hr⟩ => ⟨v, he, ho, straitref21_Crossing.ret_elim h2 hr⟩⟩
    · obtain ⟨R, h1, h2⟩ := hh
      obtain ⟨g1, g2⟩ := straitref21_Normal.calls h1 w hw
      exact ⟨g1, g2.mono fun e w' ⟨v, he, ho, hr⟩ => ⟨v, he, ho, straitref21_Normal.ret_elim h2 hr⟩⟩
    · obtain ⟨R, h1, h2⟩ := hh
      obtain ⟨g1, g2⟩ := straitref21_Same.calls h1 w hw
      exact ⟨g1, g2.mono fun e w' ⟨v, he, ho, hr⟩ => ⟨v, he, ho, straitref21_Same.ret_elim h2 hr⟩⟩
    · exact hh.elim
  qmono := by
    intro f args h K K' hh hk
    change straitlaw21_SideTells.qcall f args h K at hh
    change straitlaw21_SideTells.qcall f args h K'
    unfold straitlaw21_SideTells.qcall at hh ⊢
    split at hh
    · obtain ⟨x0, h1, h2⟩ := hh
      exact ⟨x0, h1, hk _ h2⟩
    · obtain ⟨x0, h1, h2⟩ := hh
      exact ⟨x0, h1, hk _ h2⟩
    · obtain ⟨x0, h1, h2⟩ := hh
      exact ⟨x0, h1, hk _ h2⟩
    · exact hh.elim
  qval := by
    intro f args h K hh
    change straitlaw21_SideTells.qcall f args h K at hh
    suffices H : ∃ v, K v ∧ straitlaw21_SideTells.qcall f args h (· = v) from H
    unfold straitlaw21_SideTells.qcall at hh ⊢
    split at hh
    · obtain ⟨x0, h1, h2⟩ := hh
      exact ⟨_, h2, x0, h1, rfl⟩
    · obtain ⟨x0, h1, h2⟩ := hh
      exact ⟨_, h2, x0, h1, rfl⟩
    · obtain ⟨x0, h1, h2⟩ := hh
      exact ⟨_, h2, x0, h1, rfl⟩
    · exact hh.elim
  qcall := by
    intro f args h v hh w hw
    change straitlaw21_SideTells.qcall f args h (· = v) at hh
    unfold straitlaw21_SideTells.qcall at hh
    split at hh
    · obtain ⟨x0, h1, h2⟩ := hh
      obtain ⟨g1, g2⟩ := straitref21_Check.calls h1 w hw
      refine .inl ⟨g1, g2.mono fun e w' ⟨u, he, ho, hr⟩ => ?_⟩
      have hq := straitref21_Check.ret_elim (K' := fun u h' => u = v ∧ h' = h) (fun _ h' hr => by obtain ⟨rfl, rfl⟩ := hr; exact ⟨h2, rfl⟩) hr
      exact ⟨hq.1 ▸ he, ho, hq.2⟩
    · obtain ⟨x0, h1, h2⟩ := hh
      obtain ⟨g1, g2⟩ := side_Check.calls h1 w hw
      refine .inl ⟨g1, g2.mono fun e w' ⟨u, he, ho, hr⟩ => ?_⟩
      have hq := side_Check.ret_elim (K' := fun u h' => u = v ∧ h' = h) (fun _ h' hr => by obtain ⟨rfl, rfl⟩ := hr; exact ⟨h2, rfl⟩) hr
      exact ⟨hq.1 ▸ he, ho, hq.2⟩
    · obtain ⟨x0, h1, h2⟩ := hh
      obtain ⟨g1, g2⟩ := straitref09_Ints.calls h1 w hw
      refine .inl ⟨g1, g2.mono fun e w' ⟨u, he, ho, hr⟩ => ?_⟩
      have hq := straitref09_Ints.ret_elim (K' := fun u h' => u = v ∧ h' = h) (fun _ h' hr => by obtain ⟨rfl, rfl⟩ := hr; exact ⟨h2, rfl⟩) hr
      exact ⟨hq.1 ▸ he, ho, hq.2⟩
    · exact hh.elim
noncomputable def straitlaw21_SideTells.code : Code := (Try.f5.body).getD .skip
def straitlaw21_SideTells.ann : Ann := .auto
set_option maxRecDepth 100000 in
theorem straitlaw21_SideTells.eq (a1 : Int) (a2 : Option Addr) (a2l : Nat) (a2c : Nat) (a3 : Option Addr) (a3l : Nat) (a3c : Nat) (h : Heap) (K : Bool → Heap → Prop) : evF straitlaw21_SideTells.ctx Try.f5 straitlaw21_SideTells.ann [(.int .u8 a1), (.slice a2 a2l a2c), (.slice a3 a3l a3c)] h (straitlaw21_SideTells.ret K) = straitlaw21_SideTells a1 a2 a2l a2c a3 a3l a3c h K := by kernel_rfl
set_option maxRecDepth 100000 in
theorem straitlaw21_SideTells.calls {a1 : Int} {a2 : Option Addr} {a2l : Nat} {a2c : Nat} {a3 : Option Addr} {a3l : Nat} {a3c : Nat} {h : Heap} {K : Bool → Heap → Prop} (hh : straitlaw21_SideTells a1 a2 a2l a2c a3 a3l a3c h K) (w : World) (hw : w.heap = h) :
    (callFunc 5 #[(.int .u8 a1), (.slice a2 a2l a2c), (.slice a3 a3l a3c)]).run Try.prog w = .ok (.enter 5 #[(.int .u8 a1), (.slice a2 a2l a2c), (.slice a3 a3l a3c)]) w ∧ Calls Try.prog 5 #[(.int .u8 a1), (.slice a2 a2l a2c), (.slice a3 a3l a3c)] w fun e w' => ∃ v, e = .returned v ∧ Out w w' ∧ straitlaw21_SideTells.ret K v w'.heap := by
  rw [← straitlaw21_SideTells.eq] at hh
  exact fn_calls (args := [(.int .u8 a1), (.slice a2 a2l a2c), (.slice a3 a3l a3c)]) (c := straitlaw21_SideTells.code) straitlaw21_SideTells.ok Try.func5 (by kernel_rfl) (by kernel_rfl) (by kernel_rfl) (by kernel_rfl) (loops_ok (l := []) (by kernel_rfl) trivial) hh w hw

/-! ### (*strait/net.Net).N: function 46 -/
def net_Net_N (a1 : Option Addr) (h : Heap) (K : Int → Heap → Prop) : Prop :=
  ((iteB a1.isNone (K 0 h) ((chkP a1 fun a2 => ∃ (x3 : Option Addr) (x3l : Nat) (x3c : Nat), cell h a2 = some (.slice x3 x3l x3c) ∧ (K (x3l : Int) h)))))
def net_Net_N.ret (K : Int → Heap → Prop) (v : Value) (h : Heap) : Prop := match v with
  | (.int .i64 r4) => K r4 h
  | _ => False
theorem net_Net_N.ret_elim {K : Int → Heap → Prop} {K' : Value → Heap → Prop} {v : Value} {h : Heap} (hk : ∀ r4 h, K r4 h → K' (.int .i64 r4) h) (hh : net_Net_N.ret K v h) : K' v h := by
  unfold net_Net_N.ret at hh
  split at hh
  · exact hk _ _ hh
  · exact hh.elim
noncomputable def net_Net_N.ctx : Ctx := { P := Try.prog, call := fun _ _ _ _ => False, qcall := fun _ _ _ _ => False, quiet := fun f => Nat.beq f 1000088, loop := fun _ _ _ _ => False }
theorem net_Net_N.ok : net_Net_N.ctx.OK where
  mixed := by kernel_rfl
  mono := fun hh _ => hh.elim
  call := fun hh => hh.elim
  qmono := fun hh _ => hh.elim
  qval := fun hh => hh.elim
  qcall := fun hh => hh.elim
noncomputable def net_Net_N.code : Code := (Try.f46.body).getD .skip
def net_Net_N.ann : Ann := .auto
set_option maxRecDepth 100000 in
theorem net_Net_N.eq (a1 : Option Addr) (h : Heap) (K : Int → Heap → Prop) : evF net_Net_N.ctx Try.f46 net_Net_N.ann [(.pointer a1)] h (net_Net_N.ret K) = net_Net_N a1 h K := by kernel_rfl
set_option maxRecDepth 100000 in
theorem net_Net_N.calls {a1 : Option Addr} {h : Heap} {K : Int → Heap → Prop} (hh : net_Net_N a1 h K) (w : World) (hw : w.heap = h) :
    (callFunc 46 #[(.pointer a1)]).run Try.prog w = .ok (.enter 46 #[(.pointer a1)]) w ∧ Calls Try.prog 46 #[(.pointer a1)] w fun e w' => ∃ v, e = .returned v ∧ Out w w' ∧ net_Net_N.ret K v w'.heap := by
  rw [← net_Net_N.eq] at hh
  exact fn_calls (args := [(.pointer a1)]) (c := net_Net_N.code) net_Net_N.ok Try.func46 (by kernel_rfl) (by kernel_rfl) (by kernel_rfl) (by kernel_rfl) (loops_ok (l := []) (by kernel_rfl) trivial) hh w hw

/-! ### strait/vset.New: function 70 -/
def vset_New (a1 : Int) (h : Heap) (K : (Option Addr) → Heap → Prop) : Prop :=
  (bindV (if 4096 < (if 0 > a1 then 0 else a1) then 4096 else (if 0 > a1 then 0 else a1)) fun n2 => (bindV (IntKind.i64.wrap ((IntKind.i64.wrap (n2 + 64)) - 1)) fun n3 => (64 : Int) ≠ 0 ∧ (0 ≤ (IntKind.i64.wrap (n3.tdiv 64)) ∧ (IntKind.i64.wrap (n3.tdiv 64)) ≤ (IntKind.i64.wrap (n3.tdiv 64)) ∧ (IntKind.i64.wrap (n3.tdiv 64)) * (8 : Nat) ≤ 2 ^ 47 ∧ (IntKind.i64.wrap (n3.tdiv 64)) ≤ 2 ^ 47) ∧ newP h (.cells (zeroRow [(.int .u64 0)] (IntKind.i64.wrap (n3.tdiv 64)).toNat).toArray 123) fun a4 h5 => newP h5 (.cells #[(.int .i64 n2), (.slice (some a4) ((IntKind.i64.wrap (n3.tdiv 64)).toNat) ((IntKind.i64.wrap (n3.tdiv 64)).toNat))] 146) fun a6 h7 => (K (some a6) h7)))
def vset_New.ret (K : (Option Addr) → Heap → Prop) (v : Value) (h : Heap) : Prop := match v with
  | (.pointer r8) => K r8 h
  | _ => False
theorem vset_New.ret_elim {K : (Option Addr) → Heap → Prop} {K' : Value → Heap → Prop} {v : Value} {h : Heap} (hk : ∀ r8 h, K r8 h → K' (.pointer r8) h) (hh : vset_New.ret K v h) : K' v h := by
  unfold vset_New.ret at hh
  split at hh
  · exact hk _ _ hh
  · exact hh.elim
noncomputable def vset_New.ctx : Ctx := { P := Try.prog, call := fun _ _ _ _ => False, qcall := fun _ _ _ _ => False, quiet := fun f => Nat.beq f 1000088, loop := fun _ _ _ _ => False }
theorem vset_New.ok : vset_New.ctx.OK where
  mixed := by kernel_rfl
  mono := fun hh _ => hh.elim
  call := fun hh => hh.elim
  qmono := fun hh _ => hh.elim
  qval := fun hh => hh.elim
  qcall := fun hh => hh.elim
noncomputable def vset_New.code : Code := (Try.f70.body).getD .skip
def vset_New.ann : Ann := .auto
set_option maxRecDepth 100000 in
theorem vset_New.eq (a1 : Int) (h : Heap) (K : (Option Addr) → Heap → Prop) : evF vset_New.ctx Try.f70 vset_New.ann [(.int .i64 a1)] h (vset_New.ret K) = vset_New a1 h K := by kernel_rfl
set_option maxRecDepth 100000 in
theorem vset_New.calls {a1 : Int} {h : Heap} {K : (Option Addr) → Heap → Prop} (hh : vset_New a1 h K) (w : World) (hw : w.heap = h) :
    (callFunc 70 #[(.int .i64 a1)]).run Try.prog w = .ok (.enter 70 #[(.int .i64 a1)]) w ∧ Calls Try.prog 70 #[(.int .i64 a1)] w fun e w' => ∃ v, e = .returned v ∧ Out w w' ∧ vset_New.ret K v w'.heap := by
  rw [← vset_New.eq] at hh
  exact fn_calls (args := [(.int .i64 a1)]) (c := vset_New.code) vset_New.ok Try.func70 (by kernel_rfl) (by kernel_rfl) (by kernel_rfl) (by kernel_rfl) (loops_ok (l := []) (by kernel_rfl) trivial) hh w hw

/-! ### (*strait/vset.Set).Room: function 90 -/
def vset_Set_Room (a1 : Option Addr) (h : Heap) (K : Int → Heap → Prop) : Prop :=
  ((iteB a1.isNone (K 0 h) ((chkP a1 fun a2 => ∃ (x3 : Int), cell h a2 = some (.int .i64 x3) ∧ K x3 h))))
def vset_Set_Room.ret (K : Int → Heap → Prop) (v : Value) (h : Heap) : Prop := match v with
  | (.int .i64 r4) => K r4 h
  | _ => False
theorem vset_Set_Room.ret_elim {K : Int → Heap → Prop} {K' : Value → Heap → Prop} {v : Value} {h : Heap} (hk : ∀ r4 h, K r4 h → K' (.int .i64 r4) h) (hh : vset_Set_Room.ret K v h) : K' v h := by
  unfold vset_Set_Room.ret at hh
  split at hh
  · exact hk _ _ hh
  · exact hh.elim
noncomputable def vset_Set_Room.ctx : Ctx := { P := Try.prog, call := fun _ _ _ _ => False, qcall := fun _ _ _ _ => False, quiet := fun f => Nat.beq f 1000088, loop := fun _ _ _ _ => False }
theorem vset_Set_Room.ok : vset_Set_Room.ctx.OK where
  mixed := by kernel_rfl
  mono := fun hh _ => hh.elim
  call := fun hh => hh.elim
  qmono := fun hh _ => hh.elim
  qval := fun hh => hh.elim
  qcall := fun hh => hh.elim
noncomputable def vset_Set_Room.code : Code := (Try.f90.body).getD .skip
def vset_Set_Room.ann : Ann := .auto
set_option maxRecDepth 100000 in
theorem vset_Set_Room.eq (a1 : Option Addr) (h : Heap) (K : Int → Heap → Prop) : evF vset_Set_Room.ctx Try.f90 vset_Set_Room.ann [(.pointer a1)] h (vset_Set_Room.ret K) = vset_Set_Room a1 h K := by kernel_rfl
set_option maxRecDepth 100000 in
theorem vset_Set_Room.calls {a1 : Option Addr} {h : Heap} {K : Int → Heap → Prop} (hh : vset_Set_Room a1 h K) (w : World) (hw : w.heap = h) :
    (callFunc 90 #[(.pointer a1)]).run Try.prog w = .ok (.enter 90 #[(.pointer a1)]) w ∧ Calls Try.prog 90 #[(.pointer a1)] w fun e w' => ∃ v, e = .returned v ∧ Out w w' ∧ vset_Set_Room.ret K v w'.heap := by
  rw [← vset_Set_Room.eq] at hh
  exact fn_calls (args := [(.pointer a1)]) (c := vset_Set_Room.code) vset_Set_Room.ok Try.func90 (by kernel_rfl) (by kernel_rfl) (by kernel_rfl) (by kernel_rfl) (loops_ok (l := []) (by kernel_rfl) trivial) hh w hw

/-! ### (*strait/vset.Set).bit: function 73 -/
def vset_Set_bit (a1 : Option Addr) (a2 : Int) (h : Heap) (K : (Option Addr) → Int → Bool → Heap → Prop) : Prop :=
  (let j9 : Prop := (chkP a1 fun a5 => ∃ (x6 : Option Addr) (x6l : Nat) (x6c : Nat), cell h (a5.add 1) = some (.slice x6 x6l x6c) ∧ (64 : Int) ≠ 0 ∧ chkP x6 fun a7 => (0 ≤ (IntKind.i64.wrap (a2.tdiv 64)) ∧ (IntKind.i64.wrap (a2.tdiv 64)) < (x6l : Int)) ∧ (64 : Int) ≠ 0 ∧ 0 ≤ (a2.tmod 64) ∧ bindV (IntKind.u64.wrap ((1 : Int) * 2 ^ (min (a2.tmod 64).toNat 64))) fun n8 => (K (some (a7.add ((IntKind.i64.wrap (a2.tdiv 64)).toNat * 1))) n8 true h));
  iteB (decide (a2 < (0 : Int))) (K none 0 false h) (qcallP1 h (vset_Set_Room a1 h) fun x3 => (iteB (decide (a2 ≥ x3)) (K none 0 false h) ((j9)))))
def vset_Set_bit.ret (K : (Option Addr) → Int → Bool → Heap → Prop) (v : Value) (h : Heap) : Prop := match v with
  | (.tuple ⟨[(.pointer r10), (.int .u64 r11), (.bool r12)]⟩) => K r10 r11 r12 h
  | _ => False
theorem vset_Set_bit.ret_elim {K : (Option Addr) → Int → Bool → Heap → Prop} {K' : Value → Heap → Prop} {v : Value} {h : Heap} (hk : ∀ r10 r11 r12 h, K r10 r11 r12 h → K' (.tuple #[(.pointer r10), (.int .u64 r11), (.bool r12)]) h) (hh : vset_Set_bit.ret K v h) : K' v h := by
  unfold vset_Set_bit.ret at hh
  split at hh
  · exact hk _ _ _ _ hh
  · exact hh.elim
def vset_Set_bit.qcall (f : FuncId) (vs : List Value) (h : Heap) (K : Value → Prop) : Prop := match f, vs with
  | 90, [(.pointer a1)] => qcallP1 h (vset_Set_Room a1 h) fun r4 => K (.int .i64 r4)
  | _, _ => False
noncomputable def vset_Set_bit.ctx : Ctx := { P := Try.prog, call := fun _ _ _ _ => False, qcall := vset_Set_bit.qcall, quiet := fun f => Nat.beq f 90 || Nat.beq f 1000088, loop := fun _ _ _ _ => False }
theorem vset_Set_bit.ok : vset_Set_bit.ctx.OK where
  mixed := by kernel_rfl
  mono := fun hh _ => hh.elim
  call := fun hh => hh.elim
  qmono := by
    intro f args h K K' hh hk
    change vset_Set_bit.qcall f args h K at hh
    change vset_Set_bit.qcall f args h K'
    unfold vset_Set_bit.qcall at hh ⊢
    split at hh
    · obtain ⟨x0, h1, h2⟩ := hh
      exact ⟨x0, h1, hk _ h2⟩
    · exact hh.elim
  qval := by
    intro f args h K hh
    change vset_Set_bit.qcall f args h K at hh
    suffices H : ∃ v, K v ∧ vset_Set_bit.qcall f args h (· = v) from H
    unfold vset_Set_bit.qcall at hh ⊢
    split at hh
    · obtain ⟨x0, h1, h2⟩ := hh
      exact ⟨_, h2, x0, h1, rfl⟩
    · exact hh.elim
  qcall := by
    intro f args h v hh w hw
    change vset_Set_bit.qcall f args h (· = v) at hh
    unfold vset_Set_bit.qcall at hh
    split at hh
    · obtain ⟨x0, h1, h2⟩ := hh
      obtain ⟨g1, g2⟩ := vset_Set_Room.calls h1 w hw
      refine .inl ⟨g1, g2.mono fun e w' ⟨u, he, ho, hr⟩ => ?_⟩
      have hq := vset_Set_Room.ret_elim (K' := fun u h' => u = v ∧ h' = h) (fun _ h' hr => by obtain ⟨rfl, rfl⟩ := hr; exact ⟨h2, rfl⟩) hr
      exact ⟨hq.1 ▸ he, ho, hq.2⟩
    · exact hh.elim
noncomputable def vset_Set_bit.code : Code := (Try.f73.body).getD .skip
def vset_Set_bit.ann : Ann := (.two .auto (.two .auto (.two (.reg [0, 1, 3, 7, 0, 16, 63, 0, 128, 384, 127, 2047, 4095] (.take 0 (.take 1 (.take 2 (.take 3 (.take 4 (.take 5 (.take 6 (.take 7 (.take 8 (.take 9 (.take 10 (.take 11 (.take 12 .done)))))))))))))) .auto)))
set_option maxRecDepth 100000 in
theorem vset_Set_bit.eq (a1 : Option Addr) (a2 : Int) (h : Heap) (K : (Option Addr) → Int → Bool → Heap → Prop) : evF vset_Set_bit.ctx Try.f73 vset_Set_bit.ann [(.pointer a1), (.int .i64 a2)] h (vset_Set_bit.ret K) = vset_Set_bit a1 a2 h K := by kernel_rfl
set_option maxRecDepth 100000 in
theorem vset_Set_bit.calls {a1 : Option Addr} {a2 : Int} {h : Heap} {K : (Option Addr) → Int → Bool → Heap → Prop} (hh : vset_Set_bit a1 a2 h K) (w : World) (hw : w.heap = h) :
    (callFunc 73 #[(.pointer a1), (.int .i64 a2)]).run Try.prog w = .ok (.enter 73 #[(.pointer a1), (.int .i64 a2)]) w ∧ Calls Try.prog 73 #[(.pointer a1), (.int .i64 a2)] w fun e w' => ∃ v, e = .returned v ∧ Out w w' ∧ vset_Set_bit.ret K v w'.heap := by
  rw [← vset_Set_bit.eq] at hh
  exact fn_calls (args := [(.pointer a1), (.int .i64 a2)]) (c := vset_Set_bit.code) vset_Set_bit.ok Try.func73 (by kernel_rfl) (by kernel_rfl) (by kernel_rfl) (by kernel_rfl) (loops_ok (l := []) (by kernel_rfl) trivial) hh w hw

/-! ### (*strait/vset.Set).Put: function 71 -/
def vset_Set_Put (a1 : Option Addr) (a2 : Int) (h : Heap) (K : Bool → Heap → Prop) : Prop :=
  (qcallP3 h (vset_Set_bit a1 a2 h) fun x3 x4 x5 => (iteB (!x5) (K false h) (chkP x3 fun a6 => ∃ (x7 : Int), cell h a6 = some (.int .u64 x7) ∧ (iteB ((bits .and .u64 x7 x4) != (0 : Int)) (K false h) ((chkP x3 fun a17 => ∃ (x18 : Int), cell h a17 = some (.int .u64 x18) ∧ chkP x3 fun a19 => stC h a19 (.int .u64 (bits .or .u64 x18 x4)) fun h20 => K true h20))))))
def vset_Set_Put.ret (K : Bool → Heap → Prop) (v : Value) (h : Heap) : Prop := match v with
  | (.bool r21) => K r21 h
  | _ => False
theorem vset_Set_Put.ret_elim {K : Bool → Heap → Prop} {K' : Value → Heap → Prop} {v : Value} {h : Heap} (hk : ∀ r21 h, K r21 h → K' (.bool r21) h) (hh : vset_Set_Put.ret K v h) : K' v h := by
  unfold vset_Set_Put.ret at hh
  split at hh
  · exact hk _ _ hh
  · exact hh.elim
def vset_Set_Put.qcall (f : FuncId) (vs : List Value) (h : Heap) (K : Value → Prop) : Prop := match f, vs with
  | 73, [(.pointer a1), (.int .i64 a2)] => qcallP3 h (vset_Set_bit a1 a2 h) fun r10 r11 r12 => K (.tuple #[(.pointer r10), (.int .u64 r11), (.bool r12)])
  | _, _ => False
noncomputable def vset_Set_Put.ctx : Ctx := { P := Try.prog, call := fun _ _ _ _ => False, qcall := vset_Set_Put.qcall, quiet := fun f => Nat.beq f 73 || Nat.beq f 1000088, loop := fun _ _ _ _ => False }
theorem vset_Set_Put.ok : vset_Set_Put.ctx.OK where
  mixed := by kernel_rfl
  mono := fun hh _ => hh.elim
  call := fun hh => hh.elim
  qmono := by
    intro f args h K K' hh hk
    change vset_Set_Put.qcall f args h K at hh
    change vset_Set_Put.qcall f args h K'
    unfold vset_Set_Put.qcall at hh ⊢
    split at hh
    · obtain ⟨x0, x1, x2, h1, h2⟩ := hh
      exact ⟨x0, x1, x2, h1, hk _ h2⟩
    · exact hh.elim
  qval := by
    intro f args h K hh
    change vset_Set_Put.qcall f args h K at hh
    suffices H : ∃ v, K v ∧ vset_Set_Put.qcall f args h (· = v) from H
    unfold vset_Set_Put.qcall at hh ⊢
    split at hh
    · obtain ⟨x0, x1, x2, h1, h2⟩ := hh
      exact ⟨_, h2, x0, x1, x2, h1, rfl⟩
    · exact hh.elim
  qcall := by
    intro f args h v hh w hw
    change vset_Set_Put.qcall f args h (· = v) at hh
    unfold vset_Set_Put.qcall at hh
    split at hh
    · obtain ⟨x0, x1, x2, h1, h2⟩ := hh
      obtain ⟨g1, g2⟩ := vset_Set_bit.calls h1 w hw
      refine .inl ⟨g1, g2.mono fun e w' ⟨u, he, ho, hr⟩ => ?_⟩
      have hq := vset_Set_bit.ret_elim (K' := fun u h' => u = v ∧ h' = h) (fun _ _ _ h' hr => by obtain ⟨rfl, rfl, rfl, rfl⟩ := hr; exact ⟨h2, rfl⟩) hr
      exact ⟨hq.1 ▸ he, ho, hq.2⟩
    · exact hh.elim
noncomputable def vset_Set_Put.code : Code := (Try.f71.body).getD .skip
def vset_Set_Put.ann : Ann := .auto
set_option maxRecDepth 100000 in
theorem vset_Set_Put.eq (a1 : Option Addr) (a2 : Int) (h : Heap) (K : Bool → Heap → Prop) : evF vset_Set_Put.ctx Try.f71 vset_Set_Put.ann [(.pointer a1), (.int .i64 a2)] h (vset_Set_Put.ret K) = vset_Set_Put a1 a2 h K := by kernel_rfl
set_option maxRecDepth 100000 in
theorem vset_Set_Put.calls {a1 : Option Addr} {a2 : Int} {h : Heap} {K : Bool → Heap → Prop} (hh : vset_Set_Put a1 a2 h K) (w : World) (hw : w.heap = h) :
    (callFunc 71 #[(.pointer a1), (.int .i64 a2)]).run Try.prog w = .ok (.enter 71 #[(.pointer a1), (.int .i64 a2)]) w ∧ Calls Try.prog 71 #[(.pointer a1), (.int .i64 a2)] w fun e w' => ∃ v, e = .returned v ∧ Out w w' ∧ vset_Set_Put.ret K v w'.heap := by
  rw [← vset_Set_Put.eq] at hh
  exact fn_calls (args := [(.pointer a1), (.int .i64 a2)]) (c := vset_Set_Put.code) vset_Set_Put.ok Try.func71 (by kernel_rfl) (by kernel_rfl) (by kernel_rfl) (by kernel_rfl) (loops_ok (l := []) (by kernel_rfl) trivial) hh w hw

/-! ### strait/vset.Of: function 47 -/
def vset_Of.b0 (K2 : Heap → Prop) (cont : (Option Addr) → (Option Addr) → Nat → Nat → Int → Int → Heap → Prop) (c5_1001 : Option Addr) (c10_1002 : Option Addr) (c10_1003 : Nat) (c10_1004 : Nat) (c11_1005 : Int) (v12_1006 : Int) (h1007 : Heap) : Prop :=
  (iteB (decide (v12_1006 < c11_1005)) ((chkP c10_1002 fun a1008 => (0 ≤ v12_1006 ∧ v12_1006 < (c10_1003 : Int)) ∧ ∃ (x1009 : Int), cell h1007 (a1008.add (v12_1006.toNat * 1)) = some (.int .i64 x1009) ∧ (callP1 (vset_Set_Put c5_1001 x1009 h1007) fun x1010 h1011 => ((cont c5_1001 c10_1002 c10_1003 c10_1004 c11_1005 (IntKind.i64.wrap (v12_1006 + 1)) h1011))))) (K2 h1007))
def vset_Of.l0 (K2 : Heap → Prop) : Nat → (Option Addr) → (Option Addr) → Nat → Nat → Int → Int → Heap → Prop
  | 0, _, _, _, _, _, _, _ => False
  | m + 1, c5_1001, c10_1002, c10_1003, c10_1004, c11_1005, v12_1006, h => vset_Of.b0 K2 (vset_Of.l0 K2 m) c5_1001 c10_1002 c10_1003 c10_1004 c11_1005 v12_1006 h
def vset_Of (a1 : Int) (a2 : Option Addr) (a2l : Nat) (a2c : Nat) (h : Heap) (K : (Option Addr) → Heap → Prop) : Prop :=
  (callP1 (vset_New a1 h) fun x3 h4 => ((∃ m6, vset_Of.l0 (fun h5 => (K x3 h5)) m6 x3 a2 a2l a2c (a2l : Int) 0 h4)))
def vset_Of.ret (K : (Option Addr) → Heap → Prop) (v : Value) (h : Heap) : Prop := match v with
  | (.pointer r7) => K r7 h
  | _ => False
theorem vset_Of.ret_elim {K : (Option Addr) → Heap → Prop} {K' : Value → Heap → Prop} {v : Value} {h : Heap} (hk : ∀ r7 h, K r7 h → K' (.pointer r7) h) (hh : vset_Of.ret K v h) : K' v h := by
  unfold vset_Of.ret at hh
  split at hh
  · exact hk _ _ hh
  · exact hh.elim
def vset_Of.call (f : FuncId) (vs : List Value) (h : Heap) (K : Value → Heap → Prop) : Prop := match f, vs with
  | 70, [(.int .i64 a1)] => callP1 (vset_New a1 h) fun r8 h' => K (.pointer r8) h'
  | 71, [(.pointer a1), (.int .i64 a2)] => callP1 (vset_Set_Put a1 a2 h) fun r21 h' => K (.bool r21) h'
  | _, _ => False
def vset_Of.r0 (K : Nat → List Value → Heap → Prop) (m : Nat) (vs : List Value) (h : Heap) : Prop := match vs with
  | [(.pointer c5_1001), (.slice c10_1002 c10_1003 c10_1004), (.int .i64 c11_1005), (.int .i64 v12_1006)] => vset_Of.l0 (fun h' => K 2 [(.pointer c5_1001)] h') m c5_1001 c10_1002 c10_1003 c10_1004 c11_1005 v12_1006 h
  | _ => False
def vset_Of.loop (i : Nat) (vs : List Value) (h : Heap) (K : Nat → List Value → Heap → Prop) : Prop := match i with
  | 0 => ∃ m, vset_Of.r0 K m vs h
  | _ => False
noncomputable def vset_Of.ctx : Ctx := { P := Try.prog, call := vset_Of.call, qcall := fun _ _ _ _ => False, quiet := fun f => Nat.beq f 1000088, loop := vset_Of.loop }
theorem vset_Of.ok : vset_Of.ctx.OK where
  mixed := by kernel_rfl
  mono := by
    intro f args h K K' hh hk
    change vset_Of.call f args h K at hh
    change vset_Of.call f args h K'
    unfold vset_Of.call at hh ⊢
    split at hh
    · obtain ⟨R, h1, h2⟩ := hh
      exact ⟨R, h1, fun _ x hr => hk _ _ (h2 _ x hr)⟩
    · obtain ⟨R, h1, h2⟩ := hh
      exact ⟨R, h1, fun _ x hr => hk _ _ (h2 _ x hr)⟩
    · exact hh.elim
  call := by
    intro f args h K hh w hw
    change vset_Of.call f args h K at hh
    unfold vset_Of.call at hh
    split at hh
    · obtain ⟨R, h1, h2⟩ := hh
      obtain ⟨g1, g2⟩ := vset_New.calls h1 w hw
      exact ⟨g1, g2.mono fun e w' ⟨v, he, ho, hr⟩ => ⟨v, he, ho, vset_New.ret_elim h2 hr⟩⟩
    · obtain ⟨R, h1, h2⟩ := hh
      obtain ⟨g1, g2⟩ := vset_Set_Put.calls h1 w hw
      exact ⟨g1, g2.mono fun e w' ⟨v, he, ho, hr⟩ => ⟨v, he, ho, vset_Set_Put.ret_elim h2 hr⟩⟩
    · exact hh.elim
  qmono := fun hh _ => hh.elim
  qval := fun hh => hh.elim
  qcall := fun hh => hh.elim
noncomputable def vset_Of.code : Code := (Try.f47.body).getD .skip
def vset_Of.ann : Ann := (.two .auto (.two .auto (.two (.two .auto (.two (.loop 0 [5, 10, 11, 12] [(2, [5])] .auto) .auto)) .auto)))
noncomputable def vset_Of.c0 : Code := sub vset_Of.code [1, 1, 0, 1, 0, 0]
def vset_Of.a0 : Ann := .auto
def vset_Of.keep0 : List Nat := [5, 10, 11, 12]
def vset_Of.outs0 : List (Nat × List Nat) := [(2, [5])]
set_option maxRecDepth 100000 in
theorem vset_Of.L0 : LoopOK vset_Of.ctx 21 vset_Of.c0 0 vset_Of.keep0 vset_Of.outs0 := by
  refine loop_ok (n := vset_Of.a0) vset_Of.ok (by kernel_rfl) (loops_ok (l := []) (by kernel_rfl) ?_) vset_Of.r0 ?_ ?_ (fun vs h K hh => hh)
  · exact trivial
  · intro K vs h hh
    unfold vset_Of.r0 at hh
    split at hh
    · exact hh
    · exact hh
  · intro K m vs h hh
    unfold vset_Of.r0 at hh
    split at hh
    · exact cast (by kernel_rfl) hh
    · exact hh.elim
set_option maxRecDepth 100000 in
theorem vset_Of.eq (a1 : Int) (a2 : Option Addr) (a2l : Nat) (a2c : Nat) (h : Heap) (K : (Option Addr) → Heap → Prop) : evF vset_Of.ctx Try.f47 vset_Of.ann [(.int .i64 a1), (.slice a2 a2l a2c)] h (vset_Of.ret K) = vset_Of a1 a2 a2l a2c h K := by kernel_rfl
set_option maxRecDepth 100000 in
theorem vset_Of.calls {a1 : Int} {a2 : Option Addr} {a2l : Nat} {a2c : Nat} {h : Heap} {K : (Option Addr) → Heap → Prop} (hh : vset_Of a1 a2 a2l a2c h K) (w : World) (hw : w.heap = h) :
    (callFunc 47 #[(.int .i64 a1), (.slice a2 a2l a2c)]).run Try.prog w = .ok (.enter 47 #[(.int .i64 a1), (.slice a2 a2l a2c)]) w ∧ Calls Try.prog 47 #[(.int .i64 a1), (.slice a2 a2l a2c)] w fun e w' => ∃ v, e = .returned v ∧ Out w w' ∧ vset_Of.ret K v w'.heap := by
  rw [← vset_Of.eq] at hh
  exact fn_calls (args := [(.int .i64 a1), (.slice a2 a2l a2c)]) (c := vset_Of.code) vset_Of.ok Try.func47 (by kernel_rfl) (by kernel_rfl) (by kernel_rfl) (by kernel_rfl) (loops_ok (l := [(vset_Of.c0, none, 0, vset_Of.keep0, vset_Of.outs0)]) (by kernel_rfl) ⟨vset_Of.L0, trivial⟩) hh w hw

/-! ### strait/side.set: function 31 -/
def side_set (a1 : Option Addr) (a2 : Option Addr) (a2l : Nat) (a2c : Nat) (h : Heap) (K : (Option Addr) → Int → Heap → Prop) : Prop :=
  (qcallP1 h (net_Net_N a1 h) fun x3 => qcallP1 h (side_Check x3 a2 a2l a2c h) fun x4 => ((iteB (x4 != (0 : Int)) (K none x4 h) ((qcallP1 h (net_Net_N a1 h) fun x5 => callP1 (vset_Of x5 a2 a2l a2c h) fun x6 h7 => K x6 0 h7)))))
def side_set.ret (K : (Option Addr) → Int → Heap → Prop) (v : Value) (h : Heap) : Prop := match v with
  | (.tuple ⟨[(.pointer r8), (.int .i64 r9)]⟩) => K r8 r9 h
  | _ => False
theorem side_set.ret_elim {K : (Option Addr) → Int → Heap → Prop} {K' : Value → Heap → Prop} {v : Value} {h : Heap} (hk : ∀ r8 r9 h, K r8 r9 h → K' (.tuple #[(.pointer r8), (.int .i64 r9)]) h) (hh : side_set.ret K v h) : K' v h := by
  unfold side_set.ret at hh
  split at hh
  · exact hk _ _ _ hh
  · exact hh.elim
def side_set.call (f : FuncId) (vs : List Value) (h : Heap) (K : Value → Heap → Prop) : Prop := match f, vs with
  | 47, [(.int .i64 a1), (.slice a2 a2l a2c)] => callP1 (vset_Of a1 a2 a2l a2c h) fun r7 h' => K (.pointer r7) h'
  | _, _ => False
def side_set.qcall (f : FuncId) (vs : List Value) (h : Heap) (K : Value → Prop) : Prop := match f, vs with
  | 18, [(.int .i64 a1), (.slice a2 a2l a2c)] => qcallP1 h (side_Check a1 a2 a2l a2c h) fun r8 => K (.int .i64 r8)
  | 46, [(.pointer a1)] => qcallP1 h (net_Net_N a1 h) fun r4 => K (.int .i64 r4)
  | _, _ => False
noncomputable def side_set.ctx : Ctx := { P := Try.prog, call := side_set.call, qcall := side_set.qcall, quiet := fun f => Nat.beq f 18 || Nat.beq f 46 || Nat.beq f 1000088, loop := fun _ _ _ _ => False }
theorem side_set.ok : side_set.ctx.OK where
  mixed := by kernel_rfl
  mono := by
    intro f args h K K' hh hk
    change side_set.call f args h K at hh
    change side_set.call f args h K'
    unfold side_set.call at hh ⊢
    split at hh
    · obtain ⟨R, h1, h2⟩ := hh
      exact ⟨R, h1, fun _ x hr => hk _ _ (h2 _ x hr)⟩
    · exact hh.elim
  call := by
    intro f args h K hh w hw
    change side_set.call f args h K at hh
    unfold side_set.call at hh
    split at hh
    · obtain ⟨R, h1, h2⟩ := hh
      obtain ⟨g1, g2⟩ := vset_Of.calls h1 w hw
      exact ⟨g1, g2.mono fun e w' ⟨v, he, ho, hr⟩ => ⟨v, he, ho, vset_Of.ret_elim h2 hr⟩⟩
    · exact hh.elim
  qmono := by
    intro f args h K K' hh hk
    change side_set.qcall f args h K at hh
    change side_set.qcall f args h K'
    unfold side_set.qcall at hh ⊢
    split at hh
    · obtain ⟨x0, h1, h2⟩ := hh
      exact ⟨x0, h1, hk _ h2⟩
    · obtain ⟨x0, h1, h2⟩ := hh
      exact ⟨x0, h1, hk _ h2⟩
    · exact hh.elim
  qval := by
    intro f args h K hh
    change side_set.qcall f args h K at hh
    suffices H : ∃ v, K v ∧ side_set.qcall f args h (· = v) from H
    unfold side_set.qcall at hh ⊢
    split at hh
    · obtain ⟨x0, h1, h2⟩ := hh
      exact ⟨_, h2, x0, h1, rfl⟩
    · obtain ⟨x0, h1, h2⟩ := hh
      exact ⟨_, h2, x0, h1, rfl⟩
    · exact hh.elim
  qcall := by
    intro f args h v hh w hw
    change side_set.qcall f args h (· = v) at hh
    unfold side_set.qcall at hh
    split at hh
    · obtain ⟨x0, h1, h2⟩ := hh
      obtain ⟨g1, g2⟩ := side_Check.calls h1 w hw
      refine .inl ⟨g1, g2.mono fun e w' ⟨u, he, ho, hr⟩ => ?_⟩
      have hq := side_Check.ret_elim (K' := fun u h' => u = v ∧ h' = h) (fun _ h' hr => by obtain ⟨rfl, rfl⟩ := hr; exact ⟨h2, rfl⟩) hr
      exact ⟨hq.1 ▸ he, ho, hq.2⟩
    · obtain ⟨x0, h1, h2⟩ := hh
      obtain ⟨g1, g2⟩ := net_Net_N.calls h1 w hw
      refine .inl ⟨g1, g2.mono fun e w' ⟨u, he, ho, hr⟩ => ?_⟩
      have hq := net_Net_N.ret_elim (K' := fun u h' => u = v ∧ h' = h) (fun _ h' hr => by obtain ⟨rfl, rfl⟩ := hr; exact ⟨h2, rfl⟩) hr
      exact ⟨hq.1 ▸ he, ho, hq.2⟩
    · exact hh.elim
noncomputable def side_set.code : Code := (Try.f31.body).getD .skip
def side_set.ann : Ann := .auto
set_option maxRecDepth 100000 in
theorem side_set.eq (a1 : Option Addr) (a2 : Option Addr) (a2l : Nat) (a2c : Nat) (h : Heap) (K : (Option Addr) → Int → Heap → Prop) : evF side_set.ctx Try.f31 side_set.ann [(.pointer a1), (.slice a2 a2l a2c)] h (side_set.ret K) = side_set a1 a2 a2l a2c h K := by kernel_rfl
set_option maxRecDepth 100000 in
theorem side_set.calls {a1 : Option Addr} {a2 : Option Addr} {a2l : Nat} {a2c : Nat} {h : Heap} {K : (Option Addr) → Int → Heap → Prop} (hh : side_set a1 a2 a2l a2c h K) (w : World) (hw : w.heap = h) :
    (callFunc 31 #[(.pointer a1), (.slice a2 a2l a2c)]).run Try.prog w = .ok (.enter 31 #[(.pointer a1), (.slice a2 a2l a2c)]) w ∧ Calls Try.prog 31 #[(.pointer a1), (.slice a2 a2l a2c)] w fun e w' => ∃ v, e = .returned v ∧ Out w w' ∧ side_set.ret K v w'.heap := by
  rw [← side_set.eq] at hh
  exact fn_calls (args := [(.pointer a1), (.slice a2 a2l a2c)]) (c := side_set.code) side_set.ok Try.func31 (by kernel_rfl) (by kernel_rfl) (by kernel_rfl) (by kernel_rfl) (loops_ok (l := []) (by kernel_rfl) trivial) hh w hw

/-! ### strait/side.crossing: function 32 -/
def side_crossing (a1 : Option Addr) (a2 : Option Addr) (h : Heap) (K : Value → Heap → Prop) : Prop :=
  newP h (.cells #[(.pointer a1)] 30) fun a3 h4 => newP h4 (.cells #[(.pointer a2)] 73) fun a5 h6 => ((K (.func (.func 48) #[] #[(.pointer (some a3)), (.pointer (some a5))]) h6))
def side_crossing.ret (K : Value → Heap → Prop) (v : Value) (h : Heap) : Prop := K v h
theorem side_crossing.ret_elim {K : Value → Heap → Prop} {K' : Value → Heap → Prop} {v : Value} {h : Heap} (hk : ∀ x h, K x h → K' x h) (hh : side_crossing.ret K v h) : K' v h := hk _ _ hh
noncomputable def side_crossing.ctx : Ctx := { P := Try.prog, call := fun _ _ _ _ => False, qcall := fun _ _ _ _ => False, quiet := fun f => Nat.beq f 1000088, loop := fun _ _ _ _ => False }
theorem side_crossing.ok : side_crossing.ctx.OK where
  mixed := by kernel_rfl
  mono := fun hh _ => hh.elim
  call := fun hh => hh.elim
  qmono := fun hh _ => hh.elim
  qval := fun hh => hh.elim
  qcall := fun hh => hh.elim
noncomputable def side_crossing.code : Code := (Try.f32.body).getD .skip
def side_crossing.ann : Ann := .auto
set_option maxRecDepth 100000 in
theorem side_crossing.eq (a1 : Option Addr) (a2 : Option Addr) (h : Heap) (K : Value → Heap → Prop) : evF side_crossing.ctx Try.f32 side_crossing.ann [(.pointer a1), (.pointer a2)] h (side_crossing.ret K) = side_crossing a1 a2 h K := by kernel_rfl
set_option maxRecDepth 100000 in
theorem side_crossing.calls {a1 : Option Addr} {a2 : Option Addr} {h : Heap} {K : Value → Heap → Prop} (hh : side_crossing a1 a2 h K) (w : World) (hw : w.heap = h) :
    (callFunc 32 #[(.pointer a1), (.pointer a2)]).run Try.prog w = .ok (.enter 32 #[(.pointer a1), (.pointer a2)]) w ∧ Calls Try.prog 32 #[(.pointer a1), (.pointer a2)] w fun e w' => ∃ v, e = .returned v ∧ Out w w' ∧ side_crossing.ret K v w'.heap := by
  rw [← side_crossing.eq] at hh
  exact fn_calls (args := [(.pointer a1), (.pointer a2)]) (c := side_crossing.code) side_crossing.ok Try.func32 (by kernel_rfl) (by kernel_rfl) (by kernel_rfl) (by kernel_rfl) (loops_ok (l := []) (by kernel_rfl) trivial) hh w hw

/-! ### slices.Clone[[]strait/api.Edge,strait/api.Edge]: function 72 -/
def slices_Clone_Lapi_Edge_api_Edge (a1 : Option Addr) (a1l : Nat) (a1c : Nat) (h : Heap) (K : (Option Addr) → Nat → Nat → Heap → Prop) : Prop :=
  ((iteB a1.isNone (K none 0 0 h) ((newP h (.cells #[] 58) fun a2 h3 => ∃ n8, cellsAt h3 a1 (a1l * 3) n8 ∧ appP 58 3 24 [(.int .i64 0), (.int .i64 0), (.int .i64 0)] (some a2) 0 0 a1l n8 h3 fun q4 l5 c6 h7 => K q4 l5 c6 h7))))
def slices_Clone_Lapi_Edge_api_Edge.ret (K : (Option Addr) → Nat → Nat → Heap → Prop) (v : Value) (h : Heap) : Prop := match v with
  | (.slice r9 r9l r9c) => K r9 r9l r9c h
  | _ => False
theorem slices_Clone_Lapi_Edge_api_Edge.ret_elim {K : (Option Addr) → Nat → Nat → Heap → Prop} {K' : Value → Heap → Prop} {v : Value} {h : Heap} (hk : ∀ r9 r9l r9c h, K r9 r9l r9c h → K' (.slice r9 r9l r9c) h) (hh : slices_Clone_Lapi_Edge_api_Edge.ret K v h) : K' v h := by
  unfold slices_Clone_Lapi_Edge_api_Edge.ret at hh
  split at hh
  · exact hk _ _ _ _ hh
  · exact hh.elim
noncomputable def slices_Clone_Lapi_Edge_api_Edge.ctx : Ctx := { P := Try.prog, call := fun _ _ _ _ => False, qcall := fun _ _ _ _ => False, quiet := fun f => Nat.beq f 1000088, loop := fun _ _ _ _ => False }
theorem slices_Clone_Lapi_Edge_api_Edge.ok : slices_Clone_Lapi_Edge_api_Edge.ctx.OK where
  mixed := by kernel_rfl
  mono := fun hh _ => hh.elim
  call := fun hh => hh.elim
  qmono := fun hh _ => hh.elim
  qval := fun hh => hh.elim
  qcall := fun hh => hh.elim
noncomputable def slices_Clone_Lapi_Edge_api_Edge.code : Code := (Try.f72.body).getD .skip
def slices_Clone_Lapi_Edge_api_Edge.ann : Ann := .auto
set_option maxRecDepth 100000 in
theorem slices_Clone_Lapi_Edge_api_Edge.eq (a1 : Option Addr) (a1l : Nat) (a1c : Nat) (h : Heap) (K : (Option Addr) → Nat → Nat → Heap → Prop) : evF slices_Clone_Lapi_Edge_api_Edge.ctx Try.f72 slices_Clone_Lapi_Edge_api_Edge.ann [(.slice a1 a1l a1c)] h (slices_Clone_Lapi_Edge_api_Edge.ret K) = slices_Clone_Lapi_Edge_api_Edge a1 a1l a1c h K := by kernel_rfl
set_option maxRecDepth 100000 in
theorem slices_Clone_Lapi_Edge_api_Edge.calls {a1 : Option Addr} {a1l : Nat} {a1c : Nat} {h : Heap} {K : (Option Addr) → Nat → Nat → Heap → Prop} (hh : slices_Clone_Lapi_Edge_api_Edge a1 a1l a1c h K) (w : World) (hw : w.heap = h) :
    (callFunc 72 #[(.slice a1 a1l a1c)]).run Try.prog w = .ok (.enter 72 #[(.slice a1 a1l a1c)]) w ∧ Calls Try.prog 72 #[(.slice a1 a1l a1c)] w fun e w' => ∃ v, e = .returned v ∧ Out w w' ∧ slices_Clone_Lapi_Edge_api_Edge.ret K v w'.heap := by
  rw [← slices_Clone_Lapi_Edge_api_Edge.eq] at hh
  exact fn_calls (args := [(.slice a1 a1l a1c)]) (c := slices_Clone_Lapi_Edge_api_Edge.code) slices_Clone_Lapi_Edge_api_Edge.ok Try.func72 (by kernel_rfl) (by kernel_rfl) (by kernel_rfl) (by kernel_rfl) (loops_ok (l := []) (by kernel_rfl) trivial) hh w hw

/-! ### (*strait/net.Net).Edges: function 49 -/
def net_Net_Edges (a1 : Option Addr) (h : Heap) (K : (Option Addr) → Nat → Nat → Heap → Prop) : Prop :=
  ((iteB a1.isNone (K none 0 0 h) ((chkP a1 fun a2 => ∃ (x3 : Option Addr) (x3l : Nat) (x3c : Nat), cell h (a2.add 2) = some (.slice x3 x3l x3c) ∧ callP3 (slices_Clone_Lapi_Edge_api_Edge x3 x3l x3c h) fun x4 x4l x4c h5 => K x4 x4l x4c h5))))
def net_Net_Edges.ret (K : (Option Addr) → Nat → Nat → Heap → Prop) (v : Value) (h : Heap) : Prop := match v with
  | (.slice r6 r6l r6c) => K r6 r6l r6c h
  | _ => False
theorem net_Net_Edges.ret_elim {K : (Option Addr) → Nat → Nat → Heap → Prop} {K' : Value → Heap → Prop} {v : Value} {h : Heap} (hk : ∀ r6 r6l r6c h, K r6 r6l r6c h → K' (.slice r6 r6l r6c) h) (hh : net_Net_Edges.ret K v h) : K' v h := by
  unfold net_Net_Edges.ret at hh
  split at hh
  · exact hk _ _ _ _ hh
  · exact hh.elim
def net_Net_Edges.call (f : FuncId) (vs : List Value) (h : Heap) (K : Value → Heap → Prop) : Prop := match f, vs with
  | 72, [(.slice a1 a1l a1c)] => callP3 (slices_Clone_Lapi_Edge_api_Edge a1 a1l a1c h) fun r9 r9l r9c h' => K (.slice r9 r9l r9c) h'
  | _, _ => False
noncomputable def net_Net_Edges.ctx : Ctx := { P := Try.prog, call := net_Net_Edges.call, qcall := fun _ _ _ _ => False, quiet := fun f => Nat.beq f 1000088, loop := fun _ _ _ _ => False }
theorem net_Net_Edges.ok : net_Net_Edges.ctx.OK where
  mixed := by kernel_rfl
  mono := by
    intro f args h K K' hh hk
    change net_Net_Edges.call f args h K at hh
    change net_Net_Edges.call f args h K'
    unfold net_Net_Edges.call at hh ⊢
    split at hh
    · obtain ⟨R, h1, h2⟩ := hh
      exact ⟨R, h1, fun _ _ _ x hr => hk _ _ (h2 _ _ _ x hr)⟩
    · exact hh.elim
  call := by
    intro f args h K hh w hw
    change net_Net_Edges.call f args h K at hh
    unfold net_Net_Edges.call at hh
    split at hh
    · obtain ⟨R, h1, h2⟩ := hh
      obtain ⟨g1, g2⟩ := slices_Clone_Lapi_Edge_api_Edge.calls h1 w hw
      exact ⟨g1, g2.mono fun e w' ⟨v, he, ho, hr⟩ => ⟨v, he, ho, slices_Clone_Lapi_Edge_api_Edge.ret_elim h2 hr⟩⟩
    · exact hh.elim
  qmono := fun hh _ => hh.elim
  qval := fun hh => hh.elim
  qcall := fun hh => hh.elim
noncomputable def net_Net_Edges.code : Code := (Try.f49.body).getD .skip
def net_Net_Edges.ann : Ann := .auto
set_option maxRecDepth 100000 in
theorem net_Net_Edges.eq (a1 : Option Addr) (h : Heap) (K : (Option Addr) → Nat → Nat → Heap → Prop) : evF net_Net_Edges.ctx Try.f49 net_Net_Edges.ann [(.pointer a1)] h (net_Net_Edges.ret K) = net_Net_Edges a1 h K := by kernel_rfl
set_option maxRecDepth 100000 in
theorem net_Net_Edges.calls {a1 : Option Addr} {h : Heap} {K : (Option Addr) → Nat → Nat → Heap → Prop} (hh : net_Net_Edges a1 h K) (w : World) (hw : w.heap = h) :
    (callFunc 49 #[(.pointer a1)]).run Try.prog w = .ok (.enter 49 #[(.pointer a1)]) w ∧ Calls Try.prog 49 #[(.pointer a1)] w fun e w' => ∃ v, e = .returned v ∧ Out w w' ∧ net_Net_Edges.ret K v w'.heap := by
  rw [← net_Net_Edges.eq] at hh
  exact fn_calls (args := [(.pointer a1)]) (c := net_Net_Edges.code) net_Net_Edges.ok Try.func49 (by kernel_rfl) (by kernel_rfl) (by kernel_rfl) (by kernel_rfl) (loops_ok (l := []) (by kernel_rfl) trivial) hh w hw

/-! ### (*strait/vset.Set).Has: function 50 -/
def vset_Set_Has (a1 : Option Addr) (a2 : Int) (h : Heap) (K : Bool → Heap → Prop) : Prop :=
  (qcallP3 h (vset_Set_bit a1 a2 h) fun x3 x4 x5 => (iteB x5 (chkP x3 fun a6 => ∃ (x7 : Int), cell h a6 = some (.int .u64 x7) ∧ (K ((bits .and .u64 x7 x4) != (0 : Int)) h)) (K false h)))
def vset_Set_Has.ret (K : Bool → Heap → Prop) (v : Value) (h : Heap) : Prop := match v with
  | (.bool r9) => K r9 h
  | _ => False
theorem vset_Set_Has.ret_elim {K : Bool → Heap → Prop} {K' : Value → Heap → Prop} {v : Value} {h : Heap} (hk : ∀ r9 h, K r9 h → K' (.bool r9) h) (hh : vset_Set_Has.ret K v h) : K' v h := by
  unfold vset_Set_Has.ret at hh
  split at hh
  · exact hk _ _ hh
  · exact hh.elim
def vset_Set_Has.qcall (f : FuncId) (vs : List Value) (h : Heap) (K : Value → Prop) : Prop := match f, vs with
  | 73, [(.pointer a1), (.int .i64 a2)] => qcallP3 h (vset_Set_bit a1 a2 h) fun r10 r11 r12 => K (.tuple #[(.pointer r10), (.int .u64 r11), (.bool r12)])
  | _, _ => False
noncomputable def vset_Set_Has.ctx : Ctx := { P := Try.prog, call := fun _ _ _ _ => False, qcall := vset_Set_Has.qcall, quiet := fun f => Nat.beq f 73 || Nat.beq f 1000088, loop := fun _ _ _ _ => False }
theorem vset_Set_Has.ok : vset_Set_Has.ctx.OK where
  mixed := by kernel_rfl
  mono := fun hh _ => hh.elim
  call := fun hh => hh.elim
  qmono := by
    intro f args h K K' hh hk
    change vset_Set_Has.qcall f args h K at hh
    change vset_Set_Has.qcall f args h K'
    unfold vset_Set_Has.qcall at hh ⊢
    split at hh
    · obtain ⟨x0, x1, x2, h1, h2⟩ := hh
      exact ⟨x0, x1, x2, h1, hk _ h2⟩
    · exact hh.elim
  qval := by
    intro f args h K hh
    change vset_Set_Has.qcall f args h K at hh
    suffices H : ∃ v, K v ∧ vset_Set_Has.qcall f args h (· = v) from H
    unfold vset_Set_Has.qcall at hh ⊢
    split at hh
    · obtain ⟨x0, x1, x2, h1, h2⟩ := hh
      exact ⟨_, h2, x0, x1, x2, h1, rfl⟩
    · exact hh.elim
  qcall := by
    intro f args h v hh w hw
    change vset_Set_Has.qcall f args h (· = v) at hh
    unfold vset_Set_Has.qcall at hh
    split at hh
    · obtain ⟨x0, x1, x2, h1, h2⟩ := hh
      obtain ⟨g1, g2⟩ := vset_Set_bit.calls h1 w hw
      refine .inl ⟨g1, g2.mono fun e w' ⟨u, he, ho, hr⟩ => ?_⟩
      have hq := vset_Set_bit.ret_elim (K' := fun u h' => u = v ∧ h' = h) (fun _ _ _ h' hr => by obtain ⟨rfl, rfl, rfl, rfl⟩ := hr; exact ⟨h2, rfl⟩) hr
      exact ⟨hq.1 ▸ he, ho, hq.2⟩
    · exact hh.elim
noncomputable def vset_Set_Has.code : Code := (Try.f50.body).getD .skip
def vset_Set_Has.ann : Ann := .auto
set_option maxRecDepth 100000 in
theorem vset_Set_Has.eq (a1 : Option Addr) (a2 : Int) (h : Heap) (K : Bool → Heap → Prop) : evF vset_Set_Has.ctx Try.f50 vset_Set_Has.ann [(.pointer a1), (.int .i64 a2)] h (vset_Set_Has.ret K) = vset_Set_Has a1 a2 h K := by kernel_rfl
set_option maxRecDepth 100000 in
theorem vset_Set_Has.calls {a1 : Option Addr} {a2 : Int} {h : Heap} {K : Bool → Heap → Prop} (hh : vset_Set_Has a1 a2 h K) (w : World) (hw : w.heap = h) :
    (callFunc 50 #[(.pointer a1), (.int .i64 a2)]).run Try.prog w = .ok (.enter 50 #[(.pointer a1), (.int .i64 a2)]) w ∧ Calls Try.prog 50 #[(.pointer a1), (.int .i64 a2)] w fun e w' => ∃ v, e = .returned v ∧ Out w w' ∧ vset_Set_Has.ret K v w'.heap := by
  rw [← vset_Set_Has.eq] at hh
  exact fn_calls (args := [(.pointer a1), (.int .i64 a2)]) (c := vset_Set_Has.code) vset_Set_Has.ok Try.func50 (by kernel_rfl) (by kernel_rfl) (by kernel_rfl) (by kernel_rfl) (loops_ok (l := []) (by kernel_rfl) trivial) hh w hw

end Go.Proofs.Ytbhndlpjfncliaa
