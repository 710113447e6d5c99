/- WRITTEN BY A PROGRAM OF THIS SESSION (gen.py): what each function asks of memory, and that the model's run comes to it. -/
import Derived.Test.YtfidcekobjmamaaDoorProg
import Derived.Test.YtfidcekobjmamaaDoorFw8
import Derived.Test.YtfidcekobjmamaaDoorG1
namespace Go.Proofs.YtfidcekobjmamaaDoor
open Go.Hp
set_option linter.unusedVariables false
set_option linter.unusedSimpArgs false

/-! ### strait/straitlaw32.LiftAbove: function 3 -/
def straitlaw32_LiftAbove (a1 : Option Addr) (a1l : Nat) (a1c : Nat) (a2 : Option Addr) (a2l : Nat) (a2c : Nat) (a3 : Int) (a4 : Int) (a5 : Int) (a6 : Int) (h : Heap) (K : Bool → Heap → Prop) : Prop :=
  newP h (.cells #[(.slice a1 a1l a1c), (.slice a2 a2l a2c)] 25) fun a7 h8 => newP h8 (.cells #[(.int .i64 a3), (.int .i64 a4), (.int .i64 a5), (.int .i64 a6)] 26) fun a9 h10 => (let j74 : Prop := (∃ (x20 : Option Addr) (x20l : Nat) (x20c : Nat), cell h10 a7 = some (.slice x20 x20l x20c) ∧ ∃ (x21 : Option Addr) (x21l : Nat) (x21c : Nat), cell h10 (a7.add 1) = some (.slice x21 x21l x21c) ∧ callP2 (lift_New x20 x20l x20c x21 x21l x21c h10) fun x22 x23 h24 => ((0 ≤ (0 : Int) ∧ (0 : Int) < (4 : Int)) ∧ ∃ (x25 : Int), cell h24 (a9.add ((0 : Int).toNat * 1)) = some (.int .i64 x25) ∧ (0 ≤ (1 : Int) ∧ (1 : Int) < (4 : Int)) ∧ ∃ (x26 : Int), cell h24 (a9.add ((1 : Int).toNat * 1)) = some (.int .i64 x26) ∧ (0 ≤ (2 : Int) ∧ (2 : Int) < (4 : Int)) ∧ ∃ (x27 : Int), cell h24 (a9.add ((2 : Int).toNat * 1)) = some (.int .i64 x27) ∧ (0 ≤ (3 : Int) ∧ (3 : Int) < (4 : Int)) ∧ ∃ (x28 : Int), cell h24 (a9.add ((3 : Int).toNat * 1)) = some (.int .i64 x28) ∧ (let j34 := (fun (y31 : Bool) => iteB y31 (callP1 (straitlaw32_awake h24) fun x32 h33 => K x32 h33) ((callP1 (lift_Table_Meet x22 x25 x26 h24) fun x35 h36 => (qcallP1 h36 (lift_Table_Depth x22 x25 h36) fun x37 => qcallP1 h36 (lift_Table_Depth x22 x35 h36) fun x38 => qcallP1 h36 (lift_Table_Depth x22 x26 h36) fun x39 => qcallP1 h36 (lift_Table_Depth x22 x35 h36) fun x40 => (let j73 := (fun (y58 : Int) (y59 : Int) (h60 : Heap) => iteB (y58 == (0 : Int)) (callP1 (straitlaw32_awake h60) fun x61 h62 => K x61 h62) (iteB (y59 == (0 : Int)) (callP1 (straitlaw32_awake h60) fun x63 h64 => K x63 h64) (callP1 (lift_Table_Up x22 x25 (IntKind.i64.wrap (y58 - 1)) h60) fun x65 h66 => callP1 (lift_Table_Up x22 x26 (IntKind.i64.wrap (y59 - 1)) h66) fun x67 h68 => iteB (x65 != x67) (callP1 (straitlaw32_awake h68) fun x69 h70 => K x69 h70) (K false h68))));
  callP1 (lift_Table_Up x22 x25 (IntKind.i64.wrap (x27 + x28)) h36) fun x41 h42 => callP1 (lift_Table_Up x22 x25 x27 h42) fun x43 h44 => callP1 (lift_Table_Up x22 x43 x28 h44) fun x45 h46 => iteB (x41 != x45) (K false h46) (callP1 (lift_Table_Up x22 x25 (IntKind.i64.wrap (x37 - x38)) h46) fun x47 h48 => iteB (x47 != x35) (K false h48) (callP1 (lift_Table_Up x22 x26 (IntKind.i64.wrap (x39 - x40)) h48) fun x49 h50 => iteB (x49 != x35) (K false h50) (callP1 (lift_Table_Far x22 x25 x26 h50) fun x51 h52 => bindV (IntKind.i64.wrap ((IntKind.i64.wrap (x37 - x38)) + (IntKind.i64.wrap (x39 - x40)))) fun n53 => (iteB (x51 != n53) (K false h52) ((j73 (IntKind.i64.wrap (x37 - x38)) (IntKind.i64.wrap (x39 - x40)) h52)))))))))));
  iteB (x23 != (0 : Int)) ((j34 true)) (iteB (decide (x27 < (0 : Int))) ((j34 true)) (iteB (decide (x28 < (0 : Int))) ((j34 true)) (iteB (decide (x27 > (50 : Int))) ((j34 true)) (iteB (decide (x28 > (50 : Int))) ((j34 true)) (qcallP1 h24 (lift_Table_Depth x22 x25 h24) fun x29 => iteB (decide (x29 < (0 : Int))) ((j34 true)) (qcallP1 h24 (lift_Table_Depth x22 x26 h24) fun x30 => (j34 (decide (x30 < (0 : Int)))))))))))));
  ∃ (x11 : Option Addr) (x11l : Nat) (x11c : Nat), cell h10 a7 = some (.slice x11 x11l x11c) ∧ iteB (decide ((x11l : Int) > (40 : Int))) ((callP1 (straitlaw32_awake h10) fun x16 h17 => K x16 h17)) (∃ (x12 : Option Addr) (x12l : Nat) (x12c : Nat), cell h10 (a7.add 1) = some (.slice x12 x12l x12c) ∧ (iteB (decide ((x12l : Int) > (5000 : Int))) (callP1 (straitlaw32_awake h10) fun x18 h19 => K x18 h19) ((j74)))))
def straitlaw32_LiftAbove.ret (K : Bool → Heap → Prop) (v : Value) (h : Heap) : Prop := match v with
  | (.bool r75) => K r75 h
  | _ => False
theorem straitlaw32_LiftAbove.ret_elim {K : Bool → Heap → Prop} {K' : Value → Heap → Prop} {v : Value} {h : Heap} (hk : ∀ r75 h, K r75 h → K' (.bool r75) h) (hh : straitlaw32_LiftAbove.ret K v h) : K' v h := by
  unfold straitlaw32_LiftAbove.ret at hh
  split at hh
  · exact hk _ _ hh
  · exact hh.elim
def straitlaw32_LiftAbove.call (f : FuncId) (vs : List Value) (h : Heap) (K : Value → Heap → Prop) : Prop := match f, vs with
  | 6, [] => callP1 (straitlaw32_awake h) fun r19 h' => K (.bool r19) h'
  | 7, [(.agg ⟨[(.slice a1 a1l a1c), (.slice a2 a2l a2c)]⟩)] => callP2 (lift_New a1 a1l a1c a2 a2l a2c h) fun r44 r45 h' => K (.tuple #[(.pointer r44), (.int .i64 r45)]) h'
  | 9, [(.pointer a1), (.int .i64 a2), (.int .i64 a3)] => callP1 (lift_Table_Meet a1 a2 a3 h) fun r28 h' => K (.int .i64 r28) h'
  | 10, [(.pointer a1), (.int .i64 a2), (.int .i64 a3)] => callP1 (lift_Table_Up a1 a2 a3 h) fun r31 h' => K (.int .i64 r31) h'
  | 11, [(.pointer a1), (.int .i64 a2), (.int .i64 a3)] => callP1 (lift_Table_Far a1 a2 a3 h) fun r19 h' => K (.int .i64 r19) h'
  | _, _ => False
def straitlaw32_LiftAbove.qcall (f : FuncId) (vs : List Value) (h : Heap) (K : Value → Prop) : Prop := match f, vs with
  | 8, [(.pointer a1), (.int .i64 a2)] => qcallP1 h (lift_Table_Depth a1 a2 h) fun r8 => K (.int .i64 r8)
  | _, _ => False
noncomputable def straitlaw32_LiftAbove.ctx : Ctx := { P := Tryd.prog, call := straitlaw32_LiftAbove.call, qcall := straitlaw32_LiftAbove.qcall, quiet := fun f => Nat.beq f 8, loop := fun _ _ _ _ => False }
theorem straitlaw32_LiftAbove.ok : straitlaw32_LiftAbove.ctx.OK where
  mixed := by kernel_rfl
  mono := by
    intro f args h K K' hh hk
    change straitlaw32_LiftAbove.call f args h K at hh
    change straitlaw32_LiftAbove.call f args h K'
    unfold straitlaw32_LiftAbove.call at hh ⊢
    split at hh
    · obtain ⟨R, h1, h2⟩ := hh
      exact ⟨R, h1, fun _ x hr => hk _ _ (h2 _ x hr)⟩
    · obtain ⟨R, h1, h2⟩ := hh
      exact ⟨R, h1, fun _ _ x hr => hk _ _ (h2 _ _ x hr)⟩
    · obtain ⟨R, h1, h2⟩ := hh
      exact ⟨R, h1, fun _ x hr => hk _ _ (h2 _ x hr)⟩
    · obtain ⟨R, h1, h2⟩ := hh
      exact ⟨R, h1, fun _ x hr => hk _ _ (h2 _ x hr)⟩
    · obtain ⟨R, h1, h2⟩ := hh
      exact ⟨R, h1, fun _ x hr => hk _ _ (h2 _ x hr)⟩
    · exact hh.elim
  call := by
    intro f args h K hh w hw
    change straitlaw32_LiftAbove.call f args h K at hh
    unfold straitlaw32_LiftAbove.call at hh
    split at hh
    · obtain ⟨R, h1, h2⟩ := hh
      obtain ⟨g1, g2⟩ := straitlaw32_awake.calls h1 w hw
      exact ⟨g1, g2.mono fun e w' ⟨v, he, ho, hr⟩ => ⟨v, he, ho, straitlaw32_awake.ret_elim h2 hr⟩⟩
    · obtain ⟨R, h1, h2⟩ := hh
      obtain ⟨g1, g2⟩ := lift_New.calls h1 w hw
      exact ⟨g1, g2.mono fun e w' ⟨v, he, ho, hr⟩ => ⟨v, he, ho, lift_New.ret_elim h2 hr⟩⟩
    · obtain ⟨R, h1, h2⟩ := hh
      obtain ⟨g1, g2⟩ := lift_Table_Meet.calls h1 w hw
      exact ⟨g1, g2.mono fun e w' ⟨v, he, ho, hr⟩ => ⟨v, he, ho, lift_Table_Meet.ret_elim h2 hr⟩⟩
    · obtain ⟨R, h1, h2⟩ := hh
      obtain ⟨g1, g2⟩ := lift_Table_Up.calls h1 w hw
      exact ⟨g1, g2.mono fun e w' ⟨v, he, ho, hr⟩ => ⟨v, he, ho, lift_Table_Up.ret_elim h2 hr⟩⟩
    · obtain ⟨R, h1, h2⟩ := hh
      obtain ⟨g1, g2⟩ := lift_Table_Far.calls h1 w hw
      exact ⟨g1, g2.mono fun e w' ⟨v, he, ho, hr⟩ => ⟨v, he, ho, lift_Table_Far.ret_elim h2 hr⟩⟩
    · exact hh.elim
  qmono := by
    intro f args h K K' hh hk
    change straitlaw32_LiftAbove.qcall f args h K at hh
    change straitlaw32_LiftAbove.qcall f args h K'
    unfold straitlaw32_LiftAbove.qcall at hh ⊢
    split at hh
    · obtain ⟨x0, h1, h2⟩ := hh
      exact ⟨x0, h1, hk _ h2⟩
    · exact hh.elim
  qval := by
    intro f args h K hh
    change straitlaw32_LiftAbove.qcall f args h K at hh
    suffices H : ∃ v, K v ∧ straitlaw32_LiftAbove.qcall f args h (· = v) from H
    unfold straitlaw32_LiftAbove.qcall at hh ⊢
    split at hh
    · obtain ⟨x0, h1, h2⟩ := hh
      exact ⟨_, h2, x0, h1, rfl⟩
    · exact hh.elim
  qcall := by
    intro f args h v hh w hw
    change straitlaw32_LiftAbove.qcall f args h (· = v) at hh
    unfold straitlaw32_LiftAbove.qcall at hh
    split at hh
    · obtain ⟨x0, h1, h2⟩ := hh
      obtain ⟨g1, g2⟩ := lift_Table_Depth.calls h1 w hw
      refine .inl ⟨g1, g2.mono fun e w' ⟨u, he, ho, hr⟩ => ?_⟩
      have hq := lift_Table_Depth.ret_elim (K' := fun u h' => u = v ∧ h' = h) (fun _ h' hr => by obtain ⟨rfl, rfl⟩ := hr; exact ⟨h2, rfl⟩) hr
      exact ⟨hq.1 ▸ he, ho, hq.2⟩
    · exact hh.elim
noncomputable def straitlaw32_LiftAbove.code : Code := (Tryd.f3.body).getD .skip
def straitlaw32_LiftAbove.ann : Ann := (.two .auto (.two .auto (.two .auto (.two (.reg [0, 1, 0, 4, 0, 16, 0, 64, 3, 271, 831, 2047] (.take 0 (.take 1 (.take 2 (.take 3 (.take 4 (.take 5 (.take 6 (.take 7 (.take 8 (.take 9 (.take 10 (.take 11 .done))))))))))))) .auto))))
set_option maxRecDepth 100000 in
theorem straitlaw32_LiftAbove.eq (a1 : Option Addr) (a1l : Nat) (a1c : Nat) (a2 : Option Addr) (a2l : Nat) (a2c : Nat) (a3 : Int) (a4 : Int) (a5 : Int) (a6 : Int) (h : Heap) (K : Bool → Heap → Prop) : evF straitlaw32_LiftAbove.ctx Tryd.f3 straitlaw32_LiftAbove.ann [(.agg #[(.slice a1 a1l a1c), (.slice a2 a2l a2c)]), (.agg #[(.int .i64 a3), (.int .i64 a4), (.int .i64 a5), (.int .i64 a6)])] h (straitlaw32_LiftAbove.ret K) = straitlaw32_LiftAbove a1 a1l a1c a2 a2l a2c a3 a4 a5 a6 h K := by kernel_rfl
set_option maxRecDepth 100000 in
theorem straitlaw32_LiftAbove.calls {a1 : Option Addr} {a1l : Nat} {a1c : Nat} {a2 : Option Addr} {a2l : Nat} {a2c : Nat} {a3 : Int} {a4 : Int} {a5 : Int} {a6 : Int} {h : Heap} {K : Bool → Heap → Prop} (hh : straitlaw32_LiftAbove a1 a1l a1c a2 a2l a2c a3 a4 a5 a6 h K) (w : World) (hw : w.heap = h) :
    (callFunc 3 #[(.agg #[(.slice a1 a1l a1c), (.slice a2 a2l a2c)]), (.agg #[(.int .i64 a3), (.int .i64 a4), (.int .i64 a5), (.int .i64 a6)])]).run Tryd.prog w = .ok (.enter 3 #[(.agg #[(.slice a1 a1l a1c), (.slice a2 a2l a2c)]), (.agg #[(.int .i64 a3), (.int .i64 a4), (.int .i64 a5), (.int .i64 a6)])]) w ∧ Calls Tryd.prog 3 #[(.agg #[(.slice a1 a1l a1c), (.slice a2 a2l a2c)]), (.agg #[(.int .i64 a3), (.int .i64 a4), (.int .i64 a5), (.int .i64 a6)])] w fun e w' => ∃ v, e = .returned v ∧ Out w w' ∧ straitlaw32_LiftAbove.ret K v w'.heap := by
  rw [← straitlaw32_LiftAbove.eq] at hh
  exact fn_calls (args := [(.agg #[(.slice a1 a1l a1c), (.slice a2 a2l a2c)]), (.agg #[(.int .i64 a3), (.int .i64 a4), (.int .i64 a5), (.int .i64 a6)])]) (c := straitlaw32_LiftAbove.code) straitlaw32_LiftAbove.ok Tryd.func3 (by kernel_rfl) (by kernel_rfl) (by kernel_rfl) (by kernel_rfl) (loops_ok (l := []) (by kernel_rfl) trivial) hh w hw

/-! ### strait/straitref29.Up: function 29 -/
def straitref29_Up.b0 (K2 : (Option Addr) → Nat → Nat → Heap → Prop) (cont : Int → Addr → (Option Addr) → Nat → Nat → Heap → Prop) (v1_1001 : Int) (c2_1002 : Addr) (v5_1003 : Option Addr) (v5_1003l : Nat) (v5_1003c : Nat) (h1004 : Heap) : Prop :=
  let j1018 : Prop := (newP h1004 (.cells #[(.int .i64 v1_1001)] 3) fun a1008 h1009 => ∃ n1014, cellsAt h1009 (some a1008) (1 * 1) n1014 ∧ appP 3 1 8 [(.int .i64 0)] v5_1003 v5_1003l v5_1003c 1 n1014 h1009 fun q1010 l1011 c1012 h1013 => (∃ (x1015 : Option Addr) (x1015l : Nat) (x1015c : Nat), cell h1013 c2_1002 = some (.slice x1015 x1015l x1015c) ∧ chkP x1015 fun a1016 => (0 ≤ v1_1001 ∧ v1_1001 < (x1015l : Int)) ∧ ∃ (x1017 : Int), cell h1013 (a1016.add (v1_1001.toNat * 1)) = some (.int .i64 x1017) ∧ cont x1017 c2_1002 q1010 l1011 c1012 h1013));
  iteB (decide (v1_1001 ≥ (0 : Int))) (∃ (x1005 : Option Addr) (x1005l : Nat) (x1005c : Nat), cell h1004 c2_1002 = some (.slice x1005 x1005l x1005c) ∧ iteB (decide (v1_1001 < (x1005l : Int))) (∃ (x1006 : Option Addr) (x1006l : Nat) (x1006c : Nat), cell h1004 c2_1002 = some (.slice x1006 x1006l x1006c) ∧ (iteB (decide ((v5_1003l : Int) ≤ (x1006l : Int))) ((j1018)) (K2 v5_1003 v5_1003l v5_1003c h1004))) (K2 v5_1003 v5_1003l v5_1003c h1004)) (K2 v5_1003 v5_1003l v5_1003c h1004)
def straitref29_Up.l0 (K2 : (Option Addr) → Nat → Nat → Heap → Prop) : Nat → Int → Addr → (Option Addr) → Nat → Nat → Heap → Prop
  | 0, _, _, _, _, _, _ => False
  | m + 1, v1_1001, c2_1002, v5_1003, v5_1003l, v5_1003c, h => straitref29_Up.b0 K2 (straitref29_Up.l0 K2 m) v1_1001 c2_1002 v5_1003 v5_1003l v5_1003c h
def straitref29_Up (a1 : Option Addr) (a1l : Nat) (a1c : Nat) (a2 : Option Addr) (a2l : Nat) (a2c : Nat) (a3 : Int) (h : Heap) (K : (Option Addr) → Nat → Nat → Heap → Prop) : Prop :=
  newP h (.cells #[(.slice a1 a1l a1c), (.slice a2 a2l a2c)] 25) fun a4 h5 => ((∃ m8, straitref29_Up.l0 (fun z6 z6l z6c h7 => (K z6 z6l z6c h7)) m8 a3 a4 none 0 0 h5))
def straitref29_Up.ret (K : (Option Addr) → Nat → Nat → Heap → Prop) (v : Value) (h : Heap) : Prop := match v with
  | (.slice r9 r9l r9c) => K r9 r9l r9c h
  | _ => False
theorem straitref29_Up.ret_elim {K : (Option Addr) → Nat → Nat → Heap → Prop} {K' : Value → Heap → Prop} {v : Value} {h : Heap} (hk : ∀ r9 r9l r9c h, K r9 r9l r9c h → K' (.slice r9 r9l r9c) h) (hh : straitref29_Up.ret K v h) : K' v h := by
  unfold straitref29_Up.ret at hh
  split at hh
  · exact hk _ _ _ _ hh
  · exact hh.elim
def straitref29_Up.r0 (K : Nat → List Value → Heap → Prop) (m : Nat) (vs : List Value) (h : Heap) : Prop := match vs with
  | [(.int .i64 v1_1001), (.pointer (some c2_1002)), (.slice v5_1003 v5_1003l v5_1003c)] => straitref29_Up.l0 (fun z10 z10l z10c h' => K 2 [(.slice z10 z10l z10c)] h') m v1_1001 c2_1002 v5_1003 v5_1003l v5_1003c h
  | _ => False
def straitref29_Up.loop (i : Nat) (vs : List Value) (h : Heap) (K : Nat → List Value → Heap → Prop) : Prop := match i with
  | 0 => ∃ m, straitref29_Up.r0 K m vs h
  | _ => False
noncomputable def straitref29_Up.ctx : Ctx := { P := Tryd.prog, call := fun _ _ _ _ => False, qcall := fun _ _ _ _ => False, quiet := fun f => false, loop := straitref29_Up.loop }
theorem straitref29_Up.ok : straitref29_Up.ctx.OK where
  mixed := by kernel_rfl
  mono := fun hh _ => hh.elim
  call := fun hh => hh.elim
  qmono := fun hh _ => hh.elim
  qval := fun hh => hh.elim
  qcall := fun hh => hh.elim
noncomputable def straitref29_Up.code : Code := (Tryd.f29.body).getD .skip
def straitref29_Up.ann : Ann := (.two .auto (.two .auto (.two (.two (.loop 0 [1, 2, 5] [(2, [5])] .auto) .auto) .auto)))
noncomputable def straitref29_Up.c0 : Code := sub straitref29_Up.code [1, 1, 0, 0, 0]
def straitref29_Up.a0 : Ann := .auto
def straitref29_Up.keep0 : List Nat := [1, 2, 5]
def straitref29_Up.outs0 : List (Nat × List Nat) := [(2, [5])]
set_option maxRecDepth 100000 in
theorem straitref29_Up.L0 : LoopOK straitref29_Up.ctx 33 straitref29_Up.c0 0 straitref29_Up.keep0 straitref29_Up.outs0 := by
  refine loop_ok (n := straitref29_Up.a0) straitref29_Up.ok (by kernel_rfl) (loops_ok (l := []) (by kernel_rfl) ?_) straitref29_Up.r0 ?_ ?_ (fun vs h K hh => hh)
  · exact trivial
  · intro K vs h hh
    unfold straitref29_Up.r0 at hh
    split at hh
    · exact hh
    · exact hh
  · intro K m vs h hh
    unfold straitref29_Up.r0 at hh
    split at hh
    · exact cast (by kernel_rfl) hh
    · exact hh.elim
set_option maxRecDepth 100000 in
theorem straitref29_Up.eq (a1 : Option Addr) (a1l : Nat) (a1c : Nat) (a2 : Option Addr) (a2l : Nat) (a2c : Nat) (a3 : Int) (h : Heap) (K : (Option Addr) → Nat → Nat → Heap → Prop) : evF straitref29_Up.ctx Tryd.f29 straitref29_Up.ann [(.agg #[(.slice a1 a1l a1c), (.slice a2 a2l a2c)]), (.int .i64 a3)] h (straitref29_Up.ret K) = straitref29_Up a1 a1l a1c a2 a2l a2c a3 h K := by kernel_rfl
set_option maxRecDepth 100000 in
theorem straitref29_Up.calls {a1 : Option Addr} {a1l : Nat} {a1c : Nat} {a2 : Option Addr} {a2l : Nat} {a2c : Nat} {a3 : Int} {h : Heap} {K : (Option Addr) → Nat → Nat → Heap → Prop} (hh : straitref29_Up a1 a1l a1c a2 a2l a2c a3 h K) (w : World) (hw : w.heap = h) :
    (callFunc 29 #[(.agg #[(.slice a1 a1l a1c), (.slice a2 a2l a2c)]), (.int .i64 a3)]).run Tryd.prog w = .ok (.enter 29 #[(.agg #[(.slice a1 a1l a1c), (.slice a2 a2l a2c)]), (.int .i64 a3)]) w ∧ Calls Tryd.prog 29 #[(.agg #[(.slice a1 a1l a1c), (.slice a2 a2l a2c)]), (.int .i64 a3)] w fun e w' => ∃ v, e = .returned v ∧ Out w w' ∧ straitref29_Up.ret K v w'.heap := by
  rw [← straitref29_Up.eq] at hh
  exact fn_calls (args := [(.agg #[(.slice a1 a1l a1c), (.slice a2 a2l a2c)]), (.int .i64 a3)]) (c := straitref29_Up.code) straitref29_Up.ok Tryd.func29 (by kernel_rfl) (by kernel_rfl) (by kernel_rfl) (by kernel_rfl) (loops_ok (l := [(straitref29_Up.c0, none, 0, straitref29_Up.keep0, straitref29_Up.outs0)]) (by kernel_rfl) ⟨straitref29_Up.L0, trivial⟩) hh w hw

/-! ### strait/straitref29.Right: function 12 -/
def straitref29_Right.b1 (K0 : Bool → Heap → Prop) (K4 : Heap → Prop) (cont : Addr → Int → Heap → Prop) (c1_2001 : Addr) (v5_2002 : Int) (h2003 : Heap) : Prop :=
  ∃ (x2004 : Option Addr) (x2004l : Nat) (x2004c : Nat), cell h2003 c1_2001 = some (.slice x2004 x2004l x2004c) ∧ (iteB (decide (v5_2002 < (x2004l : Int))) ((∃ (x2005 : Option Addr) (x2005l : Nat) (x2005c : Nat), cell h2003 c1_2001 = some (.slice x2005 x2005l x2005c) ∧ ∃ (x2006 : Option Addr) (x2006l : Nat) (x2006c : Nat), cell h2003 (c1_2001.add 1) = some (.slice x2006 x2006l x2006c) ∧ ∃ (x2007 : Option Addr) (x2007l : Nat) (x2007c : Nat), cell h2003 c1_2001 = some (.slice x2007 x2007l x2007c) ∧ callP3 (straitref29_Up x2005 x2005l x2005c x2006 x2006l x2006c v5_2002 h2003) fun x2008 x2008l x2008c h2009 => (∃ (x2010 : Option Addr) (x2010l : Nat) (x2010c : Nat), cell h2009 c1_2001 = some (.slice x2010 x2010l x2010c) ∧ ((.slice x2010 x2010l x2010c) : Value) = (.slice x2007 x2007l x2007c)) ∧ (iteB (decide ((x2008l : Int) > (x2007l : Int))) (K0 false h2009) (((cont c1_2001 (IntKind.i64.wrap (v5_2002 + 1)) h2009)))))) (K4 h2003))
def straitref29_Right.l1 (K0 : Bool → Heap → Prop) (K4 : Heap → Prop) : Nat → Addr → Int → Heap → Prop
  | 0, _, _, _ => False
  | m + 1, c1_2001, v5_2002, h => straitref29_Right.b1 K0 K4 (straitref29_Right.l1 K0 K4 m) c1_2001 v5_2002 h
def straitref29_Right.b0 (K0 : Bool → Heap → Prop) (K2 : Int → Heap → Prop) (cont : Addr → Int → Int → Heap → Prop) (c1_1001 : Addr) (v3_1002 : Int) (v4_1003 : Int) (h1004 : Heap) : Prop :=
  ∃ (x1005 : Option Addr) (x1005l : Nat) (x1005c : Nat), cell h1004 c1_1001 = some (.slice x1005 x1005l x1005c) ∧ (iteB (decide (v4_1003 < (x1005l : Int))) ((let j1023 : Prop := (∃ (x1017 : Option Addr) (x1017l : Nat) (x1017c : Nat), cell h1004 c1_1001 = some (.slice x1017 x1017l x1017c) ∧ chkP x1017 fun a1018 => (0 ≤ v4_1003 ∧ v4_1003 < (x1017l : Int)) ∧ ∃ (x1019 : Int), cell h1004 (a1018.add (v4_1003.toNat * 1)) = some (.int .i64 x1019) ∧ (iteB (x1019 == ((-1) : Int)) ((∃ (x1020 : Option Addr) (x1020l : Nat) (x1020c : Nat), cell h1004 (c1_1001.add 1) = some (.slice x1020 x1020l x1020c) ∧ chkP x1020 fun a1021 => (0 ≤ v4_1003 ∧ v4_1003 < (x1020l : Int)) ∧ ∃ (x1022 : Int), cell h1004 (a1021.add (v4_1003.toNat * 1)) = some (.int .i64 x1022) ∧ (iteB (x1022 != (0 : Int)) (K0 false h1004) (((cont c1_1001 (IntKind.i64.wrap (v3_1002 + 1)) (IntKind.i64.wrap (v4_1003 + 1)) h1004)))))) (((cont c1_1001 v3_1002 (IntKind.i64.wrap (v4_1003 + 1)) h1004)))));
  ∃ (x1006 : Option Addr) (x1006l : Nat) (x1006c : Nat), cell h1004 c1_1001 = some (.slice x1006 x1006l x1006c) ∧ chkP x1006 fun a1007 => (0 ≤ v4_1003 ∧ v4_1003 < (x1006l : Int)) ∧ ∃ (x1008 : Int), cell h1004 (a1007.add (v4_1003.toNat * 1)) = some (.int .i64 x1008) ∧ iteB (decide (x1008 < ((-1) : Int))) (K0 false h1004) (∃ (x1009 : Option Addr) (x1009l : Nat) (x1009c : Nat), cell h1004 c1_1001 = some (.slice x1009 x1009l x1009c) ∧ chkP x1009 fun a1010 => (0 ≤ v4_1003 ∧ v4_1003 < (x1009l : Int)) ∧ ∃ (x1011 : Int), cell h1004 (a1010.add (v4_1003.toNat * 1)) = some (.int .i64 x1011) ∧ ∃ (x1012 : Option Addr) (x1012l : Nat) (x1012c : Nat), cell h1004 c1_1001 = some (.slice x1012 x1012l x1012c) ∧ iteB (decide (x1011 ≥ (x1012l : Int))) (K0 false h1004) (∃ (x1013 : Option Addr) (x1013l : Nat) (x1013c : Nat), cell h1004 (c1_1001.add 1) = some (.slice x1013 x1013l x1013c) ∧ chkP x1013 fun a1014 => (0 ≤ v4_1003 ∧ v4_1003 < (x1013l : Int)) ∧ ∃ (x1015 : Int), cell h1004 (a1014.add (v4_1003.toNat * 1)) = some (.int .i64 x1015) ∧ (iteB (decide (x1015 < (0 : Int))) (K0 false h1004) ((j1023))))))) (K2 v3_1002 h1004))
def straitref29_Right.l0 (K0 : Bool → Heap → Prop) (K2 : Int → Heap → Prop) : Nat → Addr → Int → Int → Heap → Prop
  | 0, _, _, _, _ => False
  | m + 1, c1_1001, v3_1002, v4_1003, h => straitref29_Right.b0 K0 K2 (straitref29_Right.l0 K0 K2 m) c1_1001 v3_1002 v4_1003 h
def straitref29_Right (a1 : Option Addr) (a1l : Nat) (a1c : Nat) (a2 : Option Addr) (a2l : Nat) (a2c : Nat) (h : Heap) (K : Bool → Heap → Prop) : Prop :=
  newP h (.cells #[(.slice a1 a1l a1c), (.slice a2 a2l a2c)] 25) fun a3 h4 => (let j32 : Prop := (((∃ m13, straitref29_Right.l0 (fun z9 h10 => K z9 h10) (fun z11 h12 => ((iteB (decide (z11 > (1 : Int))) (K false h12) (iteB (z11 == (0 : Int)) (∃ (x14 : Option Addr) (x14l : Nat) (x14c : Nat), cell h12 a3 = some (.slice x14 x14l x14c) ∧ (iteB (decide ((x14l : Int) > (0 : Int))) (K false h12) (((∃ m27, straitref29_Right.l1 (fun z24 h25 => K z24 h25) (fun h26 => (K true h26)) m27 a3 0 h12))))) ((((∃ m31, straitref29_Right.l1 (fun z28 h29 => K z28 h29) (fun h30 => (K true h30)) m31 a3 0 h12)))))))) m13 a3 0 0 h4)));
  ∃ (x5 : Option Addr) (x5l : Nat) (x5c : Nat), cell h4 a3 = some (.slice x5 x5l x5c) ∧ ∃ (x6 : Option Addr) (x6l : Nat) (x6c : Nat), cell h4 (a3.add 1) = some (.slice x6 x6l x6c) ∧ iteB ((x5l : Int) != (x6l : Int)) (K false h4) (∃ (x7 : Option Addr) (x7l : Nat) (x7c : Nat), cell h4 a3 = some (.slice x7 x7l x7c) ∧ (iteB (decide ((x7l : Int) > (4096 : Int))) (K false h4) ((j32)))))
def straitref29_Right.ret (K : Bool → Heap → Prop) (v : Value) (h : Heap) : Prop := match v with
  | (.bool r33) => K r33 h
  | _ => False
theorem straitref29_Right.ret_elim {K : Bool → Heap → Prop} {K' : Value → Heap → Prop} {v : Value} {h : Heap} (hk : ∀ r33 h, K r33 h → K' (.bool r33) h) (hh : straitref29_Right.ret K v h) : K' v h := by
  unfold straitref29_Right.ret at hh
  split at hh
  · exact hk _ _ hh
  · exact hh.elim
def straitref29_Right.call (f : FuncId) (vs : List Value) (h : Heap) (K : Value → Heap → Prop) : Prop := match f, vs with
  | 29, [(.agg ⟨[(.slice a1 a1l a1c), (.slice a2 a2l a2c)]⟩), (.int .i64 a3)] => callP3 (straitref29_Up a1 a1l a1c a2 a2l a2c a3 h) fun r9 r9l r9c h' => K (.slice r9 r9l r9c) h'
  | _, _ => False
def straitref29_Right.r0 (K : Nat → List Value → Heap → Prop) (m : Nat) (vs : List Value) (h : Heap) : Prop := match vs with
  | [(.pointer (some c1_1001)), (.int .i64 v3_1002), (.int .i64 v4_1003)] => straitref29_Right.l0 (fun z34 h' => K 0 [(.bool z34)] h') (fun z35 h' => K 2 [(.pointer (some c1_1001)), (.int .i64 z35)] h') m c1_1001 v3_1002 v4_1003 h
  | _ => False
def straitref29_Right.r1 (K : Nat → List Value → Heap → Prop) (m : Nat) (vs : List Value) (h : Heap) : Prop := match vs with
  | [(.pointer (some c1_2001)), (.int .i64 v5_2002)] => straitref29_Right.l1 (fun z36 h' => K 0 [(.bool z36)] h') (fun h' => K 4 [] h') m c1_2001 v5_2002 h
  | _ => False
def straitref29_Right.loop (i : Nat) (vs : List Value) (h : Heap) (K : Nat → List Value → Heap → Prop) : Prop := match i with
  | 0 => ∃ m, straitref29_Right.r0 K m vs h
  | 1 => ∃ m, straitref29_Right.r1 K m vs h
  | _ => False
noncomputable def straitref29_Right.ctx : Ctx := { P := Tryd.prog, call := straitref29_Right.call, qcall := fun _ _ _ _ => False, quiet := fun f => false, loop := straitref29_Right.loop }
theorem straitref29_Right.ok : straitref29_Right.ctx.OK where
  mixed := by kernel_rfl
  mono := by
    intro f args h K K' hh hk
    change straitref29_Right.call f args h K at hh
    change straitref29_Right.call f args h K'
    unfold straitref29_Right.call at hh ⊢
    split at hh
    · obtain ⟨R, h1, h2⟩ := hh
      exact ⟨R, h1, fun _ _ _ x hr => hk _ _ (h2 _ _ _ x hr)⟩
    · exact hh.elim
  call := by
    intro f args h K hh w hw
    change straitref29_Right.call f args h K at hh
    unfold straitref29_Right.call at hh
    split at hh
    · obtain ⟨R, h1, h2⟩ := hh
      obtain ⟨g1, g2⟩ := straitref29_Up.calls h1 w hw
      exact ⟨g1, g2.mono fun e w' ⟨v, he, ho, hr⟩ => ⟨v, he, ho, straitref29_Up.ret_elim h2 hr⟩⟩
    · exact hh.elim
  qmono := fun hh _ => hh.elim
  qval := fun hh => hh.elim
  qcall := fun hh => hh.elim
noncomputable def straitref29_Right.code : Code := (Tryd.f12.body).getD .skip
def straitref29_Right.ann : Ann := (.two .auto (.two .auto (.two .auto (.two (.two .auto (.two (.loop 0 [1, 3, 4] [(2, [1, 3]), (0, [2])] (.two .auto (.two (.two (.two (.two (.reg [0, 1, 0, 7, 15, 31, 63, 127, 255, 127, 1023, 2047, 127, 4223, 12415, 32767, 65535, 131071, 262143, 524287, 262143, 2097151, 4194303, 8388607, 16777215] (.take 0 (.take 1 (.take 2 (.take 3 (.take 4 (.take 5 (.take 6 (.take 7 (.take 8 (.take 9 (.take 10 (.take 11 (.take 12 (.take 13 (.take 14 (.take 15 (.take 16 (.take 17 (.take 18 (.take 19 (.take 20 (.take 21 (.take 22 (.take 23 (.take 24 .done)))))))))))))))))))))))))) .auto) .auto) .auto) .auto))) .auto)) (.two .auto (.two (.two .auto (.two (.loop 1 [1, 5] [(4, []), (0, [2])] (.two .auto (.two (.two (.two (.reg [0, 0, 3, 7, 0, 16, 48, 127] (.take 0 (.take 1 (.take 4 (.early 5 (.take 6 (.alt 2 (.take 3 (.take 7 .done)) .noalt))))))) .auto) .auto) .auto))) .auto)) .auto))))))
noncomputable def straitref29_Right.c1 : Code := sub straitref29_Right.code [1, 1, 1, 1, 1, 0, 1, 0, 0]
def straitref29_Right.a1 : Ann := (.two .auto (.two (.two (.two (.reg [0, 0, 3, 7, 0, 16, 48, 127] (.take 0 (.take 1 (.take 4 (.early 5 (.take 6 (.alt 2 (.take 3 (.take 7 .done)) .noalt))))))) .auto) .auto) .auto))
def straitref29_Right.keep1 : List Nat := [1, 5]
def straitref29_Right.outs1 : List (Nat × List Nat) := [(4, []), (0, [2])]
noncomputable def straitref29_Right.c0 : Code := sub straitref29_Right.code [1, 1, 1, 0, 1, 0, 0]
def straitref29_Right.a0 : Ann := (.two .auto (.two (.two (.two (.two (.reg [0, 1, 0, 7, 15, 31, 63, 127, 255, 127, 1023, 2047, 127, 4223, 12415, 32767, 65535, 131071, 262143, 524287, 262143, 2097151, 4194303, 8388607, 16777215] (.take 0 (.take 1 (.take 2 (.take 3 (.take 4 (.take 5 (.take 6 (.take 7 (.take 8 (.take 9 (.take 10 (.take 11 (.take 12 (.take 13 (.take 14 (.take 15 (.take 16 (.take 17 (.take 18 (.take 19 (.take 20 (.take 21 (.take 22 (.take 23 (.take 24 .done)))))))))))))))))))))))))) .auto) .auto) .auto) .auto))
def straitref29_Right.keep0 : List Nat := [1, 3, 4]
def straitref29_Right.outs0 : List (Nat × List Nat) := [(2, [1, 3]), (0, [2])]
set_option maxRecDepth 100000 in
theorem straitref29_Right.L0 : LoopOK straitref29_Right.ctx 92 straitref29_Right.c0 0 straitref29_Right.keep0 straitref29_Right.outs0 := by
  refine loop_ok (n := straitref29_Right.a0) straitref29_Right.ok (by kernel_rfl) (loops_ok (l := []) (by kernel_rfl) ?_) straitref29_Right.r0 ?_ ?_ (fun vs h K hh => hh)
  · exact trivial
  · intro K vs h hh
    unfold straitref29_Right.r0 at hh
    split at hh
    · exact hh
    · exact hh
  · intro K m vs h hh
    unfold straitref29_Right.r0 at hh
    split at hh
    · exact cast (by kernel_rfl) hh
    · exact hh.elim
set_option maxRecDepth 100000 in
theorem straitref29_Right.L1 : LoopOK straitref29_Right.ctx 92 straitref29_Right.c1 1 straitref29_Right.keep1 straitref29_Right.outs1 := by
  refine loop_ok (n := straitref29_Right.a1) straitref29_Right.ok (by kernel_rfl) (loops_ok (l := []) (by kernel_rfl) ?_) straitref29_Right.r1 ?_ ?_ (fun vs h K hh => hh)
  · exact trivial
  · intro K vs h hh
    unfold straitref29_Right.r1 at hh
    split at hh
    · exact hh
    · exact hh
  · intro K m vs h hh
    unfold straitref29_Right.r1 at hh
    split at hh
    · exact cast (by kernel_rfl) hh
    · exact hh.elim
set_option maxRecDepth 100000 in
theorem straitref29_Right.eq (a1 : Option Addr) (a1l : Nat) (a1c : Nat) (a2 : Option Addr) (a2l : Nat) (a2c : Nat) (h : Heap) (K : Bool → Heap → Prop) : evF straitref29_Right.ctx Tryd.f12 straitref29_Right.ann [(.agg #[(.slice a1 a1l a1c), (.slice a2 a2l a2c)])] h (straitref29_Right.ret K) = straitref29_Right a1 a1l a1c a2 a2l a2c h K := by kernel_rfl
set_option maxRecDepth 100000 in
theorem straitref29_Right.calls {a1 : Option Addr} {a1l : Nat} {a1c : Nat} {a2 : Option Addr} {a2l : Nat} {a2c : Nat} {h : Heap} {K : Bool → Heap → Prop} (hh : straitref29_Right a1 a1l a1c a2 a2l a2c h K) (w : World) (hw : w.heap = h) :
    (callFunc 12 #[(.agg #[(.slice a1 a1l a1c), (.slice a2 a2l a2c)])]).run Tryd.prog w = .ok (.enter 12 #[(.agg #[(.slice a1 a1l a1c), (.slice a2 a2l a2c)])]) w ∧ Calls Tryd.prog 12 #[(.agg #[(.slice a1 a1l a1c), (.slice a2 a2l a2c)])] w fun e w' => ∃ v, e = .returned v ∧ Out w w' ∧ straitref29_Right.ret K v w'.heap := by
  rw [← straitref29_Right.eq] at hh
  exact fn_calls (args := [(.agg #[(.slice a1 a1l a1c), (.slice a2 a2l a2c)])]) (c := straitref29_Right.code) straitref29_Right.ok Tryd.func12 (by kernel_rfl) (by kernel_rfl) (by kernel_rfl) (by kernel_rfl) (loops_ok (l := [(straitref29_Right.c0, none, 0, straitref29_Right.keep0, straitref29_Right.outs0), (straitref29_Right.c1, none, 1, straitref29_Right.keep1, straitref29_Right.outs1)]) (by kernel_rfl) ⟨straitref29_Right.L0, straitref29_Right.L1, trivial⟩) hh w hw

/-! ### strait/straitref29.in: function 30 -/
def straitref29_in (a1 : Option Addr) (a1l : Nat) (a1c : Nat) (a2 : Option Addr) (a2l : Nat) (a2c : Nat) (a3 : Int) (h : Heap) (K : Bool → Heap → Prop) : Prop :=
  newP h (.cells #[(.slice a1 a1l a1c), (.slice a2 a2l a2c)] 25) fun a4 h5 => (∃ (x6 : Option Addr) (x6l : Nat) (x6c : Nat), cell h5 a4 = some (.slice x6 x6l x6c) ∧ ∃ (x7 : Option Addr) (x7l : Nat) (x7c : Nat), cell h5 (a4.add 1) = some (.slice x7 x7l x7c) ∧ callP1 (straitref29_Right x6 x6l x6c x7 x7l x7c h5) fun x8 h9 => iteB x8 (iteB (decide (a3 ≥ (0 : Int))) (∃ (x10 : Option Addr) (x10l : Nat) (x10c : Nat), cell h9 a4 = some (.slice x10 x10l x10c) ∧ (K (decide (a3 < (x10l : Int))) h9)) (K false h9)) (K false h9))
def straitref29_in.ret (K : Bool → Heap → Prop) (v : Value) (h : Heap) : Prop := match v with
  | (.bool r13) => K r13 h
  | _ => False
theorem straitref29_in.ret_elim {K : Bool → Heap → Prop} {K' : Value → Heap → Prop} {v : Value} {h : Heap} (hk : ∀ r13 h, K r13 h → K' (.bool r13) h) (hh : straitref29_in.ret K v h) : K' v h := by
  unfold straitref29_in.ret at hh
  split at hh
  · exact hk _ _ hh
  · exact hh.elim
def straitref29_in.call (f : FuncId) (vs : List Value) (h : Heap) (K : Value → Heap → Prop) : Prop := match f, vs with
  | 12, [(.agg ⟨[(.slice a1 a1l a1c), (.slice a2 a2l a2c)]⟩)] => callP1 (straitref29_Right a1 a1l a1c a2 a2l a2c h) fun r33 h' => K (.bool r33) h'
  | _, _ => False
noncomputable def straitref29_in.ctx : Ctx := { P := Tryd.prog, call := straitref29_in.call, qcall := fun _ _ _ _ => False, quiet := fun f => false, loop := fun _ _ _ _ => False }
theorem straitref29_in.ok : straitref29_in.ctx.OK where
  mixed := by kernel_rfl
  mono := by
    intro f args h K K' hh hk
    change straitref29_in.call f args h K at hh
    change straitref29_in.call f args h K'
    unfold straitref29_in.call at hh ⊢
    split at hh
    · obtain ⟨R, h1, h2⟩ := hh
      exact ⟨R, h1, fun _ x hr => hk _ _ (h2 _ x hr)⟩
    · exact hh.elim
  call := by
    intro f args h K hh w hw
    change straitref29_in.call f args h K at hh
    unfold straitref29_in.call at hh
    split at hh
    · obtain ⟨R, h1, h2⟩ := hh
      obtain ⟨g1, g2⟩ := straitref29_Right.calls h1 w hw
      exact ⟨g1, g2.mono fun e w' ⟨v, he, ho, hr⟩ => ⟨v, he, ho, straitref29_Right.ret_elim h2 hr⟩⟩
    · exact hh.elim
  qmono := fun hh _ => hh.elim
  qval := fun hh => hh.elim
  qcall := fun hh => hh.elim
noncomputable def straitref29_in.code : Code := (Tryd.f30.body).getD .skip
def straitref29_in.ann : Ann := .auto
set_option maxRecDepth 100000 in
theorem straitref29_in.eq (a1 : Option Addr) (a1l : Nat) (a1c : Nat) (a2 : Option Addr) (a2l : Nat) (a2c : Nat) (a3 : Int) (h : Heap) (K : Bool → Heap → Prop) : evF straitref29_in.ctx Tryd.f30 straitref29_in.ann [(.agg #[(.slice a1 a1l a1c), (.slice a2 a2l a2c)]), (.int .i64 a3)] h (straitref29_in.ret K) = straitref29_in a1 a1l a1c a2 a2l a2c a3 h K := by kernel_rfl
set_option maxRecDepth 100000 in
theorem straitref29_in.calls {a1 : Option Addr} {a1l : Nat} {a1c : Nat} {a2 : Option Addr} {a2l : Nat} {a2c : Nat} {a3 : Int} {h : Heap} {K : Bool → Heap → Prop} (hh : straitref29_in a1 a1l a1c a2 a2l a2c a3 h K) (w : World) (hw : w.heap = h) :
    (callFunc 30 #[(.agg #[(.slice a1 a1l a1c), (.slice a2 a2l a2c)]), (.int .i64 a3)]).run Tryd.prog w = .ok (.enter 30 #[(.agg #[(.slice a1 a1l a1c), (.slice a2 a2l a2c)]), (.int .i64 a3)]) w ∧ Calls Tryd.prog 30 #[(.agg #[(.slice a1 a1l a1c), (.slice a2 a2l a2c)]), (.int .i64 a3)] w fun e w' => ∃ v, e = .returned v ∧ Out w w' ∧ straitref29_in.ret K v w'.heap := by
  rw [← straitref29_in.eq] at hh
  exact fn_calls (args := [(.agg #[(.slice a1 a1l a1c), (.slice a2 a2l a2c)]), (.int .i64 a3)]) (c := straitref29_in.code) straitref29_in.ok Tryd.func30 (by kernel_rfl) (by kernel_rfl) (by kernel_rfl) (by kernel_rfl) (loops_ok (l := []) (by kernel_rfl) trivial) hh w hw

/-! ### strait/straitref21.In: function 32 -/
def straitref21_In.b0 (K0 : Bool → Heap → Prop) (K2 : Heap → Prop) (cont : (Option Addr) → Nat → Nat → Int → Int → Heap → Prop) (c0_1001 : Option Addr) (c0_1002 : Nat) (c0_1003 : Nat) (c1_1004 : Int) (v5_1005 : Int) (h1006 : Heap) : Prop :=
  (iteB (decide (v5_1005 < (c0_1002 : Int))) ((chkP c0_1001 fun a1007 => (0 ≤ v5_1005 ∧ v5_1005 < (c0_1002 : Int)) ∧ ∃ (x1008 : Int), cell h1006 (a1007.add (v5_1005.toNat * 1)) = some (.int .i64 x1008) ∧ (iteB (x1008 == c1_1004) (K0 true h1006) (((cont c0_1001 c0_1002 c0_1003 c1_1004 (IntKind.i64.wrap (v5_1005 + 1)) h1006)))))) (K2 h1006))
def straitref21_In.l0 (K0 : Bool → Heap → Prop) (K2 : Heap → Prop) : Nat → (Option Addr) → Nat → Nat → Int → Int → Heap → Prop
  | 0, _, _, _, _, _, _ => False
  | m + 1, c0_1001, c0_1002, c0_1003, c1_1004, v5_1005, h => straitref21_In.b0 K0 K2 (straitref21_In.l0 K0 K2 m) c0_1001 c0_1002 c0_1003 c1_1004 v5_1005 h
def straitref21_In (a1 : Option Addr) (a1l : Nat) (a1c : Nat) (a2 : Int) (h : Heap) (K : Bool → Heap → Prop) : Prop :=
  ((∃ m6, straitref21_In.l0 (fun z3 h4 => K z3 h4) (fun h5 => (K false h5)) m6 a1 a1l a1c a2 0 h))
def straitref21_In.ret (K : Bool → Heap → Prop) (v : Value) (h : Heap) : Prop := match v with
  | (.bool r7) => K r7 h
  | _ => False
theorem straitref21_In.ret_elim {K : Bool → Heap → Prop} {K' : Value → Heap → Prop} {v : Value} {h : Heap} (hk : ∀ r7 h, K r7 h → K' (.bool r7) h) (hh : straitref21_In.ret K v h) : K' v h := by
  unfold straitref21_In.ret at hh
  split at hh
  · exact hk _ _ hh
  · exact hh.elim
def straitref21_In.r0 (K : Nat → List Value → Heap → Prop) (m : Nat) (vs : List Value) (h : Heap) : Prop := match vs with
  | [(.slice c0_1001 c0_1002 c0_1003), (.int .i64 c1_1004), (.int .i64 v5_1005)] => straitref21_In.l0 (fun z8 h' => K 0 [(.bool z8)] h') (fun h' => K 2 [] h') m c0_1001 c0_1002 c0_1003 c1_1004 v5_1005 h
  | _ => False
def straitref21_In.loop (i : Nat) (vs : List Value) (h : Heap) (K : Nat → List Value → Heap → Prop) : Prop := match i with
  | 0 => ∃ m, straitref21_In.r0 K m vs h
  | _ => False
noncomputable def straitref21_In.ctx : Ctx := { P := Tryd.prog, call := fun _ _ _ _ => False, qcall := fun _ _ _ _ => False, quiet := fun f => false, loop := straitref21_In.loop }
theorem straitref21_In.ok : straitref21_In.ctx.OK where
  mixed := by kernel_rfl
  mono := fun hh _ => hh.elim
  call := fun hh => hh.elim
  qmono := fun hh _ => hh.elim
  qval := fun hh => hh.elim
  qcall := fun hh => hh.elim
noncomputable def straitref21_In.code : Code := (Tryd.f32.body).getD .skip
def straitref21_In.ann : Ann := (.two .auto (.two (.two .auto (.two (.loop 0 [0, 1, 5] [(2, []), (0, [4])] .auto) .auto)) .auto))
noncomputable def straitref21_In.c0 : Code := sub straitref21_In.code [1, 0, 1, 0, 0]
def straitref21_In.a0 : Ann := .auto
def straitref21_In.keep0 : List Nat := [0, 1, 5]
def straitref21_In.outs0 : List (Nat × List Nat) := [(2, []), (0, [4])]
set_option maxRecDepth 100000 in
theorem straitref21_In.L0 : LoopOK straitref21_In.ctx 18 straitref21_In.c0 0 straitref21_In.keep0 straitref21_In.outs0 := by
  refine loop_ok (n := straitref21_In.a0) straitref21_In.ok (by kernel_rfl) (loops_ok (l := []) (by kernel_rfl) ?_) straitref21_In.r0 ?_ ?_ (fun vs h K hh => hh)
  · exact trivial
  · intro K vs h hh
    unfold straitref21_In.r0 at hh
    split at hh
    · exact hh
    · exact hh
  · intro K m vs h hh
    unfold straitref21_In.r0 at hh
    split at hh
    · exact cast (by kernel_rfl) hh
    · exact hh.elim
set_option maxRecDepth 100000 in
theorem straitref21_In.eq (a1 : Option Addr) (a1l : Nat) (a1c : Nat) (a2 : Int) (h : Heap) (K : Bool → Heap → Prop) : evF straitref21_In.ctx Tryd.f32 straitref21_In.ann [(.slice a1 a1l a1c), (.int .i64 a2)] h (straitref21_In.ret K) = straitref21_In a1 a1l a1c a2 h K := by kernel_rfl
set_option maxRecDepth 100000 in
theorem straitref21_In.calls {a1 : Option Addr} {a1l : Nat} {a1c : Nat} {a2 : Int} {h : Heap} {K : Bool → Heap → Prop} (hh : straitref21_In a1 a1l a1c a2 h K) (w : World) (hw : w.heap = h) :
    (callFunc 32 #[(.slice a1 a1l a1c), (.int .i64 a2)]).run Tryd.prog w = .ok (.enter 32 #[(.slice a1 a1l a1c), (.int .i64 a2)]) w ∧ Calls Tryd.prog 32 #[(.slice a1 a1l a1c), (.int .i64 a2)] w fun e w' => ∃ v, e = .returned v ∧ Out w w' ∧ straitref21_In.ret K v w'.heap := by
  rw [← straitref21_In.eq] at hh
  exact fn_calls (args := [(.slice a1 a1l a1c), (.int .i64 a2)]) (c := straitref21_In.code) straitref21_In.ok Tryd.func32 (by kernel_rfl) (by kernel_rfl) (by kernel_rfl) (by kernel_rfl) (loops_ok (l := [(straitref21_In.c0, none, 0, straitref21_In.keep0, straitref21_In.outs0)]) (by kernel_rfl) ⟨straitref21_In.L0, trivial⟩) hh w hw

/-! ### strait/straitref29.Below: function 31 -/
def straitref29_Below.b0 (K2 : (Option Addr) → Nat → Nat → Heap → Prop) (cont : Int → Addr → (Option Addr) → Nat → Nat → Int → Heap → Prop) (c1_1001 : Int) (c2_1002 : Addr) (v5_1003 : Option Addr) (v5_1003l : Nat) (v5_1003c : Nat) (v6_1004 : Int) (h1005 : Heap) : Prop :=
  ∃ (x1006 : Option Addr) (x1006l : Nat) (x1006c : Nat), cell h1005 c2_1002 = some (.slice x1006 x1006l x1006c) ∧ (iteB (decide (v6_1004 < (x1006l : Int))) ((∃ (x1007 : Option Addr) (x1007l : Nat) (x1007c : Nat), cell h1005 c2_1002 = some (.slice x1007 x1007l x1007c) ∧ ∃ (x1008 : Option Addr) (x1008l : Nat) (x1008c : Nat), cell h1005 (c2_1002.add 1) = some (.slice x1008 x1008l x1008c) ∧ callP3 (straitref29_Up x1007 x1007l x1007c x1008 x1008l x1008c v6_1004 h1005) fun x1009 x1009l x1009c h1010 => qcallP1 h1010 (straitref21_In x1009 x1009l x1009c c1_1001 h1010) fun x1011 => (iteB x1011 (newP h1010 (.cells #[(.int .i64 v6_1004)] 3) fun a1012 h1013 => ∃ n1018, cellsAt h1013 (some a1012) (1 * 1) n1018 ∧ appP 3 1 8 [(.int .i64 0)] v5_1003 v5_1003l v5_1003c 1 n1018 h1013 fun q1014 l1015 c1016 h1017 => ((cont c1_1001 c2_1002 q1014 l1015 c1016 (IntKind.i64.wrap (v6_1004 + 1)) h1017))) (((cont c1_1001 c2_1002 v5_1003 v5_1003l v5_1003c (IntKind.i64.wrap (v6_1004 + 1)) h1010)))))) (K2 v5_1003 v5_1003l v5_1003c h1005))
def straitref29_Below.l0 (K2 : (Option Addr) → Nat → Nat → Heap → Prop) : Nat → Int → Addr → (Option Addr) → Nat → Nat → Int → Heap → Prop
  | 0, _, _, _, _, _, _, _ => False
  | m + 1, c1_1001, c2_1002, v5_1003, v5_1003l, v5_1003c, v6_1004, h => straitref29_Below.b0 K2 (straitref29_Below.l0 K2 m) c1_1001 c2_1002 v5_1003 v5_1003l v5_1003c v6_1004 h
def straitref29_Below (a1 : Option Addr) (a1l : Nat) (a1c : Nat) (a2 : Option Addr) (a2l : Nat) (a2c : Nat) (a3 : Int) (h : Heap) (K : (Option Addr) → Nat → Nat → Heap → Prop) : Prop :=
  newP h (.cells #[(.slice a1 a1l a1c), (.slice a2 a2l a2c)] 25) fun a4 h5 => ((∃ (x6 : Option Addr) (x6l : Nat) (x6c : Nat), cell h5 a4 = some (.slice x6 x6l x6c) ∧ ∃ (x7 : Option Addr) (x7l : Nat) (x7c : Nat), cell h5 (a4.add 1) = some (.slice x7 x7l x7c) ∧ callP1 (straitref29_in x6 x6l x6c x7 x7l x7c a3 h5) fun x8 h9 => (iteB (!x8) (K none 0 0 h9) (((∃ m12, straitref29_Below.l0 (fun z10 z10l z10c h11 => (K z10 z10l z10c h11)) m12 a3 a4 none 0 0 0 h9))))))
def straitref29_Below.ret (K : (Option Addr) → Nat → Nat → Heap → Prop) (v : Value) (h : Heap) : Prop := match v with
  | (.slice r13 r13l r13c) => K r13 r13l r13c h
  | _ => False
theorem straitref29_Below.ret_elim {K : (Option Addr) → Nat → Nat → Heap → Prop} {K' : Value → Heap → Prop} {v : Value} {h : Heap} (hk : ∀ r13 r13l r13c h, K r13 r13l r13c h → K' (.slice r13 r13l r13c) h) (hh : straitref29_Below.ret K v h) : K' v h := by
  unfold straitref29_Below.ret at hh
  split at hh
  · exact hk _ _ _ _ hh
  · exact hh.elim
def straitref29_Below.call (f : FuncId) (vs : List Value) (h : Heap) (K : Value → Heap → Prop) : Prop := match f, vs with
  | 29, [(.agg ⟨[(.slice a1 a1l a1c), (.slice a2 a2l a2c)]⟩), (.int .i64 a3)] => callP3 (straitref29_Up a1 a1l a1c a2 a2l a2c a3 h) fun r9 r9l r9c h' => K (.slice r9 r9l r9c) h'
  | 30, [(.agg ⟨[(.slice a1 a1l a1c), (.slice a2 a2l a2c)]⟩), (.int .i64 a3)] => callP1 (straitref29_in a1 a1l a1c a2 a2l a2c a3 h) fun r13 h' => K (.bool r13) h'
  | _, _ => False
def straitref29_Below.qcall (f : FuncId) (vs : List Value) (h : Heap) (K : Value → Prop) : Prop := match f, vs with
  | 32, [(.slice a1 a1l a1c), (.int .i64 a2)] => qcallP1 h (straitref21_In a1 a1l a1c a2 h) fun r7 => K (.bool r7)
  | _, _ => False
def straitref29_Below.r0 (K : Nat → List Value → Heap → Prop) (m : Nat) (vs : List Value) (h : Heap) : Prop := match vs with
  | [(.int .i64 c1_1001), (.pointer (some c2_1002)), (.slice v5_1003 v5_1003l v5_1003c), (.int .i64 v6_1004)] => straitref29_Below.l0 (fun z14 z14l z14c h' => K 2 [(.slice z14 z14l z14c)] h') m c1_1001 c2_1002 v5_1003 v5_1003l v5_1003c v6_1004 h
  | _ => False
def straitref29_Below.loop (i : Nat) (vs : List Value) (h : Heap) (K : Nat → List Value → Heap → Prop) : Prop := match i with
  | 0 => ∃ m, straitref29_Below.r0 K m vs h
  | _ => False
noncomputable def straitref29_Below.ctx : Ctx := { P := Tryd.prog, call := straitref29_Below.call, qcall := straitref29_Below.qcall, quiet := fun f => Nat.beq f 32, loop := straitref29_Below.loop }
theorem straitref29_Below.ok : straitref29_Below.ctx.OK where
  mixed := by kernel_rfl
  mono := by
    intro f args h K K' hh hk
    change straitref29_Below.call f args h K at hh
    change straitref29_Below.call f args h K'
    unfold straitref29_Below.call at hh ⊢
    split at hh
    · obtain ⟨R, h1, h2⟩ := hh
      exact ⟨R, h1, fun _ _ _ x hr => hk _ _ (h2 _ _ _ x hr)⟩
    · obtain ⟨R, h1, h2⟩ := hh
      exact ⟨R, h1, fun _ x hr => hk _ _ (h2 _ x hr)⟩
    · exact hh.elim
  call := by
    intro f args h K hh w hw
    change straitref29_Below.call f args h K at hh
    unfold straitref29_Below.call at hh
    split at hh
    · obtain ⟨R, h1, h2⟩ := hh
      obtain ⟨g1, g2⟩ := straitref29_Up.calls h1 w hw
      exact ⟨g1, g2.mono fun e w' ⟨v, he, ho, hr⟩ => ⟨v, he, ho, straitref29_Up.ret_elim h2 hr⟩⟩
    · obtain ⟨R, h1, h2⟩ := hh
      obtain ⟨g1, g2⟩ := straitref29_in.calls h1 w hw
      exact ⟨g1, g2.mono fun e w' ⟨v, he, ho, hr⟩ => ⟨v, he, ho, straitref29_in.ret_elim h2 hr⟩⟩
    · exact hh.elim
  qmono := by
    intro f args h K K' hh hk
    change straitref29_Below.qcall f args h K at hh
    change straitref29_Below.qcall f args h K'
    unfold straitref29_Below.qcall at hh ⊢
    split at hh
    · obtain ⟨x0, h1, h2⟩ := hh
      exact ⟨x0, h1, hk _ h2⟩
    · exact hh.elim
  qval := by
    intro f args h K hh
    change straitref29_Below.qcall f args h K at hh
    suffices H : ∃ v, K v ∧ straitref29_Below.qcall f args h (· = v) from H
    unfold straitref29_Below.qcall at hh ⊢
    split at hh
    · obtain ⟨x0, h1, h2⟩ := hh
      exact ⟨_, h2, x0, h1, rfl⟩
    · exact hh.elim
  qcall := by
    intro f args h v hh w hw
    change straitref29_Below.qcall f args h (· = v) at hh
    unfold straitref29_Below.qcall at hh
    split at hh
    · obtain ⟨x0, h1, h2⟩ := hh
      obtain ⟨g1, g2⟩ := straitref21_In.calls h1 w hw
      refine .inl ⟨g1, g2.mono fun e w' ⟨u, he, ho, hr⟩ => ?_⟩
      have hq := straitref21_In.ret_elim (K' := fun u h' => u = v ∧ h' = h) (fun _ h' hr => by obtain ⟨rfl, rfl⟩ := hr; exact ⟨h2, rfl⟩) hr
      exact ⟨hq.1 ▸ he, ho, hq.2⟩
    · exact hh.elim
noncomputable def straitref29_Below.code : Code := (Tryd.f31.body).getD .skip
def straitref29_Below.ann : Ann := (.two .auto (.two .auto (.two .auto (.two (.two .auto (.two (.loop 0 [1, 2, 5, 6] [(2, [5])] .auto) .auto)) .auto))))
noncomputable def straitref29_Below.c0 : Code := sub straitref29_Below.code [1, 1, 1, 0, 1, 0, 0]
def straitref29_Below.a0 : Ann := .auto
def straitref29_Below.keep0 : List Nat := [1, 2, 5, 6]
def straitref29_Below.outs0 : List (Nat × List Nat) := [(2, [5])]
set_option maxRecDepth 100000 in
theorem straitref29_Below.L0 : LoopOK straitref29_Below.ctx 29 straitref29_Below.c0 0 straitref29_Below.keep0 straitref29_Below.outs0 := by
  refine loop_ok (n := straitref29_Below.a0) straitref29_Below.ok (by kernel_rfl) (loops_ok (l := []) (by kernel_rfl) ?_) straitref29_Below.r0 ?_ ?_ (fun vs h K hh => hh)
  · exact trivial
  · intro K vs h hh
    unfold straitref29_Below.r0 at hh
    split at hh
    · exact hh
    · exact hh
  · intro K m vs h hh
    unfold straitref29_Below.r0 at hh
    split at hh
    · exact cast (by kernel_rfl) hh
    · exact hh.elim
set_option maxRecDepth 100000 in
theorem straitref29_Below.eq (a1 : Option Addr) (a1l : Nat) (a1c : Nat) (a2 : Option Addr) (a2l : Nat) (a2c : Nat) (a3 : Int) (h : Heap) (K : (Option Addr) → Nat → Nat → Heap → Prop) : evF straitref29_Below.ctx Tryd.f31 straitref29_Below.ann [(.agg #[(.slice a1 a1l a1c), (.slice a2 a2l a2c)]), (.int .i64 a3)] h (straitref29_Below.ret K) = straitref29_Below a1 a1l a1c a2 a2l a2c a3 h K := by kernel_rfl
set_option maxRecDepth 100000 in
theorem straitref29_Below.calls {a1 : Option Addr} {a1l : Nat} {a1c : Nat} {a2 : Option Addr} {a2l : Nat} {a2c : Nat} {a3 : Int} {h : Heap} {K : (Option Addr) → Nat → Nat → Heap → Prop} (hh : straitref29_Below a1 a1l a1c a2 a2l a2c a3 h K) (w : World) (hw : w.heap = h) :
    (callFunc 31 #[(.agg #[(.slice a1 a1l a1c), (.slice a2 a2l a2c)]), (.int .i64 a3)]).run Tryd.prog w = .ok (.enter 31 #[(.agg #[(.slice a1 a1l a1c), (.slice a2 a2l a2c)]), (.int .i64 a3)]) w ∧ Calls Tryd.prog 31 #[(.agg #[(.slice a1 a1l a1c), (.slice a2 a2l a2c)]), (.int .i64 a3)] w fun e w' => ∃ v, e = .returned v ∧ Out w w' ∧ straitref29_Below.ret K v w'.heap := by
  rw [← straitref29_Below.eq] at hh
  exact fn_calls (args := [(.agg #[(.slice a1 a1l a1c), (.slice a2 a2l a2c)]), (.int .i64 a3)]) (c := straitref29_Below.code) straitref29_Below.ok Tryd.func31 (by kernel_rfl) (by kernel_rfl) (by kernel_rfl) (by kernel_rfl) (loops_ok (l := [(straitref29_Below.c0, none, 0, straitref29_Below.keep0, straitref29_Below.outs0)]) (by kernel_rfl) ⟨straitref29_Below.L0, trivial⟩) hh w hw

/-! ### strait/straitref29.Least: function 15 -/
def straitref29_Least.b0 (K2 : Heap → Prop) (cont : Int → Int → Addr → Addr → Addr → Int → Heap → Prop) (c1_1001 : Int) (c2_1002 : Int) (c3_1003 : Addr) (c6_1004 : Addr) (c7_1005 : Addr) (v8_1006 : Int) (h1007 : Heap) : Prop :=
  ∃ (x1008 : Option Addr) (x1008l : Nat) (x1008c : Nat), cell h1007 c3_1003 = some (.slice x1008 x1008l x1008c) ∧ (iteB (decide (v8_1006 < (x1008l : Int))) ((let j1031 := (fun (h1030 : Heap) => cont c1_1001 c2_1002 c3_1003 c6_1004 c7_1005 (IntKind.i64.wrap (v8_1006 + 1)) h1030);
  ∃ (x1009 : Option Addr) (x1009l : Nat) (x1009c : Nat), cell h1007 c3_1003 = some (.slice x1009 x1009l x1009c) ∧ ∃ (x1010 : Option Addr) (x1010l : Nat) (x1010c : Nat), cell h1007 (c3_1003.add 1) = some (.slice x1010 x1010l x1010c) ∧ callP3 (straitref29_Below x1009 x1009l x1009c x1010 x1010l x1010c v8_1006 h1007) fun x1011 x1011l x1011c h1012 => (qcallP1 h1012 (straitref21_In x1011 x1011l x1011c c1_1001 h1012) fun x1013 => qcallP1 h1012 (straitref21_In x1011 x1011l x1011c c2_1002 h1012) fun x1014 => iteB (!(x1013 == x1014)) (∃ (x1015 : Bool), cell h1012 (c7_1005.add 1) = some (.bool x1015) ∧ iteB (!x1015) ((stC h1012 c7_1005 (.int .i64 v8_1006) fun h1026 => stC h1026 (c7_1005.add 1) (.bool true) fun h1027 => ((j1031 h1027)))) (∃ (x1016 : Option Addr) (x1016l : Nat) (x1016c : Nat), cell h1012 (c3_1003.add 1) = some (.slice x1016 x1016l x1016c) ∧ chkP x1016 fun a1017 => (0 ≤ v8_1006 ∧ v8_1006 < (x1016l : Int)) ∧ ∃ (x1018 : Int), cell h1012 (a1017.add (v8_1006.toNat * 1)) = some (.int .i64 x1018) ∧ ∃ (x1019 : Option Addr) (x1019l : Nat) (x1019c : Nat), cell h1012 (c3_1003.add 1) = some (.slice x1019 x1019l x1019c) ∧ ∃ (x1020 : Int), cell h1012 c7_1005 = some (.int .i64 x1020) ∧ chkP x1019 fun a1021 => (0 ≤ x1020 ∧ x1020 < (x1019l : Int)) ∧ ∃ (x1022 : Int), cell h1012 (a1021.add (x1020.toNat * 1)) = some (.int .i64 x1022) ∧ (iteB (decide (x1018 < x1022)) (stC h1012 c7_1005 (.int .i64 v8_1006) fun h1028 => stC h1028 (c7_1005.add 1) (.bool true) fun h1029 => ((j1031 h1029))) (((j1031 h1012)))))) ((((j1031 h1012))))))) (K2 h1007))
def straitref29_Least.l0 (K2 : Heap → Prop) : Nat → Int → Int → Addr → Addr → Addr → Int → Heap → Prop
  | 0, _, _, _, _, _, _, _ => False
  | m + 1, c1_1001, c2_1002, c3_1003, c6_1004, c7_1005, v8_1006, h => straitref29_Least.b0 K2 (straitref29_Least.l0 K2 m) c1_1001 c2_1002 c3_1003 c6_1004 c7_1005 v8_1006 h
def straitref29_Least (a1 : Option Addr) (a1l : Nat) (a1c : Nat) (a2 : Option Addr) (a2l : Nat) (a2c : Nat) (a3 : Int) (a4 : Int) (h : Heap) (K : Int → Bool → Heap → Prop) : Prop :=
  newP h (.cells #[(.slice a1 a1l a1c), (.slice a2 a2l a2c)] 25) fun a5 h6 => newP h6 (.cells #[(.int .i64 0), (.bool false)] 41) fun a7 h8 => (newP h8 (.cells #[(.int .i64 0), (.bool false)] 41) fun a9 h10 => (let j27 := (fun (y19 : Bool) (h20 : Heap) => iteB y19 (∃ (x21 : Int), cell h20 a9 = some (.int .i64 x21) ∧ ∃ (x22 : Bool), cell h20 (a9.add 1) = some (.bool x22) ∧ stC h20 a7 (.int .i64 x21) fun h23 => stC h23 (a7.add 1) (.bool x22) fun h24 => (∃ (x25 : Int), cell h24 a7 = some (.int .i64 x25) ∧ ∃ (x26 : Bool), cell h24 (a7.add 1) = some (.bool x26) ∧ K x25 x26 h24)) (((∃ m29, straitref29_Least.l0 (fun h28 => ((∃ (x30 : Int), cell h28 a9 = some (.int .i64 x30) ∧ ∃ (x31 : Bool), cell h28 (a9.add 1) = some (.bool x31) ∧ stC h28 a7 (.int .i64 x30) fun h32 => stC h32 (a7.add 1) (.bool x31) fun h33 => (∃ (x34 : Int), cell h33 a7 = some (.int .i64 x34) ∧ ∃ (x35 : Bool), cell h33 (a7.add 1) = some (.bool x35) ∧ K x34 x35 h33)))) m29 a3 a4 a5 a7 a9 0 h20))));
  ∃ (x11 : Option Addr) (x11l : Nat) (x11c : Nat), cell h10 a5 = some (.slice x11 x11l x11c) ∧ ∃ (x12 : Option Addr) (x12l : Nat) (x12c : Nat), cell h10 (a5.add 1) = some (.slice x12 x12l x12c) ∧ callP1 (straitref29_in x11 x11l x11c x12 x12l x12c a3 h10) fun x13 h14 => iteB (!x13) ((j27 true h14)) (∃ (x15 : Option Addr) (x15l : Nat) (x15c : Nat), cell h14 a5 = some (.slice x15 x15l x15c) ∧ ∃ (x16 : Option Addr) (x16l : Nat) (x16c : Nat), cell h14 (a5.add 1) = some (.slice x16 x16l x16c) ∧ callP1 (straitref29_in x15 x15l x15c x16 x16l x16c a4 h14) fun x17 h18 => (j27 (!x17) h18))))
def straitref29_Least.ret (K : Int → Bool → Heap → Prop) (v : Value) (h : Heap) : Prop := match v with
  | (.agg ⟨[(.int .i64 r36), (.bool r37)]⟩) => K r36 r37 h
  | _ => False
theorem straitref29_Least.ret_elim {K : Int → Bool → Heap → Prop} {K' : Value → Heap → Prop} {v : Value} {h : Heap} (hk : ∀ r36 r37 h, K r36 r37 h → K' (.agg #[(.int .i64 r36), (.bool r37)]) h) (hh : straitref29_Least.ret K v h) : K' v h := by
  unfold straitref29_Least.ret at hh
  split at hh
  · exact hk _ _ _ hh
  · exact hh.elim
def straitref29_Least.call (f : FuncId) (vs : List Value) (h : Heap) (K : Value → Heap → Prop) : Prop := match f, vs with
  | 30, [(.agg ⟨[(.slice a1 a1l a1c), (.slice a2 a2l a2c)]⟩), (.int .i64 a3)] => callP1 (straitref29_in a1 a1l a1c a2 a2l a2c a3 h) fun r13 h' => K (.bool r13) h'
  | 31, [(.agg ⟨[(.slice a1 a1l a1c), (.slice a2 a2l a2c)]⟩), (.int .i64 a3)] => callP3 (straitref29_Below a1 a1l a1c a2 a2l a2c a3 h) fun r13 r13l r13c h' => K (.slice r13 r13l r13c) h'
  | _, _ => False
def straitref29_Least.qcall (f : FuncId) (vs : List Value) (h : Heap) (K : Value → Prop) : Prop := match f, vs with
  | 32, [(.slice a1 a1l a1c), (.int .i64 a2)] => qcallP1 h (straitref21_In a1 a1l a1c a2 h) fun r7 => K (.bool r7)
  | _, _ => False
def straitref29_Least.r0 (K : Nat → List Value → Heap → Prop) (m : Nat) (vs : List Value) (h : Heap) : Prop := match vs with
  | [(.int .i64 c1_1001), (.int .i64 c2_1002), (.pointer (some c3_1003)), (.pointer (some c6_1004)), (.pointer (some c7_1005)), (.int .i64 v8_1006)] => straitref29_Least.l0 (fun h' => K 2 [(.pointer (some c6_1004)), (.pointer (some c7_1005))] h') m c1_1001 c2_1002 c3_1003 c6_1004 c7_1005 v8_1006 h
  | _ => False
def straitref29_Least.loop (i : Nat) (vs : List Value) (h : Heap) (K : Nat → List Value → Heap → Prop) : Prop := match i with
  | 0 => ∃ m, straitref29_Least.r0 K m vs h
  | _ => False
noncomputable def straitref29_Least.ctx : Ctx := { P := Tryd.prog, call := straitref29_Least.call, qcall := straitref29_Least.qcall, quiet := fun f => Nat.beq f 32, loop := straitref29_Least.loop }
theorem straitref29_Least.ok : straitref29_Least.ctx.OK where
  mixed := by kernel_rfl
  mono := by
    intro f args h K K' hh hk
    change straitref29_Least.call f args h K at hh
    change straitref29_Least.call f args h K'
    unfold straitref29_Least.call at hh ⊢
    split at hh
    · obtain ⟨R, h1, h2⟩ := hh
      exact ⟨R, h1, fun _ x hr => hk _ _ (h2 _ x hr)⟩
    · obtain ⟨R, h1, h2⟩ := hh
      exact ⟨R, h1, fun _ _ _ x hr => hk _ _ (h2 _ _ _ x hr)⟩
    · exact hh.elim
  call := by
    intro f args h K hh w hw
    change straitref29_Least.call f args h K at hh
    unfold straitref29_Least.call at hh
    split at hh
    · obtain ⟨R, h1, h2⟩ := hh
      obtain ⟨g1, g2⟩ := straitref29_in.calls h1 w hw
      exact ⟨g1, g2.mono fun e w' ⟨v, he, ho, hr⟩ => ⟨v, he, ho, straitref29_in.ret_elim h2 hr⟩⟩
    · obtain ⟨R, h1, h2⟩ := hh
      obtain ⟨g1, g2⟩ := straitref29_Below.calls h1 w hw
      exact ⟨g1, g2.mono fun e w' ⟨v, he, ho, hr⟩ => ⟨v, he, ho, straitref29_Below.ret_elim h2 hr⟩⟩
    · exact hh.elim
  qmono := by
    intro f args h K K' hh hk
    change straitref29_Least.qcall f args h K at hh
    change straitref29_Least.qcall f args h K'
    unfold straitref29_Least.qcall at hh ⊢
    split at hh
    · obtain ⟨x0, h1, h2⟩ := hh
      exact ⟨x0, h1, hk _ h2⟩
    · exact hh.elim
  qval := by
    intro f args h K hh
    change straitref29_Least.qcall f args h K at hh
    suffices H : ∃ v, K v ∧ straitref29_Least.qcall f args h (· = v) from H
    unfold straitref29_Least.qcall at hh ⊢
    split at hh
    · obtain ⟨x0, h1, h2⟩ := hh
      exact ⟨_, h2, x0, h1, rfl⟩
    · exact hh.elim
  qcall := by
    intro f args h v hh w hw
    change straitref29_Least.qcall f args h (· = v) at hh
    unfold straitref29_Least.qcall at hh
    split at hh
    · obtain ⟨x0, h1, h2⟩ := hh
      obtain ⟨g1, g2⟩ := straitref21_In.calls h1 w hw
      refine .inl ⟨g1, g2.mono fun e w' ⟨u, he, ho, hr⟩ => ?_⟩
      have hq := straitref21_In.ret_elim (K' := fun u h' => u = v ∧ h' = h) (fun _ h' hr => by obtain ⟨rfl, rfl⟩ := hr; exact ⟨h2, rfl⟩) hr
      exact ⟨hq.1 ▸ he, ho, hq.2⟩
    · exact hh.elim
noncomputable def straitref29_Least.code : Code := (Tryd.f15.body).getD .skip
def straitref29_Least.ann : Ann := (.two .auto (.two .auto (.two .auto (.two (.two .auto (.two (.loop 0 [1, 2, 3, 6, 7, 8] [(2, [6, 7])] (.two .auto (.two (.two (.two .auto (.two (.reg [0, 0, 3, 0, 0, 31, 63, 127, 255, 511, 1023, 2047, 4095, 8191, 4095, 32767, 65535, 4095, 135167, 4095, 528383, 1970175, 4067327, 8388607, 16777215, 33554431] (.take 0 (.take 1 (.take 2 (.take 3 (.take 4 (.take 5 (.take 6 (.take 7 (.take 8 (.take 9 (.take 10 (.take 11 (.take 12 (.take 13 (.take 14 (.take 15 (.take 16 (.take 17 (.take 18 (.take 19 (.take 20 (.take 21 (.take 22 (.take 23 (.take 24 (.take 25 .done))))))))))))))))))))))))))) .auto)) .auto) .auto))) .auto)) .auto))))
noncomputable def straitref29_Least.c0 : Code := sub straitref29_Least.code [1, 1, 1, 0, 1, 0, 0]
def straitref29_Least.a0 : Ann := (.two .auto (.two (.two (.two .auto (.two (.reg [0, 0, 3, 0, 0, 31, 63, 127, 255, 511, 1023, 2047, 4095, 8191, 4095, 32767, 65535, 4095, 135167, 4095, 528383, 1970175, 4067327, 8388607, 16777215, 33554431] (.take 0 (.take 1 (.take 2 (.take 3 (.take 4 (.take 5 (.take 6 (.take 7 (.take 8 (.take 9 (.take 10 (.take 11 (.take 12 (.take 13 (.take 14 (.take 15 (.take 16 (.take 17 (.take 18 (.take 19 (.take 20 (.take 21 (.take 22 (.take 23 (.take 24 (.take 25 .done))))))))))))))))))))))))))) .auto)) .auto) .auto))
def straitref29_Least.keep0 : List Nat := [1, 2, 3, 6, 7, 8]
def straitref29_Least.outs0 : List (Nat × List Nat) := [(2, [6, 7])]
set_option maxRecDepth 100000 in
theorem straitref29_Least.L0 : LoopOK straitref29_Least.ctx 60 straitref29_Least.c0 0 straitref29_Least.keep0 straitref29_Least.outs0 := by
  refine loop_ok (n := straitref29_Least.a0) straitref29_Least.ok (by kernel_rfl) (loops_ok (l := []) (by kernel_rfl) ?_) straitref29_Least.r0 ?_ ?_ (fun vs h K hh => hh)
  · exact trivial
  · intro K vs h hh
    unfold straitref29_Least.r0 at hh
    split at hh
    · exact hh
    · exact hh
  · intro K m vs h hh
    unfold straitref29_Least.r0 at hh
    split at hh
    · exact cast (by kernel_rfl) hh
    · exact hh.elim
set_option maxRecDepth 100000 in
theorem straitref29_Least.eq (a1 : Option Addr) (a1l : Nat) (a1c : Nat) (a2 : Option Addr) (a2l : Nat) (a2c : Nat) (a3 : Int) (a4 : Int) (h : Heap) (K : Int → Bool → Heap → Prop) : evF straitref29_Least.ctx Tryd.f15 straitref29_Least.ann [(.agg #[(.slice a1 a1l a1c), (.slice a2 a2l a2c)]), (.int .i64 a3), (.int .i64 a4)] h (straitref29_Least.ret K) = straitref29_Least a1 a1l a1c a2 a2l a2c a3 a4 h K := by kernel_rfl
set_option maxRecDepth 100000 in
theorem straitref29_Least.calls {a1 : Option Addr} {a1l : Nat} {a1c : Nat} {a2 : Option Addr} {a2l : Nat} {a2c : Nat} {a3 : Int} {a4 : Int} {h : Heap} {K : Int → Bool → Heap → Prop} (hh : straitref29_Least a1 a1l a1c a2 a2l a2c a3 a4 h K) (w : World) (hw : w.heap = h) :
    (callFunc 15 #[(.agg #[(.slice a1 a1l a1c), (.slice a2 a2l a2c)]), (.int .i64 a3), (.int .i64 a4)]).run Tryd.prog w = .ok (.enter 15 #[(.agg #[(.slice a1 a1l a1c), (.slice a2 a2l a2c)]), (.int .i64 a3), (.int .i64 a4)]) w ∧ Calls Tryd.prog 15 #[(.agg #[(.slice a1 a1l a1c), (.slice a2 a2l a2c)]), (.int .i64 a3), (.int .i64 a4)] w fun e w' => ∃ v, e = .returned v ∧ Out w w' ∧ straitref29_Least.ret K v w'.heap := by
  rw [← straitref29_Least.eq] at hh
  exact fn_calls (args := [(.agg #[(.slice a1 a1l a1c), (.slice a2 a2l a2c)]), (.int .i64 a3), (.int .i64 a4)]) (c := straitref29_Least.code) straitref29_Least.ok Tryd.func15 (by kernel_rfl) (by kernel_rfl) (by kernel_rfl) (by kernel_rfl) (loops_ok (l := [(straitref29_Least.c0, none, 0, straitref29_Least.keep0, straitref29_Least.outs0)]) (by kernel_rfl) ⟨straitref29_Least.L0, trivial⟩) hh w hw

/-! ### strait/straitref32.in: function 33 -/
def straitref32_in (a1 : Option Addr) (a1l : Nat) (a1c : Nat) (a2 : Option Addr) (a2l : Nat) (a2c : Nat) (a3 : Int) (h : Heap) (K : Bool → Heap → Prop) : Prop :=
  newP h (.cells #[(.slice a1 a1l a1c), (.slice a2 a2l a2c)] 25) fun a4 h5 => (iteB (decide (a3 ≥ (0 : Int))) (∃ (x6 : Option Addr) (x6l : Nat) (x6c : Nat), cell h5 a4 = some (.slice x6 x6l x6c) ∧ (K (decide (a3 < (x6l : Int))) h5)) (K false h5))
def straitref32_in.ret (K : Bool → Heap → Prop) (v : Value) (h : Heap) : Prop := match v with
  | (.bool r8) => K r8 h
  | _ => False
theorem straitref32_in.ret_elim {K : Bool → Heap → Prop} {K' : Value → Heap → Prop} {v : Value} {h : Heap} (hk : ∀ r8 h, K r8 h → K' (.bool r8) h) (hh : straitref32_in.ret K v h) : K' v h := by
  unfold straitref32_in.ret at hh
  split at hh
  · exact hk _ _ hh
  · exact hh.elim
noncomputable def straitref32_in.ctx : Ctx := { P := Tryd.prog, call := fun _ _ _ _ => False, qcall := fun _ _ _ _ => False, quiet := fun f => false, loop := fun _ _ _ _ => False }
theorem straitref32_in.ok : straitref32_in.ctx.OK where
  mixed := by kernel_rfl
  mono := fun hh _ => hh.elim
  call := fun hh => hh.elim
  qmono := fun hh _ => hh.elim
  qval := fun hh => hh.elim
  qcall := fun hh => hh.elim
noncomputable def straitref32_in.code : Code := (Tryd.f33.body).getD .skip
def straitref32_in.ann : Ann := .auto
set_option maxRecDepth 100000 in
theorem straitref32_in.eq (a1 : Option Addr) (a1l : Nat) (a1c : Nat) (a2 : Option Addr) (a2l : Nat) (a2c : Nat) (a3 : Int) (h : Heap) (K : Bool → Heap → Prop) : evF straitref32_in.ctx Tryd.f33 straitref32_in.ann [(.agg #[(.slice a1 a1l a1c), (.slice a2 a2l a2c)]), (.int .i64 a3)] h (straitref32_in.ret K) = straitref32_in a1 a1l a1c a2 a2l a2c a3 h K := by kernel_rfl
set_option maxRecDepth 100000 in
theorem straitref32_in.calls {a1 : Option Addr} {a1l : Nat} {a1c : Nat} {a2 : Option Addr} {a2l : Nat} {a2c : Nat} {a3 : Int} {h : Heap} {K : Bool → Heap → Prop} (hh : straitref32_in a1 a1l a1c a2 a2l a2c a3 h K) (w : World) (hw : w.heap = h) :
    (callFunc 33 #[(.agg #[(.slice a1 a1l a1c), (.slice a2 a2l a2c)]), (.int .i64 a3)]).run Tryd.prog w = .ok (.enter 33 #[(.agg #[(.slice a1 a1l a1c), (.slice a2 a2l a2c)]), (.int .i64 a3)]) w ∧ Calls Tryd.prog 33 #[(.agg #[(.slice a1 a1l a1c), (.slice a2 a2l a2c)]), (.int .i64 a3)] w fun e w' => ∃ v, e = .returned v ∧ Out w w' ∧ straitref32_in.ret K v w'.heap := by
  rw [← straitref32_in.eq] at hh
  exact fn_calls (args := [(.agg #[(.slice a1 a1l a1c), (.slice a2 a2l a2c)]), (.int .i64 a3)]) (c := straitref32_in.code) straitref32_in.ok Tryd.func33 (by kernel_rfl) (by kernel_rfl) (by kernel_rfl) (by kernel_rfl) (loops_ok (l := []) (by kernel_rfl) trivial) hh w hw

/-! ### strait/straitref32.Depth: function 18 -/
def straitref32_Depth (a1 : Option Addr) (a1l : Nat) (a1c : Nat) (a2 : Option Addr) (a2l : Nat) (a2c : Nat) (a3 : Int) (h : Heap) (K : Int → Heap → Prop) : Prop :=
  newP h (.cells #[(.slice a1 a1l a1c), (.slice a2 a2l a2c)] 25) fun a4 h5 => (∃ (x6 : Option Addr) (x6l : Nat) (x6c : Nat), cell h5 a4 = some (.slice x6 x6l x6c) ∧ ∃ (x7 : Option Addr) (x7l : Nat) (x7c : Nat), cell h5 (a4.add 1) = some (.slice x7 x7l x7c) ∧ callP1 (straitref32_in x6 x6l x6c x7 x7l x7c a3 h5) fun x8 h9 => (iteB (!x8) ((K (-1) h9)) ((∃ (x10 : Option Addr) (x10l : Nat) (x10c : Nat), cell h9 a4 = some (.slice x10 x10l x10c) ∧ ∃ (x11 : Option Addr) (x11l : Nat) (x11c : Nat), cell h9 (a4.add 1) = some (.slice x11 x11l x11c) ∧ callP3 (straitref29_Up x10 x10l x10c x11 x11l x11c a3 h9) fun x12 x12l x12c h13 => (K (IntKind.i64.wrap ((x12l : Int) - 1)) h13)))))
def straitref32_Depth.ret (K : Int → Heap → Prop) (v : Value) (h : Heap) : Prop := match v with
  | (.int .i64 r14) => K r14 h
  | _ => False
theorem straitref32_Depth.ret_elim {K : Int → Heap → Prop} {K' : Value → Heap → Prop} {v : Value} {h : Heap} (hk : ∀ r14 h, K r14 h → K' (.int .i64 r14) h) (hh : straitref32_Depth.ret K v h) : K' v h := by
  unfold straitref32_Depth.ret at hh
  split at hh
  · exact hk _ _ hh
  · exact hh.elim
def straitref32_Depth.call (f : FuncId) (vs : List Value) (h : Heap) (K : Value → Heap → Prop) : Prop := match f, vs with
  | 29, [(.agg ⟨[(.slice a1 a1l a1c), (.slice a2 a2l a2c)]⟩), (.int .i64 a3)] => callP3 (straitref29_Up a1 a1l a1c a2 a2l a2c a3 h) fun r9 r9l r9c h' => K (.slice r9 r9l r9c) h'
  | 33, [(.agg ⟨[(.slice a1 a1l a1c), (.slice a2 a2l a2c)]⟩), (.int .i64 a3)] => callP1 (straitref32_in a1 a1l a1c a2 a2l a2c a3 h) fun r8 h' => K (.bool r8) h'
  | _, _ => False
noncomputable def straitref32_Depth.ctx : Ctx := { P := Tryd.prog, call := straitref32_Depth.call, qcall := fun _ _ _ _ => False, quiet := fun f => false, loop := fun _ _ _ _ => False }
theorem straitref32_Depth.ok : straitref32_Depth.ctx.OK where
  mixed := by kernel_rfl
  mono := by
    intro f args h K K' hh hk
    change straitref32_Depth.call f args h K at hh
    change straitref32_Depth.call f args h K'
    unfold straitref32_Depth.call at hh ⊢
    split at hh
    · obtain ⟨R, h1, h2⟩ := hh
      exact ⟨R, h1, fun _ _ _ x hr => hk _ _ (h2 _ _ _ x hr)⟩
    · obtain ⟨R, h1, h2⟩ := hh
      exact ⟨R, h1, fun _ x hr => hk _ _ (h2 _ x hr)⟩
    · exact hh.elim
  call := by
    intro f args h K hh w hw
    change straitref32_Depth.call f args h K at hh
    unfold straitref32_Depth.call at hh
    split at hh
    · obtain ⟨R, h1, h2⟩ := hh
      obtain ⟨g1, g2⟩ := straitref29_Up.calls h1 w hw
      exact ⟨g1, g2.mono fun e w' ⟨v, he, ho, hr⟩ => ⟨v, he, ho, straitref29_Up.ret_elim h2 hr⟩⟩
    · obtain ⟨R, h1, h2⟩ := hh
      obtain ⟨g1, g2⟩ := straitref32_in.calls h1 w hw
      exact ⟨g1, g2.mono fun e w' ⟨v, he, ho, hr⟩ => ⟨v, he, ho, straitref32_in.ret_elim h2 hr⟩⟩
    · exact hh.elim
  qmono := fun hh _ => hh.elim
  qval := fun hh => hh.elim
  qcall := fun hh => hh.elim
noncomputable def straitref32_Depth.code : Code := (Tryd.f18.body).getD .skip
def straitref32_Depth.ann : Ann := .auto
set_option maxRecDepth 100000 in
theorem straitref32_Depth.eq (a1 : Option Addr) (a1l : Nat) (a1c : Nat) (a2 : Option Addr) (a2l : Nat) (a2c : Nat) (a3 : Int) (h : Heap) (K : Int → Heap → Prop) : evF straitref32_Depth.ctx Tryd.f18 straitref32_Depth.ann [(.agg #[(.slice a1 a1l a1c), (.slice a2 a2l a2c)]), (.int .i64 a3)] h (straitref32_Depth.ret K) = straitref32_Depth a1 a1l a1c a2 a2l a2c a3 h K := by kernel_rfl
set_option maxRecDepth 100000 in
theorem straitref32_Depth.calls {a1 : Option Addr} {a1l : Nat} {a1c : Nat} {a2 : Option Addr} {a2l : Nat} {a2c : Nat} {a3 : Int} {h : Heap} {K : Int → Heap → Prop} (hh : straitref32_Depth a1 a1l a1c a2 a2l a2c a3 h K) (w : World) (hw : w.heap = h) :
    (callFunc 18 #[(.agg #[(.slice a1 a1l a1c), (.slice a2 a2l a2c)]), (.int .i64 a3)]).run Tryd.prog w = .ok (.enter 18 #[(.agg #[(.slice a1 a1l a1c), (.slice a2 a2l a2c)]), (.int .i64 a3)]) w ∧ Calls Tryd.prog 18 #[(.agg #[(.slice a1 a1l a1c), (.slice a2 a2l a2c)]), (.int .i64 a3)] w fun e w' => ∃ v, e = .returned v ∧ Out w w' ∧ straitref32_Depth.ret K v w'.heap := by
  rw [← straitref32_Depth.eq] at hh
  exact fn_calls (args := [(.agg #[(.slice a1 a1l a1c), (.slice a2 a2l a2c)]), (.int .i64 a3)]) (c := straitref32_Depth.code) straitref32_Depth.ok Tryd.func18 (by kernel_rfl) (by kernel_rfl) (by kernel_rfl) (by kernel_rfl) (loops_ok (l := []) (by kernel_rfl) trivial) hh w hw

/-! ### strait/straitref32.Up: function 19 -/
def straitref32_Up (a1 : Option Addr) (a1l : Nat) (a1c : Nat) (a2 : Option Addr) (a2l : Nat) (a2c : Nat) (a3 : Int) (a4 : Int) (h : Heap) (K : Int → Heap → Prop) : Prop :=
  newP h (.cells #[(.slice a1 a1l a1c), (.slice a2 a2l a2c)] 25) fun a5 h6 => (let j20 := (fun (h13 : Heap) => ∃ (x14 : Option Addr) (x14l : Nat) (x14c : Nat), cell h13 a5 = some (.slice x14 x14l x14c) ∧ ∃ (x15 : Option Addr) (x15l : Nat) (x15c : Nat), cell h13 (a5.add 1) = some (.slice x15 x15l x15c) ∧ callP3 (straitref29_Up x14 x14l x14c x15 x15l x15c a3 h13) fun x16 x16l x16c h17 => ((iteB (decide (a4 ≥ (x16l : Int))) ((K (-1) h17)) ((chkP x16 fun a18 => (0 ≤ a4 ∧ a4 < (x16l : Int)) ∧ ∃ (x19 : Int), cell h17 (a18.add (a4.toNat * 1)) = some (.int .i64 x19) ∧ K x19 h17)))));
  ∃ (x7 : Option Addr) (x7l : Nat) (x7c : Nat), cell h6 a5 = some (.slice x7 x7l x7c) ∧ ∃ (x8 : Option Addr) (x8l : Nat) (x8c : Nat), cell h6 (a5.add 1) = some (.slice x8 x8l x8c) ∧ callP1 (straitref32_in x7 x7l x7c x8 x8l x8c a3 h6) fun x9 h10 => iteB (!x9) (((K (-1) h10))) ((iteB (decide (a4 < (0 : Int))) ((K (-1) h10)) ((j20 h10)))))
def straitref32_Up.ret (K : Int → Heap → Prop) (v : Value) (h : Heap) : Prop := match v with
  | (.int .i64 r21) => K r21 h
  | _ => False
theorem straitref32_Up.ret_elim {K : Int → Heap → Prop} {K' : Value → Heap → Prop} {v : Value} {h : Heap} (hk : ∀ r21 h, K r21 h → K' (.int .i64 r21) h) (hh : straitref32_Up.ret K v h) : K' v h := by
  unfold straitref32_Up.ret at hh
  split at hh
  · exact hk _ _ hh
  · exact hh.elim
def straitref32_Up.call (f : FuncId) (vs : List Value) (h : Heap) (K : Value → Heap → Prop) : Prop := match f, vs with
  | 29, [(.agg ⟨[(.slice a1 a1l a1c), (.slice a2 a2l a2c)]⟩), (.int .i64 a3)] => callP3 (straitref29_Up a1 a1l a1c a2 a2l a2c a3 h) fun r9 r9l r9c h' => K (.slice r9 r9l r9c) h'
  | 33, [(.agg ⟨[(.slice a1 a1l a1c), (.slice a2 a2l a2c)]⟩), (.int .i64 a3)] => callP1 (straitref32_in a1 a1l a1c a2 a2l a2c a3 h) fun r8 h' => K (.bool r8) h'
  | _, _ => False
noncomputable def straitref32_Up.ctx : Ctx := { P := Tryd.prog, call := straitref32_Up.call, qcall := fun _ _ _ _ => False, quiet := fun f => false, loop := fun _ _ _ _ => False }
theorem straitref32_Up.ok : straitref32_Up.ctx.OK where
  mixed := by kernel_rfl
  mono := by
    intro f args h K K' hh hk
    change straitref32_Up.call f args h K at hh
    change straitref32_Up.call f args h K'
    unfold straitref32_Up.call at hh ⊢
    split at hh
    · obtain ⟨R, h1, h2⟩ := hh
      exact ⟨R, h1, fun _ _ _ x hr => hk _ _ (h2 _ _ _ x hr)⟩
    · obtain ⟨R, h1, h2⟩ := hh
      exact ⟨R, h1, fun _ x hr => hk _ _ (h2 _ x hr)⟩
    · exact hh.elim
  call := by
    intro f args h K hh w hw
    change straitref32_Up.call f args h K at hh
    unfold straitref32_Up.call at hh
    split at hh
    · obtain ⟨R, h1, h2⟩ := hh
      obtain ⟨g1, g2⟩ := straitref29_Up.calls h1 w hw
      exact ⟨g1, g2.mono fun e w' ⟨v, he, ho, hr⟩ => ⟨v, he, ho, straitref29_Up.ret_elim h2 hr⟩⟩
    · obtain ⟨R, h1, h2⟩ := hh
      obtain ⟨g1, g2⟩ := straitref32_in.calls h1 w hw
      exact ⟨g1, g2.mono fun e w' ⟨v, he, ho, hr⟩ => ⟨v, he, ho, straitref32_in.ret_elim h2 hr⟩⟩
    · exact hh.elim
  qmono := fun hh _ => hh.elim
  qval := fun hh => hh.elim
  qcall := fun hh => hh.elim
noncomputable def straitref32_Up.code : Code := (Tryd.f19.body).getD .skip
def straitref32_Up.ann : Ann := .auto
set_option maxRecDepth 100000 in
theorem straitref32_Up.eq (a1 : Option Addr) (a1l : Nat) (a1c : Nat) (a2 : Option Addr) (a2l : Nat) (a2c : Nat) (a3 : Int) (a4 : Int) (h : Heap) (K : Int → Heap → Prop) : evF straitref32_Up.ctx Tryd.f19 straitref32_Up.ann [(.agg #[(.slice a1 a1l a1c), (.slice a2 a2l a2c)]), (.int .i64 a3), (.int .i64 a4)] h (straitref32_Up.ret K) = straitref32_Up a1 a1l a1c a2 a2l a2c a3 a4 h K := by kernel_rfl
set_option maxRecDepth 100000 in
theorem straitref32_Up.calls {a1 : Option Addr} {a1l : Nat} {a1c : Nat} {a2 : Option Addr} {a2l : Nat} {a2c : Nat} {a3 : Int} {a4 : Int} {h : Heap} {K : Int → Heap → Prop} (hh : straitref32_Up a1 a1l a1c a2 a2l a2c a3 a4 h K) (w : World) (hw : w.heap = h) :
    (callFunc 19 #[(.agg #[(.slice a1 a1l a1c), (.slice a2 a2l a2c)]), (.int .i64 a3), (.int .i64 a4)]).run Tryd.prog w = .ok (.enter 19 #[(.agg #[(.slice a1 a1l a1c), (.slice a2 a2l a2c)]), (.int .i64 a3), (.int .i64 a4)]) w ∧ Calls Tryd.prog 19 #[(.agg #[(.slice a1 a1l a1c), (.slice a2 a2l a2c)]), (.int .i64 a3), (.int .i64 a4)] w fun e w' => ∃ v, e = .returned v ∧ Out w w' ∧ straitref32_Up.ret K v w'.heap := by
  rw [← straitref32_Up.eq] at hh
  exact fn_calls (args := [(.agg #[(.slice a1 a1l a1c), (.slice a2 a2l a2c)]), (.int .i64 a3), (.int .i64 a4)]) (c := straitref32_Up.code) straitref32_Up.ok Tryd.func19 (by kernel_rfl) (by kernel_rfl) (by kernel_rfl) (by kernel_rfl) (loops_ok (l := []) (by kernel_rfl) trivial) hh w hw

/-! ### strait/straitref32.Meet: function 20 -/
def straitref32_Meet.b0 (K0 : Int → Heap → Prop) (K2 : Heap → Prop) (cont : (Option Addr) → Nat → Nat → (Option Addr) → Nat → Nat → Int → Heap → Prop) (c7_1001 : Option Addr) (c7_1002 : Nat) (c7_1003 : Nat) (c8_1004 : Option Addr) (c8_1005 : Nat) (c8_1006 : Nat) (v9_1007 : Int) (h1008 : Heap) : Prop :=
  (iteB (decide (v9_1007 < (c7_1002 : Int))) ((chkP c7_1001 fun a1009 => (0 ≤ v9_1007 ∧ v9_1007 < (c7_1002 : Int)) ∧ ∃ (x1010 : Int), cell h1008 (a1009.add (v9_1007.toNat * 1)) = some (.int .i64 x1010) ∧ qcallP1 h1008 (straitref21_In c8_1004 c8_1005 c8_1006 x1010 h1008) fun x1011 => (iteB x1011 (chkP c7_1001 fun a1012 => (0 ≤ v9_1007 ∧ v9_1007 < (c7_1002 : Int)) ∧ ∃ (x1013 : Int), cell h1008 (a1012.add (v9_1007.toNat * 1)) = some (.int .i64 x1013) ∧ K0 x1013 h1008) (((cont c7_1001 c7_1002 c7_1003 c8_1004 c8_1005 c8_1006 (IntKind.i64.wrap (v9_1007 + 1)) h1008)))))) (K2 h1008))
def straitref32_Meet.l0 (K0 : Int → Heap → Prop) (K2 : Heap → Prop) : Nat → (Option Addr) → Nat → Nat → (Option Addr) → Nat → Nat → Int → Heap → Prop
  | 0, _, _, _, _, _, _, _, _ => False
  | m + 1, c7_1001, c7_1002, c7_1003, c8_1004, c8_1005, c8_1006, v9_1007, h => straitref32_Meet.b0 K0 K2 (straitref32_Meet.l0 K0 K2 m) c7_1001 c7_1002 c7_1003 c8_1004 c8_1005 c8_1006 v9_1007 h
def straitref32_Meet (a1 : Option Addr) (a1l : Nat) (a1c : Nat) (a2 : Option Addr) (a2l : Nat) (a2c : Nat) (a3 : Int) (a4 : Int) (h : Heap) (K : Int → Heap → Prop) : Prop :=
  newP h (.cells #[(.slice a1 a1l a1c), (.slice a2 a2l a2c)] 25) fun a5 h6 => (let j32 := (fun (h17 : Heap) => ∃ (x18 : Option Addr) (x18l : Nat) (x18c : Nat), cell h17 a5 = some (.slice x18 x18l x18c) ∧ ∃ (x19 : Option Addr) (x19l : Nat) (x19c : Nat), cell h17 (a5.add 1) = some (.slice x19 x19l x19c) ∧ ∃ (x20 : Option Addr) (x20l : Nat) (x20c : Nat), cell h17 a5 = some (.slice x20 x20l x20c) ∧ ∃ (x21 : Option Addr) (x21l : Nat) (x21c : Nat), cell h17 (a5.add 1) = some (.slice x21 x21l x21c) ∧ callP3 (straitref29_Up x18 x18l x18c x19 x19l x19c a3 h17) fun x22 x22l x22c h23 => (∃ (x24 : Option Addr) (x24l : Nat) (x24c : Nat), cell h23 a5 = some (.slice x24 x24l x24c) ∧ ∃ (x25 : Option Addr) (x25l : Nat) (x25c : Nat), cell h23 (a5.add 1) = some (.slice x25 x25l x25c) ∧ ((.agg #[(.slice x24 x24l x24c), (.slice x25 x25l x25c)]) : Value) = (.agg #[(.slice x20 x20l x20c), (.slice x21 x21l x21c)])) ∧ callP3 (straitref29_Up x20 x20l x20c x21 x21l x21c a4 h23) fun x26 x26l x26c h27 => ((∃ m31, straitref32_Meet.l0 (fun z28 h29 => K z28 h29) (fun h30 => (((K (-1) h30)))) m31 x22 x22l x22c x26 x26l x26c 0 h27)));
  ∃ (x7 : Option Addr) (x7l : Nat) (x7c : Nat), cell h6 a5 = some (.slice x7 x7l x7c) ∧ ∃ (x8 : Option Addr) (x8l : Nat) (x8c : Nat), cell h6 (a5.add 1) = some (.slice x8 x8l x8c) ∧ callP1 (straitref32_in x7 x7l x7c x8 x8l x8c a3 h6) fun x9 h10 => iteB (!x9) (((K (-1) h10))) (∃ (x11 : Option Addr) (x11l : Nat) (x11c : Nat), cell h10 a5 = some (.slice x11 x11l x11c) ∧ ∃ (x12 : Option Addr) (x12l : Nat) (x12c : Nat), cell h10 (a5.add 1) = some (.slice x12 x12l x12c) ∧ callP1 (straitref32_in x11 x11l x11c x12 x12l x12c a4 h10) fun x13 h14 => (iteB (!x13) ((K (-1) h14)) ((j32 h14)))))
def straitref32_Meet.ret (K : Int → Heap → Prop) (v : Value) (h : Heap) : Prop := match v with
  | (.int .i64 r33) => K r33 h
  | _ => False
theorem straitref32_Meet.ret_elim {K : Int → Heap → Prop} {K' : Value → Heap → Prop} {v : Value} {h : Heap} (hk : ∀ r33 h, K r33 h → K' (.int .i64 r33) h) (hh : straitref32_Meet.ret K v h) : K' v h := by
  unfold straitref32_Meet.ret at hh
  split at hh
  · exact hk _ _ hh
  · exact hh.elim
def straitref32_Meet.call (f : FuncId) (vs : List Value) (h : Heap) (K : Value → Heap → Prop) : Prop := match f, vs with
  | 29, [(.agg ⟨[(.slice a1 a1l a1c), (.slice a2 a2l a2c)]⟩), (.int .i64 a3)] => callP3 (straitref29_Up a1 a1l a1c a2 a2l a2c a3 h) fun r9 r9l r9c h' => K (.slice r9 r9l r9c) h'
  | 33, [(.agg ⟨[(.slice a1 a1l a1c), (.slice a2 a2l a2c)]⟩), (.int .i64 a3)] => callP1 (straitref32_in a1 a1l a1c a2 a2l a2c a3 h) fun r8 h' => K (.bool r8) h'
  | _, _ => False
def straitref32_Meet.qcall (f : FuncId) (vs : List Value) (h : Heap) (K : Value → Prop) : Prop := match f, vs with
  | 32, [(.slice a1 a1l a1c), (.int .i64 a2)] => qcallP1 h (straitref21_In a1 a1l a1c a2 h) fun r7 => K (.bool r7)
  | _, _ => False
def straitref32_Meet.r0 (K : Nat → List Value → Heap → Prop) (m : Nat) (vs : List Value) (h : Heap) : Prop := match vs with
  | [(.slice c7_1001 c7_1002 c7_1003), (.slice c8_1004 c8_1005 c8_1006), (.int .i64 v9_1007)] => straitref32_Meet.l0 (fun z34 h' => K 0 [(.int .i64 z34)] h') (fun h' => K 2 [] h') m c7_1001 c7_1002 c7_1003 c8_1004 c8_1005 c8_1006 v9_1007 h
  | _ => False
def straitref32_Meet.loop (i : Nat) (vs : List Value) (h : Heap) (K : Nat → List Value → Heap → Prop) : Prop := match i with
  | 0 => ∃ m, straitref32_Meet.r0 K m vs h
  | _ => False
noncomputable def straitref32_Meet.ctx : Ctx := { P := Tryd.prog, call := straitref32_Meet.call, qcall := straitref32_Meet.qcall, quiet := fun f => Nat.beq f 32, loop := straitref32_Meet.loop }
theorem straitref32_Meet.ok : straitref32_Meet.ctx.OK where
  mixed := by kernel_rfl
  mono := by
    intro f args h K K' hh hk
    change straitref32_Meet.call f args h K at hh
    change straitref32_Meet.call f args h K'
    unfold straitref32_Meet.call at hh ⊢
    split at hh
    · obtain ⟨R, h1, h2⟩ := hh
      exact ⟨R, h1, fun _ _ _ x hr => hk _ _ (h2 _ _ _ x hr)⟩
    · obtain ⟨R, h1, h2⟩ := hh
      exact ⟨R, h1, fun _ x hr => hk _ _ (h2 _ x hr)⟩
    · exact hh.elim
  call := by
    intro f args h K hh w hw
    change straitref32_Meet.call f args h K at hh
    unfold straitref32_Meet.call at hh
    split at hh
    · obtain ⟨R, h1, h2⟩ := hh
      obtain ⟨g1, g2⟩ := straitref29_Up.calls h1 w hw
      exact ⟨g1, g2.mono fun e w' ⟨v, he, ho, hr⟩ => ⟨v, he, ho, straitref29_Up.ret_elim h2 hr⟩⟩
    · obtain ⟨R, h1, h2⟩ := hh
      obtain ⟨g1, g2⟩ := straitref32_in.calls h1 w hw
      exact ⟨g1, g2.mono fun e w' ⟨v, he, ho, hr⟩ => ⟨v, he, ho, straitref32_in.ret_elim h2 hr⟩⟩
    · exact hh.elim
  qmono := by
    intro f args h K K' hh hk
    change straitref32_Meet.qcall f args h K at hh
    change straitref32_Meet.qcall f args h K'
    unfold straitref32_Meet.qcall at hh ⊢
    split at hh
    · obtain ⟨x0, h1, h2⟩ := hh
      exact ⟨x0, h1, hk _ h2⟩
    · exact hh.elim
  qval := by
    intro f args h K hh
    change straitref32_Meet.qcall f args h K at hh
    suffices H : ∃ v, K v ∧ straitref32_Meet.qcall f args h (· = v) from H
    unfold straitref32_Meet.qcall at hh ⊢
    split at hh
    · obtain ⟨x0, h1, h2⟩ := hh
      exact ⟨_, h2, x0, h1, rfl⟩
    · exact hh.elim
  qcall := by
    intro f args h v hh w hw
    change straitref32_Meet.qcall f args h (· = v) at hh
    unfold straitref32_Meet.qcall at hh
    split at hh
    · obtain ⟨x0, h1, h2⟩ := hh
      obtain ⟨g1, g2⟩ := straitref21_In.calls h1 w hw
      refine .inl ⟨g1, g2.mono fun e w' ⟨u, he, ho, hr⟩ => ?_⟩
      have hq := straitref21_In.ret_elim (K' := fun u h' => u = v ∧ h' = h) (fun _ h' hr => by obtain ⟨rfl, rfl⟩ := hr; exact ⟨h2, rfl⟩) hr
      exact ⟨hq.1 ▸ he, ho, hq.2⟩
    · exact hh.elim
noncomputable def straitref32_Meet.code : Code := (Tryd.f20.body).getD .skip
def straitref32_Meet.ann : Ann := (.two .auto (.two .auto (.two (.reg [0, 0, 3, 0, 0, 31, 63, 127] (.take 0 (.take 1 (.take 4 (.early 3 (.alt 2 (.alt 5 (.take 6 (.take 7 .done)) .noalt) .noalt)))))) (.two (.two .auto (.two (.loop 0 [7, 8, 9] [(2, []), (0, [6])] .auto) .auto)) .auto))))
noncomputable def straitref32_Meet.c0 : Code := sub straitref32_Meet.code [1, 1, 1, 0, 1, 0, 0]
def straitref32_Meet.a0 : Ann := .auto
def straitref32_Meet.keep0 : List Nat := [7, 8, 9]
def straitref32_Meet.outs0 : List (Nat × List Nat) := [(2, []), (0, [6])]
set_option maxRecDepth 100000 in
theorem straitref32_Meet.L0 : LoopOK straitref32_Meet.ctx 42 straitref32_Meet.c0 0 straitref32_Meet.keep0 straitref32_Meet.outs0 := by
  refine loop_ok (n := straitref32_Meet.a0) straitref32_Meet.ok (by kernel_rfl) (loops_ok (l := []) (by kernel_rfl) ?_) straitref32_Meet.r0 ?_ ?_ (fun vs h K hh => hh)
  · exact trivial
  · intro K vs h hh
    unfold straitref32_Meet.r0 at hh
    split at hh
    · exact hh
    · exact hh
  · intro K m vs h hh
    unfold straitref32_Meet.r0 at hh
    split at hh
    · exact cast (by kernel_rfl) hh
    · exact hh.elim
set_option maxRecDepth 100000 in
theorem straitref32_Meet.eq (a1 : Option Addr) (a1l : Nat) (a1c : Nat) (a2 : Option Addr) (a2l : Nat) (a2c : Nat) (a3 : Int) (a4 : Int) (h : Heap) (K : Int → Heap → Prop) : evF straitref32_Meet.ctx Tryd.f20 straitref32_Meet.ann [(.agg #[(.slice a1 a1l a1c), (.slice a2 a2l a2c)]), (.int .i64 a3), (.int .i64 a4)] h (straitref32_Meet.ret K) = straitref32_Meet a1 a1l a1c a2 a2l a2c a3 a4 h K := by kernel_rfl
set_option maxRecDepth 100000 in
theorem straitref32_Meet.calls {a1 : Option Addr} {a1l : Nat} {a1c : Nat} {a2 : Option Addr} {a2l : Nat} {a2c : Nat} {a3 : Int} {a4 : Int} {h : Heap} {K : Int → Heap → Prop} (hh : straitref32_Meet a1 a1l a1c a2 a2l a2c a3 a4 h K) (w : World) (hw : w.heap = h) :
    (callFunc 20 #[(.agg #[(.slice a1 a1l a1c), (.slice a2 a2l a2c)]), (.int .i64 a3), (.int .i64 a4)]).run Tryd.prog w = .ok (.enter 20 #[(.agg #[(.slice a1 a1l a1c), (.slice a2 a2l a2c)]), (.int .i64 a3), (.int .i64 a4)]) w ∧ Calls Tryd.prog 20 #[(.agg #[(.slice a1 a1l a1c), (.slice a2 a2l a2c)]), (.int .i64 a3), (.int .i64 a4)] w fun e w' => ∃ v, e = .returned v ∧ Out w w' ∧ straitref32_Meet.ret K v w'.heap := by
  rw [← straitref32_Meet.eq] at hh
  exact fn_calls (args := [(.agg #[(.slice a1 a1l a1c), (.slice a2 a2l a2c)]), (.int .i64 a3), (.int .i64 a4)]) (c := straitref32_Meet.code) straitref32_Meet.ok Tryd.func20 (by kernel_rfl) (by kernel_rfl) (by kernel_rfl) (by kernel_rfl) (loops_ok (l := [(straitref32_Meet.c0, none, 0, straitref32_Meet.keep0, straitref32_Meet.outs0)]) (by kernel_rfl) ⟨straitref32_Meet.L0, trivial⟩) hh w hw

end Go.Proofs.YtfidcekobjmamaaDoor
