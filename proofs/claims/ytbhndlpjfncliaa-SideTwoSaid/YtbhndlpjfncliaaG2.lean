/- WRITTEN BY A PROGRAM OF THIS SESSION (gen.py): what each function asks of memory, and that the model's run comes to it. -/
import Derived.Test.YtbhndlpjfncliaaProg
import Derived.Test.YtbhndlpjfncliaaFw8
import Derived.Test.YtbhndlpjfncliaaG1
namespace Go.Proofs.Ytbhndlpjfncliaa
open Go.Hp
set_option linter.unusedVariables false
set_option linter.unusedSimpArgs false

/-! ### strait/straitref21.Other: function 11 -/
def straitref21_Other.b0 (K2 : (Option Addr) → Nat → Nat → Heap → Prop) (cont : Int → (Option Addr) → Nat → Nat → (Option Addr) → Nat → Nat → Int → Heap → Prop) (c0_1001 : Int) (c1_1002 : Option Addr) (c1_1003 : Nat) (c1_1004 : Nat) (v5_1005 : Option Addr) (v5_1005l : Nat) (v5_1005c : Nat) (v6_1006 : Int) (h1007 : Heap) : Prop :=
  (iteB (decide (v6_1006 < c0_1001)) ((qcallP1 h1007 (straitref21_In c1_1002 c1_1003 c1_1004 v6_1006 h1007) fun x1008 => (iteB (!x1008) (newP h1007 (.cells #[(.int .i64 v6_1006)] 3) fun a1009 h1010 => ∃ n1015, cellsAt h1010 (some a1009) (1 * 1) n1015 ∧ appP 3 1 8 [(.int .i64 0)] v5_1005 v5_1005l v5_1005c 1 n1015 h1010 fun q1011 l1012 c1013 h1014 => ((cont c0_1001 c1_1002 c1_1003 c1_1004 q1011 l1012 c1013 (IntKind.i64.wrap (v6_1006 + 1)) h1014))) (((cont c0_1001 c1_1002 c1_1003 c1_1004 v5_1005 v5_1005l v5_1005c (IntKind.i64.wrap (v6_1006 + 1)) h1007)))))) (K2 v5_1005 v5_1005l v5_1005c h1007))
def straitref21_Other.l0 (K2 : (Option Addr) → Nat → Nat → Heap → Prop) : Nat → Int → (Option Addr) → Nat → Nat → (Option Addr) → Nat → Nat → Int → Heap → Prop
  | 0, _, _, _, _, _, _, _, _, _ => False
  | m + 1, c0_1001, c1_1002, c1_1003, c1_1004, v5_1005, v5_1005l, v5_1005c, v6_1006, h => straitref21_Other.b0 K2 (straitref21_Other.l0 K2 m) c0_1001 c1_1002 c1_1003 c1_1004 v5_1005 v5_1005l v5_1005c v6_1006 h
def straitref21_Other (a1 : Int) (a2 : Option Addr) (a2l : Nat) (a2c : Nat) (h : Heap) (K : (Option Addr) → Nat → Nat → Heap → Prop) : Prop :=
  (((∃ m5, straitref21_Other.l0 (fun z3 z3l z3c h4 => (K z3 z3l z3c h4)) m5 a1 a2 a2l a2c none 0 0 0 h)))
def straitref21_Other.ret (K : (Option Addr) → Nat → Nat → Heap → Prop) (v : Value) (h : Heap) : Prop := match v with
  | (.slice r6 r6l r6c) => K r6 r6l r6c h
  | _ => False
theorem straitref21_Other.ret_elim {K : (Option Addr) → Nat → Nat → Heap → Prop} {K' : Value → Heap → Prop} {v : Value} {h : Heap} (hk : ∀ r6 r6l r6c h, K r6 r6l r6c h → K' (.slice r6 r6l r6c) h) (hh : straitref21_Other.ret K v h) : K' v h := by
  unfold straitref21_Other.ret at hh
  split at hh
  · exact hk _ _ _ _ hh
  · exact hh.elim
def straitref21_Other.qcall (f : FuncId) (vs : List Value) (h : Heap) (K : Value → Prop) : Prop := match f, vs with
  | 26, [(.slice a1 a1l a1c), (.int .i64 a2)] => qcallP1 h (straitref21_In a1 a1l a1c a2 h) fun r7 => K (.bool r7)
  | _, _ => False
def straitref21_Other.r0 (K : Nat → List Value → Heap → Prop) (m : Nat) (vs : List Value) (h : Heap) : Prop := match vs with
  | [(.int .i64 c0_1001), (.slice c1_1002 c1_1003 c1_1004), (.slice v5_1005 v5_1005l v5_1005c), (.int .i64 v6_1006)] => straitref21_Other.l0 (fun z7 z7l z7c h' => K 2 [(.slice z7 z7l z7c)] h') m c0_1001 c1_1002 c1_1003 c1_1004 v5_1005 v5_1005l v5_1005c v6_1006 h
  | _ => False
def straitref21_Other.loop (i : Nat) (vs : List Value) (h : Heap) (K : Nat → List Value → Heap → Prop) : Prop := match i with
  | 0 => ∃ m, straitref21_Other.r0 K m vs h
  | _ => False
noncomputable def straitref21_Other.ctx : Ctx := { P := Try.prog, call := fun _ _ _ _ => False, qcall := straitref21_Other.qcall, quiet := fun f => Nat.beq f 26 || Nat.beq f 1000088, loop := straitref21_Other.loop }
theorem straitref21_Other.ok : straitref21_Other.ctx.OK where
  mixed := by kernel_rfl
  mono := fun hh _ => hh.elim
  call := fun hh => hh.elim
  qmono := by
    intro f args h K K' hh hk
    change straitref21_Other.qcall f args h K at hh
    change straitref21_Other.qcall f args h K'
    unfold straitref21_Other.qcall at hh ⊢
    split at hh
    · obtain ⟨x0, h1, h2⟩ := hh
      exact ⟨x0, h1, hk _ h2⟩
    · exact hh.elim
  qval := by
    intro f args h K hh
    change straitref21_Other.qcall f args h K at hh
    suffices H : ∃ v, K v ∧ straitref21_Other.qcall f args h (· = v) from H
    unfold straitref21_Other.qcall at hh ⊢
    split at hh
    · obtain ⟨x0, h1, h2⟩ := hh
      exact ⟨_, h2, x0, h1, rfl⟩
    · exact hh.elim
  qcall := by
    intro f args h v hh w hw
    change straitref21_Other.qcall f args h (· = v) at hh
    unfold straitref21_Other.qcall at hh
    split at hh
    · obtain ⟨x0, h1, h2⟩ := hh
      obtain ⟨g1, g2⟩ := straitref21_In.calls h1 w hw
      refine .inl ⟨g1, g2.mono fun e w' ⟨u, he, ho, hr⟩ => ?_⟩
      have hq := straitref21_In.ret_elim (K' := fun u h' => u = v ∧ h' = h) (fun _ h' hr => by obtain ⟨rfl, rfl⟩ := hr; exact ⟨h2, rfl⟩) hr
      exact ⟨hq.1 ▸ he, ho, hq.2⟩
    · exact hh.elim
noncomputable def straitref21_Other.code : Code := (Try.f11.body).getD .skip
def straitref21_Other.ann : Ann := (.two .auto (.two .auto (.two (.two .auto (.two (.loop 0 [0, 1, 5, 6] [(2, [5])] .auto) .auto)) .auto)))
noncomputable def straitref21_Other.c0 : Code := sub straitref21_Other.code [1, 1, 0, 1, 0, 0]
def straitref21_Other.a0 : Ann := .auto
def straitref21_Other.keep0 : List Nat := [0, 1, 5, 6]
def straitref21_Other.outs0 : List (Nat × List Nat) := [(2, [5])]
set_option maxRecDepth 100000 in
theorem straitref21_Other.L0 : LoopOK straitref21_Other.ctx 21 straitref21_Other.c0 0 straitref21_Other.keep0 straitref21_Other.outs0 := by
  refine loop_ok (n := straitref21_Other.a0) straitref21_Other.ok (by kernel_rfl) (loops_ok (l := []) (by kernel_rfl) ?_) straitref21_Other.r0 ?_ ?_ (fun vs h K hh => hh)
  · exact trivial
  · intro K vs h hh
    unfold straitref21_Other.r0 at hh
    split at hh
    · exact hh
    · exact hh
  · intro K m vs h hh
    unfold straitref21_Other.r0 at hh
    split at hh
    · exact cast (by kernel_rfl) hh
    · exact hh.elim
set_option maxRecDepth 100000 in
theorem straitref21_Other.eq (a1 : Int) (a2 : Option Addr) (a2l : Nat) (a2c : Nat) (h : Heap) (K : (Option Addr) → Nat → Nat → Heap → Prop) : evF straitref21_Other.ctx Try.f11 straitref21_Other.ann [(.int .i64 a1), (.slice a2 a2l a2c)] h (straitref21_Other.ret K) = straitref21_Other a1 a2 a2l a2c h K := by kernel_rfl
set_option maxRecDepth 100000 in
theorem straitref21_Other.calls {a1 : Int} {a2 : Option Addr} {a2l : Nat} {a2c : Nat} {h : Heap} {K : (Option Addr) → Nat → Nat → Heap → Prop} (hh : straitref21_Other a1 a2 a2l a2c h K) (w : World) (hw : w.heap = h) :
    (callFunc 11 #[(.int .i64 a1), (.slice a2 a2l a2c)]).run Try.prog w = .ok (.enter 11 #[(.int .i64 a1), (.slice a2 a2l a2c)]) w ∧ Calls Try.prog 11 #[(.int .i64 a1), (.slice a2 a2l a2c)] w fun e w' => ∃ v, e = .returned v ∧ Out w w' ∧ straitref21_Other.ret K v w'.heap := by
  rw [← straitref21_Other.eq] at hh
  exact fn_calls (args := [(.int .i64 a1), (.slice a2 a2l a2c)]) (c := straitref21_Other.code) straitref21_Other.ok Try.func11 (by kernel_rfl) (by kernel_rfl) (by kernel_rfl) (by kernel_rfl) (loops_ok (l := [(straitref21_Other.c0, none, 0, straitref21_Other.keep0, straitref21_Other.outs0)]) (by kernel_rfl) ⟨straitref21_Other.L0, trivial⟩) hh w hw

/-! ### strait/straitlaw21.SideTwo: function 4 -/
def straitlaw21_SideTwo.b0 (K2 : (Option Addr) → Nat → Nat → (Option Addr) → Nat → Nat → (Option Addr) → Nat → Nat → (Option Addr) → Nat → Nat → Heap → Prop) (cont : Int → Addr → (Option Addr) → (Option Addr) → Nat → Nat → (Option Addr) → Nat → Nat → (Option Addr) → Nat → Nat → (Option Addr) → Nat → Nat → Int → Heap → Prop) (c0_1001 : Int) (c5_1002 : Addr) (c7_1003 : Option Addr) (v10_1004 : Option Addr) (v10_1004l : Nat) (v10_1004c : Nat) (v11_1005 : Option Addr) (v11_1005l : Nat) (v11_1005c : Nat) (v12_1006 : Option Addr) (v12_1006l : Nat) (v12_1006c : Nat) (v13_1007 : Option Addr) (v13_1007l : Nat) (v13_1007c : Nat) (v14_1008 : Int) (h1009 : Heap) : Prop :=
  (iteB (decide (v14_1008 < (IntKind.i64.wrap c0_1001))) ((let j1079 := (fun (y1074 : Option Addr) (y1074l : Nat) (y1074c : Nat) (y1075 : Option Addr) (y1075l : Nat) (y1075c : Nat) (y1076 : Option Addr) (y1076l : Nat) (y1076c : Nat) (y1077 : Option Addr) (y1077l : Nat) (y1077c : Nat) (h1078 : Heap) => cont c0_1001 c5_1002 c7_1003 y1074 y1074l y1074c y1075 y1075l y1075c y1076 y1076l y1076c y1077 y1077l y1077c (IntKind.i64.wrap (v14_1008 + 1)) h1078);
  (0 ≤ (0 : Int) ∧ (0 : Int) < (2 : Int)) ∧ ∃ (x1010 : Int), cell h1009 (c5_1002.add ((0 : Int).toNat * 1)) = some (.int .u16 x1010) ∧ 0 ≤ v14_1008 ∧ bindV (bits .and .u16 (x1010.fdiv (2 ^ (min v14_1008.toNat 16))) 1) fun n1011 => (0 ≤ (1 : Int) ∧ (1 : Int) < (2 : Int)) ∧ ∃ (x1012 : Int), cell h1009 (c5_1002.add ((1 : Int).toNat * 1)) = some (.int .u16 x1012) ∧ 0 ≤ v14_1008 ∧ bindV (bits .and .u16 (x1012.fdiv (2 ^ (min v14_1008.toNat 16))) 1) fun n1013 => (let j1073 := (fun (y1021 : Option Addr) (y1021l : Nat) (y1021c : Nat) (h1022 : Heap) => let j1072 := (fun (y1030 : Option Addr) (y1030l : Nat) (y1030c : Nat) (h1031 : Heap) => let j1071 := (fun (y1047 : Option Addr) (y1047l : Nat) (y1047c : Nat) (h1048 : Heap) => iteB (n1011 == (1 : Int)) ((newP h1048 (.cells #[(.int .i64 v14_1008)] 3) fun a1057 h1058 => ∃ n1063, cellsAt h1058 (some a1057) (1 * 1) n1063 ∧ appP 3 1 8 [(.int .i64 0)] v13_1007 v13_1007l v13_1007c 1 n1063 h1058 fun q1059 l1060 c1061 h1062 => ((j1079 y1021 y1021l y1021c y1030 y1030l y1030c y1047 y1047l y1047c q1059 l1060 c1061 h1062)))) ((iteB (n1013 == (1 : Int)) (newP h1048 (.cells #[(.int .i64 v14_1008)] 3) fun a1064 h1065 => ∃ n1070, cellsAt h1065 (some a1064) (1 * 1) n1070 ∧ appP 3 1 8 [(.int .i64 0)] v13_1007 v13_1007l v13_1007c 1 n1070 h1065 fun q1066 l1067 c1068 h1069 => ((j1079 y1021 y1021l y1021c y1030 y1030l y1030c y1047 y1047l y1047c q1066 l1067 c1068 h1069))) (((j1079 y1021 y1021l y1021c y1030 y1030l y1030c y1047 y1047l y1047c v13_1007 v13_1007l v13_1007c h1048))))));
  iteB (n1011 == (1 : Int)) ((iteB (n1013 == (1 : Int)) (newP h1031 (.cells #[(.int .i64 v14_1008)] 3) fun a1040 h1041 => ∃ n1046, cellsAt h1041 (some a1040) (1 * 1) n1046 ∧ appP 3 1 8 [(.int .i64 0)] v12_1006 v12_1006l v12_1006c 1 n1046 h1041 fun q1042 l1043 c1044 h1045 => (j1071 q1042 l1043 c1044 h1045)) ((j1071 v12_1006 v12_1006l v12_1006c h1031)))) (((j1071 v12_1006 v12_1006l v12_1006c h1031))));
  (iteB (n1013 == (1 : Int)) (newP h1022 (.cells #[(.int .i64 v14_1008)] 3) fun a1023 h1024 => ∃ n1029, cellsAt h1024 (some a1023) (1 * 1) n1029 ∧ appP 3 1 8 [(.int .i64 0)] v11_1005 v11_1005l v11_1005c 1 n1029 h1024 fun q1025 l1026 c1027 h1028 => (j1072 q1025 l1026 c1027 h1028)) ((j1072 v11_1005 v11_1005l v11_1005c h1022))));
  (iteB (n1011 == (1 : Int)) (newP h1009 (.cells #[(.int .i64 v14_1008)] 3) fun a1014 h1015 => ∃ n1020, cellsAt h1015 (some a1014) (1 * 1) n1020 ∧ appP 3 1 8 [(.int .i64 0)] v10_1004 v10_1004l v10_1004c 1 n1020 h1015 fun q1016 l1017 c1018 h1019 => (j1073 q1016 l1017 c1018 h1019)) ((j1073 v10_1004 v10_1004l v10_1004c h1009)))))) (K2 v10_1004 v10_1004l v10_1004c v11_1005 v11_1005l v11_1005c v12_1006 v12_1006l v12_1006c v13_1007 v13_1007l v13_1007c h1009))
def straitlaw21_SideTwo.l0 (K2 : (Option Addr) → Nat → Nat → (Option Addr) → Nat → Nat → (Option Addr) → Nat → Nat → (Option Addr) → Nat → Nat → Heap → Prop) : Nat → Int → Addr → (Option Addr) → (Option Addr) → Nat → Nat → (Option Addr) → Nat → Nat → (Option Addr) → Nat → Nat → (Option Addr) → Nat → Nat → Int → Heap → Prop
  | 0, _, _, _, _, _, _, _, _, _, _, _, _, _, _, _, _, _ => False
  | m + 1, c0_1001, c5_1002, c7_1003, v10_1004, v10_1004l, v10_1004c, v11_1005, v11_1005l, v11_1005c, v12_1006, v12_1006l, v12_1006c, v13_1007, v13_1007l, v13_1007c, v14_1008, h => straitlaw21_SideTwo.b0 K2 (straitlaw21_SideTwo.l0 K2 m) c0_1001 c5_1002 c7_1003 v10_1004 v10_1004l v10_1004c v11_1005 v11_1005l v11_1005c v12_1006 v12_1006l v12_1006c v13_1007 v13_1007l v13_1007c v14_1008 h
def straitlaw21_SideTwo (a1 : Int) (a2 : Option Addr) (a2l : Nat) (a2c : Nat) (a3 : Int) (a4 : Int) (h : Heap) (K : Bool → Heap → Prop) : Prop :=
  newP h (.cells #[(.int .u16 a3), (.int .u16 a4)] 29) fun a5 h6 => (let j53 : Prop := (callP3 (net_New (IntKind.i64.wrap a1) a2 a2l a2c h6) fun x14 x15 x16 h17 => ((iteB (x15 != (0 : Int)) (callP1 (straitlaw21_awake h17) fun x18 h19 => K x18 h19) ((((∃ m25, straitlaw21_SideTwo.l0 (fun z20 z20l z20c z21 z21l z21c z22 z22l z22c z23 z23l z23c h24 => ((callP2 (side_Weight x14 z20 z20l z20c h24) fun x26 x27 h28 => (callP2 (side_Weight x14 z21 z21l z21c h28) fun x29 x30 h31 => (callP2 (side_Weight x14 z22 z22l z22c h31) fun x32 x33 h34 => (callP2 (side_Weight x14 z23 z23l z23c h34) fun x35 x36 h37 => (callP3 (straitref21_Other (IntKind.i64.wrap a1) z20 z20l z20c h37) fun x38 x38l x38c h39 => callP2 (side_Weight x14 x38 x38l x38c h39) fun x40 x41 h42 => (let j52 : Prop := (iteB (x27 != (0 : Int)) (callP1 (straitlaw21_awake h42) fun x44 h45 => K x44 h45) (iteB (x30 != (0 : Int)) (callP1 (straitlaw21_awake h42) fun x46 h47 => K x46 h47) (iteB (decide ((IntKind.i64.wrap (x32 + x35)) ≤ (IntKind.i64.wrap (x26 + x29)))) (callP1 (straitlaw21_awake h42) fun x48 h49 => K x48 h49) (K false h42))));
  iteB (x27 != x41) (K false h42) ((iteB (x26 != x40) (K false h42) ((j52)))))))))))) m25 a1 a5 x14 none 0 0 none 0 0 none 0 0 none 0 0 0 h17)))))));
  iteB (decide ((a2l : Int) > (60 : Int))) ((callP1 (straitlaw21_awake h6) fun x10 h11 => K x10 h11)) ((iteB (decide (a1 > (16 : Int))) (callP1 (straitlaw21_awake h6) fun x12 h13 => K x12 h13) ((j53)))))
def straitlaw21_SideTwo.ret (K : Bool → Heap → Prop) (v : Value) (h : Heap) : Prop := match v with
  | (.bool r54) => K r54 h
  | _ => False
theorem straitlaw21_SideTwo.ret_elim {K : Bool → Heap → Prop} {K' : Value → Heap → Prop} {v : Value} {h : Heap} (hk : ∀ r54 h, K r54 h → K' (.bool r54) h) (hh : straitlaw21_SideTwo.ret K v h) : K' v h := by
  unfold straitlaw21_SideTwo.ret at hh
  split at hh
  · exact hk _ _ hh
  · exact hh.elim
def straitlaw21_SideTwo.call (f : FuncId) (vs : List Value) (h : Heap) (K : Value → Heap → Prop) : Prop := match f, vs with
  | 6, [] => callP1 (straitlaw21_awake h) fun r30 h' => K (.bool r30) h'
  | 9, [(.int .i64 a1), (.slice a2 a2l a2c)] => callP3 (net_New a1 a2 a2l a2c h) fun r37 r38 r39 h' => K (.tuple #[(.pointer r37), (.int .i64 r38), (.int .i64 r39)]) h'
  | 10, [(.pointer a1), (.slice a2 a2l a2c)] => callP2 (side_Weight a1 a2 a2l a2c h) fun r3 r4 h' => K (.tuple #[(.int .i64 r3), (.int .i64 r4)]) h'
  | 11, [(.int .i64 a1), (.slice a2 a2l a2c)] => callP3 (straitref21_Other a1 a2 a2l a2c h) fun r6 r6l r6c h' => K (.slice r6 r6l r6c) h'
  | _, _ => False
def straitlaw21_SideTwo.r0 (K : Nat → List Value → Heap → Prop) (m : Nat) (vs : List Value) (h : Heap) : Prop := match vs with
  | [(.int .u8 c0_1001), (.pointer (some c5_1002)), (.pointer c7_1003), (.slice v10_1004 v10_1004l v10_1004c), (.slice v11_1005 v11_1005l v11_1005c), (.slice v12_1006 v12_1006l v12_1006c), (.slice v13_1007 v13_1007l v13_1007c), (.int .i64 v14_1008)] => straitlaw21_SideTwo.l0 (fun z55 z55l z55c z56 z56l z56c z57 z57l z57c z58 z58l z58c h' => K 2 [(.int .u8 c0_1001), (.pointer c7_1003), (.slice z55 z55l z55c), (.slice z56 z56l z56c), (.slice z57 z57l z57c), (.slice z58 z58l z58c)] h') m c0_1001 c5_1002 c7_1003 v10_1004 v10_1004l v10_1004c v11_1005 v11_1005l v11_1005c v12_1006 v12_1006l v12_1006c v13_1007 v13_1007l v13_1007c v14_1008 h
  | _ => False
def straitlaw21_SideTwo.loop (i : Nat) (vs : List Value) (h : Heap) (K : Nat → List Value → Heap → Prop) : Prop := match i with
  | 0 => ∃ m, straitlaw21_SideTwo.r0 K m vs h
  | _ => False
noncomputable def straitlaw21_SideTwo.ctx : Ctx := { P := Try.prog, call := straitlaw21_SideTwo.call, qcall := fun _ _ _ _ => False, quiet := fun f => Nat.beq f 1000088, loop := straitlaw21_SideTwo.loop }
theorem straitlaw21_SideTwo.ok : straitlaw21_SideTwo.ctx.OK where
  mixed := by kernel_rfl
  mono := by
    intro f args h K K' hh hk
    change straitlaw21_SideTwo.call f args h K at hh
    change straitlaw21_SideTwo.call f args h K'
    unfold straitlaw21_SideTwo.call at hh ⊢
    split at hh
    · obtain ⟨R, h1, h2⟩ := hh
      exact ⟨R, h1, fun _ x hr => hk _ _ (h2 _ x hr)⟩
    · obtain ⟨R, h1, h2⟩ := hh
      exact ⟨R, h1, fun _ _ _ x hr => hk _ _ (h2 _ _ _ x hr)⟩
    · obtain ⟨R, h1, h2⟩ := hh
      exact ⟨R, h1, fun _ _ x hr => hk _ _ (h2 _ _ x hr)⟩
    · obtain ⟨R, h1, h2⟩ := hh
      exact ⟨R, h1, fun _ _ _ x hr => hk _ _ (h2 _ _ _ x hr)⟩
    · exact hh.elim
  call := by
    intro f args h K hh w hw
    change straitlaw21_SideTwo.call f args h K at hh
    unfold straitlaw21_SideTwo.call at hh
    split at hh
    · obtain ⟨R, h1, h2⟩ := hh
      obtain ⟨g1, g2⟩ := straitlaw21_awake.calls h1 w hw
      exact ⟨g1, g2.mono fun e w' ⟨v, he, ho, hr⟩ => ⟨v, he, ho, straitlaw21_awake.ret_elim h2 hr⟩⟩
    · obtain ⟨R, h1, h2⟩ := hh
      obtain ⟨g1, g2⟩ := net_New.calls h1 w hw
      exact ⟨g1, g2.mono fun e w' ⟨v, he, ho, hr⟩ => ⟨v, he, ho, net_New.ret_elim h2 hr⟩⟩
    · obtain ⟨R, h1, h2⟩ := hh
      obtain ⟨g1, g2⟩ := side_Weight.calls h1 w hw
      exact ⟨g1, g2.mono fun e w' ⟨v, he, ho, hr⟩ => ⟨v, he, ho, side_Weight.ret_elim h2 hr⟩⟩
    · obtain ⟨R, h1, h2⟩ := hh
      obtain ⟨g1, g2⟩ := straitref21_Other.calls h1 w hw
      exact ⟨g1, g2.mono fun e w' ⟨v, he, ho, hr⟩ => ⟨v, he, ho, straitref21_Other.ret_elim h2 hr⟩⟩
    · exact hh.elim
  qmono := fun hh _ => hh.elim
  qval := fun hh => hh.elim
  qcall := fun hh => hh.elim
noncomputable def straitlaw21_SideTwo.code : Code := (Try.f4.body).getD .skip
def straitlaw21_SideTwo.ann : Ann := (.two .auto (.two .auto (.two .auto (.two .auto (.two .auto (.two (.two .auto (.two (.loop 0 [0, 5, 7, 10, 11, 12, 13, 14] [(2, [0, 7, 10, 11, 12, 13])] (.two .auto (.two (.two (.two (.reg [0, 1, 0, 7, 15, 31, 0, 64, 0, 448, 960, 1984, 63, 8191] (.take 0 (.take 1 (.take 2 (.take 3 (.take 4 (.take 5 (.take 6 (.take 7 (.take 8 (.take 9 (.take 10 (.take 11 (.take 12 (.take 13 .done))))))))))))))) .auto) .auto) .auto))) .auto)) .auto))))))
noncomputable def straitlaw21_SideTwo.c0 : Code := sub straitlaw21_SideTwo.code [1, 1, 1, 1, 1, 0, 1, 0, 0]
def straitlaw21_SideTwo.a0 : Ann := (.two .auto (.two (.two (.two (.reg [0, 1, 0, 7, 15, 31, 0, 64, 0, 448, 960, 1984, 63, 8191] (.take 0 (.take 1 (.take 2 (.take 3 (.take 4 (.take 5 (.take 6 (.take 7 (.take 8 (.take 9 (.take 10 (.take 11 (.take 12 (.take 13 .done))))))))))))))) .auto) .auto) .auto))
def straitlaw21_SideTwo.keep0 : List Nat := [0, 5, 7, 10, 11, 12, 13, 14]
def straitlaw21_SideTwo.outs0 : List (Nat × List Nat) := [(2, [0, 7, 10, 11, 12, 13])]
set_option maxRecDepth 100000 in
theorem straitlaw21_SideTwo.L0 : LoopOK straitlaw21_SideTwo.ctx 149 straitlaw21_SideTwo.c0 0 straitlaw21_SideTwo.keep0 straitlaw21_SideTwo.outs0 := by
  refine loop_ok (n := straitlaw21_SideTwo.a0) straitlaw21_SideTwo.ok (by kernel_rfl) (loops_ok (l := []) (by kernel_rfl) ?_) straitlaw21_SideTwo.r0 ?_ ?_ (fun vs h K hh => hh)
  · exact trivial
  · intro K vs h hh
    unfold straitlaw21_SideTwo.r0 at hh
    split at hh
    · exact hh
    · exact hh
  · intro K m vs h hh
    unfold straitlaw21_SideTwo.r0 at hh
    split at hh
    · exact cast (by kernel_rfl) hh
    · exact hh.elim
set_option maxRecDepth 100000 in
theorem straitlaw21_SideTwo.eq (a1 : Int) (a2 : Option Addr) (a2l : Nat) (a2c : Nat) (a3 : Int) (a4 : Int) (h : Heap) (K : Bool → Heap → Prop) : evF straitlaw21_SideTwo.ctx Try.f4 straitlaw21_SideTwo.ann [(.int .u8 a1), (.slice a2 a2l a2c), (.agg #[(.int .u16 a3), (.int .u16 a4)])] h (straitlaw21_SideTwo.ret K) = straitlaw21_SideTwo a1 a2 a2l a2c a3 a4 h K := by kernel_rfl
set_option maxRecDepth 100000 in
theorem straitlaw21_SideTwo.calls {a1 : Int} {a2 : Option Addr} {a2l : Nat} {a2c : Nat} {a3 : Int} {a4 : Int} {h : Heap} {K : Bool → Heap → Prop} (hh : straitlaw21_SideTwo a1 a2 a2l a2c a3 a4 h K) (w : World) (hw : w.heap = h) :
    (callFunc 4 #[(.int .u8 a1), (.slice a2 a2l a2c), (.agg #[(.int .u16 a3), (.int .u16 a4)])]).run Try.prog w = .ok (.enter 4 #[(.int .u8 a1), (.slice a2 a2l a2c), (.agg #[(.int .u16 a3), (.int .u16 a4)])]) w ∧ Calls Try.prog 4 #[(.int .u8 a1), (.slice a2 a2l a2c), (.agg #[(.int .u16 a3), (.int .u16 a4)])] w fun e w' => ∃ v, e = .returned v ∧ Out w w' ∧ straitlaw21_SideTwo.ret K v w'.heap := by
  rw [← straitlaw21_SideTwo.eq] at hh
  exact fn_calls (args := [(.int .u8 a1), (.slice a2 a2l a2c), (.agg #[(.int .u16 a3), (.int .u16 a4)])]) (c := straitlaw21_SideTwo.code) straitlaw21_SideTwo.ok Try.func4 (by kernel_rfl) (by kernel_rfl) (by kernel_rfl) (by kernel_rfl) (loops_ok (l := [(straitlaw21_SideTwo.c0, none, 0, straitlaw21_SideTwo.keep0, straitlaw21_SideTwo.outs0)]) (by kernel_rfl) ⟨straitlaw21_SideTwo.L0, trivial⟩) hh w hw

/-! ### strait/straitref15.Check: function 51 -/
def straitref15_Check (a1 : Int) (a2 : Int) (a3 : Int) (a4 : Int) (h : Heap) (K : Int → Heap → Prop) : Prop :=
  newP h (.cells #[(.int .i64 a2), (.int .i64 a3), (.int .i64 a4)] 58) fun a5 h6 => (∃ (x7 : Int), cell h6 a5 = some (.int .i64 x7) ∧ iteB (decide (x7 < (0 : Int))) (K 4 h6) (∃ (x8 : Int), cell h6 a5 = some (.int .i64 x8) ∧ iteB (decide (x8 ≥ a1)) (K 4 h6) (∃ (x9 : Int), cell h6 (a5.add 1) = some (.int .i64 x9) ∧ iteB (decide (x9 < (0 : Int))) (K 4 h6) (∃ (x10 : Int), cell h6 (a5.add 1) = some (.int .i64 x10) ∧ (iteB (decide (x10 ≥ a1)) (K 4 h6) ((∃ (x18 : Int), cell h6 (a5.add 2) = some (.int .i64 x18) ∧ iteB (decide (x18 < (0 : Int))) (K 5 h6) (∃ (x19 : Int), cell h6 (a5.add 2) = some (.int .i64 x19) ∧ (iteB (decide (x19 > (2147483648 : Int))) (K 5 h6) (K 0 h6))))))))))
def straitref15_Check.ret (K : Int → Heap → Prop) (v : Value) (h : Heap) : Prop := match v with
  | (.int .i64 r21) => K r21 h
  | _ => False
theorem straitref15_Check.ret_elim {K : Int → Heap → Prop} {K' : Value → Heap → Prop} {v : Value} {h : Heap} (hk : ∀ r21 h, K r21 h → K' (.int .i64 r21) h) (hh : straitref15_Check.ret K v h) : K' v h := by
  unfold straitref15_Check.ret at hh
  split at hh
  · exact hk _ _ hh
  · exact hh.elim
noncomputable def straitref15_Check.ctx : Ctx := { P := Try.prog, call := fun _ _ _ _ => False, qcall := fun _ _ _ _ => False, quiet := fun f => Nat.beq f 1000088, loop := fun _ _ _ _ => False }
theorem straitref15_Check.ok : straitref15_Check.ctx.OK where
  mixed := by kernel_rfl
  mono := fun hh _ => hh.elim
  call := fun hh => hh.elim
  qmono := fun hh _ => hh.elim
  qval := fun hh => hh.elim
  qcall := fun hh => hh.elim
noncomputable def straitref15_Check.code : Code := (Try.f51.body).getD .skip
def straitref15_Check.ann : Ann := .auto
set_option maxRecDepth 100000 in
theorem straitref15_Check.eq (a1 : Int) (a2 : Int) (a3 : Int) (a4 : Int) (h : Heap) (K : Int → Heap → Prop) : evF straitref15_Check.ctx Try.f51 straitref15_Check.ann [(.int .i64 a1), (.agg #[(.int .i64 a2), (.int .i64 a3), (.int .i64 a4)])] h (straitref15_Check.ret K) = straitref15_Check a1 a2 a3 a4 h K := by kernel_rfl
set_option maxRecDepth 100000 in
theorem straitref15_Check.calls {a1 : Int} {a2 : Int} {a3 : Int} {a4 : Int} {h : Heap} {K : Int → Heap → Prop} (hh : straitref15_Check a1 a2 a3 a4 h K) (w : World) (hw : w.heap = h) :
    (callFunc 51 #[(.int .i64 a1), (.agg #[(.int .i64 a2), (.int .i64 a3), (.int .i64 a4)])]).run Try.prog w = .ok (.enter 51 #[(.int .i64 a1), (.agg #[(.int .i64 a2), (.int .i64 a3), (.int .i64 a4)])]) w ∧ Calls Try.prog 51 #[(.int .i64 a1), (.agg #[(.int .i64 a2), (.int .i64 a3), (.int .i64 a4)])] w fun e w' => ∃ v, e = .returned v ∧ Out w w' ∧ straitref15_Check.ret K v w'.heap := by
  rw [← straitref15_Check.eq] at hh
  exact fn_calls (args := [(.int .i64 a1), (.agg #[(.int .i64 a2), (.int .i64 a3), (.int .i64 a4)])]) (c := straitref15_Check.code) straitref15_Check.ok Try.func51 (by kernel_rfl) (by kernel_rfl) (by kernel_rfl) (by kernel_rfl) (loops_ok (l := []) (by kernel_rfl) trivial) hh w hw

/-! ### strait/straitref15.Checks: function 33 -/
def straitref15_Checks.b0 (K0 : Heap → Prop) (K2 : Heap → Prop) (cont : Int → (Option Addr) → Nat → Nat → Addr → Int → Heap → Prop) (c0_1001 : Int) (c1_1002 : Option Addr) (c1_1003 : Nat) (c1_1004 : Nat) (c4_1005 : Addr) (v5_1006 : Int) (h1007 : Heap) : Prop :=
  (iteB (decide (v5_1006 < (c1_1003 : Int))) ((chkP c1_1002 fun a1008 => (0 ≤ v5_1006 ∧ v5_1006 < (c1_1003 : Int)) ∧ ∃ (x1009 : Int), cell h1007 (a1008.add (v5_1006.toNat * 3)) = some (.int .i64 x1009) ∧ ∃ (x1010 : Int), cell h1007 ((a1008.add (v5_1006.toNat * 3)).add 1) = some (.int .i64 x1010) ∧ ∃ (x1011 : Int), cell h1007 ((a1008.add (v5_1006.toNat * 3)).add 2) = some (.int .i64 x1011) ∧ callP1 (straitref15_Check c0_1001 x1009 x1010 x1011 h1007) fun x1012 h1013 => ((iteB (x1012 != (0 : Int)) (stC h1013 c4_1005 (.int .i64 x1012) fun h1014 => stC h1014 (c4_1005.add 1) (.int .i64 v5_1006) fun h1015 => K0 h1015) (((cont c0_1001 c1_1002 c1_1003 c1_1004 c4_1005 (IntKind.i64.wrap (v5_1006 + 1)) h1013))))))) (K2 h1007))
def straitref15_Checks.l0 (K0 : Heap → Prop) (K2 : Heap → Prop) : Nat → Int → (Option Addr) → Nat → Nat → Addr → Int → Heap → Prop
  | 0, _, _, _, _, _, _, _ => False
  | m + 1, c0_1001, c1_1002, c1_1003, c1_1004, c4_1005, v5_1006, h => straitref15_Checks.b0 K0 K2 (straitref15_Checks.l0 K0 K2 m) c0_1001 c1_1002 c1_1003 c1_1004 c4_1005 v5_1006 h
def straitref15_Checks (a1 : Int) (a2 : Option Addr) (a2l : Nat) (a2c : Nat) (h : Heap) (K : Int → Int → Heap → Prop) : Prop :=
  newP h (.cells #[(.int .i64 0), (.int .i64 0)] 80) fun a3 h4 => ((∃ m9, straitref15_Checks.l0 (fun h5 => ∃ (x6 : Int), cell h5 a3 = some (.int .i64 x6) ∧ ∃ (x7 : Int), cell h5 (a3.add 1) = some (.int .i64 x7) ∧ K x6 x7 h5) (fun h8 => ((stC h8 a3 (.int .i64 0) fun h10 => stC h10 (a3.add 1) (.int .i64 0) fun h11 => (∃ (x12 : Int), cell h11 a3 = some (.int .i64 x12) ∧ ∃ (x13 : Int), cell h11 (a3.add 1) = some (.int .i64 x13) ∧ K x12 x13 h11)))) m9 a1 a2 a2l a2c a3 0 h4))
def straitref15_Checks.ret (K : Int → Int → Heap → Prop) (v : Value) (h : Heap) : Prop := match v with
  | (.agg ⟨[(.int .i64 r14), (.int .i64 r15)]⟩) => K r14 r15 h
  | _ => False
theorem straitref15_Checks.ret_elim {K : Int → Int → Heap → Prop} {K' : Value → Heap → Prop} {v : Value} {h : Heap} (hk : ∀ r14 r15 h, K r14 r15 h → K' (.agg #[(.int .i64 r14), (.int .i64 r15)]) h) (hh : straitref15_Checks.ret K v h) : K' v h := by
  unfold straitref15_Checks.ret at hh
  split at hh
  · exact hk _ _ _ hh
  · exact hh.elim
def straitref15_Checks.call (f : FuncId) (vs : List Value) (h : Heap) (K : Value → Heap → Prop) : Prop := match f, vs with
  | 51, [(.int .i64 a1), (.agg ⟨[(.int .i64 a2), (.int .i64 a3), (.int .i64 a4)]⟩)] => callP1 (straitref15_Check a1 a2 a3 a4 h) fun r21 h' => K (.int .i64 r21) h'
  | _, _ => False
def straitref15_Checks.r0 (K : Nat → List Value → Heap → Prop) (m : Nat) (vs : List Value) (h : Heap) : Prop := match vs with
  | [(.int .i64 c0_1001), (.slice c1_1002 c1_1003 c1_1004), (.pointer (some c4_1005)), (.int .i64 v5_1006)] => straitref15_Checks.l0 (fun h' => K 0 [(.pointer (some c4_1005))] h') (fun h' => K 2 [(.pointer (some c4_1005))] h') m c0_1001 c1_1002 c1_1003 c1_1004 c4_1005 v5_1006 h
  | _ => False
def straitref15_Checks.loop (i : Nat) (vs : List Value) (h : Heap) (K : Nat → List Value → Heap → Prop) : Prop := match i with
  | 0 => ∃ m, straitref15_Checks.r0 K m vs h
  | _ => False
noncomputable def straitref15_Checks.ctx : Ctx := { P := Try.prog, call := straitref15_Checks.call, qcall := fun _ _ _ _ => False, quiet := fun f => Nat.beq f 1000088, loop := straitref15_Checks.loop }
theorem straitref15_Checks.ok : straitref15_Checks.ctx.OK where
  mixed := by kernel_rfl
  mono := by
    intro f args h K K' hh hk
    change straitref15_Checks.call f args h K at hh
    change straitref15_Checks.call f args h K'
    unfold straitref15_Checks.call at hh ⊢
    split at hh
    · obtain ⟨R, h1, h2⟩ := hh
      exact ⟨R, h1, fun _ x hr => hk _ _ (h2 _ x hr)⟩
    · exact hh.elim
  call := by
    intro f args h K hh w hw
    change straitref15_Checks.call f args h K at hh
    unfold straitref15_Checks.call at hh
    split at hh
    · obtain ⟨R, h1, h2⟩ := hh
      obtain ⟨g1, g2⟩ := straitref15_Check.calls h1 w hw
      exact ⟨g1, g2.mono fun e w' ⟨v, he, ho, hr⟩ => ⟨v, he, ho, straitref15_Check.ret_elim h2 hr⟩⟩
    · exact hh.elim
  qmono := fun hh _ => hh.elim
  qval := fun hh => hh.elim
  qcall := fun hh => hh.elim
noncomputable def straitref15_Checks.code : Code := (Try.f33.body).getD .skip
def straitref15_Checks.ann : Ann := (.two .auto (.two (.two .auto (.two (.loop 0 [0, 1, 4, 5] [(2, [4]), (0, [4])] .auto) .auto)) .auto))
noncomputable def straitref15_Checks.c0 : Code := sub straitref15_Checks.code [1, 0, 1, 0, 0]
def straitref15_Checks.a0 : Ann := .auto
def straitref15_Checks.keep0 : List Nat := [0, 1, 4, 5]
def straitref15_Checks.outs0 : List (Nat × List Nat) := [(2, [4]), (0, [4])]
set_option maxRecDepth 100000 in
theorem straitref15_Checks.L0 : LoopOK straitref15_Checks.ctx 25 straitref15_Checks.c0 0 straitref15_Checks.keep0 straitref15_Checks.outs0 := by
  refine loop_ok (n := straitref15_Checks.a0) straitref15_Checks.ok (by kernel_rfl) (loops_ok (l := []) (by kernel_rfl) ?_) straitref15_Checks.r0 ?_ ?_ (fun vs h K hh => hh)
  · exact trivial
  · intro K vs h hh
    unfold straitref15_Checks.r0 at hh
    split at hh
    · exact hh
    · exact hh
  · intro K m vs h hh
    unfold straitref15_Checks.r0 at hh
    split at hh
    · exact cast (by kernel_rfl) hh
    · exact hh.elim
set_option maxRecDepth 100000 in
theorem straitref15_Checks.eq (a1 : Int) (a2 : Option Addr) (a2l : Nat) (a2c : Nat) (h : Heap) (K : Int → Int → Heap → Prop) : evF straitref15_Checks.ctx Try.f33 straitref15_Checks.ann [(.int .i64 a1), (.slice a2 a2l a2c)] h (straitref15_Checks.ret K) = straitref15_Checks a1 a2 a2l a2c h K := by kernel_rfl
set_option maxRecDepth 100000 in
theorem straitref15_Checks.calls {a1 : Int} {a2 : Option Addr} {a2l : Nat} {a2c : Nat} {h : Heap} {K : Int → Int → Heap → Prop} (hh : straitref15_Checks a1 a2 a2l a2c h K) (w : World) (hw : w.heap = h) :
    (callFunc 33 #[(.int .i64 a1), (.slice a2 a2l a2c)]).run Try.prog w = .ok (.enter 33 #[(.int .i64 a1), (.slice a2 a2l a2c)]) w ∧ Calls Try.prog 33 #[(.int .i64 a1), (.slice a2 a2l a2c)] w fun e w' => ∃ v, e = .returned v ∧ Out w w' ∧ straitref15_Checks.ret K v w'.heap := by
  rw [← straitref15_Checks.eq] at hh
  exact fn_calls (args := [(.int .i64 a1), (.slice a2 a2l a2c)]) (c := straitref15_Checks.code) straitref15_Checks.ok Try.func33 (by kernel_rfl) (by kernel_rfl) (by kernel_rfl) (by kernel_rfl) (loops_ok (l := [(straitref15_Checks.c0, none, 0, straitref15_Checks.keep0, straitref15_Checks.outs0)]) (by kernel_rfl) ⟨straitref15_Checks.L0, trivial⟩) hh w hw

/-! ### strait/straitref15.Normal: function 53 -/
def straitref15_Normal (a1 : Int) (a2 : Int) (a3 : Int) (h : Heap) (K : Int → Int → Int → Heap → Prop) : Prop :=
  newP h (.cells #[(.int .i64 a1), (.int .i64 a2), (.int .i64 a3)] 58) fun a4 h5 => newP h5 (.cells #[(.int .i64 0), (.int .i64 0), (.int .i64 0)] 58) fun a6 h7 => (∃ (x8 : Int), cell h7 a4 = some (.int .i64 x8) ∧ ∃ (x9 : Int), cell h7 (a4.add 1) = some (.int .i64 x9) ∧ (iteB (decide (x8 > x9)) (∃ (x10 : Int), cell h7 (a4.add 1) = some (.int .i64 x10) ∧ ∃ (x11 : Int), cell h7 a4 = some (.int .i64 x11) ∧ ∃ (x12 : Int), cell h7 (a4.add 2) = some (.int .i64 x12) ∧ stC h7 a6 (.int .i64 x10) fun h13 => stC h13 (a6.add 1) (.int .i64 x11) fun h14 => stC h14 (a6.add 2) (.int .i64 x12) fun h15 => (∃ (x16 : Int), cell h15 a6 = some (.int .i64 x16) ∧ ∃ (x17 : Int), cell h15 (a6.add 1) = some (.int .i64 x17) ∧ ∃ (x18 : Int), cell h15 (a6.add 2) = some (.int .i64 x18) ∧ K x16 x17 x18 h15)) ((∃ (x19 : Int), cell h7 a4 = some (.int .i64 x19) ∧ ∃ (x20 : Int), cell h7 (a4.add 1) = some (.int .i64 x20) ∧ ∃ (x21 : Int), cell h7 (a4.add 2) = some (.int .i64 x21) ∧ stC h7 a6 (.int .i64 x19) fun h22 => stC h22 (a6.add 1) (.int .i64 x20) fun h23 => stC h23 (a6.add 2) (.int .i64 x21) fun h24 => (∃ (x25 : Int), cell h24 a6 = some (.int .i64 x25) ∧ ∃ (x26 : Int), cell h24 (a6.add 1) = some (.int .i64 x26) ∧ ∃ (x27 : Int), cell h24 (a6.add 2) = some (.int .i64 x27) ∧ K x25 x26 x27 h24)))))
def straitref15_Normal.ret (K : Int → Int → Int → Heap → Prop) (v : Value) (h : Heap) : Prop := match v with
  | (.agg ⟨[(.int .i64 r28), (.int .i64 r29), (.int .i64 r30)]⟩) => K r28 r29 r30 h
  | _ => False
theorem straitref15_Normal.ret_elim {K : Int → Int → Int → Heap → Prop} {K' : Value → Heap → Prop} {v : Value} {h : Heap} (hk : ∀ r28 r29 r30 h, K r28 r29 r30 h → K' (.agg #[(.int .i64 r28), (.int .i64 r29), (.int .i64 r30)]) h) (hh : straitref15_Normal.ret K v h) : K' v h := by
  unfold straitref15_Normal.ret at hh
  split at hh
  · exact hk _ _ _ _ hh
  · exact hh.elim
noncomputable def straitref15_Normal.ctx : Ctx := { P := Try.prog, call := fun _ _ _ _ => False, qcall := fun _ _ _ _ => False, quiet := fun f => Nat.beq f 1000088, loop := fun _ _ _ _ => False }
theorem straitref15_Normal.ok : straitref15_Normal.ctx.OK where
  mixed := by kernel_rfl
  mono := fun hh _ => hh.elim
  call := fun hh => hh.elim
  qmono := fun hh _ => hh.elim
  qval := fun hh => hh.elim
  qcall := fun hh => hh.elim
noncomputable def straitref15_Normal.code : Code := (Try.f53.body).getD .skip
def straitref15_Normal.ann : Ann := .auto
set_option maxRecDepth 100000 in
theorem straitref15_Normal.eq (a1 : Int) (a2 : Int) (a3 : Int) (h : Heap) (K : Int → Int → Int → Heap → Prop) : evF straitref15_Normal.ctx Try.f53 straitref15_Normal.ann [(.agg #[(.int .i64 a1), (.int .i64 a2), (.int .i64 a3)])] h (straitref15_Normal.ret K) = straitref15_Normal a1 a2 a3 h K := by kernel_rfl
set_option maxRecDepth 100000 in
theorem straitref15_Normal.calls {a1 : Int} {a2 : Int} {a3 : Int} {h : Heap} {K : Int → Int → Int → Heap → Prop} (hh : straitref15_Normal a1 a2 a3 h K) (w : World) (hw : w.heap = h) :
    (callFunc 53 #[(.agg #[(.int .i64 a1), (.int .i64 a2), (.int .i64 a3)])]).run Try.prog w = .ok (.enter 53 #[(.agg #[(.int .i64 a1), (.int .i64 a2), (.int .i64 a3)])]) w ∧ Calls Try.prog 53 #[(.agg #[(.int .i64 a1), (.int .i64 a2), (.int .i64 a3)])] w fun e w' => ∃ v, e = .returned v ∧ Out w w' ∧ straitref15_Normal.ret K v w'.heap := by
  rw [← straitref15_Normal.eq] at hh
  exact fn_calls (args := [(.agg #[(.int .i64 a1), (.int .i64 a2), (.int .i64 a3)])]) (c := straitref15_Normal.code) straitref15_Normal.ok Try.func53 (by kernel_rfl) (by kernel_rfl) (by kernel_rfl) (by kernel_rfl) (loops_ok (l := []) (by kernel_rfl) trivial) hh w hw

/-! ### strait/straitref01.Add: function 74 -/
def straitref01_Add (a1 : Int) (a2 : Int) (h : Heap) (K : Int → Bool → Heap → Prop) : Prop :=
  newP h (.cells #[(.int .i64 0), (.bool false)] 130) fun a3 h4 => ((let j11 := (fun (y5 : Int) (y6 : Bool) => iteB y6 (stC h4 a3 (.int .i64 0) fun h7 => stC h7 (a3.add 1) (.bool false) fun h8 => (∃ (x9 : Int), cell h8 a3 = some (.int .i64 x9) ∧ ∃ (x10 : Bool), cell h8 (a3.add 1) = some (.bool x10) ∧ K x9 x10 h8)) ((stC h4 a3 (.int .i64 y5) fun h12 => stC h12 (a3.add 1) (.bool true) fun h13 => (∃ (x14 : Int), cell h13 a3 = some (.int .i64 x14) ∧ ∃ (x15 : Bool), cell h13 (a3.add 1) = some (.bool x15) ∧ K x14 x15 h13))));
  iteB (decide (a2 ≥ (0 : Int))) (iteB (decide ((IntKind.i64.wrap (a1 + a2)) < a1)) ((j11 (IntKind.i64.wrap (a1 + a2)) true)) (iteB (decide (a2 < (0 : Int))) ((j11 (IntKind.i64.wrap (a1 + a2)) (decide ((IntKind.i64.wrap (a1 + a2)) > a1)))) ((j11 (IntKind.i64.wrap (a1 + a2)) false)))) (iteB (decide (a2 < (0 : Int))) ((j11 (IntKind.i64.wrap (a1 + a2)) (decide ((IntKind.i64.wrap (a1 + a2)) > a1)))) ((j11 (IntKind.i64.wrap (a1 + a2)) false)))))
def straitref01_Add.ret (K : Int → Bool → Heap → Prop) (v : Value) (h : Heap) : Prop := match v with
  | (.agg ⟨[(.int .i64 r16), (.bool r17)]⟩) => K r16 r17 h
  | _ => False
theorem straitref01_Add.ret_elim {K : Int → Bool → Heap → Prop} {K' : Value → Heap → Prop} {v : Value} {h : Heap} (hk : ∀ r16 r17 h, K r16 r17 h → K' (.agg #[(.int .i64 r16), (.bool r17)]) h) (hh : straitref01_Add.ret K v h) : K' v h := by
  unfold straitref01_Add.ret at hh
  split at hh
  · exact hk _ _ _ hh
  · exact hh.elim
noncomputable def straitref01_Add.ctx : Ctx := { P := Try.prog, call := fun _ _ _ _ => False, qcall := fun _ _ _ _ => False, quiet := fun f => Nat.beq f 1000088, loop := fun _ _ _ _ => False }
theorem straitref01_Add.ok : straitref01_Add.ctx.OK where
  mixed := by kernel_rfl
  mono := fun hh _ => hh.elim
  call := fun hh => hh.elim
  qmono := fun hh _ => hh.elim
  qval := fun hh => hh.elim
  qcall := fun hh => hh.elim
noncomputable def straitref01_Add.code : Code := (Try.f74.body).getD .skip
def straitref01_Add.ann : Ann := .auto
set_option maxRecDepth 100000 in
theorem straitref01_Add.eq (a1 : Int) (a2 : Int) (h : Heap) (K : Int → Bool → Heap → Prop) : evF straitref01_Add.ctx Try.f74 straitref01_Add.ann [(.int .i64 a1), (.int .i64 a2)] h (straitref01_Add.ret K) = straitref01_Add a1 a2 h K := by kernel_rfl
set_option maxRecDepth 100000 in
theorem straitref01_Add.calls {a1 : Int} {a2 : Int} {h : Heap} {K : Int → Bool → Heap → Prop} (hh : straitref01_Add a1 a2 h K) (w : World) (hw : w.heap = h) :
    (callFunc 74 #[(.int .i64 a1), (.int .i64 a2)]).run Try.prog w = .ok (.enter 74 #[(.int .i64 a1), (.int .i64 a2)]) w ∧ Calls Try.prog 74 #[(.int .i64 a1), (.int .i64 a2)] w fun e w' => ∃ v, e = .returned v ∧ Out w w' ∧ straitref01_Add.ret K v w'.heap := by
  rw [← straitref01_Add.eq] at hh
  exact fn_calls (args := [(.int .i64 a1), (.int .i64 a2)]) (c := straitref01_Add.code) straitref01_Add.ok Try.func74 (by kernel_rfl) (by kernel_rfl) (by kernel_rfl) (by kernel_rfl) (loops_ok (l := []) (by kernel_rfl) trivial) hh w hw

/-! ### strait/straitref15.add: function 52 -/
def straitref15_add.b0 (K0 : Heap → Prop) (K2 : (Option Addr) → Nat → Nat → Bool → Heap → Prop) (cont : (Option Addr) → Nat → Nat → Addr → Addr → (Option Addr) → Nat → Nat → Bool → Int → Heap → Prop) (c0_1001 : Option Addr) (c0_1002 : Nat) (c0_1003 : Nat) (c3_1004 : Addr) (c4_1005 : Addr) (v5_1006 : Option Addr) (v5_1006l : Nat) (v5_1006c : Nat) (v6_1007 : Bool) (v7_1008 : Int) (h1009 : Heap) : Prop :=
  (iteB (decide (v7_1008 < (c0_1002 : Int))) ((chkP c0_1001 fun a1010 => (0 ≤ v7_1008 ∧ v7_1008 < (c0_1002 : Int)) ∧ ∃ (x1011 : Int), cell h1009 (a1010.add (v7_1008.toNat * 3)) = some (.int .i64 x1011) ∧ ∃ (x1012 : Int), cell h1009 ((a1010.add (v7_1008.toNat * 3)).add 1) = some (.int .i64 x1012) ∧ ∃ (x1013 : Int), cell h1009 ((a1010.add (v7_1008.toNat * 3)).add 2) = some (.int .i64 x1013) ∧ newP h1009 (.cells #[(.int .i64 0), (.int .i64 0), (.int .i64 0)] 58) fun a1014 h1015 => stC h1015 a1014 (.int .i64 x1011) fun h1016 => stC h1016 (a1014.add 1) (.int .i64 x1012) fun h1017 => stC h1017 (a1014.add 2) (.int .i64 x1013) fun h1018 => (let j1070 := (fun (y1057 : Option Addr) (y1057l : Nat) (y1057c : Nat) (y1058 : Bool) (h1059 : Heap) => ∃ (x1060 : Int), cell h1059 a1014 = some (.int .i64 x1060) ∧ ∃ (x1061 : Int), cell h1059 (a1014.add 1) = some (.int .i64 x1061) ∧ ∃ (x1062 : Int), cell h1059 (a1014.add 2) = some (.int .i64 x1062) ∧ newP h1059 (.cells #[(.int .i64 x1060), (.int .i64 x1061), (.int .i64 x1062)] 58) fun a1063 h1064 => ∃ n1069, cellsAt h1064 (some a1063) (1 * 3) n1069 ∧ appP 58 3 24 [(.int .i64 0), (.int .i64 0), (.int .i64 0)] y1057 y1057l y1057c 1 n1069 h1064 fun q1065 l1066 c1067 h1068 => ((cont c0_1001 c0_1002 c0_1003 c3_1004 c4_1005 q1065 l1066 c1067 y1058 (IntKind.i64.wrap (v7_1008 + 1)) h1068)));
  let j1056 := (fun (y1023 : Bool) => iteB y1023 (∃ (x1024 : Int), cell h1018 (a1014.add 2) = some (.int .i64 x1024) ∧ ∃ (x1025 : Int), cell h1018 (c3_1004.add 2) = some (.int .i64 x1025) ∧ callP2 (straitref01_Add x1024 x1025 h1018) fun x1026 x1027 h1028 => newP h1028 (.cells #[(.int .i64 0), (.bool false)] 130) fun a1029 h1030 => stC h1030 a1029 (.int .i64 x1026) fun h1031 => stC h1031 (a1029.add 1) (.bool x1027) fun h1032 => (∃ (x1033 : Bool), cell h1032 (a1029.add 1) = some (.bool x1033) ∧ (iteB (!x1033) (stC h1032 c4_1005 (.slice none 0 0) fun h1034 => stC h1034 (c4_1005.add 1) (.bool false) fun h1035 => K0 h1035) ((∃ (x1036 : Int), cell h1032 a1029 = some (.int .i64 x1036) ∧ stC h1032 (a1014.add 2) (.int .i64 x1036) fun h1037 => ((j1070 v5_1006 v5_1006l v5_1006c true h1037))))))) (let j1055 := (fun (y1044 : Bool) => iteB y1044 (∃ (x1045 : Int), cell h1018 c3_1004 = some (.int .i64 x1045) ∧ ∃ (x1046 : Int), cell h1018 (c3_1004.add 1) = some (.int .i64 x1046) ∧ ∃ (x1047 : Int), cell h1018 (c3_1004.add 2) = some (.int .i64 x1047) ∧ newP h1018 (.cells #[(.int .i64 x1045), (.int .i64 x1046), (.int .i64 x1047)] 58) fun a1048 h1049 => ∃ n1054, cellsAt h1049 (some a1048) (1 * 3) n1054 ∧ appP 58 3 24 [(.int .i64 0), (.int .i64 0), (.int .i64 0)] v5_1006 v5_1006l v5_1006c 1 n1054 h1049 fun q1050 l1051 c1052 h1053 => ((j1070 q1050 l1051 c1052 true h1053))) ((j1070 v5_1006 v5_1006l v5_1006c v6_1007 h1018)));
  iteB (!v6_1007) (∃ (x1038 : Int), cell h1018 a1014 = some (.int .i64 x1038) ∧ ∃ (x1039 : Int), cell h1018 c3_1004 = some (.int .i64 x1039) ∧ iteB (decide (x1038 > x1039)) ((j1055 true)) (∃ (x1040 : Int), cell h1018 a1014 = some (.int .i64 x1040) ∧ ∃ (x1041 : Int), cell h1018 c3_1004 = some (.int .i64 x1041) ∧ iteB (x1040 == x1041) (∃ (x1042 : Int), cell h1018 (a1014.add 1) = some (.int .i64 x1042) ∧ ∃ (x1043 : Int), cell h1018 (c3_1004.add 1) = some (.int .i64 x1043) ∧ (j1055 (decide (x1042 > x1043)))) ((j1055 false)))) ((j1055 false))));
  ∃ (x1019 : Int), cell h1018 a1014 = some (.int .i64 x1019) ∧ ∃ (x1020 : Int), cell h1018 c3_1004 = some (.int .i64 x1020) ∧ iteB (x1019 == x1020) (∃ (x1021 : Int), cell h1018 (a1014.add 1) = some (.int .i64 x1021) ∧ ∃ (x1022 : Int), cell h1018 (c3_1004.add 1) = some (.int .i64 x1022) ∧ (j1056 (x1021 == x1022))) ((j1056 false))))) (K2 v5_1006 v5_1006l v5_1006c v6_1007 h1009))
def straitref15_add.l0 (K0 : Heap → Prop) (K2 : (Option Addr) → Nat → Nat → Bool → Heap → Prop) : Nat → (Option Addr) → Nat → Nat → Addr → Addr → (Option Addr) → Nat → Nat → Bool → Int → Heap → Prop
  | 0, _, _, _, _, _, _, _, _, _, _, _ => False
  | m + 1, c0_1001, c0_1002, c0_1003, c3_1004, c4_1005, v5_1006, v5_1006l, v5_1006c, v6_1007, v7_1008, h => straitref15_add.b0 K0 K2 (straitref15_add.l0 K0 K2 m) c0_1001 c0_1002 c0_1003 c3_1004 c4_1005 v5_1006 v5_1006l v5_1006c v6_1007 v7_1008 h
def straitref15_add (a1 : Option Addr) (a1l : Nat) (a1c : Nat) (a2 : Int) (a3 : Int) (a4 : Int) (h : Heap) (K : (Option Addr) → Nat → Nat → Bool → Heap → Prop) : Prop :=
  newP h (.cells #[(.int .i64 a2), (.int .i64 a3), (.int .i64 a4)] 58) fun a5 h6 => newP h6 (.cells #[(.slice none 0 0), (.bool false)] 83) fun a7 h8 => ((((∃ m15, straitref15_add.l0 (fun h9 => ∃ (x10 : Option Addr) (x10l : Nat) (x10c : Nat), cell h9 a7 = some (.slice x10 x10l x10c) ∧ ∃ (x11 : Bool), cell h9 (a7.add 1) = some (.bool x11) ∧ K x10 x10l x10c x11 h9) (fun z12 z12l z12c z13 h14 => (((iteB (!z13) (∃ (x16 : Int), cell h14 a5 = some (.int .i64 x16) ∧ ∃ (x17 : Int), cell h14 (a5.add 1) = some (.int .i64 x17) ∧ ∃ (x18 : Int), cell h14 (a5.add 2) = some (.int .i64 x18) ∧ newP h14 (.cells #[(.int .i64 x16), (.int .i64 x17), (.int .i64 x18)] 58) fun a19 h20 => ∃ n25, cellsAt h20 (some a19) (1 * 3) n25 ∧ appP 58 3 24 [(.int .i64 0), (.int .i64 0), (.int .i64 0)] z12 z12l z12c 1 n25 h20 fun q21 l22 c23 h24 => (stC h24 a7 (.slice q21 l22 c23) fun h32 => stC h32 (a7.add 1) (.bool true) fun h33 => (∃ (x34 : Option Addr) (x34l : Nat) (x34c : Nat), cell h33 a7 = some (.slice x34 x34l x34c) ∧ ∃ (x35 : Bool), cell h33 (a7.add 1) = some (.bool x35) ∧ K x34 x34l x34c x35 h33))) ((stC h14 a7 (.slice z12 z12l z12c) fun h36 => stC h36 (a7.add 1) (.bool true) fun h37 => (∃ (x38 : Option Addr) (x38l : Nat) (x38c : Nat), cell h37 a7 = some (.slice x38 x38l x38c) ∧ ∃ (x39 : Bool), cell h37 (a7.add 1) = some (.bool x39) ∧ K x38 x38l x38c x39 h37))))))) m15 a1 a1l a1c a5 a7 none 0 0 false 0 h8))))
def straitref15_add.ret (K : (Option Addr) → Nat → Nat → Bool → Heap → Prop) (v : Value) (h : Heap) : Prop := match v with
  | (.agg ⟨[(.slice r40 r40l r40c), (.bool r41)]⟩) => K r40 r40l r40c r41 h
  | _ => False
theorem straitref15_add.ret_elim {K : (Option Addr) → Nat → Nat → Bool → Heap → Prop} {K' : Value → Heap → Prop} {v : Value} {h : Heap} (hk : ∀ r40 r40l r40c r41 h, K r40 r40l r40c r41 h → K' (.agg #[(.slice r40 r40l r40c), (.bool r41)]) h) (hh : straitref15_add.ret K v h) : K' v h := by
  unfold straitref15_add.ret at hh
  split at hh
  · exact hk _ _ _ _ _ hh
  · exact hh.elim
def straitref15_add.call (f : FuncId) (vs : List Value) (h : Heap) (K : Value → Heap → Prop) : Prop := match f, vs with
  | 74, [(.int .i64 a1), (.int .i64 a2)] => callP2 (straitref01_Add a1 a2 h) fun r16 r17 h' => K (.agg #[(.int .i64 r16), (.bool r17)]) h'
  | _, _ => False
def straitref15_add.r0 (K : Nat → List Value → Heap → Prop) (m : Nat) (vs : List Value) (h : Heap) : Prop := match vs with
  | [(.slice c0_1001 c0_1002 c0_1003), (.pointer (some c3_1004)), (.pointer (some c4_1005)), (.slice v5_1006 v5_1006l v5_1006c), (.bool v6_1007), (.int .i64 v7_1008)] => straitref15_add.l0 (fun h' => K 0 [(.pointer (some c4_1005))] h') (fun z42 z42l z42c z43 h' => K 2 [(.pointer (some c3_1004)), (.pointer (some c4_1005)), (.slice z42 z42l z42c), (.bool z43)] h') m c0_1001 c0_1002 c0_1003 c3_1004 c4_1005 v5_1006 v5_1006l v5_1006c v6_1007 v7_1008 h
  | _ => False
def straitref15_add.loop (i : Nat) (vs : List Value) (h : Heap) (K : Nat → List Value → Heap → Prop) : Prop := match i with
  | 0 => ∃ m, straitref15_add.r0 K m vs h
  | _ => False
noncomputable def straitref15_add.ctx : Ctx := { P := Try.prog, call := straitref15_add.call, qcall := fun _ _ _ _ => False, quiet := fun f => Nat.beq f 1000088, loop := straitref15_add.loop }
theorem straitref15_add.ok : straitref15_add.ctx.OK where
  mixed := by kernel_rfl
  mono := by
    intro f args h K K' hh hk
    change straitref15_add.call f args h K at hh
    change straitref15_add.call f args h K'
    unfold straitref15_add.call at hh ⊢
    split at hh
    · obtain ⟨R, h1, h2⟩ := hh
      exact ⟨R, h1, fun _ _ x hr => hk _ _ (h2 _ _ x hr)⟩
    · exact hh.elim
  call := by
    intro f args h K hh w hw
    change straitref15_add.call f args h K at hh
    unfold straitref15_add.call at hh
    split at hh
    · obtain ⟨R, h1, h2⟩ := hh
      obtain ⟨g1, g2⟩ := straitref01_Add.calls h1 w hw
      exact ⟨g1, g2.mono fun e w' ⟨v, he, ho, hr⟩ => ⟨v, he, ho, straitref01_Add.ret_elim h2 hr⟩⟩
    · exact hh.elim
  qmono := fun hh _ => hh.elim
  qval := fun hh => hh.elim
  qcall := fun hh => hh.elim
noncomputable def straitref15_add.code : Code := (Try.f52.body).getD .skip
def straitref15_add.ann : Ann := (.two .auto (.two .auto (.two .auto (.two (.two .auto (.two (.loop 0 [0, 3, 4, 5, 6, 7] [(2, [3, 4, 5, 6]), (0, [4])] .auto) .auto)) .auto))))
noncomputable def straitref15_add.c0 : Code := sub straitref15_add.code [1, 1, 1, 0, 1, 0, 0]
def straitref15_add.a0 : Ann := .auto
def straitref15_add.keep0 : List Nat := [0, 3, 4, 5, 6, 7]
def straitref15_add.outs0 : List (Nat × List Nat) := [(2, [3, 4, 5, 6]), (0, [4])]
set_option maxRecDepth 100000 in
theorem straitref15_add.L0 : LoopOK straitref15_add.ctx 83 straitref15_add.c0 0 straitref15_add.keep0 straitref15_add.outs0 := by
  refine loop_ok (n := straitref15_add.a0) straitref15_add.ok (by kernel_rfl) (loops_ok (l := []) (by kernel_rfl) ?_) straitref15_add.r0 ?_ ?_ (fun vs h K hh => hh)
  · exact trivial
  · intro K vs h hh
    unfold straitref15_add.r0 at hh
    split at hh
    · exact hh
    · exact hh
  · intro K m vs h hh
    unfold straitref15_add.r0 at hh
    split at hh
    · exact cast (by kernel_rfl) hh
    · exact hh.elim
set_option maxRecDepth 100000 in
theorem straitref15_add.eq (a1 : Option Addr) (a1l : Nat) (a1c : Nat) (a2 : Int) (a3 : Int) (a4 : Int) (h : Heap) (K : (Option Addr) → Nat → Nat → Bool → Heap → Prop) : evF straitref15_add.ctx Try.f52 straitref15_add.ann [(.slice a1 a1l a1c), (.agg #[(.int .i64 a2), (.int .i64 a3), (.int .i64 a4)])] h (straitref15_add.ret K) = straitref15_add a1 a1l a1c a2 a3 a4 h K := by kernel_rfl
set_option maxRecDepth 100000 in
theorem straitref15_add.calls {a1 : Option Addr} {a1l : Nat} {a1c : Nat} {a2 : Int} {a3 : Int} {a4 : Int} {h : Heap} {K : (Option Addr) → Nat → Nat → Bool → Heap → Prop} (hh : straitref15_add a1 a1l a1c a2 a3 a4 h K) (w : World) (hw : w.heap = h) :
    (callFunc 52 #[(.slice a1 a1l a1c), (.agg #[(.int .i64 a2), (.int .i64 a3), (.int .i64 a4)])]).run Try.prog w = .ok (.enter 52 #[(.slice a1 a1l a1c), (.agg #[(.int .i64 a2), (.int .i64 a3), (.int .i64 a4)])]) w ∧ Calls Try.prog 52 #[(.slice a1 a1l a1c), (.agg #[(.int .i64 a2), (.int .i64 a3), (.int .i64 a4)])] w fun e w' => ∃ v, e = .returned v ∧ Out w w' ∧ straitref15_add.ret K v w'.heap := by
  rw [← straitref15_add.eq] at hh
  exact fn_calls (args := [(.slice a1 a1l a1c), (.agg #[(.int .i64 a2), (.int .i64 a3), (.int .i64 a4)])]) (c := straitref15_add.code) straitref15_add.ok Try.func52 (by kernel_rfl) (by kernel_rfl) (by kernel_rfl) (by kernel_rfl) (loops_ok (l := [(straitref15_add.c0, none, 0, straitref15_add.keep0, straitref15_add.outs0)]) (by kernel_rfl) ⟨straitref15_add.L0, trivial⟩) hh w hw

/-! ### strait/straitref15.Merge: function 34 -/
def straitref15_Merge.b1 (K4 : (Option Addr) → Nat → Nat → Heap → Prop) (cont : Addr → (Option Addr) → Nat → Nat → (Option Addr) → Nat → Nat → Int → Heap → Prop) (c2_2001 : Addr) (c3_2002 : Option Addr) (c3_2003 : Nat) (c3_2004 : Nat) (v6_2005 : Option Addr) (v6_2005l : Nat) (v6_2005c : Nat) (v7_2006 : Int) (h2007 : Heap) : Prop :=
  (iteB (decide (v7_2006 < (c3_2003 : Int))) ((chkP c3_2002 fun a2008 => (0 ≤ v7_2006 ∧ v7_2006 < (c3_2003 : Int)) ∧ ∃ (x2009 : Int), cell h2007 ((a2008.add (v7_2006.toNat * 3)).add 2) = some (.int .i64 x2009) ∧ (iteB (x2009 != (0 : Int)) (chkP c3_2002 fun a2010 => (0 ≤ v7_2006 ∧ v7_2006 < (c3_2003 : Int)) ∧ ∃ (x2011 : Int), cell h2007 (a2010.add (v7_2006.toNat * 3)) = some (.int .i64 x2011) ∧ ∃ (x2012 : Int), cell h2007 ((a2010.add (v7_2006.toNat * 3)).add 1) = some (.int .i64 x2012) ∧ ∃ (x2013 : Int), cell h2007 ((a2010.add (v7_2006.toNat * 3)).add 2) = some (.int .i64 x2013) ∧ newP h2007 (.cells #[(.int .i64 x2011), (.int .i64 x2012), (.int .i64 x2013)] 58) fun a2014 h2015 => ∃ n2020, cellsAt h2015 (some a2014) (1 * 3) n2020 ∧ appP 58 3 24 [(.int .i64 0), (.int .i64 0), (.int .i64 0)] v6_2005 v6_2005l v6_2005c 1 n2020 h2015 fun q2016 l2017 c2018 h2019 => ((cont c2_2001 c3_2002 c3_2003 c3_2004 q2016 l2017 c2018 (IntKind.i64.wrap (v7_2006 + 1)) h2019))) (((cont c2_2001 c3_2002 c3_2003 c3_2004 v6_2005 v6_2005l v6_2005c (IntKind.i64.wrap (v7_2006 + 1)) h2007)))))) (K4 v6_2005 v6_2005l v6_2005c h2007))
def straitref15_Merge.l1 (K4 : (Option Addr) → Nat → Nat → Heap → Prop) : Nat → Addr → (Option Addr) → Nat → Nat → (Option Addr) → Nat → Nat → Int → Heap → Prop
  | 0, _, _, _, _, _, _, _, _, _ => False
  | m + 1, c2_2001, c3_2002, c3_2003, c3_2004, v6_2005, v6_2005l, v6_2005c, v7_2006, h => straitref15_Merge.b1 K4 (straitref15_Merge.l1 K4 m) c2_2001 c3_2002 c3_2003 c3_2004 v6_2005 v6_2005l v6_2005c v7_2006 h
def straitref15_Merge.b0 (K0 : Heap → Prop) (K2 : (Option Addr) → Nat → Nat → Heap → Prop) (cont : (Option Addr) → Nat → Nat → Addr → (Option Addr) → Nat → Nat → Int → Heap → Prop) (c0_1001 : Option Addr) (c0_1002 : Nat) (c0_1003 : Nat) (c2_1004 : Addr) (v3_1005 : Option Addr) (v3_1005l : Nat) (v3_1005c : Nat) (v4_1006 : Int) (h1007 : Heap) : Prop :=
  (iteB (decide (v4_1006 < (c0_1002 : Int))) ((chkP c0_1001 fun a1008 => (0 ≤ v4_1006 ∧ v4_1006 < (c0_1002 : Int)) ∧ ∃ (x1009 : Int), cell h1007 (a1008.add (v4_1006.toNat * 3)) = some (.int .i64 x1009) ∧ chkP c0_1001 fun a1010 => (0 ≤ v4_1006 ∧ v4_1006 < (c0_1002 : Int)) ∧ ∃ (x1011 : Int), cell h1007 ((a1010.add (v4_1006.toNat * 3)).add 1) = some (.int .i64 x1011) ∧ (iteB (x1009 != x1011) (chkP c0_1001 fun a1012 => (0 ≤ v4_1006 ∧ v4_1006 < (c0_1002 : Int)) ∧ ∃ (x1013 : Int), cell h1007 (a1012.add (v4_1006.toNat * 3)) = some (.int .i64 x1013) ∧ ∃ (x1014 : Int), cell h1007 ((a1012.add (v4_1006.toNat * 3)).add 1) = some (.int .i64 x1014) ∧ ∃ (x1015 : Int), cell h1007 ((a1012.add (v4_1006.toNat * 3)).add 2) = some (.int .i64 x1015) ∧ callP3 (straitref15_Normal x1013 x1014 x1015 h1007) fun x1016 x1017 x1018 h1019 => callP4 (straitref15_add v3_1005 v3_1005l v3_1005c x1016 x1017 x1018 h1019) fun x1020 x1020l x1020c x1021 h1022 => newP h1022 (.cells #[(.slice none 0 0), (.bool false)] 83) fun a1023 h1024 => stC h1024 a1023 (.slice x1020 x1020l x1020c) fun h1025 => stC h1025 (a1023.add 1) (.bool x1021) fun h1026 => (∃ (x1027 : Bool), cell h1026 (a1023.add 1) = some (.bool x1027) ∧ (iteB (!x1027) (stC h1026 c2_1004 (.slice none 0 0) fun h1028 => stC h1028 (c2_1004.add 1) (.bool false) fun h1029 => K0 h1029) ((∃ (x1030 : Option Addr) (x1030l : Nat) (x1030c : Nat), cell h1026 a1023 = some (.slice x1030 x1030l x1030c) ∧ ((cont c0_1001 c0_1002 c0_1003 c2_1004 x1030 x1030l x1030c (IntKind.i64.wrap (v4_1006 + 1)) h1026))))))) (((cont c0_1001 c0_1002 c0_1003 c2_1004 v3_1005 v3_1005l v3_1005c (IntKind.i64.wrap (v4_1006 + 1)) h1007)))))) (K2 v3_1005 v3_1005l v3_1005c h1007))
def straitref15_Merge.l0 (K0 : Heap → Prop) (K2 : (Option Addr) → Nat → Nat → Heap → Prop) : Nat → (Option Addr) → Nat → Nat → Addr → (Option Addr) → Nat → Nat → Int → Heap → Prop
  | 0, _, _, _, _, _, _, _, _, _ => False
  | m + 1, c0_1001, c0_1002, c0_1003, c2_1004, v3_1005, v3_1005l, v3_1005c, v4_1006, h => straitref15_Merge.b0 K0 K2 (straitref15_Merge.l0 K0 K2 m) c0_1001 c0_1002 c0_1003 c2_1004 v3_1005 v3_1005l v3_1005c v4_1006 h
def straitref15_Merge (a1 : Option Addr) (a1l : Nat) (a1c : Nat) (h : Heap) (K : (Option Addr) → Nat → Nat → Bool → Heap → Prop) : Prop :=
  newP h (.cells #[(.slice none 0 0), (.bool false)] 83) fun a2 h3 => (((∃ m9, straitref15_Merge.l0 (fun h4 => ∃ (x5 : Option Addr) (x5l : Nat) (x5c : Nat), cell h4 a2 = some (.slice x5 x5l x5c) ∧ ∃ (x6 : Bool), cell h4 (a2.add 1) = some (.bool x6) ∧ K x5 x5l x5c x6 h4) (fun z7 z7l z7c h8 => ((((∃ m12, straitref15_Merge.l1 (fun z10 z10l z10c h11 => ((stC h11 a2 (.slice z10 z10l z10c) fun h13 => stC h13 (a2.add 1) (.bool true) fun h14 => (∃ (x15 : Option Addr) (x15l : Nat) (x15c : Nat), cell h14 a2 = some (.slice x15 x15l x15c) ∧ ∃ (x16 : Bool), cell h14 (a2.add 1) = some (.bool x16) ∧ K x15 x15l x15c x16 h14)))) m12 a2 z7 z7l z7c none 0 0 0 h8))))) m9 a1 a1l a1c a2 none 0 0 0 h3)))
def straitref15_Merge.ret (K : (Option Addr) → Nat → Nat → Bool → Heap → Prop) (v : Value) (h : Heap) : Prop := match v with
  | (.agg ⟨[(.slice r17 r17l r17c), (.bool r18)]⟩) => K r17 r17l r17c r18 h
  | _ => False
theorem straitref15_Merge.ret_elim {K : (Option Addr) → Nat → Nat → Bool → Heap → Prop} {K' : Value → Heap → Prop} {v : Value} {h : Heap} (hk : ∀ r17 r17l r17c r18 h, K r17 r17l r17c r18 h → K' (.agg #[(.slice r17 r17l r17c), (.bool r18)]) h) (hh : straitref15_Merge.ret K v h) : K' v h := by
  unfold straitref15_Merge.ret at hh
  split at hh
  · exact hk _ _ _ _ _ hh
  · exact hh.elim
def straitref15_Merge.call (f : FuncId) (vs : List Value) (h : Heap) (K : Value → Heap → Prop) : Prop := match f, vs with
  | 52, [(.slice a1 a1l a1c), (.agg ⟨[(.int .i64 a2), (.int .i64 a3), (.int .i64 a4)]⟩)] => callP4 (straitref15_add a1 a1l a1c a2 a3 a4 h) fun r40 r40l r40c r41 h' => K (.agg #[(.slice r40 r40l r40c), (.bool r41)]) h'
  | 53, [(.agg ⟨[(.int .i64 a1), (.int .i64 a2), (.int .i64 a3)]⟩)] => callP3 (straitref15_Normal a1 a2 a3 h) fun r28 r29 r30 h' => K (.agg #[(.int .i64 r28), (.int .i64 r29), (.int .i64 r30)]) h'
  | _, _ => False
def straitref15_Merge.r0 (K : Nat → List Value → Heap → Prop) (m : Nat) (vs : List Value) (h : Heap) : Prop := match vs with
  | [(.slice c0_1001 c0_1002 c0_1003), (.pointer (some c2_1004)), (.slice v3_1005 v3_1005l v3_1005c), (.int .i64 v4_1006)] => straitref15_Merge.l0 (fun h' => K 0 [(.pointer (some c2_1004))] h') (fun z19 z19l z19c h' => K 2 [(.pointer (some c2_1004)), (.slice z19 z19l z19c)] h') m c0_1001 c0_1002 c0_1003 c2_1004 v3_1005 v3_1005l v3_1005c v4_1006 h
  | _ => False
def straitref15_Merge.r1 (K : Nat → List Value → Heap → Prop) (m : Nat) (vs : List Value) (h : Heap) : Prop := match vs with
  | [(.pointer (some c2_2001)), (.slice c3_2002 c3_2003 c3_2004), (.slice v6_2005 v6_2005l v6_2005c), (.int .i64 v7_2006)] => straitref15_Merge.l1 (fun z20 z20l z20c h' => K 4 [(.pointer (some c2_2001)), (.slice z20 z20l z20c)] h') m c2_2001 c3_2002 c3_2003 c3_2004 v6_2005 v6_2005l v6_2005c v7_2006 h
  | _ => False
def straitref15_Merge.loop (i : Nat) (vs : List Value) (h : Heap) (K : Nat → List Value → Heap → Prop) : Prop := match i with
  | 0 => ∃ m, straitref15_Merge.r0 K m vs h
  | 1 => ∃ m, straitref15_Merge.r1 K m vs h
  | _ => False
noncomputable def straitref15_Merge.ctx : Ctx := { P := Try.prog, call := straitref15_Merge.call, qcall := fun _ _ _ _ => False, quiet := fun f => Nat.beq f 1000088, loop := straitref15_Merge.loop }
theorem straitref15_Merge.ok : straitref15_Merge.ctx.OK where
  mixed := by kernel_rfl
  mono := by
    intro f args h K K' hh hk
    change straitref15_Merge.call f args h K at hh
    change straitref15_Merge.call f args h K'
    unfold straitref15_Merge.call at hh ⊢
    split at hh
    · obtain ⟨R, h1, h2⟩ := hh
      exact ⟨R, h1, fun _ _ _ _ x hr => hk _ _ (h2 _ _ _ _ x hr)⟩
    · obtain ⟨R, h1, h2⟩ := hh
      exact ⟨R, h1, fun _ _ _ x hr => hk _ _ (h2 _ _ _ x hr)⟩
    · exact hh.elim
  call := by
    intro f args h K hh w hw
    change straitref15_Merge.call f args h K at hh
    unfold straitref15_Merge.call at hh
    split at hh
    · obtain ⟨R, h1, h2⟩ := hh
      obtain ⟨g1, g2⟩ := straitref15_add.calls h1 w hw
      exact ⟨g1, g2.mono fun e w' ⟨v, he, ho, hr⟩ => ⟨v, he, ho, straitref15_add.ret_elim h2 hr⟩⟩
    · obtain ⟨R, h1, h2⟩ := hh
      obtain ⟨g1, g2⟩ := straitref15_Normal.calls h1 w hw
      exact ⟨g1, g2.mono fun e w' ⟨v, he, ho, hr⟩ => ⟨v, he, ho, straitref15_Normal.ret_elim h2 hr⟩⟩
    · exact hh.elim
  qmono := fun hh _ => hh.elim
  qval := fun hh => hh.elim
  qcall := fun hh => hh.elim
noncomputable def straitref15_Merge.code : Code := (Try.f34.body).getD .skip
def straitref15_Merge.ann : Ann := (.two .auto (.two .auto (.two (.two .auto (.two (.loop 0 [0, 2, 3, 4] [(2, [2, 3]), (0, [2])] (.two .auto (.two (.two (.two (.reg [0, 0, 3, 7, 15, 0, 0, 96, 224, 480, 1023] (.take 0 (.take 1 (.take 2 (.take 3 (.take 4 (.take 5 (.take 6 (.take 7 (.take 8 (.take 9 (.take 10 .done)))))))))))) .auto) .auto) .auto))) .auto)) (.two .auto (.two (.two .auto (.two (.loop 1 [2, 3, 6, 7] [(4, [2, 6])] .auto) .auto)) .auto)))))
noncomputable def straitref15_Merge.c1 : Code := sub straitref15_Merge.code [1, 1, 1, 1, 0, 1, 0, 0]
def straitref15_Merge.a1 : Ann := .auto
def straitref15_Merge.keep1 : List Nat := [2, 3, 6, 7]
def straitref15_Merge.outs1 : List (Nat × List Nat) := [(4, [2, 6])]
noncomputable def straitref15_Merge.c0 : Code := sub straitref15_Merge.code [1, 1, 0, 1, 0, 0]
def straitref15_Merge.a0 : Ann := (.two .auto (.two (.two (.two (.reg [0, 0, 3, 7, 15, 0, 0, 96, 224, 480, 1023] (.take 0 (.take 1 (.take 2 (.take 3 (.take 4 (.take 5 (.take 6 (.take 7 (.take 8 (.take 9 (.take 10 .done)))))))))))) .auto) .auto) .auto))
def straitref15_Merge.keep0 : List Nat := [0, 2, 3, 4]
def straitref15_Merge.outs0 : List (Nat × List Nat) := [(2, [2, 3]), (0, [2])]
set_option maxRecDepth 100000 in
theorem straitref15_Merge.L0 : LoopOK straitref15_Merge.ctx 59 straitref15_Merge.c0 0 straitref15_Merge.keep0 straitref15_Merge.outs0 := by
  refine loop_ok (n := straitref15_Merge.a0) straitref15_Merge.ok (by kernel_rfl) (loops_ok (l := []) (by kernel_rfl) ?_) straitref15_Merge.r0 ?_ ?_ (fun vs h K hh => hh)
  · exact trivial
  · intro K vs h hh
    unfold straitref15_Merge.r0 at hh
    split at hh
    · exact hh
    · exact hh
  · intro K m vs h hh
    unfold straitref15_Merge.r0 at hh
    split at hh
    · exact cast (by kernel_rfl) hh
    · exact hh.elim
set_option maxRecDepth 100000 in
theorem straitref15_Merge.L1 : LoopOK straitref15_Merge.ctx 59 straitref15_Merge.c1 1 straitref15_Merge.keep1 straitref15_Merge.outs1 := by
  refine loop_ok (n := straitref15_Merge.a1) straitref15_Merge.ok (by kernel_rfl) (loops_ok (l := []) (by kernel_rfl) ?_) straitref15_Merge.r1 ?_ ?_ (fun vs h K hh => hh)
  · exact trivial
  · intro K vs h hh
    unfold straitref15_Merge.r1 at hh
    split at hh
    · exact hh
    · exact hh
  · intro K m vs h hh
    unfold straitref15_Merge.r1 at hh
    split at hh
    · exact cast (by kernel_rfl) hh
    · exact hh.elim
set_option maxRecDepth 100000 in
theorem straitref15_Merge.eq (a1 : Option Addr) (a1l : Nat) (a1c : Nat) (h : Heap) (K : (Option Addr) → Nat → Nat → Bool → Heap → Prop) : evF straitref15_Merge.ctx Try.f34 straitref15_Merge.ann [(.slice a1 a1l a1c)] h (straitref15_Merge.ret K) = straitref15_Merge a1 a1l a1c h K := by kernel_rfl
set_option maxRecDepth 100000 in
theorem straitref15_Merge.calls {a1 : Option Addr} {a1l : Nat} {a1c : Nat} {h : Heap} {K : (Option Addr) → Nat → Nat → Bool → Heap → Prop} (hh : straitref15_Merge a1 a1l a1c h K) (w : World) (hw : w.heap = h) :
    (callFunc 34 #[(.slice a1 a1l a1c)]).run Try.prog w = .ok (.enter 34 #[(.slice a1 a1l a1c)]) w ∧ Calls Try.prog 34 #[(.slice a1 a1l a1c)] w fun e w' => ∃ v, e = .returned v ∧ Out w w' ∧ straitref15_Merge.ret K v w'.heap := by
  rw [← straitref15_Merge.eq] at hh
  exact fn_calls (args := [(.slice a1 a1l a1c)]) (c := straitref15_Merge.code) straitref15_Merge.ok Try.func34 (by kernel_rfl) (by kernel_rfl) (by kernel_rfl) (by kernel_rfl) (loops_ok (l := [(straitref15_Merge.c0, none, 0, straitref15_Merge.keep0, straitref15_Merge.outs0), (straitref15_Merge.c1, none, 1, straitref15_Merge.keep1, straitref15_Merge.outs1)]) (by kernel_rfl) ⟨straitref15_Merge.L0, straitref15_Merge.L1, trivial⟩) hh w hw

/-! ### strait/straitref16.New: function 14 -/
def straitref16_New (a1 : Int) (a2 : Option Addr) (a2l : Nat) (a2c : Nat) (h : Heap) (K : Int → (Option Addr) → Nat → Nat → Int → Int → Heap → Prop) : Prop :=
  newP h (.cells #[(.int .i64 0), (.slice none 0 0), (.int .i64 0), (.int .i64 0)] 45) fun a3 h4 => ((iteB (decide (a1 < (0 : Int))) (stC h4 a3 (.int .i64 0) fun h5 => stC h5 (a3.add 1) (.slice none 0 0) fun h6 => stC h6 (a3.add 2) (.int .i64 1) fun h7 => stC h7 (a3.add 3) (.int .i64 0) fun h8 => (∃ (x9 : Int), cell h8 a3 = some (.int .i64 x9) ∧ ∃ (x10 : Option Addr) (x10l : Nat) (x10c : Nat), cell h8 (a3.add 1) = some (.slice x10 x10l x10c) ∧ ∃ (x11 : Int), cell h8 (a3.add 2) = some (.int .i64 x11) ∧ ∃ (x12 : Int), cell h8 (a3.add 3) = some (.int .i64 x12) ∧ K x9 x10 x10l x10c x11 x12 h8)) ((let j22 := (fun (y13 : Bool) => iteB y13 (stC h4 a3 (.int .i64 0) fun h14 => stC h14 (a3.add 1) (.slice none 0 0) fun h15 => stC h15 (a3.add 2) (.int .i64 3) fun h16 => stC h16 (a3.add 3) (.int .i64 0) fun h17 => (∃ (x18 : Int), cell h17 a3 = some (.int .i64 x18) ∧ ∃ (x19 : Option Addr) (x19l : Nat) (x19c : Nat), cell h17 (a3.add 1) = some (.slice x19 x19l x19c) ∧ ∃ (x20 : Int), cell h17 (a3.add 2) = some (.int .i64 x20) ∧ ∃ (x21 : Int), cell h17 (a3.add 3) = some (.int .i64 x21) ∧ K x18 x19 x19l x19c x20 x21 h17)) ((callP2 (straitref15_Checks a1 a2 a2l a2c h4) fun x23 x24 h25 => newP h25 (.cells #[(.int .i64 0), (.int .i64 0)] 80) fun a26 h27 => stC h27 a26 (.int .i64 x23) fun h28 => stC h28 (a26.add 1) (.int .i64 x24) fun h29 => (∃ (x30 : Int), cell h29 a26 = some (.int .i64 x30) ∧ (iteB (x30 != (0 : Int)) (∃ (x31 : Int), cell h29 a26 = some (.int .i64 x31) ∧ ∃ (x32 : Int), cell h29 (a26.add 1) = some (.int .i64 x32) ∧ stC h29 a3 (.int .i64 0) fun h33 => stC h33 (a3.add 1) (.slice none 0 0) fun h34 => stC h34 (a3.add 2) (.int .i64 x31) fun h35 => stC h35 (a3.add 3) (.int .i64 x32) fun h36 => (∃ (x37 : Int), cell h36 a3 = some (.int .i64 x37) ∧ ∃ (x38 : Option Addr) (x38l : Nat) (x38c : Nat), cell h36 (a3.add 1) = some (.slice x38 x38l x38c) ∧ ∃ (x39 : Int), cell h36 (a3.add 2) = some (.int .i64 x39) ∧ ∃ (x40 : Int), cell h36 (a3.add 3) = some (.int .i64 x40) ∧ K x37 x38 x38l x38c x39 x40 h36)) ((callP4 (straitref15_Merge a2 a2l a2c h29) fun x41 x41l x41c x42 h43 => stC h43 a3 (.int .i64 a1) fun h44 => stC h44 (a3.add 1) (.slice x41 x41l x41c) fun h45 => stC h45 (a3.add 2) (.int .i64 0) fun h46 => stC h46 (a3.add 3) (.int .i64 0) fun h47 => (∃ (x48 : Int), cell h47 a3 = some (.int .i64 x48) ∧ ∃ (x49 : Option Addr) (x49l : Nat) (x49c : Nat), cell h47 (a3.add 1) = some (.slice x49 x49l x49c) ∧ ∃ (x50 : Int), cell h47 (a3.add 2) = some (.int .i64 x50) ∧ ∃ (x51 : Int), cell h47 (a3.add 3) = some (.int .i64 x51) ∧ K x48 x49 x49l x49c x50 x51 h47))))))));
  iteB (decide (a1 > (4096 : Int))) ((j22 true)) ((j22 (decide ((a2l : Int) > (1048576 : Int)))))))))
def straitref16_New.ret (K : Int → (Option Addr) → Nat → Nat → Int → Int → Heap → Prop) (v : Value) (h : Heap) : Prop := match v with
  | (.agg ⟨[(.int .i64 r52), (.slice r53 r53l r53c), (.int .i64 r54), (.int .i64 r55)]⟩) => K r52 r53 r53l r53c r54 r55 h
  | _ => False
theorem straitref16_New.ret_elim {K : Int → (Option Addr) → Nat → Nat → Int → Int → Heap → Prop} {K' : Value → Heap → Prop} {v : Value} {h : Heap} (hk : ∀ r52 r53 r53l r53c r54 r55 h, K r52 r53 r53l r53c r54 r55 h → K' (.agg #[(.int .i64 r52), (.slice r53 r53l r53c), (.int .i64 r54), (.int .i64 r55)]) h) (hh : straitref16_New.ret K v h) : K' v h := by
  unfold straitref16_New.ret at hh
  split at hh
  · exact hk _ _ _ _ _ _ _ hh
  · exact hh.elim
def straitref16_New.call (f : FuncId) (vs : List Value) (h : Heap) (K : Value → Heap → Prop) : Prop := match f, vs with
  | 33, [(.int .i64 a1), (.slice a2 a2l a2c)] => callP2 (straitref15_Checks a1 a2 a2l a2c h) fun r14 r15 h' => K (.agg #[(.int .i64 r14), (.int .i64 r15)]) h'
  | 34, [(.slice a1 a1l a1c)] => callP4 (straitref15_Merge a1 a1l a1c h) fun r17 r17l r17c r18 h' => K (.agg #[(.slice r17 r17l r17c), (.bool r18)]) h'
  | _, _ => False
noncomputable def straitref16_New.ctx : Ctx := { P := Try.prog, call := straitref16_New.call, qcall := fun _ _ _ _ => False, quiet := fun f => Nat.beq f 1000088, loop := fun _ _ _ _ => False }
theorem straitref16_New.ok : straitref16_New.ctx.OK where
  mixed := by kernel_rfl
  mono := by
    intro f args h K K' hh hk
    change straitref16_New.call f args h K at hh
    change straitref16_New.call f args h K'
    unfold straitref16_New.call at hh ⊢
    split at hh
    · obtain ⟨R, h1, h2⟩ := hh
      exact ⟨R, h1, fun _ _ x hr => hk _ _ (h2 _ _ x hr)⟩
    · obtain ⟨R, h1, h2⟩ := hh
      exact ⟨R, h1, fun _ _ _ _ x hr => hk _ _ (h2 _ _ _ _ x hr)⟩
    · exact hh.elim
  call := by
    intro f args h K hh w hw
    change straitref16_New.call f args h K at hh
    unfold straitref16_New.call at hh
    split at hh
    · obtain ⟨R, h1, h2⟩ := hh
      obtain ⟨g1, g2⟩ := straitref15_Checks.calls h1 w hw
      exact ⟨g1, g2.mono fun e w' ⟨v, he, ho, hr⟩ => ⟨v, he, ho, straitref15_Checks.ret_elim h2 hr⟩⟩
    · obtain ⟨R, h1, h2⟩ := hh
      obtain ⟨g1, g2⟩ := straitref15_Merge.calls h1 w hw
      exact ⟨g1, g2.mono fun e w' ⟨v, he, ho, hr⟩ => ⟨v, he, ho, straitref15_Merge.ret_elim h2 hr⟩⟩
    · exact hh.elim
  qmono := fun hh _ => hh.elim
  qval := fun hh => hh.elim
  qcall := fun hh => hh.elim
noncomputable def straitref16_New.code : Code := (Try.f14.body).getD .skip
def straitref16_New.ann : Ann := .auto
set_option maxRecDepth 100000 in
theorem straitref16_New.eq (a1 : Int) (a2 : Option Addr) (a2l : Nat) (a2c : Nat) (h : Heap) (K : Int → (Option Addr) → Nat → Nat → Int → Int → Heap → Prop) : evF straitref16_New.ctx Try.f14 straitref16_New.ann [(.int .i64 a1), (.slice a2 a2l a2c)] h (straitref16_New.ret K) = straitref16_New a1 a2 a2l a2c h K := by kernel_rfl
set_option maxRecDepth 100000 in
theorem straitref16_New.calls {a1 : Int} {a2 : Option Addr} {a2l : Nat} {a2c : Nat} {h : Heap} {K : Int → (Option Addr) → Nat → Nat → Int → Int → Heap → Prop} (hh : straitref16_New a1 a2 a2l a2c h K) (w : World) (hw : w.heap = h) :
    (callFunc 14 #[(.int .i64 a1), (.slice a2 a2l a2c)]).run Try.prog w = .ok (.enter 14 #[(.int .i64 a1), (.slice a2 a2l a2c)]) w ∧ Calls Try.prog 14 #[(.int .i64 a1), (.slice a2 a2l a2c)] w fun e w' => ∃ v, e = .returned v ∧ Out w w' ∧ straitref16_New.ret K v w'.heap := by
  rw [← straitref16_New.eq] at hh
  exact fn_calls (args := [(.int .i64 a1), (.slice a2 a2l a2c)]) (c := straitref16_New.code) straitref16_New.ok Try.func14 (by kernel_rfl) (by kernel_rfl) (by kernel_rfl) (by kernel_rfl) (loops_ok (l := []) (by kernel_rfl) trivial) hh w hw

/-! ### strait/side.Crossing: function 15, by its contract -/
def side_Crossing.ret (K : (Option Addr) → Nat → Nat → Int → Heap → Prop) (v : Value) (h : Heap) : Prop := match v with
  | (.tuple ⟨[(.slice r3 r3l r3c), (.int .i64 r4)]⟩) => K r3 r3l r3c r4 h
  | _ => False
theorem side_Crossing.ret_elim {K : (Option Addr) → Nat → Nat → Int → Heap → Prop} {K' : Value → Heap → Prop} {v : Value} {h : Heap} (hk : ∀ r3 r3l r3c r4 h, K r3 r3l r3c r4 h → K' (.tuple #[(.slice r3 r3l r3c), (.int .i64 r4)]) h) (hh : side_Crossing.ret K v h) : K' v h := by
  unfold side_Crossing.ret at hh
  split at hh
  · exact hk _ _ _ _ _ hh
  · exact hh.elim
def side_Crossing (a1 : Option Addr) (a2 : Option Addr) (a2l : Nat) (a2c : Nat) (h : Heap) (K : (Option Addr) → Nat → Nat → Int → Heap → Prop) : Prop := ∀ w : World, w.heap = h → (callFunc 15 #[(.pointer a1), (.slice a2 a2l a2c)]).run Try.prog w = .ok (.enter 15 #[(.pointer a1), (.slice a2 a2l a2c)]) w ∧ Calls Try.prog 15 #[(.pointer a1), (.slice a2 a2l a2c)] w fun e w' => ∃ v, e = .returned v ∧ Out w w' ∧ side_Crossing.ret K v w'.heap
theorem side_Crossing.calls {a1 : Option Addr} {a2 : Option Addr} {a2l : Nat} {a2c : Nat} {h : Heap} {K : (Option Addr) → Nat → Nat → Int → Heap → Prop} (hh : side_Crossing a1 a2 a2l a2c h K) (w : World) (hw : w.heap = h) : (callFunc 15 #[(.pointer a1), (.slice a2 a2l a2c)]).run Try.prog w = .ok (.enter 15 #[(.pointer a1), (.slice a2 a2l a2c)]) w ∧ Calls Try.prog 15 #[(.pointer a1), (.slice a2 a2l a2c)] w fun e w' => ∃ v, e = .returned v ∧ Out w w' ∧ side_Crossing.ret K v w'.heap := hh w hw

/-! ### strait/side.Cut: function 17 -/
def side_Cut (a1 : Option Addr) (a2 : Option Addr) (a2l : Nat) (a2c : Nat) (h : Heap) (K : Int → (Option Addr) → Nat → Nat → Int → Heap → Prop) : Prop :=
  newP h (.cells #[(.int .i64 0), (.slice none 0 0)] 41) fun a3 h4 => (callP2 (side_Weight a1 a2 a2l a2c h4) fun x5 x6 h7 => ((iteB (x6 != (0 : Int)) (stC h7 a3 (.int .i64 0) fun h8 => stC h8 (a3.add 1) (.slice none 0 0) fun h9 => (∃ (x10 : Int), cell h9 a3 = some (.int .i64 x10) ∧ ∃ (x11 : Option Addr) (x11l : Nat) (x11c : Nat), cell h9 (a3.add 1) = some (.slice x11 x11l x11c) ∧ K x10 x11 x11l x11c x6 h9)) ((callP3 (slices_Clone_Lint_int a2 a2l a2c h7) fun x12 x12l x12c h13 => stC h13 a3 (.int .i64 x5) fun h14 => stC h14 (a3.add 1) (.slice x12 x12l x12c) fun h15 => (∃ (x16 : Int), cell h15 a3 = some (.int .i64 x16) ∧ ∃ (x17 : Option Addr) (x17l : Nat) (x17c : Nat), cell h15 (a3.add 1) = some (.slice x17 x17l x17c) ∧ K x16 x17 x17l x17c 0 h15))))))
def side_Cut.ret (K : Int → (Option Addr) → Nat → Nat → Int → Heap → Prop) (v : Value) (h : Heap) : Prop := match v with
  | (.tuple ⟨[(.agg ⟨[(.int .i64 r18), (.slice r19 r19l r19c)]⟩), (.int .i64 r20)]⟩) => K r18 r19 r19l r19c r20 h
  | _ => False
theorem side_Cut.ret_elim {K : Int → (Option Addr) → Nat → Nat → Int → Heap → Prop} {K' : Value → Heap → Prop} {v : Value} {h : Heap} (hk : ∀ r18 r19 r19l r19c r20 h, K r18 r19 r19l r19c r20 h → K' (.tuple #[(.agg #[(.int .i64 r18), (.slice r19 r19l r19c)]), (.int .i64 r20)]) h) (hh : side_Cut.ret K v h) : K' v h := by
  unfold side_Cut.ret at hh
  split at hh
  · exact hk _ _ _ _ _ _ hh
  · exact hh.elim
def side_Cut.call (f : FuncId) (vs : List Value) (h : Heap) (K : Value → Heap → Prop) : Prop := match f, vs with
  | 10, [(.pointer a1), (.slice a2 a2l a2c)] => callP2 (side_Weight a1 a2 a2l a2c h) fun r3 r4 h' => K (.tuple #[(.int .i64 r3), (.int .i64 r4)]) h'
  | 35, [(.slice a1 a1l a1c)] => callP3 (slices_Clone_Lint_int a1 a1l a1c h) fun r9 r9l r9c h' => K (.slice r9 r9l r9c) h'
  | _, _ => False
noncomputable def side_Cut.ctx : Ctx := { P := Try.prog, call := side_Cut.call, qcall := fun _ _ _ _ => False, quiet := fun f => Nat.beq f 1000088, loop := fun _ _ _ _ => False }
theorem side_Cut.ok : side_Cut.ctx.OK where
  mixed := by kernel_rfl
  mono := by
    intro f args h K K' hh hk
    change side_Cut.call f args h K at hh
    change side_Cut.call f args h K'
    unfold side_Cut.call at hh ⊢
    split at hh
    · obtain ⟨R, h1, h2⟩ := hh
      exact ⟨R, h1, fun _ _ x hr => hk _ _ (h2 _ _ x hr)⟩
    · obtain ⟨R, h1, h2⟩ := hh
      exact ⟨R, h1, fun _ _ _ x hr => hk _ _ (h2 _ _ _ x hr)⟩
    · exact hh.elim
  call := by
    intro f args h K hh w hw
    change side_Cut.call f args h K at hh
    unfold side_Cut.call at hh
    split at hh
    · obtain ⟨R, h1, h2⟩ := hh
      obtain ⟨g1, g2⟩ := side_Weight.calls h1 w hw
      exact ⟨g1, g2.mono fun e w' ⟨v, he, ho, hr⟩ => ⟨v, he, ho, side_Weight.ret_elim h2 hr⟩⟩
    · obtain ⟨R, h1, h2⟩ := hh
      obtain ⟨g1, g2⟩ := slices_Clone_Lint_int.calls h1 w hw
      exact ⟨g1, g2.mono fun e w' ⟨v, he, ho, hr⟩ => ⟨v, he, ho, slices_Clone_Lint_int.ret_elim h2 hr⟩⟩
    · exact hh.elim
  qmono := fun hh _ => hh.elim
  qval := fun hh => hh.elim
  qcall := fun hh => hh.elim
noncomputable def side_Cut.code : Code := (Try.f17.body).getD .skip
def side_Cut.ann : Ann := .auto
set_option maxRecDepth 100000 in
theorem side_Cut.eq (a1 : Option Addr) (a2 : Option Addr) (a2l : Nat) (a2c : Nat) (h : Heap) (K : Int → (Option Addr) → Nat → Nat → Int → Heap → Prop) : evF side_Cut.ctx Try.f17 side_Cut.ann [(.pointer a1), (.slice a2 a2l a2c)] h (side_Cut.ret K) = side_Cut a1 a2 a2l a2c h K := by kernel_rfl
set_option maxRecDepth 100000 in
theorem side_Cut.calls {a1 : Option Addr} {a2 : Option Addr} {a2l : Nat} {a2c : Nat} {h : Heap} {K : Int → (Option Addr) → Nat → Nat → Int → Heap → Prop} (hh : side_Cut a1 a2 a2l a2c h K) (w : World) (hw : w.heap = h) :
    (callFunc 17 #[(.pointer a1), (.slice a2 a2l a2c)]).run Try.prog w = .ok (.enter 17 #[(.pointer a1), (.slice a2 a2l a2c)]) w ∧ Calls Try.prog 17 #[(.pointer a1), (.slice a2 a2l a2c)] w fun e w' => ∃ v, e = .returned v ∧ Out w w' ∧ side_Cut.ret K v w'.heap := by
  rw [← side_Cut.eq] at hh
  exact fn_calls (args := [(.pointer a1), (.slice a2 a2l a2c)]) (c := side_Cut.code) side_Cut.ok Try.func17 (by kernel_rfl) (by kernel_rfl) (by kernel_rfl) (by kernel_rfl) (loops_ok (l := []) (by kernel_rfl) trivial) hh w hw

/-! ### strait/straitref21.Crossing: function 21 -/
def straitref21_Crossing.b0 (K2 : (Option Addr) → Nat → Nat → Heap → Prop) (cont : (Option Addr) → Nat → Nat → Addr → (Option Addr) → Nat → Nat → Int → Heap → Prop) (c1_1001 : Option Addr) (c1_1002 : Nat) (c1_1003 : Nat) (c2_1004 : Addr) (v5_1005 : Option Addr) (v5_1005l : Nat) (v5_1005c : Nat) (v6_1006 : Int) (h1007 : Heap) : Prop :=
  ∃ (x1008 : Option Addr) (x1008l : Nat) (x1008c : Nat), cell h1007 (c2_1004.add 1) = some (.slice x1008 x1008l x1008c) ∧ (iteB (decide (v6_1006 < (x1008l : Int))) ((∃ (x1009 : Option Addr) (x1009l : Nat) (x1009c : Nat), cell h1007 (c2_1004.add 1) = some (.slice x1009 x1009l x1009c) ∧ chkP x1009 fun a1010 => (0 ≤ v6_1006 ∧ v6_1006 < (x1009l : Int)) ∧ ∃ (x1011 : Int), cell h1007 (a1010.add (v6_1006.toNat * 3)) = some (.int .i64 x1011) ∧ qcallP1 h1007 (straitref21_In c1_1001 c1_1002 c1_1003 x1011 h1007) fun x1012 => ∃ (x1013 : Option Addr) (x1013l : Nat) (x1013c : Nat), cell h1007 (c2_1004.add 1) = some (.slice x1013 x1013l x1013c) ∧ chkP x1013 fun a1014 => (0 ≤ v6_1006 ∧ v6_1006 < (x1013l : Int)) ∧ ∃ (x1015 : Int), cell h1007 ((a1014.add (v6_1006.toNat * 3)).add 1) = some (.int .i64 x1015) ∧ qcallP1 h1007 (straitref21_In c1_1001 c1_1002 c1_1003 x1015 h1007) fun x1016 => (iteB (!(x1012 == x1016)) (newP h1007 (.cells #[(.int .i64 v6_1006)] 3) fun a1017 h1018 => ∃ n1023, cellsAt h1018 (some a1017) (1 * 1) n1023 ∧ appP 3 1 8 [(.int .i64 0)] v5_1005 v5_1005l v5_1005c 1 n1023 h1018 fun q1019 l1020 c1021 h1022 => ((cont c1_1001 c1_1002 c1_1003 c2_1004 q1019 l1020 c1021 (IntKind.i64.wrap (v6_1006 + 1)) h1022))) (((cont c1_1001 c1_1002 c1_1003 c2_1004 v5_1005 v5_1005l v5_1005c (IntKind.i64.wrap (v6_1006 + 1)) h1007)))))) (K2 v5_1005 v5_1005l v5_1005c h1007))
def straitref21_Crossing.l0 (K2 : (Option Addr) → Nat → Nat → Heap → Prop) : Nat → (Option Addr) → Nat → Nat → Addr → (Option Addr) → Nat → Nat → Int → Heap → Prop
  | 0, _, _, _, _, _, _, _, _, _ => False
  | m + 1, c1_1001, c1_1002, c1_1003, c2_1004, v5_1005, v5_1005l, v5_1005c, v6_1006, h => straitref21_Crossing.b0 K2 (straitref21_Crossing.l0 K2 m) c1_1001 c1_1002 c1_1003 c2_1004 v5_1005 v5_1005l v5_1005c v6_1006 h
def straitref21_Crossing (a1 : Int) (a2 : Option Addr) (a2l : Nat) (a2c : Nat) (a3 : Option Addr) (a3l : Nat) (a3c : Nat) (h : Heap) (K : (Option Addr) → Nat → Nat → Heap → Prop) : Prop :=
  newP h (.cells #[(.int .i64 a1), (.slice a2 a2l a2c)] 43) fun a4 h5 => (((∃ m8, straitref21_Crossing.l0 (fun z6 z6l z6c h7 => (K z6 z6l z6c h7)) m8 a3 a3l a3c a4 none 0 0 0 h5)))
def straitref21_Crossing.ret (K : (Option Addr) → Nat → Nat → Heap → Prop) (v : Value) (h : Heap) : Prop := match v with
  | (.slice r9 r9l r9c) => K r9 r9l r9c h
  | _ => False
theorem straitref21_Crossing.ret_elim {K : (Option Addr) → Nat → Nat → Heap → Prop} {K' : Value → Heap → Prop} {v : Value} {h : Heap} (hk : ∀ r9 r9l r9c h, K r9 r9l r9c h → K' (.slice r9 r9l r9c) h) (hh : straitref21_Crossing.ret K v h) : K' v h := by
  unfold straitref21_Crossing.ret at hh
  split at hh
  · exact hk _ _ _ _ hh
  · exact hh.elim
def straitref21_Crossing.qcall (f : FuncId) (vs : List Value) (h : Heap) (K : Value → Prop) : Prop := match f, vs with
  | 26, [(.slice a1 a1l a1c), (.int .i64 a2)] => qcallP1 h (straitref21_In a1 a1l a1c a2 h) fun r7 => K (.bool r7)
  | _, _ => False
def straitref21_Crossing.r0 (K : Nat → List Value → Heap → Prop) (m : Nat) (vs : List Value) (h : Heap) : Prop := match vs with
  | [(.slice c1_1001 c1_1002 c1_1003), (.pointer (some c2_1004)), (.slice v5_1005 v5_1005l v5_1005c), (.int .i64 v6_1006)] => straitref21_Crossing.l0 (fun z10 z10l z10c h' => K 2 [(.slice z10 z10l z10c)] h') m c1_1001 c1_1002 c1_1003 c2_1004 v5_1005 v5_1005l v5_1005c v6_1006 h
  | _ => False
def straitref21_Crossing.loop (i : Nat) (vs : List Value) (h : Heap) (K : Nat → List Value → Heap → Prop) : Prop := match i with
  | 0 => ∃ m, straitref21_Crossing.r0 K m vs h
  | _ => False
noncomputable def straitref21_Crossing.ctx : Ctx := { P := Try.prog, call := fun _ _ _ _ => False, qcall := straitref21_Crossing.qcall, quiet := fun f => Nat.beq f 26 || Nat.beq f 1000088, loop := straitref21_Crossing.loop }
theorem straitref21_Crossing.ok : straitref21_Crossing.ctx.OK where
  mixed := by kernel_rfl
  mono := fun hh _ => hh.elim
  call := fun hh => hh.elim
  qmono := by
    intro f args h K K' hh hk
    change straitref21_Crossing.qcall f args h K at hh
    change straitref21_Crossing.qcall f args h K'
    unfold straitref21_Crossing.qcall at hh ⊢
    split at hh
    · obtain ⟨x0, h1, h2⟩ := hh
      exact ⟨x0, h1, hk _ h2⟩
    · exact hh.elim
  qval := by
    intro f args h K hh
    change straitref21_Crossing.qcall f args h K at hh
    suffices H : ∃ v, K v ∧ straitref21_Crossing.qcall f args h (· = v) from H
    unfold straitref21_Crossing.qcall at hh ⊢
    split at hh
    · obtain ⟨x0, h1, h2⟩ := hh
      exact ⟨_, h2, x0, h1, rfl⟩
    · exact hh.elim
  qcall := by
    intro f args h v hh w hw
    change straitref21_Crossing.qcall f args h (· = v) at hh
    unfold straitref21_Crossing.qcall at hh
    split at hh
    · obtain ⟨x0, h1, h2⟩ := hh
      obtain ⟨g1, g2⟩ := straitref21_In.calls h1 w hw
      refine .inl ⟨g1, g2.mono fun e w' ⟨u, he, ho, hr⟩ => ?_⟩
      have hq := straitref21_In.ret_elim (K' := fun u h' => u = v ∧ h' = h) (fun _ h' hr => by obtain ⟨rfl, rfl⟩ := hr; exact ⟨h2, rfl⟩) hr
      exact ⟨hq.1 ▸ he, ho, hq.2⟩
    · exact hh.elim
noncomputable def straitref21_Crossing.code : Code := (Try.f21.body).getD .skip
def straitref21_Crossing.ann : Ann := (.two .auto (.two .auto (.two (.two .auto (.two (.loop 0 [1, 2, 5, 6] [(2, [5])] (.two .auto (.two (.two (.two (.reg [0, 0, 2, 0, 14, 30, 62, 127, 0, 0, 512, 0, 3584, 7680, 15872, 32767, 65535] (.take 0 (.take 1 (.take 2 (.take 3 (.take 4 (.take 5 (.take 6 (.take 7 (.take 8 (.take 9 (.take 10 (.take 11 (.take 12 (.take 13 (.take 14 (.take 15 (.take 16 .done)))))))))))))))))) .auto) .auto) .auto))) .auto)) .auto)))
noncomputable def straitref21_Crossing.c0 : Code := sub straitref21_Crossing.code [1, 1, 0, 1, 0, 0]
def straitref21_Crossing.a0 : Ann := (.two .auto (.two (.two (.two (.reg [0, 0, 2, 0, 14, 30, 62, 127, 0, 0, 512, 0, 3584, 7680, 15872, 32767, 65535] (.take 0 (.take 1 (.take 2 (.take 3 (.take 4 (.take 5 (.take 6 (.take 7 (.take 8 (.take 9 (.take 10 (.take 11 (.take 12 (.take 13 (.take 14 (.take 15 (.take 16 .done)))))))))))))))))) .auto) .auto) .auto))
def straitref21_Crossing.keep0 : List Nat := [1, 2, 5, 6]
def straitref21_Crossing.outs0 : List (Nat × List Nat) := [(2, [5])]
set_option maxRecDepth 100000 in
theorem straitref21_Crossing.L0 : LoopOK straitref21_Crossing.ctx 36 straitref21_Crossing.c0 0 straitref21_Crossing.keep0 straitref21_Crossing.outs0 := by
  refine loop_ok (n := straitref21_Crossing.a0) straitref21_Crossing.ok (by kernel_rfl) (loops_ok (l := []) (by kernel_rfl) ?_) straitref21_Crossing.r0 ?_ ?_ (fun vs h K hh => hh)
  · exact trivial
  · intro K vs h hh
    unfold straitref21_Crossing.r0 at hh
    split at hh
    · exact hh
    · exact hh
  · intro K m vs h hh
    unfold straitref21_Crossing.r0 at hh
    split at hh
    · exact cast (by kernel_rfl) hh
    · exact hh.elim
set_option maxRecDepth 100000 in
theorem straitref21_Crossing.eq (a1 : Int) (a2 : Option Addr) (a2l : Nat) (a2c : Nat) (a3 : Option Addr) (a3l : Nat) (a3c : Nat) (h : Heap) (K : (Option Addr) → Nat → Nat → Heap → Prop) : evF straitref21_Crossing.ctx Try.f21 straitref21_Crossing.ann [(.agg #[(.int .i64 a1), (.slice a2 a2l a2c)]), (.slice a3 a3l a3c)] h (straitref21_Crossing.ret K) = straitref21_Crossing a1 a2 a2l a2c a3 a3l a3c h K := by kernel_rfl
set_option maxRecDepth 100000 in
theorem straitref21_Crossing.calls {a1 : Int} {a2 : Option Addr} {a2l : Nat} {a2c : Nat} {a3 : Option Addr} {a3l : Nat} {a3c : Nat} {h : Heap} {K : (Option Addr) → Nat → Nat → Heap → Prop} (hh : straitref21_Crossing a1 a2 a2l a2c a3 a3l a3c h K) (w : World) (hw : w.heap = h) :
    (callFunc 21 #[(.agg #[(.int .i64 a1), (.slice a2 a2l a2c)]), (.slice a3 a3l a3c)]).run Try.prog w = .ok (.enter 21 #[(.agg #[(.int .i64 a1), (.slice a2 a2l a2c)]), (.slice a3 a3l a3c)]) w ∧ Calls Try.prog 21 #[(.agg #[(.int .i64 a1), (.slice a2 a2l a2c)]), (.slice a3 a3l a3c)] w fun e w' => ∃ v, e = .returned v ∧ Out w w' ∧ straitref21_Crossing.ret K v w'.heap := by
  rw [← straitref21_Crossing.eq] at hh
  exact fn_calls (args := [(.agg #[(.int .i64 a1), (.slice a2 a2l a2c)]), (.slice a3 a3l a3c)]) (c := straitref21_Crossing.code) straitref21_Crossing.ok Try.func21 (by kernel_rfl) (by kernel_rfl) (by kernel_rfl) (by kernel_rfl) (loops_ok (l := [(straitref21_Crossing.c0, none, 0, straitref21_Crossing.keep0, straitref21_Crossing.outs0)]) (by kernel_rfl) ⟨straitref21_Crossing.L0, trivial⟩) hh w hw

/-! ### strait/straitref21.Weight: function 19 -/
def straitref21_Weight.b0 (K2 : Int → Heap → Prop) (cont : Addr → Int → (Option Addr) → Nat → Nat → Int → Heap → Prop) (c2_1001 : Addr) (v5_1002 : Int) (c6_1003 : Option Addr) (c6_1004 : Nat) (c6_1005 : Nat) (v7_1006 : Int) (h1007 : Heap) : Prop :=
  (iteB (decide (v7_1006 < (c6_1004 : Int))) ((∃ (x1008 : Option Addr) (x1008l : Nat) (x1008c : Nat), cell h1007 (c2_1001.add 1) = some (.slice x1008 x1008l x1008c) ∧ chkP c6_1003 fun a1009 => (0 ≤ v7_1006 ∧ v7_1006 < (c6_1004 : Int)) ∧ ∃ (x1010 : Int), cell h1007 (a1009.add (v7_1006.toNat * 1)) = some (.int .i64 x1010) ∧ chkP x1008 fun a1011 => (0 ≤ x1010 ∧ x1010 < (x1008l : Int)) ∧ ∃ (x1012 : Int), cell h1007 ((a1011.add (x1010.toNat * 3)).add 2) = some (.int .i64 x1012) ∧ ((cont c2_1001 (IntKind.i64.wrap (v5_1002 + x1012)) c6_1003 c6_1004 c6_1005 (IntKind.i64.wrap (v7_1006 + 1)) h1007)))) (K2 v5_1002 h1007))
def straitref21_Weight.l0 (K2 : Int → Heap → Prop) : Nat → Addr → Int → (Option Addr) → Nat → Nat → Int → Heap → Prop
  | 0, _, _, _, _, _, _, _ => False
  | m + 1, c2_1001, v5_1002, c6_1003, c6_1004, c6_1005, v7_1006, h => straitref21_Weight.b0 K2 (straitref21_Weight.l0 K2 m) c2_1001 v5_1002 c6_1003 c6_1004 c6_1005 v7_1006 h
def straitref21_Weight (a1 : Int) (a2 : Option Addr) (a2l : Nat) (a2c : Nat) (a3 : Option Addr) (a3l : Nat) (a3c : Nat) (h : Heap) (K : Int → Heap → Prop) : Prop :=
  newP h (.cells #[(.int .i64 a1), (.slice a2 a2l a2c)] 43) fun a4 h5 => ((∃ (x6 : Int), cell h5 a4 = some (.int .i64 x6) ∧ ∃ (x7 : Option Addr) (x7l : Nat) (x7c : Nat), cell h5 (a4.add 1) = some (.slice x7 x7l x7c) ∧ callP3 (straitref21_Crossing x6 x7 x7l x7c a3 a3l a3c h5) fun x8 x8l x8c h9 => ((∃ m12, straitref21_Weight.l0 (fun z10 h11 => (K z10 h11)) m12 a4 0 x8 x8l x8c 0 h9))))
def straitref21_Weight.ret (K : Int → Heap → Prop) (v : Value) (h : Heap) : Prop := match v with
  | (.int .i64 r13) => K r13 h
  | _ => False
theorem straitref21_Weight.ret_elim {K : Int → Heap → Prop} {K' : Value → Heap → Prop} {v : Value} {h : Heap} (hk : ∀ r13 h, K r13 h → K' (.int .i64 r13) h) (hh : straitref21_Weight.ret K v h) : K' v h := by
  unfold straitref21_Weight.ret at hh
  split at hh
  · exact hk _ _ hh
  · exact hh.elim
def straitref21_Weight.call (f : FuncId) (vs : List Value) (h : Heap) (K : Value → Heap → Prop) : Prop := match f, vs with
  | 21, [(.agg ⟨[(.int .i64 a1), (.slice a2 a2l a2c)]⟩), (.slice a3 a3l a3c)] => callP3 (straitref21_Crossing a1 a2 a2l a2c a3 a3l a3c h) fun r9 r9l r9c h' => K (.slice r9 r9l r9c) h'
  | _, _ => False
def straitref21_Weight.r0 (K : Nat → List Value → Heap → Prop) (m : Nat) (vs : List Value) (h : Heap) : Prop := match vs with
  | [(.pointer (some c2_1001)), (.int .i64 v5_1002), (.slice c6_1003 c6_1004 c6_1005), (.int .i64 v7_1006)] => straitref21_Weight.l0 (fun z14 h' => K 2 [(.int .i64 z14)] h') m c2_1001 v5_1002 c6_1003 c6_1004 c6_1005 v7_1006 h
  | _ => False
def straitref21_Weight.loop (i : Nat) (vs : List Value) (h : Heap) (K : Nat → List Value → Heap → Prop) : Prop := match i with
  | 0 => ∃ m, straitref21_Weight.r0 K m vs h
  | _ => False
noncomputable def straitref21_Weight.ctx : Ctx := { P := Try.prog, call := straitref21_Weight.call, qcall := fun _ _ _ _ => False, quiet := fun f => Nat.beq f 1000088, loop := straitref21_Weight.loop }
theorem straitref21_Weight.ok : straitref21_Weight.ctx.OK where
  mixed := by kernel_rfl
  mono := by
    intro f args h K K' hh hk
    change straitref21_Weight.call f args h K at hh
    change straitref21_Weight.call f args h K'
    unfold straitref21_Weight.call at hh ⊢
    split at hh
    · obtain ⟨R, h1, h2⟩ := hh
      exact ⟨R, h1, fun _ _ _ x hr => hk _ _ (h2 _ _ _ x hr)⟩
    · exact hh.elim
  call := by
    intro f args h K hh w hw
    change straitref21_Weight.call f args h K at hh
    unfold straitref21_Weight.call at hh
    split at hh
    · obtain ⟨R, h1, h2⟩ := hh
      obtain ⟨g1, g2⟩ := straitref21_Crossing.calls h1 w hw
      exact ⟨g1, g2.mono fun e w' ⟨v, he, ho, hr⟩ => ⟨v, he, ho, straitref21_Crossing.ret_elim h2 hr⟩⟩
    · exact hh.elim
  qmono := fun hh _ => hh.elim
  qval := fun hh => hh.elim
  qcall := fun hh => hh.elim
noncomputable def straitref21_Weight.code : Code := (Try.f19.body).getD .skip
def straitref21_Weight.ann : Ann := (.two .auto (.two .auto (.two .auto (.two (.two .auto (.two (.loop 0 [2, 5, 6, 7] [(2, [5])] (.two .auto (.two (.two (.reg [0, 0, 2, 0, 0, 24, 56, 126, 254, 510, 1023, 2047] (.take 0 (.take 1 (.take 2 (.take 3 (.take 4 (.take 5 (.take 6 (.take 7 (.take 8 (.take 9 (.take 10 (.take 11 .done))))))))))))) .auto) .auto))) .auto)) .auto))))
noncomputable def straitref21_Weight.c0 : Code := sub straitref21_Weight.code [1, 1, 1, 0, 1, 0, 0]
def straitref21_Weight.a0 : Ann := (.two .auto (.two (.two (.reg [0, 0, 2, 0, 0, 24, 56, 126, 254, 510, 1023, 2047] (.take 0 (.take 1 (.take 2 (.take 3 (.take 4 (.take 5 (.take 6 (.take 7 (.take 8 (.take 9 (.take 10 (.take 11 .done))))))))))))) .auto) .auto))
def straitref21_Weight.keep0 : List Nat := [2, 5, 6, 7]
def straitref21_Weight.outs0 : List (Nat × List Nat) := [(2, [5])]
set_option maxRecDepth 100000 in
theorem straitref21_Weight.L0 : LoopOK straitref21_Weight.ctx 29 straitref21_Weight.c0 0 straitref21_Weight.keep0 straitref21_Weight.outs0 := by
  refine loop_ok (n := straitref21_Weight.a0) straitref21_Weight.ok (by kernel_rfl) (loops_ok (l := []) (by kernel_rfl) ?_) straitref21_Weight.r0 ?_ ?_ (fun vs h K hh => hh)
  · exact trivial
  · intro K vs h hh
    unfold straitref21_Weight.r0 at hh
    split at hh
    · exact hh
    · exact hh
  · intro K m vs h hh
    unfold straitref21_Weight.r0 at hh
    split at hh
    · exact cast (by kernel_rfl) hh
    · exact hh.elim
set_option maxRecDepth 100000 in
theorem straitref21_Weight.eq (a1 : Int) (a2 : Option Addr) (a2l : Nat) (a2c : Nat) (a3 : Option Addr) (a3l : Nat) (a3c : Nat) (h : Heap) (K : Int → Heap → Prop) : evF straitref21_Weight.ctx Try.f19 straitref21_Weight.ann [(.agg #[(.int .i64 a1), (.slice a2 a2l a2c)]), (.slice a3 a3l a3c)] h (straitref21_Weight.ret K) = straitref21_Weight a1 a2 a2l a2c a3 a3l a3c h K := by kernel_rfl
set_option maxRecDepth 100000 in
theorem straitref21_Weight.calls {a1 : Int} {a2 : Option Addr} {a2l : Nat} {a2c : Nat} {a3 : Option Addr} {a3l : Nat} {a3c : Nat} {h : Heap} {K : Int → Heap → Prop} (hh : straitref21_Weight a1 a2 a2l a2c a3 a3l a3c h K) (w : World) (hw : w.heap = h) :
    (callFunc 19 #[(.agg #[(.int .i64 a1), (.slice a2 a2l a2c)]), (.slice a3 a3l a3c)]).run Try.prog w = .ok (.enter 19 #[(.agg #[(.int .i64 a1), (.slice a2 a2l a2c)]), (.slice a3 a3l a3c)]) w ∧ Calls Try.prog 19 #[(.agg #[(.int .i64 a1), (.slice a2 a2l a2c)]), (.slice a3 a3l a3c)] w fun e w' => ∃ v, e = .returned v ∧ Out w w' ∧ straitref21_Weight.ret K v w'.heap := by
  rw [← straitref21_Weight.eq] at hh
  exact fn_calls (args := [(.agg #[(.int .i64 a1), (.slice a2 a2l a2c)]), (.slice a3 a3l a3c)]) (c := straitref21_Weight.code) straitref21_Weight.ok Try.func19 (by kernel_rfl) (by kernel_rfl) (by kernel_rfl) (by kernel_rfl) (loops_ok (l := [(straitref21_Weight.c0, none, 0, straitref21_Weight.keep0, straitref21_Weight.outs0)]) (by kernel_rfl) ⟨straitref21_Weight.L0, trivial⟩) hh w hw

end Go.Proofs.Ytbhndlpjfncliaa
