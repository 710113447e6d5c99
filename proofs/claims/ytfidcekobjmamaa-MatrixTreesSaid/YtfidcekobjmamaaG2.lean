/- WRITTEN BY A PROGRAM OF THIS SESSION (gen.py): what each function asks of memory, and that the model's run comes to it. -/
import Derived.Test.YtfidcekobjmamaaProg
import Derived.Test.YtfidcekobjmamaaFw8
import Derived.Test.YtfidcekobjmamaaG1
namespace Go.Proofs.Ytfidcekobjmamaa
open Go.Hp
set_option linter.unusedVariables false
set_option linter.unusedSimpArgs false
set_option linter.unusedSectionVars false

/-! ### strait/straitref29.Below: function 25 -/
def straitref29_Below.b0 (K2 : (Option Addr) → Nat → Nat → Heap → Prop) (cont : Int → Addr → (Option Addr) → Nat → Nat → Int → Heap → Prop) (c1_1001 : Int) (c2_1002 : Addr) (v5_1003 : Option Addr) (v5_1003l : Nat) (v5_1003c : Nat) (v6_1004 : Int) (h1005 : Heap) : Prop :=
  ∃ (x1006 : Option Addr) (x1006l : Nat) (x1006c : Nat), cell h1005 c2_1002 = some (.slice x1006 x1006l x1006c) ∧ (iteB (decide (v6_1004 < (x1006l : Int))) ((∃ (x1007 : Option Addr) (x1007l : Nat) (x1007c : Nat), cell h1005 c2_1002 = some (.slice x1007 x1007l x1007c) ∧ ∃ (x1008 : Option Addr) (x1008l : Nat) (x1008c : Nat), cell h1005 (c2_1002.add 1) = some (.slice x1008 x1008l x1008c) ∧ callP3 (straitref29_Up x1007 x1007l x1007c x1008 x1008l x1008c v6_1004 h1005) fun x1009 x1009l x1009c h1010 => qcallP1 h1010 (straitref21_In x1009 x1009l x1009c c1_1001 h1010) fun x1011 => (iteB x1011 (newP h1010 (.cells #[(.int .i64 v6_1004)] 3) fun a1012 h1013 => ∃ n1018, cellsAt h1013 (some a1012) (1 * 1) n1018 ∧ appP 3 1 8 [(.int .i64 0)] v5_1003 v5_1003l v5_1003c 1 n1018 h1013 fun q1014 l1015 c1016 h1017 => ((cont c1_1001 c2_1002 q1014 l1015 c1016 (IntKind.i64.wrap (v6_1004 + 1)) h1017))) (((cont c1_1001 c2_1002 v5_1003 v5_1003l v5_1003c (IntKind.i64.wrap (v6_1004 + 1)) h1010)))))) (K2 v5_1003 v5_1003l v5_1003c h1005))
def straitref29_Below.l0 (K2 : (Option Addr) → Nat → Nat → Heap → Prop) : Nat → Int → Addr → (Option Addr) → Nat → Nat → Int → Heap → Prop
  | 0, _, _, _, _, _, _, _ => False
  | m + 1, c1_1001, c2_1002, v5_1003, v5_1003l, v5_1003c, v6_1004, h => straitref29_Below.b0 K2 (straitref29_Below.l0 K2 m) c1_1001 c2_1002 v5_1003 v5_1003l v5_1003c v6_1004 h
def straitref29_Below (a1 : Option Addr) (a1l : Nat) (a1c : Nat) (a2 : Option Addr) (a2l : Nat) (a2c : Nat) (a3 : Int) (h : Heap) (K : (Option Addr) → Nat → Nat → Heap → Prop) : Prop :=
  newP h (.cells #[(.slice a1 a1l a1c), (.slice a2 a2l a2c)] 25) fun a4 h5 => ((∃ (x6 : Option Addr) (x6l : Nat) (x6c : Nat), cell h5 a4 = some (.slice x6 x6l x6c) ∧ ∃ (x7 : Option Addr) (x7l : Nat) (x7c : Nat), cell h5 (a4.add 1) = some (.slice x7 x7l x7c) ∧ callP1 (straitref29_in x6 x6l x6c x7 x7l x7c a3 h5) fun x8 h9 => (iteB (!x8) (K none 0 0 h9) (((∃ m12, straitref29_Below.l0 (fun z10 z10l z10c h11 => (K z10 z10l z10c h11)) m12 a3 a4 none 0 0 0 h9))))))
def straitref29_Below.ret (K : (Option Addr) → Nat → Nat → Heap → Prop) (v : Value) (h : Heap) : Prop := match v with
  | (.slice r13 r13l r13c) => K r13 r13l r13c h
  | _ => False
theorem straitref29_Below.ret_elim {K : (Option Addr) → Nat → Nat → Heap → Prop} {K' : Value → Heap → Prop} {v : Value} {h : Heap} (hk : ∀ r13 r13l r13c h, K r13 r13l r13c h → K' (.slice r13 r13l r13c) h) (hh : straitref29_Below.ret K v h) : K' v h := by
  unfold straitref29_Below.ret at hh
  split at hh
  · exact hk _ _ _ _ hh
  · exact hh.elim
def straitref29_Below.call (f : FuncId) (vs : List Value) (h : Heap) (K : Value → Heap → Prop) : Prop := match f, vs with
  | 48, [(.agg ⟨[(.slice a1 a1l a1c), (.slice a2 a2l a2c)]⟩), (.int .i64 a3)] => callP3 (straitref29_Up a1 a1l a1c a2 a2l a2c a3 h) fun r9 r9l r9c h' => K (.slice r9 r9l r9c) h'
  | 50, [(.agg ⟨[(.slice a1 a1l a1c), (.slice a2 a2l a2c)]⟩), (.int .i64 a3)] => callP1 (straitref29_in a1 a1l a1c a2 a2l a2c a3 h) fun r13 h' => K (.bool r13) h'
  | _, _ => False
def straitref29_Below.qcall (f : FuncId) (vs : List Value) (h : Heap) (K : Value → Prop) : Prop := match f, vs with
  | 29, [(.slice a1 a1l a1c), (.int .i64 a2)] => qcallP1 h (straitref21_In a1 a1l a1c a2 h) fun r7 => K (.bool r7)
  | _, _ => False
def straitref29_Below.r0 (K : Nat → List Value → Heap → Prop) (m : Nat) (vs : List Value) (h : Heap) : Prop := match vs with
  | [(.int .i64 c1_1001), (.pointer (some c2_1002)), (.slice v5_1003 v5_1003l v5_1003c), (.int .i64 v6_1004)] => straitref29_Below.l0 (fun z14 z14l z14c h' => K 2 [(.slice z14 z14l z14c)] h') m c1_1001 c2_1002 v5_1003 v5_1003l v5_1003c v6_1004 h
  | _ => False
def straitref29_Below.loop (i : Nat) (vs : List Value) (h : Heap) (K : Nat → List Value → Heap → Prop) : Prop := match i with
  | 0 => ∃ m, straitref29_Below.r0 K m vs h
  | _ => False
noncomputable def straitref29_Below.ctx : Ctx := { P := Try.prog, call := straitref29_Below.call, qcall := straitref29_Below.qcall, quiet := fun f => Nat.beq f 29 || Nat.beq f 1000069 || Nat.beq f 1000099, loop := straitref29_Below.loop }
theorem straitref29_Below.ok [DKc] : straitref29_Below.ctx.OK where
  mixed := by kernel_rfl
  mono := by
    intro f args h K K' hh hk
    change straitref29_Below.call f args h K at hh
    change straitref29_Below.call f args h K'
    unfold straitref29_Below.call at hh ⊢
    split at hh
    · obtain ⟨R, h1, h2⟩ := hh
      exact ⟨R, h1, fun _ _ _ x hr => hk _ _ (h2 _ _ _ x hr)⟩
    · obtain ⟨R, h1, h2⟩ := hh
      exact ⟨R, h1, fun _ x hr => hk _ _ (h2 _ x hr)⟩
    · exact hh.elim
  call := by
    intro f args h K hh w hw
    change straitref29_Below.call f args h K at hh
    unfold straitref29_Below.call at hh
    split at hh
    · obtain ⟨R, h1, h2⟩ := hh
      obtain ⟨g1, g2⟩ := straitref29_Up.calls h1 w hw
      exact ⟨g1, g2.mono fun e w' ⟨v, he, ho, hr⟩ => ⟨v, he, ho, straitref29_Up.ret_elim h2 hr⟩⟩
    · obtain ⟨R, h1, h2⟩ := hh
      obtain ⟨g1, g2⟩ := straitref29_in.calls h1 w hw
      exact ⟨g1, g2.mono fun e w' ⟨v, he, ho, hr⟩ => ⟨v, he, ho, straitref29_in.ret_elim h2 hr⟩⟩
    · exact hh.elim
  qmono := by
    intro f args h K K' hh hk
    change straitref29_Below.qcall f args h K at hh
    change straitref29_Below.qcall f args h K'
    unfold straitref29_Below.qcall at hh ⊢
    split at hh
    · obtain ⟨x0, h1, h2⟩ := hh
      exact ⟨x0, h1, hk _ h2⟩
    · exact hh.elim
  qval := by
    intro f args h K hh
    change straitref29_Below.qcall f args h K at hh
    suffices H : ∃ v, K v ∧ straitref29_Below.qcall f args h (· = v) from H
    unfold straitref29_Below.qcall at hh ⊢
    split at hh
    · obtain ⟨x0, h1, h2⟩ := hh
      exact ⟨_, h2, x0, h1, rfl⟩
    · exact hh.elim
  qcall := by
    intro f args h v hh w hw
    change straitref29_Below.qcall f args h (· = v) at hh
    unfold straitref29_Below.qcall at hh
    split at hh
    · obtain ⟨x0, h1, h2⟩ := hh
      obtain ⟨g1, g2⟩ := straitref21_In.calls h1 w hw
      refine .inl ⟨g1, g2.mono fun e w' ⟨u, he, ho, hr⟩ => ?_⟩
      have hq := straitref21_In.ret_elim (K' := fun u h' => u = v ∧ h' = h) (fun _ h' hr => by obtain ⟨rfl, rfl⟩ := hr; exact ⟨h2, rfl⟩) hr
      exact ⟨hq.1 ▸ he, ho, hq.2⟩
    · exact hh.elim
noncomputable def straitref29_Below.code : Code := (Try.f25.body).getD .skip
def straitref29_Below.ann : Ann := (.two .auto (.two .auto (.two .auto (.two (.two .auto (.two (.loop 0 [1, 2, 5, 6] [(2, [5])] .auto) .auto)) .auto))))
noncomputable def straitref29_Below.c0 : Code := sub straitref29_Below.code [1, 1, 1, 0, 1, 0, 0]
def straitref29_Below.a0 : Ann := .auto
def straitref29_Below.keep0 : List Nat := [1, 2, 5, 6]
def straitref29_Below.outs0 : List (Nat × List Nat) := [(2, [5])]
set_option maxRecDepth 100000 in
theorem straitref29_Below.L0 [DKc] : LoopOK straitref29_Below.ctx 29 straitref29_Below.c0 0 straitref29_Below.keep0 straitref29_Below.outs0 := by
  refine loop_ok (n := straitref29_Below.a0) straitref29_Below.ok (by kernel_rfl) (loops_ok (l := []) (by kernel_rfl) ?_) straitref29_Below.r0 ?_ ?_ (fun vs h K hh => hh)
  · exact trivial
  · intro K vs h hh
    unfold straitref29_Below.r0 at hh
    split at hh
    · exact hh
    · exact hh
  · intro K m vs h hh
    unfold straitref29_Below.r0 at hh
    split at hh
    · exact cast (by kernel_rfl) hh
    · exact hh.elim
set_option maxRecDepth 100000 in
theorem straitref29_Below.eq (a1 : Option Addr) (a1l : Nat) (a1c : Nat) (a2 : Option Addr) (a2l : Nat) (a2c : Nat) (a3 : Int) (h : Heap) (K : (Option Addr) → Nat → Nat → Heap → Prop) : evF straitref29_Below.ctx Try.f25 straitref29_Below.ann [(.agg #[(.slice a1 a1l a1c), (.slice a2 a2l a2c)]), (.int .i64 a3)] h (straitref29_Below.ret K) = straitref29_Below a1 a1l a1c a2 a2l a2c a3 h K := by kernel_rfl
set_option maxRecDepth 100000 in
theorem straitref29_Below.calls [DKc] {a1 : Option Addr} {a1l : Nat} {a1c : Nat} {a2 : Option Addr} {a2l : Nat} {a2c : Nat} {a3 : Int} {h : Heap} {K : (Option Addr) → Nat → Nat → Heap → Prop} (hh : straitref29_Below a1 a1l a1c a2 a2l a2c a3 h K) (w : World) (hw : w.heap = h) :
    (callFunc 25 #[(.agg #[(.slice a1 a1l a1c), (.slice a2 a2l a2c)]), (.int .i64 a3)]).run Try.prog w = .ok (.enter 25 #[(.agg #[(.slice a1 a1l a1c), (.slice a2 a2l a2c)]), (.int .i64 a3)]) w ∧ Calls Try.prog 25 #[(.agg #[(.slice a1 a1l a1c), (.slice a2 a2l a2c)]), (.int .i64 a3)] w fun e w' => ∃ v, e = .returned v ∧ Out w w' ∧ straitref29_Below.ret K v w'.heap := by
  rw [← straitref29_Below.eq] at hh
  exact fn_calls (args := [(.agg #[(.slice a1 a1l a1c), (.slice a2 a2l a2c)]), (.int .i64 a3)]) (c := straitref29_Below.code) straitref29_Below.ok Try.func25 (by kernel_rfl) (by kernel_rfl) (by kernel_rfl) (by kernel_rfl) (loops_ok (l := [(straitref29_Below.c0, none, 0, straitref29_Below.keep0, straitref29_Below.outs0)]) (by kernel_rfl) ⟨straitref29_Below.L0, trivial⟩) hh w hw

/-! ### strait/straitref29.Least: function 28 -/
def straitref29_Least.b0 (K2 : Heap → Prop) (cont : Int → Int → Addr → Addr → Addr → Int → Heap → Prop) (c1_1001 : Int) (c2_1002 : Int) (c3_1003 : Addr) (c6_1004 : Addr) (c7_1005 : Addr) (v8_1006 : Int) (h1007 : Heap) : Prop :=
  ∃ (x1008 : Option Addr) (x1008l : Nat) (x1008c : Nat), cell h1007 c3_1003 = some (.slice x1008 x1008l x1008c) ∧ (iteB (decide (v8_1006 < (x1008l : Int))) ((let j1031 := (fun (h1030 : Heap) => cont c1_1001 c2_1002 c3_1003 c6_1004 c7_1005 (IntKind.i64.wrap (v8_1006 + 1)) h1030);
  ∃ (x1009 : Option Addr) (x1009l : Nat) (x1009c : Nat), cell h1007 c3_1003 = some (.slice x1009 x1009l x1009c) ∧ ∃ (x1010 : Option Addr) (x1010l : Nat) (x1010c : Nat), cell h1007 (c3_1003.add 1) = some (.slice x1010 x1010l x1010c) ∧ callP3 (straitref29_Below x1009 x1009l x1009c x1010 x1010l x1010c v8_1006 h1007) fun x1011 x1011l x1011c h1012 => (qcallP1 h1012 (straitref21_In x1011 x1011l x1011c c1_1001 h1012) fun x1013 => qcallP1 h1012 (straitref21_In x1011 x1011l x1011c c2_1002 h1012) fun x1014 => iteB (!(x1013 == x1014)) (∃ (x1015 : Bool), cell h1012 (c7_1005.add 1) = some (.bool x1015) ∧ iteB (!x1015) ((stC h1012 c7_1005 (.int .i64 v8_1006) fun h1026 => stC h1026 (c7_1005.add 1) (.bool true) fun h1027 => ((j1031 h1027)))) (∃ (x1016 : Option Addr) (x1016l : Nat) (x1016c : Nat), cell h1012 (c3_1003.add 1) = some (.slice x1016 x1016l x1016c) ∧ chkP x1016 fun a1017 => (0 ≤ v8_1006 ∧ v8_1006 < (x1016l : Int)) ∧ ∃ (x1018 : Int), cell h1012 (a1017.add (v8_1006.toNat * 1)) = some (.int .i64 x1018) ∧ ∃ (x1019 : Option Addr) (x1019l : Nat) (x1019c : Nat), cell h1012 (c3_1003.add 1) = some (.slice x1019 x1019l x1019c) ∧ ∃ (x1020 : Int), cell h1012 c7_1005 = some (.int .i64 x1020) ∧ chkP x1019 fun a1021 => (0 ≤ x1020 ∧ x1020 < (x1019l : Int)) ∧ ∃ (x1022 : Int), cell h1012 (a1021.add (x1020.toNat * 1)) = some (.int .i64 x1022) ∧ (iteB (decide (x1018 < x1022)) (stC h1012 c7_1005 (.int .i64 v8_1006) fun h1028 => stC h1028 (c7_1005.add 1) (.bool true) fun h1029 => ((j1031 h1029))) (((j1031 h1012)))))) ((((j1031 h1012))))))) (K2 h1007))
def straitref29_Least.l0 (K2 : Heap → Prop) : Nat → Int → Int → Addr → Addr → Addr → Int → Heap → Prop
  | 0, _, _, _, _, _, _, _ => False
  | m + 1, c1_1001, c2_1002, c3_1003, c6_1004, c7_1005, v8_1006, h => straitref29_Least.b0 K2 (straitref29_Least.l0 K2 m) c1_1001 c2_1002 c3_1003 c6_1004 c7_1005 v8_1006 h
def straitref29_Least (a1 : Option Addr) (a1l : Nat) (a1c : Nat) (a2 : Option Addr) (a2l : Nat) (a2c : Nat) (a3 : Int) (a4 : Int) (h : Heap) (K : Int → Bool → Heap → Prop) : Prop :=
  newP h (.cells #[(.slice a1 a1l a1c), (.slice a2 a2l a2c)] 25) fun a5 h6 => newP h6 (.cells #[(.int .i64 0), (.bool false)] 40) fun a7 h8 => (newP h8 (.cells #[(.int .i64 0), (.bool false)] 40) fun a9 h10 => (let j27 := (fun (y19 : Bool) (h20 : Heap) => iteB y19 (∃ (x21 : Int), cell h20 a9 = some (.int .i64 x21) ∧ ∃ (x22 : Bool), cell h20 (a9.add 1) = some (.bool x22) ∧ stC h20 a7 (.int .i64 x21) fun h23 => stC h23 (a7.add 1) (.bool x22) fun h24 => (∃ (x25 : Int), cell h24 a7 = some (.int .i64 x25) ∧ ∃ (x26 : Bool), cell h24 (a7.add 1) = some (.bool x26) ∧ K x25 x26 h24)) (((∃ m29, straitref29_Least.l0 (fun h28 => ((∃ (x30 : Int), cell h28 a9 = some (.int .i64 x30) ∧ ∃ (x31 : Bool), cell h28 (a9.add 1) = some (.bool x31) ∧ stC h28 a7 (.int .i64 x30) fun h32 => stC h32 (a7.add 1) (.bool x31) fun h33 => (∃ (x34 : Int), cell h33 a7 = some (.int .i64 x34) ∧ ∃ (x35 : Bool), cell h33 (a7.add 1) = some (.bool x35) ∧ K x34 x35 h33)))) m29 a3 a4 a5 a7 a9 0 h20))));
  ∃ (x11 : Option Addr) (x11l : Nat) (x11c : Nat), cell h10 a5 = some (.slice x11 x11l x11c) ∧ ∃ (x12 : Option Addr) (x12l : Nat) (x12c : Nat), cell h10 (a5.add 1) = some (.slice x12 x12l x12c) ∧ callP1 (straitref29_in x11 x11l x11c x12 x12l x12c a3 h10) fun x13 h14 => iteB (!x13) ((j27 true h14)) (∃ (x15 : Option Addr) (x15l : Nat) (x15c : Nat), cell h14 a5 = some (.slice x15 x15l x15c) ∧ ∃ (x16 : Option Addr) (x16l : Nat) (x16c : Nat), cell h14 (a5.add 1) = some (.slice x16 x16l x16c) ∧ callP1 (straitref29_in x15 x15l x15c x16 x16l x16c a4 h14) fun x17 h18 => (j27 (!x17) h18))))
def straitref29_Least.ret (K : Int → Bool → Heap → Prop) (v : Value) (h : Heap) : Prop := match v with
  | (.agg ⟨[(.int .i64 r36), (.bool r37)]⟩) => K r36 r37 h
  | _ => False
theorem straitref29_Least.ret_elim {K : Int → Bool → Heap → Prop} {K' : Value → Heap → Prop} {v : Value} {h : Heap} (hk : ∀ r36 r37 h, K r36 r37 h → K' (.agg #[(.int .i64 r36), (.bool r37)]) h) (hh : straitref29_Least.ret K v h) : K' v h := by
  unfold straitref29_Least.ret at hh
  split at hh
  · exact hk _ _ _ hh
  · exact hh.elim
def straitref29_Least.call (f : FuncId) (vs : List Value) (h : Heap) (K : Value → Heap → Prop) : Prop := match f, vs with
  | 25, [(.agg ⟨[(.slice a1 a1l a1c), (.slice a2 a2l a2c)]⟩), (.int .i64 a3)] => callP3 (straitref29_Below a1 a1l a1c a2 a2l a2c a3 h) fun r13 r13l r13c h' => K (.slice r13 r13l r13c) h'
  | 50, [(.agg ⟨[(.slice a1 a1l a1c), (.slice a2 a2l a2c)]⟩), (.int .i64 a3)] => callP1 (straitref29_in a1 a1l a1c a2 a2l a2c a3 h) fun r13 h' => K (.bool r13) h'
  | _, _ => False
def straitref29_Least.qcall (f : FuncId) (vs : List Value) (h : Heap) (K : Value → Prop) : Prop := match f, vs with
  | 29, [(.slice a1 a1l a1c), (.int .i64 a2)] => qcallP1 h (straitref21_In a1 a1l a1c a2 h) fun r7 => K (.bool r7)
  | _, _ => False
def straitref29_Least.r0 (K : Nat → List Value → Heap → Prop) (m : Nat) (vs : List Value) (h : Heap) : Prop := match vs with
  | [(.int .i64 c1_1001), (.int .i64 c2_1002), (.pointer (some c3_1003)), (.pointer (some c6_1004)), (.pointer (some c7_1005)), (.int .i64 v8_1006)] => straitref29_Least.l0 (fun h' => K 2 [(.pointer (some c6_1004)), (.pointer (some c7_1005))] h') m c1_1001 c2_1002 c3_1003 c6_1004 c7_1005 v8_1006 h
  | _ => False
def straitref29_Least.loop (i : Nat) (vs : List Value) (h : Heap) (K : Nat → List Value → Heap → Prop) : Prop := match i with
  | 0 => ∃ m, straitref29_Least.r0 K m vs h
  | _ => False
noncomputable def straitref29_Least.ctx : Ctx := { P := Try.prog, call := straitref29_Least.call, qcall := straitref29_Least.qcall, quiet := fun f => Nat.beq f 29 || Nat.beq f 1000069 || Nat.beq f 1000099, loop := straitref29_Least.loop }
theorem straitref29_Least.ok [DKc] : straitref29_Least.ctx.OK where
  mixed := by kernel_rfl
  mono := by
    intro f args h K K' hh hk
    change straitref29_Least.call f args h K at hh
    change straitref29_Least.call f args h K'
    unfold straitref29_Least.call at hh ⊢
    split at hh
    · obtain ⟨R, h1, h2⟩ := hh
      exact ⟨R, h1, fun _ _ _ x hr => hk _ _ (h2 _ _ _ x hr)⟩
    · obtain ⟨R, h1, h2⟩ := hh
      exact ⟨R, h1, fun _ x hr => hk _ _ (h2 _ x hr)⟩
    · exact hh.elim
  call := by
    intro f args h K hh w hw
    change straitref29_Least.call f args h K at hh
    unfold straitref29_Least.call at hh
    split at hh
    · obtain ⟨R, h1, h2⟩ := hh
      obtain ⟨g1, g2⟩ := straitref29_Below.calls h1 w hw
      exact ⟨g1, g2.mono fun e w' ⟨v, he, ho, hr⟩ => ⟨v, he, ho, straitref29_Below.ret_elim h2 hr⟩⟩
    · obtain ⟨R, h1, h2⟩ := hh
      obtain ⟨g1, g2⟩ := straitref29_in.calls h1 w hw
      exact ⟨g1, g2.mono fun e w' ⟨v, he, ho, hr⟩ => ⟨v, he, ho, straitref29_in.ret_elim h2 hr⟩⟩
    · exact hh.elim
  qmono := by
    intro f args h K K' hh hk
    change straitref29_Least.qcall f args h K at hh
    change straitref29_Least.qcall f args h K'
    unfold straitref29_Least.qcall at hh ⊢
    split at hh
    · obtain ⟨x0, h1, h2⟩ := hh
      exact ⟨x0, h1, hk _ h2⟩
    · exact hh.elim
  qval := by
    intro f args h K hh
    change straitref29_Least.qcall f args h K at hh
    suffices H : ∃ v, K v ∧ straitref29_Least.qcall f args h (· = v) from H
    unfold straitref29_Least.qcall at hh ⊢
    split at hh
    · obtain ⟨x0, h1, h2⟩ := hh
      exact ⟨_, h2, x0, h1, rfl⟩
    · exact hh.elim
  qcall := by
    intro f args h v hh w hw
    change straitref29_Least.qcall f args h (· = v) at hh
    unfold straitref29_Least.qcall at hh
    split at hh
    · obtain ⟨x0, h1, h2⟩ := hh
      obtain ⟨g1, g2⟩ := straitref21_In.calls h1 w hw
      refine .inl ⟨g1, g2.mono fun e w' ⟨u, he, ho, hr⟩ => ?_⟩
      have hq := straitref21_In.ret_elim (K' := fun u h' => u = v ∧ h' = h) (fun _ h' hr => by obtain ⟨rfl, rfl⟩ := hr; exact ⟨h2, rfl⟩) hr
      exact ⟨hq.1 ▸ he, ho, hq.2⟩
    · exact hh.elim
noncomputable def straitref29_Least.code : Code := (Try.f28.body).getD .skip
def straitref29_Least.ann : Ann := (.two .auto (.two .auto (.two .auto (.two (.two .auto (.two (.loop 0 [1, 2, 3, 6, 7, 8] [(2, [6, 7])] (.two .auto (.two (.two (.two .auto (.two (.reg [0, 0, 3, 0, 0, 31, 63, 127, 255, 511, 1023, 2047, 4095, 8191, 4095, 32767, 65535, 4095, 135167, 4095, 528383, 1970175, 4067327, 8388607, 16777215, 33554431] (.take 0 (.take 1 (.take 2 (.take 3 (.take 4 (.take 5 (.take 6 (.take 7 (.take 8 (.take 9 (.take 10 (.take 11 (.take 12 (.take 13 (.take 14 (.take 15 (.take 16 (.take 17 (.take 18 (.take 19 (.take 20 (.take 21 (.take 22 (.take 23 (.take 24 (.take 25 .done))))))))))))))))))))))))))) .auto)) .auto) .auto))) .auto)) .auto))))
noncomputable def straitref29_Least.c0 : Code := sub straitref29_Least.code [1, 1, 1, 0, 1, 0, 0]
def straitref29_Least.a0 : Ann := (.two .auto (.two (.two (.two .auto (.two (.reg [0, 0, 3, 0, 0, 31, 63, 127, 255, 511, 1023, 2047, 4095, 8191, 4095, 32767, 65535, 4095, 135167, 4095, 528383, 1970175, 4067327, 8388607, 16777215, 33554431] (.take 0 (.take 1 (.take 2 (.take 3 (.take 4 (.take 5 (.take 6 (.take 7 (.take 8 (.take 9 (.take 10 (.take 11 (.take 12 (.take 13 (.take 14 (.take 15 (.take 16 (.take 17 (.take 18 (.take 19 (.take 20 (.take 21 (.take 22 (.take 23 (.take 24 (.take 25 .done))))))))))))))))))))))))))) .auto)) .auto) .auto))
def straitref29_Least.keep0 : List Nat := [1, 2, 3, 6, 7, 8]
def straitref29_Least.outs0 : List (Nat × List Nat) := [(2, [6, 7])]
set_option maxRecDepth 100000 in
theorem straitref29_Least.L0 [DKc] : LoopOK straitref29_Least.ctx 60 straitref29_Least.c0 0 straitref29_Least.keep0 straitref29_Least.outs0 := by
  refine loop_ok (n := straitref29_Least.a0) straitref29_Least.ok (by kernel_rfl) (loops_ok (l := []) (by kernel_rfl) ?_) straitref29_Least.r0 ?_ ?_ (fun vs h K hh => hh)
  · exact trivial
  · intro K vs h hh
    unfold straitref29_Least.r0 at hh
    split at hh
    · exact hh
    · exact hh
  · intro K m vs h hh
    unfold straitref29_Least.r0 at hh
    split at hh
    · exact cast (by kernel_rfl) hh
    · exact hh.elim
set_option maxRecDepth 100000 in
theorem straitref29_Least.eq (a1 : Option Addr) (a1l : Nat) (a1c : Nat) (a2 : Option Addr) (a2l : Nat) (a2c : Nat) (a3 : Int) (a4 : Int) (h : Heap) (K : Int → Bool → Heap → Prop) : evF straitref29_Least.ctx Try.f28 straitref29_Least.ann [(.agg #[(.slice a1 a1l a1c), (.slice a2 a2l a2c)]), (.int .i64 a3), (.int .i64 a4)] h (straitref29_Least.ret K) = straitref29_Least a1 a1l a1c a2 a2l a2c a3 a4 h K := by kernel_rfl
set_option maxRecDepth 100000 in
theorem straitref29_Least.calls [DKc] {a1 : Option Addr} {a1l : Nat} {a1c : Nat} {a2 : Option Addr} {a2l : Nat} {a2c : Nat} {a3 : Int} {a4 : Int} {h : Heap} {K : Int → Bool → Heap → Prop} (hh : straitref29_Least a1 a1l a1c a2 a2l a2c a3 a4 h K) (w : World) (hw : w.heap = h) :
    (callFunc 28 #[(.agg #[(.slice a1 a1l a1c), (.slice a2 a2l a2c)]), (.int .i64 a3), (.int .i64 a4)]).run Try.prog w = .ok (.enter 28 #[(.agg #[(.slice a1 a1l a1c), (.slice a2 a2l a2c)]), (.int .i64 a3), (.int .i64 a4)]) w ∧ Calls Try.prog 28 #[(.agg #[(.slice a1 a1l a1c), (.slice a2 a2l a2c)]), (.int .i64 a3), (.int .i64 a4)] w fun e w' => ∃ v, e = .returned v ∧ Out w w' ∧ straitref29_Least.ret K v w'.heap := by
  rw [← straitref29_Least.eq] at hh
  exact fn_calls (args := [(.agg #[(.slice a1 a1l a1c), (.slice a2 a2l a2c)]), (.int .i64 a3), (.int .i64 a4)]) (c := straitref29_Least.code) straitref29_Least.ok Try.func28 (by kernel_rfl) (by kernel_rfl) (by kernel_rfl) (by kernel_rfl) (loops_ok (l := [(straitref29_Least.c0, none, 0, straitref29_Least.keep0, straitref29_Least.outs0)]) (by kernel_rfl) ⟨straitref29_Least.L0, trivial⟩) hh w hw

/-! ### strait/matrix.square[int64]: function 56 -/
def matrix_square_int64.b0 (K2 : Heap → Prop) (cont : Int → Addr → Nat → Nat → Int → Int → Heap → Prop) (c0_1001 : Int) (c3_1002 : Addr) (c3_1003 : Nat) (c3_1004 : Nat) (c8_1005 : Int) (v9_1006 : Int) (h1007 : Heap) : Prop :=
  (iteB (decide (v9_1006 < c8_1005)) ((((0 ≤ c0_1001 ∧ c0_1001 ≤ c0_1001 ∧ c0_1001 * (8 : Nat) ≤ 2 ^ 47 ∧ c0_1001 ≤ 2 ^ 47) ∧ newP h1007 (.cells (zeroRow [(.int .i64 0)] c0_1001.toNat).toArray 2) fun a1008 h1009 => (0 ≤ v9_1006 ∧ v9_1006 < (c3_1003 : Int)) ∧ stC h1009 (c3_1002.add (v9_1006.toNat * 1)) (.slice (some a1008) c0_1001.toNat c0_1001.toNat) fun h1010 => ((cont c0_1001 c3_1002 c3_1003 c3_1004 c8_1005 (IntKind.i64.wrap (v9_1006 + 1)) h1010))))) (K2 h1007))
def matrix_square_int64.l0 (K2 : Heap → Prop) : Nat → Int → Addr → Nat → Nat → Int → Int → Heap → Prop
  | 0, _, _, _, _, _, _, _ => False
  | m + 1, c0_1001, c3_1002, c3_1003, c3_1004, c8_1005, v9_1006, h => matrix_square_int64.b0 K2 (matrix_square_int64.l0 K2 m) c0_1001 c3_1002 c3_1003 c3_1004 c8_1005 v9_1006 h
def matrix_square_int64 (a1 : Int) (h : Heap) (K : (Option Addr) → Nat → Nat → Heap → Prop) : Prop :=
  ((0 ≤ a1 ∧ a1 ≤ a1 ∧ a1 * (24 : Nat) ≤ 2 ^ 47 ∧ a1 ≤ 2 ^ 47) ∧ newP h (.cells (zeroRow [(.slice none 0 0)] a1.toNat).toArray 23) fun a2 h3 => ((∃ m5, matrix_square_int64.l0 (fun h4 => (((K (some a2) a1.toNat a1.toNat h4)))) m5 a1 a2 a1.toNat a1.toNat (a1.toNat : Int) 0 h3)))
def matrix_square_int64.ret (K : (Option Addr) → Nat → Nat → Heap → Prop) (v : Value) (h : Heap) : Prop := match v with
  | (.slice r6 r6l r6c) => K r6 r6l r6c h
  | _ => False
theorem matrix_square_int64.ret_elim {K : (Option Addr) → Nat → Nat → Heap → Prop} {K' : Value → Heap → Prop} {v : Value} {h : Heap} (hk : ∀ r6 r6l r6c h, K r6 r6l r6c h → K' (.slice r6 r6l r6c) h) (hh : matrix_square_int64.ret K v h) : K' v h := by
  unfold matrix_square_int64.ret at hh
  split at hh
  · exact hk _ _ _ _ hh
  · exact hh.elim
def matrix_square_int64.r0 (K : Nat → List Value → Heap → Prop) (m : Nat) (vs : List Value) (h : Heap) : Prop := match vs with
  | [(.int .i64 c0_1001), (.slice (some c3_1002) c3_1003 c3_1004), (.int .i64 c8_1005), (.int .i64 v9_1006)] => matrix_square_int64.l0 (fun h' => K 2 [(.slice (some c3_1002) c3_1003 c3_1004)] h') m c0_1001 c3_1002 c3_1003 c3_1004 c8_1005 v9_1006 h
  | _ => False
def matrix_square_int64.loop (i : Nat) (vs : List Value) (h : Heap) (K : Nat → List Value → Heap → Prop) : Prop := match i with
  | 0 => ∃ m, matrix_square_int64.r0 K m vs h
  | _ => False
noncomputable def matrix_square_int64.ctx : Ctx := { P := Try.prog, call := fun _ _ _ _ => False, qcall := fun _ _ _ _ => False, quiet := fun f => Nat.beq f 1000069 || Nat.beq f 1000099, loop := matrix_square_int64.loop }
theorem matrix_square_int64.ok [DKc] : matrix_square_int64.ctx.OK where
  mixed := by kernel_rfl
  mono := fun hh _ => hh.elim
  call := fun hh => hh.elim
  qmono := fun hh _ => hh.elim
  qval := fun hh => hh.elim
  qcall := fun hh => hh.elim
noncomputable def matrix_square_int64.code : Code := (Try.f56.body).getD .skip
def matrix_square_int64.ann : Ann := (.two .auto (.two .auto (.two (.two .auto (.two (.loop 0 [0, 3, 8, 9] [(2, [3])] .auto) .auto)) .auto)))
noncomputable def matrix_square_int64.c0 : Code := sub matrix_square_int64.code [1, 1, 0, 1, 0, 0]
def matrix_square_int64.a0 : Ann := .auto
def matrix_square_int64.keep0 : List Nat := [0, 3, 8, 9]
def matrix_square_int64.outs0 : List (Nat × List Nat) := [(2, [3])]
set_option maxRecDepth 100000 in
theorem matrix_square_int64.L0 [DKc] : LoopOK matrix_square_int64.ctx 19 matrix_square_int64.c0 0 matrix_square_int64.keep0 matrix_square_int64.outs0 := by
  refine loop_ok (n := matrix_square_int64.a0) matrix_square_int64.ok (by kernel_rfl) (loops_ok (l := []) (by kernel_rfl) ?_) matrix_square_int64.r0 ?_ ?_ (fun vs h K hh => hh)
  · exact trivial
  · intro K vs h hh
    unfold matrix_square_int64.r0 at hh
    split at hh
    · exact hh
    · exact hh
  · intro K m vs h hh
    unfold matrix_square_int64.r0 at hh
    split at hh
    · exact cast (by kernel_rfl) hh
    · exact hh.elim
set_option maxRecDepth 100000 in
theorem matrix_square_int64.eq (a1 : Int) (h : Heap) (K : (Option Addr) → Nat → Nat → Heap → Prop) : evF matrix_square_int64.ctx Try.f56 matrix_square_int64.ann [(.int .i64 a1)] h (matrix_square_int64.ret K) = matrix_square_int64 a1 h K := by kernel_rfl
set_option maxRecDepth 100000 in
theorem matrix_square_int64.calls [DKc] {a1 : Int} {h : Heap} {K : (Option Addr) → Nat → Nat → Heap → Prop} (hh : matrix_square_int64 a1 h K) (w : World) (hw : w.heap = h) :
    (callFunc 56 #[(.int .i64 a1)]).run Try.prog w = .ok (.enter 56 #[(.int .i64 a1)]) w ∧ Calls Try.prog 56 #[(.int .i64 a1)] w fun e w' => ∃ v, e = .returned v ∧ Out w w' ∧ matrix_square_int64.ret K v w'.heap := by
  rw [← matrix_square_int64.eq] at hh
  exact fn_calls (args := [(.int .i64 a1)]) (c := matrix_square_int64.code) matrix_square_int64.ok Try.func56 (by kernel_rfl) (by kernel_rfl) (by kernel_rfl) (by kernel_rfl) (loops_ok (l := [(matrix_square_int64.c0, none, 0, matrix_square_int64.keep0, matrix_square_int64.outs0)]) (by kernel_rfl) ⟨matrix_square_int64.L0, trivial⟩) hh w hw

/-! ### strait/matrix.Of: function 31 -/
section
variable [DKc]
def matrix_Of.b1 (K4 : Heap → Prop) (cont : Addr → (Option Addr) → Nat → Nat → (Option Addr) → Nat → Nat → Int → Int → (Option Addr) → Nat → Nat → Int → Int → (Option Addr) → Nat → Nat → Int → Int → Heap → Prop) (c1_2001 : Addr) (c5_2002 : Option Addr) (c5_2003 : Nat) (c5_2004 : Nat) (c6_2005 : Option Addr) (c6_2006 : Nat) (c6_2007 : Nat) (c8_2008 : Int) (c9_2009 : Int) (c24_2010 : Option Addr) (c24_2011 : Nat) (c24_2012 : Nat) (c25_2013 : Int) (c26_2014 : Int) (c35_2015 : Option Addr) (c35_2016 : Nat) (c35_2017 : Nat) (c36_2018 : Int) (v37_2019 : Int) (h2020 : Heap) : Prop :=
  (iteB (decide (v37_2019 < c36_2018)) ((chkP c35_2015 fun a2021 => (0 ≤ v37_2019 ∧ v37_2019 < (c35_2016 : Int)) ∧ ∃ (x2022 : Int), cell h2020 (a2021.add (v37_2019.toNat * 1)) = some (.int .i64 x2022) ∧ (∃ (x2023 : Option Addr) (x2023l : Nat) (x2023c : Nat), cell h2020 (c1_2001.add 1) = some (.slice x2023 x2023l x2023c) ∧ chkP x2023 fun a2024 => (0 ≤ c8_2008 ∧ c8_2008 < (x2023l : Int)) ∧ ∃ (x2025 : Int), cell h2020 (a2024.add (c8_2008.toNat * 1)) = some (.int .i64 x2025) ∧ (let j2039 := (fun (y2030 : Int) => chkP c5_2002 fun a2031 => (0 ≤ x2022 ∧ x2022 < (c5_2003 : Int)) ∧ ∃ (x2032 : Option Addr) (x2032l : Nat) (x2032c : Nat), cell h2020 (a2031.add (x2022.toNat * 1)) = some (.slice x2032 x2032l x2032c) ∧ chkP c5_2002 fun a2033 => (0 ≤ c8_2008 ∧ c8_2008 < (c5_2003 : Int)) ∧ ∃ (x2034 : Option Addr) (x2034l : Nat) (x2034c : Nat), cell h2020 (a2033.add (c8_2008.toNat * 1)) = some (.slice x2034 x2034l x2034c) ∧ chkP x2032 fun a2035 => (0 ≤ c8_2008 ∧ c8_2008 < (x2032l : Int)) ∧ stC h2020 (a2035.add (c8_2008.toNat * 1)) (.int .i64 y2030) fun h2036 => chkP x2034 fun a2037 => (0 ≤ x2022 ∧ x2022 < (x2034l : Int)) ∧ stC h2036 (a2037.add (x2022.toNat * 1)) (.int .i64 y2030) fun h2038 => ((cont c1_2001 c5_2002 c5_2003 c5_2004 c6_2005 c6_2006 c6_2007 c8_2008 c9_2009 c24_2010 c24_2011 c24_2012 c25_2013 c26_2014 c35_2015 c35_2016 c35_2017 c36_2018 (IntKind.i64.wrap (v37_2019 + 1)) h2038)));
  (iteB (x2022 != c9_2009) (chkP c5_2002 fun a2026 => (0 ≤ c9_2009 ∧ c9_2009 < (c5_2003 : Int)) ∧ ∃ (x2027 : Option Addr) (x2027l : Nat) (x2027c : Nat), cell h2020 (a2026.add (c9_2009.toNat * 1)) = some (.slice x2027 x2027l x2027c) ∧ chkP x2027 fun a2028 => (0 ≤ x2022 ∧ x2022 < (x2027l : Int)) ∧ ∃ (x2029 : Int), cell h2020 (a2028.add (x2022.toNat * 1)) = some (.int .i64 x2029) ∧ (j2039 (if x2029 < x2025 then x2029 else x2025))) ((j2039 x2025))))))) (K4 h2020))
def matrix_Of.l1 (K4 : Heap → Prop) : Nat → Addr → (Option Addr) → Nat → Nat → (Option Addr) → Nat → Nat → Int → Int → (Option Addr) → Nat → Nat → Int → Int → (Option Addr) → Nat → Nat → Int → Int → Heap → Prop
  | 0, _, _, _, _, _, _, _, _, _, _, _, _, _, _, _, _, _, _, _, _ => False
  | m + 1, c1_2001, c5_2002, c5_2003, c5_2004, c6_2005, c6_2006, c6_2007, c8_2008, c9_2009, c24_2010, c24_2011, c24_2012, c25_2013, c26_2014, c35_2015, c35_2016, c35_2017, c36_2018, v37_2019, h => matrix_Of.b1 K4 (matrix_Of.l1 K4 m) c1_2001 c5_2002 c5_2003 c5_2004 c6_2005 c6_2006 c6_2007 c8_2008 c9_2009 c24_2010 c24_2011 c24_2012 c25_2013 c26_2014 c35_2015 c35_2016 c35_2017 c36_2018 v37_2019 h
def matrix_Of.b0 (K2 : Heap → Prop) (cont : Addr → (Option Addr) → Nat → Nat → (Option Addr) → Nat → Nat → (Option Addr) → Nat → Nat → Int → Int → Heap → Prop) (c1_1001 : Addr) (c5_1002 : Option Addr) (c5_1003 : Nat) (c5_1004 : Nat) (v6_1005 : Option Addr) (v6_1005l : Nat) (v6_1005c : Nat) (c24_1006 : Option Addr) (c24_1007 : Nat) (c24_1008 : Nat) (c25_1009 : Int) (v26_1010 : Int) (h1011 : Heap) : Prop :=
  (iteB (decide (v26_1010 < c25_1009)) ((chkP c24_1006 fun a1012 => (0 ≤ v26_1010 ∧ v26_1010 < (c24_1007 : Int)) ∧ ∃ (x1013 : Int), cell h1011 (a1012.add (v26_1010.toNat * 1)) = some (.int .i64 x1013) ∧ (∃ (x1014 : Option Addr) (x1014l : Nat) (x1014c : Nat), cell h1011 c1_1001 = some (.slice x1014 x1014l x1014c) ∧ chkP x1014 fun a1015 => (0 ≤ x1013 ∧ x1013 < (x1014l : Int)) ∧ ∃ (x1016 : Int), cell h1011 (a1015.add (x1013.toNat * 1)) = some (.int .i64 x1016) ∧ ((∃ m1018, matrix_Of.l1 (fun h1017 => ((newP h1017 (.cells #[(.int .i64 x1013)] 3) fun a1019 h1020 => ∃ n1025, cellsAt h1020 (some a1019) (1 * 1) n1025 ∧ appP 3 1 8 [(.int .i64 0)] v6_1005 v6_1005l v6_1005c 1 n1025 h1020 fun q1021 l1022 c1023 h1024 => ((cont c1_1001 c5_1002 c5_1003 c5_1004 q1021 l1022 c1023 c24_1006 c24_1007 c24_1008 c25_1009 (IntKind.i64.wrap (v26_1010 + 1)) h1024))))) m1018 c1_1001 c5_1002 c5_1003 c5_1004 v6_1005 v6_1005l v6_1005c x1013 x1016 c24_1006 c24_1007 c24_1008 c25_1009 v26_1010 v6_1005 v6_1005l v6_1005c (v6_1005l : Int) 0 h1011))))) (K2 h1011))
def matrix_Of.l0 (K2 : Heap → Prop) : Nat → Addr → (Option Addr) → Nat → Nat → (Option Addr) → Nat → Nat → (Option Addr) → Nat → Nat → Int → Int → Heap → Prop
  | 0, _, _, _, _, _, _, _, _, _, _, _, _, _ => False
  | m + 1, c1_1001, c5_1002, c5_1003, c5_1004, v6_1005, v6_1005l, v6_1005c, c24_1006, c24_1007, c24_1008, c25_1009, v26_1010, h => matrix_Of.b0 K2 (matrix_Of.l0 K2 m) c1_1001 c5_1002 c5_1003 c5_1004 v6_1005 v6_1005l v6_1005c c24_1006 c24_1007 c24_1008 c25_1009 v26_1010 h
def matrix_Of (a1 : Option Addr) (a1l : Nat) (a1c : Nat) (a2 : Option Addr) (a2l : Nat) (a2c : Nat) (h : Heap) (K : (Option Addr) → Nat → Nat → Int → Heap → Prop) : Prop :=
  newP h (.cells #[(.slice a1 a1l a1c), (.slice a2 a2l a2c)] 25) fun a3 h4 => (∃ (x5 : Option Addr) (x5l : Nat) (x5c : Nat), cell h4 a3 = some (.slice x5 x5l x5c) ∧ ∃ (x6 : Option Addr) (x6l : Nat) (x6c : Nat), cell h4 (a3.add 1) = some (.slice x6 x6l x6c) ∧ callP1 (tree_Check x5 x5l x5c x6 x6l x6c h4) fun x7 h8 => (iteB (x7 != (0 : Int)) (K none 0 0 15 h8) ((∃ (x9 : Option Addr) (x9l : Nat) (x9c : Nat), cell h8 a3 = some (.slice x9 x9l x9c) ∧ ((iteB (decide ((x9l : Int) > (256 : Int))) (K none 0 0 3 h8) ((callP3 (matrix_square_int64 (x9l : Int) h8) fun x10 x10l x10c h11 => ((∃ (x12 : Option Addr) (x12l : Nat) (x12c : Nat), cell h11 a3 = some (.slice x12 x12l x12c) ∧ ∃ (x13 : Option Addr) (x13l : Nat) (x13c : Nat), cell h11 (a3.add 1) = some (.slice x13 x13l x13c) ∧ callP3 (tree_Order x12 x12l x12c x13 x13l x13c h11) fun x14 x14l x14c h15 => (∃ m17, matrix_Of.l0 (fun h16 => (K x10 x10l x10c 0 h16)) m17 a3 x10 x10l x10c none 0 0 x14 x14l x14c (x14l : Int) 0 h15)))))))))))
def matrix_Of.ret (K : (Option Addr) → Nat → Nat → Int → Heap → Prop) (v : Value) (h : Heap) : Prop := match v with
  | (.tuple ⟨[(.slice r18 r18l r18c), (.int .i64 r19)]⟩) => K r18 r18l r18c r19 h
  | _ => False
theorem matrix_Of.ret_elim {K : (Option Addr) → Nat → Nat → Int → Heap → Prop} {K' : Value → Heap → Prop} {v : Value} {h : Heap} (hk : ∀ r18 r18l r18c r19 h, K r18 r18l r18c r19 h → K' (.tuple #[(.slice r18 r18l r18c), (.int .i64 r19)]) h) (hh : matrix_Of.ret K v h) : K' v h := by
  unfold matrix_Of.ret at hh
  split at hh
  · exact hk _ _ _ _ _ hh
  · exact hh.elim
def matrix_Of.call (f : FuncId) (vs : List Value) (h : Heap) (K : Value → Heap → Prop) : Prop := match f, vs with
  | 14, [(.agg ⟨[(.slice a1 a1l a1c), (.slice a2 a2l a2c)]⟩)] => callP1 (tree_Check a1 a1l a1c a2 a2l a2c h) fun r10 h' => K (.int .i64 r10) h'
  | 21, [(.agg ⟨[(.slice a1 a1l a1c), (.slice a2 a2l a2c)]⟩)] => callP3 (tree_Order a1 a1l a1c a2 a2l a2c h) fun r19 r19l r19c h' => K (.slice r19 r19l r19c) h'
  | 56, [(.int .i64 a1)] => callP3 (matrix_square_int64 a1 h) fun r6 r6l r6c h' => K (.slice r6 r6l r6c) h'
  | _, _ => False
def matrix_Of.r0 (K : Nat → List Value → Heap → Prop) (m : Nat) (vs : List Value) (h : Heap) : Prop := match vs with
  | [(.pointer (some c1_1001)), (.slice c5_1002 c5_1003 c5_1004), (.slice v6_1005 v6_1005l v6_1005c), (.slice c24_1006 c24_1007 c24_1008), (.int .i64 c25_1009), (.int .i64 v26_1010)] => matrix_Of.l0 (fun h' => K 2 [(.slice c5_1002 c5_1003 c5_1004)] h') m c1_1001 c5_1002 c5_1003 c5_1004 v6_1005 v6_1005l v6_1005c c24_1006 c24_1007 c24_1008 c25_1009 v26_1010 h
  | _ => False
def matrix_Of.r1 (K : Nat → List Value → Heap → Prop) (m : Nat) (vs : List Value) (h : Heap) : Prop := match vs with
  | [(.pointer (some c1_2001)), (.slice c5_2002 c5_2003 c5_2004), (.slice c6_2005 c6_2006 c6_2007), (.int .i64 c8_2008), (.int .i64 c9_2009), (.slice c24_2010 c24_2011 c24_2012), (.int .i64 c25_2013), (.int .i64 c26_2014), (.slice c35_2015 c35_2016 c35_2017), (.int .i64 c36_2018), (.int .i64 v37_2019)] => matrix_Of.l1 (fun h' => K 4 [(.pointer (some c1_2001)), (.slice c5_2002 c5_2003 c5_2004), (.slice c6_2005 c6_2006 c6_2007), (.int .i64 c8_2008), (.slice c24_2010 c24_2011 c24_2012), (.int .i64 c25_2013), (.int .i64 c26_2014)] h') m c1_2001 c5_2002 c5_2003 c5_2004 c6_2005 c6_2006 c6_2007 c8_2008 c9_2009 c24_2010 c24_2011 c24_2012 c25_2013 c26_2014 c35_2015 c35_2016 c35_2017 c36_2018 v37_2019 h
  | _ => False
def matrix_Of.loop (i : Nat) (vs : List Value) (h : Heap) (K : Nat → List Value → Heap → Prop) : Prop := match i with
  | 0 => ∃ m, matrix_Of.r0 K m vs h
  | 1 => ∃ m, matrix_Of.r1 K m vs h
  | _ => False
noncomputable def matrix_Of.ctx : Ctx := { P := Try.prog, call := matrix_Of.call, qcall := fun _ _ _ _ => False, quiet := fun f => Nat.beq f 1000069 || Nat.beq f 1000099, loop := matrix_Of.loop }
theorem matrix_Of.ok : matrix_Of.ctx.OK where
  mixed := by kernel_rfl
  mono := by
    intro f args h K K' hh hk
    change matrix_Of.call f args h K at hh
    change matrix_Of.call f args h K'
    unfold matrix_Of.call at hh ⊢
    split at hh
    · obtain ⟨R, h1, h2⟩ := hh
      exact ⟨R, h1, fun _ x hr => hk _ _ (h2 _ x hr)⟩
    · obtain ⟨R, h1, h2⟩ := hh
      exact ⟨R, h1, fun _ _ _ x hr => hk _ _ (h2 _ _ _ x hr)⟩
    · obtain ⟨R, h1, h2⟩ := hh
      exact ⟨R, h1, fun _ _ _ x hr => hk _ _ (h2 _ _ _ x hr)⟩
    · exact hh.elim
  call := by
    intro f args h K hh w hw
    change matrix_Of.call f args h K at hh
    unfold matrix_Of.call at hh
    split at hh
    · obtain ⟨R, h1, h2⟩ := hh
      obtain ⟨g1, g2⟩ := tree_Check.calls h1 w hw
      exact ⟨g1, g2.mono fun e w' ⟨v, he, ho, hr⟩ => ⟨v, he, ho, tree_Check.ret_elim h2 hr⟩⟩
    · obtain ⟨R, h1, h2⟩ := hh
      obtain ⟨g1, g2⟩ := tree_Order.calls h1 w hw
      exact ⟨g1, g2.mono fun e w' ⟨v, he, ho, hr⟩ => ⟨v, he, ho, tree_Order.ret_elim h2 hr⟩⟩
    · obtain ⟨R, h1, h2⟩ := hh
      obtain ⟨g1, g2⟩ := matrix_square_int64.calls h1 w hw
      exact ⟨g1, g2.mono fun e w' ⟨v, he, ho, hr⟩ => ⟨v, he, ho, matrix_square_int64.ret_elim h2 hr⟩⟩
    · exact hh.elim
  qmono := fun hh _ => hh.elim
  qval := fun hh => hh.elim
  qcall := fun hh => hh.elim
noncomputable def matrix_Of.code : Code := (Try.f31.body).getD .skip
def matrix_Of.ann : Ann := (.two .auto (.two .auto (.two .auto (.two .auto (.two .auto (.two .auto (.two (.two .auto (.two (.loop 0 [1, 5, 6, 24, 25, 26] [(2, [5])] (.two .auto (.two .auto (.two (.two (.two .auto (.two .auto (.two (.two .auto (.two (.loop 1 [1, 5, 6, 8, 9, 24, 25, 26, 35, 36, 37] [(4, [1, 5, 6, 8, 24, 25, 26])] (.two .auto (.two .auto (.two (.two (.two .auto (.two .auto (.two .auto (.reg [0, 0, 3, 7, 0, 0, 0, 96, 224, 0, 0, 0, 1535, 5631, 16383, 32767] (.take 0 (.take 1 (.take 2 (.take 3 (.take 4 (.take 5 (.take 6 (.take 7 (.take 8 (.take 9 (.take 10 (.take 11 (.take 12 (.alt 13 (.take 14 (.alt 15 .done .noalt)) .noalt)))))))))))))))))) .auto) .auto)))) .auto)) .auto))) .auto) .auto)))) .auto)) .auto)))))))
noncomputable def matrix_Of.c1 : Code := sub matrix_Of.code [1, 1, 1, 1, 1, 1, 0, 1, 0, 0, 1, 1, 0, 0, 1, 1, 0, 1, 0, 0]
def matrix_Of.a1 : Ann := (.two .auto (.two .auto (.two (.two (.two .auto (.two .auto (.two .auto (.reg [0, 0, 3, 7, 0, 0, 0, 96, 224, 0, 0, 0, 1535, 5631, 16383, 32767] (.take 0 (.take 1 (.take 2 (.take 3 (.take 4 (.take 5 (.take 6 (.take 7 (.take 8 (.take 9 (.take 10 (.take 11 (.take 12 (.alt 13 (.take 14 (.alt 15 .done .noalt)) .noalt)))))))))))))))))) .auto) .auto)))
def matrix_Of.keep1 : List Nat := [1, 5, 6, 8, 9, 24, 25, 26, 35, 36, 37]
def matrix_Of.outs1 : List (Nat × List Nat) := [(4, [1, 5, 6, 8, 24, 25, 26])]
noncomputable def matrix_Of.c0 : Code := sub matrix_Of.code [1, 1, 1, 1, 1, 1, 0, 1, 0, 0]
def matrix_Of.a0 : Ann := (.two .auto (.two .auto (.two (.two (.two .auto (.two .auto (.two (.two .auto (.two (.loop 1 [1, 5, 6, 8, 9, 24, 25, 26, 35, 36, 37] [(4, [1, 5, 6, 8, 24, 25, 26])] (.two .auto (.two .auto (.two (.two (.two .auto (.two .auto (.two .auto (.reg [0, 0, 3, 7, 0, 0, 0, 96, 224, 0, 0, 0, 1535, 5631, 16383, 32767] (.take 0 (.take 1 (.take 2 (.take 3 (.take 4 (.take 5 (.take 6 (.take 7 (.take 8 (.take 9 (.take 10 (.take 11 (.take 12 (.alt 13 (.take 14 (.alt 15 .done .noalt)) .noalt)))))))))))))))))) .auto) .auto)))) .auto)) .auto))) .auto) .auto)))
def matrix_Of.keep0 : List Nat := [1, 5, 6, 24, 25, 26]
def matrix_Of.outs0 : List (Nat × List Nat) := [(2, [5])]
set_option maxRecDepth 100000 in
theorem matrix_Of.L1 : LoopOK matrix_Of.ctx 79 matrix_Of.c1 1 matrix_Of.keep1 matrix_Of.outs1 := by
  refine loop_ok (n := matrix_Of.a1) matrix_Of.ok (by kernel_rfl) (loops_ok (l := []) (by kernel_rfl) ?_) matrix_Of.r1 ?_ ?_ (fun vs h K hh => hh)
  · exact trivial
  · intro K vs h hh
    unfold matrix_Of.r1 at hh
    split at hh
    · exact hh
    · exact hh
  · intro K m vs h hh
    unfold matrix_Of.r1 at hh
    split at hh
    · exact cast (by kernel_rfl) hh
    · exact hh.elim
set_option maxRecDepth 100000 in
theorem matrix_Of.L0 : LoopOK matrix_Of.ctx 79 matrix_Of.c0 0 matrix_Of.keep0 matrix_Of.outs0 := by
  refine loop_ok (n := matrix_Of.a0) matrix_Of.ok (by kernel_rfl) (loops_ok (l := [(matrix_Of.c1, none, 1, matrix_Of.keep1, matrix_Of.outs1)]) (by kernel_rfl) ?_) matrix_Of.r0 ?_ ?_ (fun vs h K hh => hh)
  · exact ⟨matrix_Of.L1, trivial⟩
  · intro K vs h hh
    unfold matrix_Of.r0 at hh
    split at hh
    · exact hh
    · exact hh
  · intro K m vs h hh
    unfold matrix_Of.r0 at hh
    split at hh
    · exact cast (by kernel_rfl) hh
    · exact hh.elim
set_option maxRecDepth 100000 in
theorem matrix_Of.eq (a1 : Option Addr) (a1l : Nat) (a1c : Nat) (a2 : Option Addr) (a2l : Nat) (a2c : Nat) (h : Heap) (K : (Option Addr) → Nat → Nat → Int → Heap → Prop) : evF matrix_Of.ctx Try.f31 matrix_Of.ann [(.agg #[(.slice a1 a1l a1c), (.slice a2 a2l a2c)])] h (matrix_Of.ret K) = matrix_Of a1 a1l a1c a2 a2l a2c h K := by kernel_rfl
set_option maxRecDepth 100000 in
theorem matrix_Of.calls {a1 : Option Addr} {a1l : Nat} {a1c : Nat} {a2 : Option Addr} {a2l : Nat} {a2c : Nat} {h : Heap} {K : (Option Addr) → Nat → Nat → Int → Heap → Prop} (hh : matrix_Of a1 a1l a1c a2 a2l a2c h K) (w : World) (hw : w.heap = h) :
    (callFunc 31 #[(.agg #[(.slice a1 a1l a1c), (.slice a2 a2l a2c)])]).run Try.prog w = .ok (.enter 31 #[(.agg #[(.slice a1 a1l a1c), (.slice a2 a2l a2c)])]) w ∧ Calls Try.prog 31 #[(.agg #[(.slice a1 a1l a1c), (.slice a2 a2l a2c)])] w fun e w' => ∃ v, e = .returned v ∧ Out w w' ∧ matrix_Of.ret K v w'.heap := by
  rw [← matrix_Of.eq] at hh
  exact fn_calls (args := [(.agg #[(.slice a1 a1l a1c), (.slice a2 a2l a2c)])]) (c := matrix_Of.code) matrix_Of.ok Try.func31 (by kernel_rfl) (by kernel_rfl) (by kernel_rfl) (by kernel_rfl) (loops_ok (l := [(matrix_Of.c0, none, 0, matrix_Of.keep0, matrix_Of.outs0)]) (by kernel_rfl) ⟨matrix_Of.L0, trivial⟩) hh w hw
end

/-! ### slices.Equal[[]int64,int64]: function 46 -/
def slices_Equal_Lint64_int64.b0 (K0 : Bool → Heap → Prop) (K2 : Heap → Prop) (cont : (Option Addr) → Nat → Nat → (Option Addr) → Nat → Nat → Int → Int → Heap → Prop) (c0_1001 : Option Addr) (c0_1002 : Nat) (c0_1003 : Nat) (c1_1004 : Option Addr) (c1_1005 : Nat) (c1_1006 : Nat) (c12_1007 : Int) (v13_1008 : Int) (h1009 : Heap) : Prop :=
  (iteB (decide (v13_1008 < c12_1007)) (((chkP c0_1001 fun a1010 => (0 ≤ v13_1008 ∧ v13_1008 < (c0_1002 : Int)) ∧ ∃ (x1011 : Int), cell h1009 (a1010.add (v13_1008.toNat * 1)) = some (.int .i64 x1011) ∧ chkP c1_1004 fun a1012 => (0 ≤ v13_1008 ∧ v13_1008 < (c1_1005 : Int)) ∧ ∃ (x1013 : Int), cell h1009 (a1012.add (v13_1008.toNat * 1)) = some (.int .i64 x1013) ∧ (iteB (x1011 != x1013) (K0 false h1009) (((cont c0_1001 c0_1002 c0_1003 c1_1004 c1_1005 c1_1006 c12_1007 (IntKind.i64.wrap (v13_1008 + 1)) h1009))))))) (K2 h1009))
def slices_Equal_Lint64_int64.l0 (K0 : Bool → Heap → Prop) (K2 : Heap → Prop) : Nat → (Option Addr) → Nat → Nat → (Option Addr) → Nat → Nat → Int → Int → Heap → Prop
  | 0, _, _, _, _, _, _, _, _, _ => False
  | m + 1, c0_1001, c0_1002, c0_1003, c1_1004, c1_1005, c1_1006, c12_1007, v13_1008, h => slices_Equal_Lint64_int64.b0 K0 K2 (slices_Equal_Lint64_int64.l0 K0 K2 m) c0_1001 c0_1002 c0_1003 c1_1004 c1_1005 c1_1006 c12_1007 v13_1008 h
def slices_Equal_Lint64_int64 (a1 : Option Addr) (a1l : Nat) (a1c : Nat) (a2 : Option Addr) (a2l : Nat) (a2c : Nat) (h : Heap) (K : Bool → Heap → Prop) : Prop :=
  ((iteB ((a1l : Int) != (a2l : Int)) (K false h) (((∃ m6, slices_Equal_Lint64_int64.l0 (fun z3 h4 => K z3 h4) (fun h5 => (K true h5)) m6 a1 a1l a1c a2 a2l a2c (a1l : Int) 0 h)))))
def slices_Equal_Lint64_int64.ret (K : Bool → Heap → Prop) (v : Value) (h : Heap) : Prop := match v with
  | (.bool r7) => K r7 h
  | _ => False
theorem slices_Equal_Lint64_int64.ret_elim {K : Bool → Heap → Prop} {K' : Value → Heap → Prop} {v : Value} {h : Heap} (hk : ∀ r7 h, K r7 h → K' (.bool r7) h) (hh : slices_Equal_Lint64_int64.ret K v h) : K' v h := by
  unfold slices_Equal_Lint64_int64.ret at hh
  split at hh
  · exact hk _ _ hh
  · exact hh.elim
def slices_Equal_Lint64_int64.r0 (K : Nat → List Value → Heap → Prop) (m : Nat) (vs : List Value) (h : Heap) : Prop := match vs with
  | [(.slice c0_1001 c0_1002 c0_1003), (.slice c1_1004 c1_1005 c1_1006), (.int .i64 c12_1007), (.int .i64 v13_1008)] => slices_Equal_Lint64_int64.l0 (fun z8 h' => K 0 [(.bool z8)] h') (fun h' => K 2 [] h') m c0_1001 c0_1002 c0_1003 c1_1004 c1_1005 c1_1006 c12_1007 v13_1008 h
  | _ => False
def slices_Equal_Lint64_int64.loop (i : Nat) (vs : List Value) (h : Heap) (K : Nat → List Value → Heap → Prop) : Prop := match i with
  | 0 => ∃ m, slices_Equal_Lint64_int64.r0 K m vs h
  | _ => False
noncomputable def slices_Equal_Lint64_int64.ctx : Ctx := { P := Try.prog, call := fun _ _ _ _ => False, qcall := fun _ _ _ _ => False, quiet := fun f => Nat.beq f 1000069 || Nat.beq f 1000099, loop := slices_Equal_Lint64_int64.loop }
theorem slices_Equal_Lint64_int64.ok [DKc] : slices_Equal_Lint64_int64.ctx.OK where
  mixed := by kernel_rfl
  mono := fun hh _ => hh.elim
  call := fun hh => hh.elim
  qmono := fun hh _ => hh.elim
  qval := fun hh => hh.elim
  qcall := fun hh => hh.elim
noncomputable def slices_Equal_Lint64_int64.code : Code := (Try.f46.body).getD .skip
def slices_Equal_Lint64_int64.ann : Ann := (.two .auto (.two .auto (.two (.two .auto (.two (.loop 0 [0, 1, 12, 13] [(2, []), (0, [4])] (.two .auto (.two .auto (.two (.two (.two .auto (.two (.reg [0, 0, 3, 7, 0, 0, 48, 112, 255] (.take 0 (.take 1 (.take 2 (.take 3 (.take 4 (.take 5 (.take 6 (.take 7 (.take 8 .done)))))))))) .auto)) .auto) .auto)))) .auto)) .auto)))
noncomputable def slices_Equal_Lint64_int64.c0 : Code := sub slices_Equal_Lint64_int64.code [1, 1, 0, 1, 0, 0]
def slices_Equal_Lint64_int64.a0 : Ann := (.two .auto (.two .auto (.two (.two (.two .auto (.two (.reg [0, 0, 3, 7, 0, 0, 48, 112, 255] (.take 0 (.take 1 (.take 2 (.take 3 (.take 4 (.take 5 (.take 6 (.take 7 (.take 8 .done)))))))))) .auto)) .auto) .auto)))
def slices_Equal_Lint64_int64.keep0 : List Nat := [0, 1, 12, 13]
def slices_Equal_Lint64_int64.outs0 : List (Nat × List Nat) := [(2, []), (0, [4])]
set_option maxRecDepth 100000 in
theorem slices_Equal_Lint64_int64.L0 [DKc] : LoopOK slices_Equal_Lint64_int64.ctx 26 slices_Equal_Lint64_int64.c0 0 slices_Equal_Lint64_int64.keep0 slices_Equal_Lint64_int64.outs0 := by
  refine loop_ok (n := slices_Equal_Lint64_int64.a0) slices_Equal_Lint64_int64.ok (by kernel_rfl) (loops_ok (l := []) (by kernel_rfl) ?_) slices_Equal_Lint64_int64.r0 ?_ ?_ (fun vs h K hh => hh)
  · exact trivial
  · intro K vs h hh
    unfold slices_Equal_Lint64_int64.r0 at hh
    split at hh
    · exact hh
    · exact hh
  · intro K m vs h hh
    unfold slices_Equal_Lint64_int64.r0 at hh
    split at hh
    · exact cast (by kernel_rfl) hh
    · exact hh.elim
set_option maxRecDepth 100000 in
theorem slices_Equal_Lint64_int64.eq (a1 : Option Addr) (a1l : Nat) (a1c : Nat) (a2 : Option Addr) (a2l : Nat) (a2c : Nat) (h : Heap) (K : Bool → Heap → Prop) : evF slices_Equal_Lint64_int64.ctx Try.f46 slices_Equal_Lint64_int64.ann [(.slice a1 a1l a1c), (.slice a2 a2l a2c)] h (slices_Equal_Lint64_int64.ret K) = slices_Equal_Lint64_int64 a1 a1l a1c a2 a2l a2c h K := by kernel_rfl
set_option maxRecDepth 100000 in
theorem slices_Equal_Lint64_int64.calls [DKc] {a1 : Option Addr} {a1l : Nat} {a1c : Nat} {a2 : Option Addr} {a2l : Nat} {a2c : Nat} {h : Heap} {K : Bool → Heap → Prop} (hh : slices_Equal_Lint64_int64 a1 a1l a1c a2 a2l a2c h K) (w : World) (hw : w.heap = h) :
    (callFunc 46 #[(.slice a1 a1l a1c), (.slice a2 a2l a2c)]).run Try.prog w = .ok (.enter 46 #[(.slice a1 a1l a1c), (.slice a2 a2l a2c)]) w ∧ Calls Try.prog 46 #[(.slice a1 a1l a1c), (.slice a2 a2l a2c)] w fun e w' => ∃ v, e = .returned v ∧ Out w w' ∧ slices_Equal_Lint64_int64.ret K v w'.heap := by
  rw [← slices_Equal_Lint64_int64.eq] at hh
  exact fn_calls (args := [(.slice a1 a1l a1c), (.slice a2 a2l a2c)]) (c := slices_Equal_Lint64_int64.code) slices_Equal_Lint64_int64.ok Try.func46 (by kernel_rfl) (by kernel_rfl) (by kernel_rfl) (by kernel_rfl) (loops_ok (l := [(slices_Equal_Lint64_int64.c0, none, 0, slices_Equal_Lint64_int64.keep0, slices_Equal_Lint64_int64.outs0)]) (by kernel_rfl) ⟨slices_Equal_Lint64_int64.L0, trivial⟩) hh w hw

/-! ### strait/matrix.same[int64]: function 58 -/
def matrix_same_int64 (a1 : Option Addr) (a1l : Nat) (a1c : Nat) (a2 : Option Addr) (a2l : Nat) (a2c : Nat) (h : Heap) (K : Bool → Heap → Prop) : Prop :=
  (qcallP1 h (slices_Equal_Lint64_int64 a1 a1l a1c a2 a2l a2c h) fun x3 => K x3 h)
def matrix_same_int64.ret (K : Bool → Heap → Prop) (v : Value) (h : Heap) : Prop := match v with
  | (.bool r4) => K r4 h
  | _ => False
theorem matrix_same_int64.ret_elim {K : Bool → Heap → Prop} {K' : Value → Heap → Prop} {v : Value} {h : Heap} (hk : ∀ r4 h, K r4 h → K' (.bool r4) h) (hh : matrix_same_int64.ret K v h) : K' v h := by
  unfold matrix_same_int64.ret at hh
  split at hh
  · exact hk _ _ hh
  · exact hh.elim
def matrix_same_int64.qcall (f : FuncId) (vs : List Value) (h : Heap) (K : Value → Prop) : Prop := match f, vs with
  | 46, [(.slice a1 a1l a1c), (.slice a2 a2l a2c)] => qcallP1 h (slices_Equal_Lint64_int64 a1 a1l a1c a2 a2l a2c h) fun r7 => K (.bool r7)
  | _, _ => False
noncomputable def matrix_same_int64.ctx : Ctx := { P := Try.prog, call := fun _ _ _ _ => False, qcall := matrix_same_int64.qcall, quiet := fun f => Nat.beq f 46 || Nat.beq f 1000069 || Nat.beq f 1000099, loop := fun _ _ _ _ => False }
theorem matrix_same_int64.ok [DKc] : matrix_same_int64.ctx.OK where
  mixed := by kernel_rfl
  mono := fun hh _ => hh.elim
  call := fun hh => hh.elim
  qmono := by
    intro f args h K K' hh hk
    change matrix_same_int64.qcall f args h K at hh
    change matrix_same_int64.qcall f args h K'
    unfold matrix_same_int64.qcall at hh ⊢
    split at hh
    · obtain ⟨x0, h1, h2⟩ := hh
      exact ⟨x0, h1, hk _ h2⟩
    · exact hh.elim
  qval := by
    intro f args h K hh
    change matrix_same_int64.qcall f args h K at hh
    suffices H : ∃ v, K v ∧ matrix_same_int64.qcall f args h (· = v) from H
    unfold matrix_same_int64.qcall at hh ⊢
    split at hh
    · obtain ⟨x0, h1, h2⟩ := hh
      exact ⟨_, h2, x0, h1, rfl⟩
    · exact hh.elim
  qcall := by
    intro f args h v hh w hw
    change matrix_same_int64.qcall f args h (· = v) at hh
    unfold matrix_same_int64.qcall at hh
    split at hh
    · obtain ⟨x0, h1, h2⟩ := hh
      obtain ⟨g1, g2⟩ := slices_Equal_Lint64_int64.calls h1 w hw
      refine .inl ⟨g1, g2.mono fun e w' ⟨u, he, ho, hr⟩ => ?_⟩
      have hq := slices_Equal_Lint64_int64.ret_elim (K' := fun u h' => u = v ∧ h' = h) (fun _ h' hr => by obtain ⟨rfl, rfl⟩ := hr; exact ⟨h2, rfl⟩) hr
      exact ⟨hq.1 ▸ he, ho, hq.2⟩
    · exact hh.elim
noncomputable def matrix_same_int64.code : Code := (Try.f58.body).getD .skip
def matrix_same_int64.ann : Ann := .auto
set_option maxRecDepth 100000 in
theorem matrix_same_int64.eq (a1 : Option Addr) (a1l : Nat) (a1c : Nat) (a2 : Option Addr) (a2l : Nat) (a2c : Nat) (h : Heap) (K : Bool → Heap → Prop) : evF matrix_same_int64.ctx Try.f58 matrix_same_int64.ann [(.slice a1 a1l a1c), (.slice a2 a2l a2c)] h (matrix_same_int64.ret K) = matrix_same_int64 a1 a1l a1c a2 a2l a2c h K := by kernel_rfl
set_option maxRecDepth 100000 in
theorem matrix_same_int64.calls [DKc] {a1 : Option Addr} {a1l : Nat} {a1c : Nat} {a2 : Option Addr} {a2l : Nat} {a2c : Nat} {h : Heap} {K : Bool → Heap → Prop} (hh : matrix_same_int64 a1 a1l a1c a2 a2l a2c h K) (w : World) (hw : w.heap = h) :
    (callFunc 58 #[(.slice a1 a1l a1c), (.slice a2 a2l a2c)]).run Try.prog w = .ok (.enter 58 #[(.slice a1 a1l a1c), (.slice a2 a2l a2c)]) w ∧ Calls Try.prog 58 #[(.slice a1 a1l a1c), (.slice a2 a2l a2c)] w fun e w' => ∃ v, e = .returned v ∧ Out w w' ∧ matrix_same_int64.ret K v w'.heap := by
  rw [← matrix_same_int64.eq] at hh
  exact fn_calls (args := [(.slice a1 a1l a1c), (.slice a2 a2l a2c)]) (c := matrix_same_int64.code) matrix_same_int64.ok Try.func58 (by kernel_rfl) (by kernel_rfl) (by kernel_rfl) (by kernel_rfl) (loops_ok (l := []) (by kernel_rfl) trivial) hh w hw

/-! ### slices.EqualFunc[[][]int64,[][]int64,[]int64,[]int64]: function 57 -/
def slices_EqualFunc_LLint64_LLint64_Lint64_Lint64_matrix_same_int64.b0 (K0 : Bool → Heap → Prop) (K2 : Heap → Prop) (cont : (Option Addr) → Nat → Nat → (Option Addr) → Nat → Nat → Int → Int → Heap → Prop) (c1_1001 : Option Addr) (c1_1002 : Nat) (c1_1003 : Nat) (c15_1004 : Option Addr) (c15_1005 : Nat) (c15_1006 : Nat) (c16_1007 : Int) (v17_1008 : Int) (h1009 : Heap) : Prop :=
  (iteB (decide (v17_1008 < c16_1007)) ((chkP c15_1004 fun a1010 => (0 ≤ v17_1008 ∧ v17_1008 < (c15_1005 : Int)) ∧ ∃ (x1011 : Option Addr) (x1011l : Nat) (x1011c : Nat), cell h1009 (a1010.add (v17_1008.toNat * 1)) = some (.slice x1011 x1011l x1011c) ∧ (chkP c1_1001 fun a1012 => (0 ≤ v17_1008 ∧ v17_1008 < (c1_1002 : Int)) ∧ ∃ (x1013 : Option Addr) (x1013l : Nat) (x1013c : Nat), cell h1009 (a1012.add (v17_1008.toNat * 1)) = some (.slice x1013 x1013l x1013c) ∧ (callP1 (matrix_same_int64 x1011 x1011l x1011c x1013 x1013l x1013c h1009) fun x1014 h1015 => (iteB (!x1014) (K0 false h1015) (((cont c1_1001 c1_1002 c1_1003 c15_1004 c15_1005 c15_1006 c16_1007 (IntKind.i64.wrap (v17_1008 + 1)) h1015)))))))) (K2 h1009))
def slices_EqualFunc_LLint64_LLint64_Lint64_Lint64_matrix_same_int64.l0 (K0 : Bool → Heap → Prop) (K2 : Heap → Prop) : Nat → (Option Addr) → Nat → Nat → (Option Addr) → Nat → Nat → Int → Int → Heap → Prop
  | 0, _, _, _, _, _, _, _, _, _ => False
  | m + 1, c1_1001, c1_1002, c1_1003, c15_1004, c15_1005, c15_1006, c16_1007, v17_1008, h => slices_EqualFunc_LLint64_LLint64_Lint64_Lint64_matrix_same_int64.b0 K0 K2 (slices_EqualFunc_LLint64_LLint64_Lint64_Lint64_matrix_same_int64.l0 K0 K2 m) c1_1001 c1_1002 c1_1003 c15_1004 c15_1005 c15_1006 c16_1007 v17_1008 h
def slices_EqualFunc_LLint64_LLint64_Lint64_Lint64_matrix_same_int64 (a1 : Option Addr) (a1l : Nat) (a1c : Nat) (a2 : Option Addr) (a2l : Nat) (a2c : Nat) (h : Heap) (K : Bool → Heap → Prop) : Prop :=
  ((iteB ((a1l : Int) != (a2l : Int)) (K false h) (((∃ m6, slices_EqualFunc_LLint64_LLint64_Lint64_Lint64_matrix_same_int64.l0 (fun z3 h4 => K z3 h4) (fun h5 => (K true h5)) m6 a2 a2l a2c a1 a1l a1c (a1l : Int) 0 h)))))
def slices_EqualFunc_LLint64_LLint64_Lint64_Lint64_matrix_same_int64.ret (K : Bool → Heap → Prop) (v : Value) (h : Heap) : Prop := match v with
  | (.bool r7) => K r7 h
  | _ => False
theorem slices_EqualFunc_LLint64_LLint64_Lint64_Lint64_matrix_same_int64.ret_elim {K : Bool → Heap → Prop} {K' : Value → Heap → Prop} {v : Value} {h : Heap} (hk : ∀ r7 h, K r7 h → K' (.bool r7) h) (hh : slices_EqualFunc_LLint64_LLint64_Lint64_Lint64_matrix_same_int64.ret K v h) : K' v h := by
  unfold slices_EqualFunc_LLint64_LLint64_Lint64_Lint64_matrix_same_int64.ret at hh
  split at hh
  · exact hk _ _ hh
  · exact hh.elim
def slices_EqualFunc_LLint64_LLint64_Lint64_Lint64_matrix_same_int64.call (f : FuncId) (vs : List Value) (h : Heap) (K : Value → Heap → Prop) : Prop := match f, vs with
  | 58, [(.slice a1 a1l a1c), (.slice a2 a2l a2c)] => callP1 (matrix_same_int64 a1 a1l a1c a2 a2l a2c h) fun r4 h' => K (.bool r4) h'
  | _, _ => False
def slices_EqualFunc_LLint64_LLint64_Lint64_Lint64_matrix_same_int64.r0 (K : Nat → List Value → Heap → Prop) (m : Nat) (vs : List Value) (h : Heap) : Prop := match vs with
  | [(.slice c1_1001 c1_1002 c1_1003), (.func (.func 58) ⟨[]⟩ ⟨[]⟩), (.slice c15_1004 c15_1005 c15_1006), (.int .i64 c16_1007), (.int .i64 v17_1008)] => slices_EqualFunc_LLint64_LLint64_Lint64_Lint64_matrix_same_int64.l0 (fun z8 h' => K 0 [(.bool z8)] h') (fun h' => K 2 [] h') m c1_1001 c1_1002 c1_1003 c15_1004 c15_1005 c15_1006 c16_1007 v17_1008 h
  | _ => False
def slices_EqualFunc_LLint64_LLint64_Lint64_Lint64_matrix_same_int64.loop (i : Nat) (vs : List Value) (h : Heap) (K : Nat → List Value → Heap → Prop) : Prop := match i with
  | 0 => ∃ m, slices_EqualFunc_LLint64_LLint64_Lint64_Lint64_matrix_same_int64.r0 K m vs h
  | _ => False
noncomputable def slices_EqualFunc_LLint64_LLint64_Lint64_Lint64_matrix_same_int64.ctx : Ctx := { P := Try.prog, call := slices_EqualFunc_LLint64_LLint64_Lint64_Lint64_matrix_same_int64.call, qcall := fun _ _ _ _ => False, quiet := fun f => Nat.beq f 1000069 || Nat.beq f 1000099, loop := slices_EqualFunc_LLint64_LLint64_Lint64_Lint64_matrix_same_int64.loop }
theorem slices_EqualFunc_LLint64_LLint64_Lint64_Lint64_matrix_same_int64.ok [DKc] : slices_EqualFunc_LLint64_LLint64_Lint64_Lint64_matrix_same_int64.ctx.OK where
  mixed := by kernel_rfl
  mono := by
    intro f args h K K' hh hk
    change slices_EqualFunc_LLint64_LLint64_Lint64_Lint64_matrix_same_int64.call f args h K at hh
    change slices_EqualFunc_LLint64_LLint64_Lint64_Lint64_matrix_same_int64.call f args h K'
    unfold slices_EqualFunc_LLint64_LLint64_Lint64_Lint64_matrix_same_int64.call at hh ⊢
    split at hh
    · obtain ⟨R, h1, h2⟩ := hh
      exact ⟨R, h1, fun _ x hr => hk _ _ (h2 _ x hr)⟩
    · exact hh.elim
  call := by
    intro f args h K hh w hw
    change slices_EqualFunc_LLint64_LLint64_Lint64_Lint64_matrix_same_int64.call f args h K at hh
    unfold slices_EqualFunc_LLint64_LLint64_Lint64_Lint64_matrix_same_int64.call at hh
    split at hh
    · obtain ⟨R, h1, h2⟩ := hh
      obtain ⟨g1, g2⟩ := matrix_same_int64.calls h1 w hw
      exact ⟨g1, g2.mono fun e w' ⟨v, he, ho, hr⟩ => ⟨v, he, ho, matrix_same_int64.ret_elim h2 hr⟩⟩
    · exact hh.elim
  qmono := fun hh _ => hh.elim
  qval := fun hh => hh.elim
  qcall := fun hh => hh.elim
noncomputable def slices_EqualFunc_LLint64_LLint64_Lint64_Lint64_matrix_same_int64.code : Code := (Try.f57.body).getD .skip
def slices_EqualFunc_LLint64_LLint64_Lint64_Lint64_matrix_same_int64.ann : Ann := (.two .auto (.two .auto (.two (.two .auto (.two (.loop 0 [1, 2, 15, 16, 17] [(2, []), (0, [6])] .auto) .auto)) .auto)))
noncomputable def slices_EqualFunc_LLint64_LLint64_Lint64_Lint64_matrix_same_int64.c0 : Code := sub slices_EqualFunc_LLint64_LLint64_Lint64_Lint64_matrix_same_int64.code [1, 1, 0, 1, 0, 0]
def slices_EqualFunc_LLint64_LLint64_Lint64_Lint64_matrix_same_int64.a0 : Ann := .auto
def slices_EqualFunc_LLint64_LLint64_Lint64_Lint64_matrix_same_int64.keep0 : List Nat := [1, 2, 15, 16, 17]
def slices_EqualFunc_LLint64_LLint64_Lint64_Lint64_matrix_same_int64.outs0 : List (Nat × List Nat) := [(2, []), (0, [6])]
set_option maxRecDepth 100000 in
theorem slices_EqualFunc_LLint64_LLint64_Lint64_Lint64_matrix_same_int64.L0 [DKc] : LoopOK slices_EqualFunc_LLint64_LLint64_Lint64_Lint64_matrix_same_int64.ctx 32 slices_EqualFunc_LLint64_LLint64_Lint64_Lint64_matrix_same_int64.c0 0 slices_EqualFunc_LLint64_LLint64_Lint64_Lint64_matrix_same_int64.keep0 slices_EqualFunc_LLint64_LLint64_Lint64_Lint64_matrix_same_int64.outs0 := by
  refine loop_ok (n := slices_EqualFunc_LLint64_LLint64_Lint64_Lint64_matrix_same_int64.a0) slices_EqualFunc_LLint64_LLint64_Lint64_Lint64_matrix_same_int64.ok (by kernel_rfl) (loops_ok (l := []) (by kernel_rfl) ?_) slices_EqualFunc_LLint64_LLint64_Lint64_Lint64_matrix_same_int64.r0 ?_ ?_ (fun vs h K hh => hh)
  · exact trivial
  · intro K vs h hh
    unfold slices_EqualFunc_LLint64_LLint64_Lint64_Lint64_matrix_same_int64.r0 at hh
    split at hh
    · exact hh
    · exact hh
  · intro K m vs h hh
    unfold slices_EqualFunc_LLint64_LLint64_Lint64_Lint64_matrix_same_int64.r0 at hh
    split at hh
    · exact cast (by kernel_rfl) hh
    · exact hh.elim
set_option maxRecDepth 100000 in
theorem slices_EqualFunc_LLint64_LLint64_Lint64_Lint64_matrix_same_int64.eq (a1 : Option Addr) (a1l : Nat) (a1c : Nat) (a2 : Option Addr) (a2l : Nat) (a2c : Nat) (h : Heap) (K : Bool → Heap → Prop) : evF slices_EqualFunc_LLint64_LLint64_Lint64_Lint64_matrix_same_int64.ctx Try.f57 slices_EqualFunc_LLint64_LLint64_Lint64_Lint64_matrix_same_int64.ann [(.slice a1 a1l a1c), (.slice a2 a2l a2c), (.func (.func 58) #[] #[])] h (slices_EqualFunc_LLint64_LLint64_Lint64_Lint64_matrix_same_int64.ret K) = slices_EqualFunc_LLint64_LLint64_Lint64_Lint64_matrix_same_int64 a1 a1l a1c a2 a2l a2c h K := by kernel_rfl
set_option maxRecDepth 100000 in
theorem slices_EqualFunc_LLint64_LLint64_Lint64_Lint64_matrix_same_int64.calls [DKc] {a1 : Option Addr} {a1l : Nat} {a1c : Nat} {a2 : Option Addr} {a2l : Nat} {a2c : Nat} {h : Heap} {K : Bool → Heap → Prop} (hh : slices_EqualFunc_LLint64_LLint64_Lint64_Lint64_matrix_same_int64 a1 a1l a1c a2 a2l a2c h K) (w : World) (hw : w.heap = h) :
    (callFunc 57 #[(.slice a1 a1l a1c), (.slice a2 a2l a2c), (.func (.func 58) #[] #[])]).run Try.prog w = .ok (.enter 57 #[(.slice a1 a1l a1c), (.slice a2 a2l a2c), (.func (.func 58) #[] #[])]) w ∧ Calls Try.prog 57 #[(.slice a1 a1l a1c), (.slice a2 a2l a2c), (.func (.func 58) #[] #[])] w fun e w' => ∃ v, e = .returned v ∧ Out w w' ∧ slices_EqualFunc_LLint64_LLint64_Lint64_Lint64_matrix_same_int64.ret K v w'.heap := by
  rw [← slices_EqualFunc_LLint64_LLint64_Lint64_Lint64_matrix_same_int64.eq] at hh
  exact fn_calls (args := [(.slice a1 a1l a1c), (.slice a2 a2l a2c), (.func (.func 58) #[] #[])]) (c := slices_EqualFunc_LLint64_LLint64_Lint64_Lint64_matrix_same_int64.code) slices_EqualFunc_LLint64_LLint64_Lint64_Lint64_matrix_same_int64.ok Try.func57 (by kernel_rfl) (by kernel_rfl) (by kernel_rfl) (by kernel_rfl) (loops_ok (l := [(slices_EqualFunc_LLint64_LLint64_Lint64_Lint64_matrix_same_int64.c0, none, 0, slices_EqualFunc_LLint64_LLint64_Lint64_Lint64_matrix_same_int64.keep0, slices_EqualFunc_LLint64_LLint64_Lint64_Lint64_matrix_same_int64.outs0)]) (by kernel_rfl) ⟨slices_EqualFunc_LLint64_LLint64_Lint64_Lint64_matrix_same_int64.L0, trivial⟩) hh w hw

/-! ### strait/matrix.Same: function 33 -/
def matrix_Same (a1 : Option Addr) (a1l : Nat) (a1c : Nat) (a2 : Option Addr) (a2l : Nat) (a2c : Nat) (h : Heap) (K : Bool → Heap → Prop) : Prop :=
  (callP1 (slices_EqualFunc_LLint64_LLint64_Lint64_Lint64_matrix_same_int64 a1 a1l a1c a2 a2l a2c h) fun x3 h4 => K x3 h4)
def matrix_Same.ret (K : Bool → Heap → Prop) (v : Value) (h : Heap) : Prop := match v with
  | (.bool r5) => K r5 h
  | _ => False
theorem matrix_Same.ret_elim {K : Bool → Heap → Prop} {K' : Value → Heap → Prop} {v : Value} {h : Heap} (hk : ∀ r5 h, K r5 h → K' (.bool r5) h) (hh : matrix_Same.ret K v h) : K' v h := by
  unfold matrix_Same.ret at hh
  split at hh
  · exact hk _ _ hh
  · exact hh.elim
def matrix_Same.call (f : FuncId) (vs : List Value) (h : Heap) (K : Value → Heap → Prop) : Prop := match f, vs with
  | 57, [(.slice a1 a1l a1c), (.slice a2 a2l a2c), (.func (.func 58) ⟨[]⟩ ⟨[]⟩)] => callP1 (slices_EqualFunc_LLint64_LLint64_Lint64_Lint64_matrix_same_int64 a1 a1l a1c a2 a2l a2c h) fun r7 h' => K (.bool r7) h'
  | _, _ => False
noncomputable def matrix_Same.ctx : Ctx := { P := Try.prog, call := matrix_Same.call, qcall := fun _ _ _ _ => False, quiet := fun f => Nat.beq f 1000069 || Nat.beq f 1000099, loop := fun _ _ _ _ => False }
theorem matrix_Same.ok [DKc] : matrix_Same.ctx.OK where
  mixed := by kernel_rfl
  mono := by
    intro f args h K K' hh hk
    change matrix_Same.call f args h K at hh
    change matrix_Same.call f args h K'
    unfold matrix_Same.call at hh ⊢
    split at hh
    · obtain ⟨R, h1, h2⟩ := hh
      exact ⟨R, h1, fun _ x hr => hk _ _ (h2 _ x hr)⟩
    · exact hh.elim
  call := by
    intro f args h K hh w hw
    change matrix_Same.call f args h K at hh
    unfold matrix_Same.call at hh
    split at hh
    · obtain ⟨R, h1, h2⟩ := hh
      obtain ⟨g1, g2⟩ := slices_EqualFunc_LLint64_LLint64_Lint64_Lint64_matrix_same_int64.calls h1 w hw
      exact ⟨g1, g2.mono fun e w' ⟨v, he, ho, hr⟩ => ⟨v, he, ho, slices_EqualFunc_LLint64_LLint64_Lint64_Lint64_matrix_same_int64.ret_elim h2 hr⟩⟩
    · exact hh.elim
  qmono := fun hh _ => hh.elim
  qval := fun hh => hh.elim
  qcall := fun hh => hh.elim
noncomputable def matrix_Same.code : Code := (Try.f33.body).getD .skip
def matrix_Same.ann : Ann := .auto
set_option maxRecDepth 100000 in
theorem matrix_Same.eq (a1 : Option Addr) (a1l : Nat) (a1c : Nat) (a2 : Option Addr) (a2l : Nat) (a2c : Nat) (h : Heap) (K : Bool → Heap → Prop) : evF matrix_Same.ctx Try.f33 matrix_Same.ann [(.slice a1 a1l a1c), (.slice a2 a2l a2c)] h (matrix_Same.ret K) = matrix_Same a1 a1l a1c a2 a2l a2c h K := by kernel_rfl
set_option maxRecDepth 100000 in
theorem matrix_Same.calls [DKc] {a1 : Option Addr} {a1l : Nat} {a1c : Nat} {a2 : Option Addr} {a2l : Nat} {a2c : Nat} {h : Heap} {K : Bool → Heap → Prop} (hh : matrix_Same a1 a1l a1c a2 a2l a2c h K) (w : World) (hw : w.heap = h) :
    (callFunc 33 #[(.slice a1 a1l a1c), (.slice a2 a2l a2c)]).run Try.prog w = .ok (.enter 33 #[(.slice a1 a1l a1c), (.slice a2 a2l a2c)]) w ∧ Calls Try.prog 33 #[(.slice a1 a1l a1c), (.slice a2 a2l a2c)] w fun e w' => ∃ v, e = .returned v ∧ Out w w' ∧ matrix_Same.ret K v w'.heap := by
  rw [← matrix_Same.eq] at hh
  exact fn_calls (args := [(.slice a1 a1l a1c), (.slice a2 a2l a2c)]) (c := matrix_Same.code) matrix_Same.ok Try.func33 (by kernel_rfl) (by kernel_rfl) (by kernel_rfl) (by kernel_rfl) (loops_ok (l := []) (by kernel_rfl) trivial) hh w hw

/-! ### strait/matrix.plain: function 59 -/
def matrix_plain.b1 (K0 : Bool → Heap → Prop) (K4 : Heap → Prop) (cont : (Option Addr) → Nat → Nat → Int → (Option Addr) → Nat → Nat → (Option Addr) → Nat → Nat → Int → Int → Int → Int → Heap → Prop) (c0_2001 : Option Addr) (c0_2002 : Nat) (c0_2003 : Nat) (c3_2004 : Int) (c4_2005 : Option Addr) (c4_2006 : Nat) (c4_2007 : Nat) (c6_2008 : Option Addr) (c6_2009 : Nat) (c6_2010 : Nat) (c7_2011 : Int) (c8_2012 : Int) (c24_2013 : Int) (v25_2014 : Int) (h2015 : Heap) : Prop :=
  (iteB (decide (v25_2014 < c24_2013)) (((chkP c4_2005 fun a2016 => (0 ≤ v25_2014 ∧ v25_2014 < (c4_2006 : Int)) ∧ ∃ (x2017 : Int), cell h2015 (a2016.add (v25_2014.toNat * 1)) = some (.int .i64 x2017) ∧ iteB (decide (x2017 < (0 : Int))) (K0 false h2015) (chkP c4_2005 fun a2018 => (0 ≤ v25_2014 ∧ v25_2014 < (c4_2006 : Int)) ∧ ∃ (x2019 : Int), cell h2015 (a2018.add (v25_2014.toNat * 1)) = some (.int .i64 x2019) ∧ chkP c0_2001 fun a2020 => (0 ≤ v25_2014 ∧ v25_2014 < (c0_2002 : Int)) ∧ ∃ (x2021 : Option Addr) (x2021l : Nat) (x2021c : Nat), cell h2015 (a2020.add (v25_2014.toNat * 1)) = some (.slice x2021 x2021l x2021c) ∧ chkP x2021 fun a2022 => (0 ≤ c3_2004 ∧ c3_2004 < (x2021l : Int)) ∧ ∃ (x2023 : Int), cell h2015 (a2022.add (c3_2004.toNat * 1)) = some (.int .i64 x2023) ∧ (iteB (x2019 != x2023) (K0 false h2015) (((cont c0_2001 c0_2002 c0_2003 c3_2004 c4_2005 c4_2006 c4_2007 c6_2008 c6_2009 c6_2010 c7_2011 c8_2012 c24_2013 (IntKind.i64.wrap (v25_2014 + 1)) h2015)))))))) (K4 h2015))
def matrix_plain.l1 (K0 : Bool → Heap → Prop) (K4 : Heap → Prop) : Nat → (Option Addr) → Nat → Nat → Int → (Option Addr) → Nat → Nat → (Option Addr) → Nat → Nat → Int → Int → Int → Int → Heap → Prop
  | 0, _, _, _, _, _, _, _, _, _, _, _, _, _, _, _ => False
  | m + 1, c0_2001, c0_2002, c0_2003, c3_2004, c4_2005, c4_2006, c4_2007, c6_2008, c6_2009, c6_2010, c7_2011, c8_2012, c24_2013, v25_2014, h => matrix_plain.b1 K0 K4 (matrix_plain.l1 K0 K4 m) c0_2001 c0_2002 c0_2003 c3_2004 c4_2005 c4_2006 c4_2007 c6_2008 c6_2009 c6_2010 c7_2011 c8_2012 c24_2013 v25_2014 h
def matrix_plain.b0 (K0 : Bool → Heap → Prop) (K2 : Heap → Prop) (cont : (Option Addr) → Nat → Nat → (Option Addr) → Nat → Nat → Int → Int → Heap → Prop) (c0_1001 : Option Addr) (c0_1002 : Nat) (c0_1003 : Nat) (c6_1004 : Option Addr) (c6_1005 : Nat) (c6_1006 : Nat) (c7_1007 : Int) (v8_1008 : Int) (h1009 : Heap) : Prop :=
  (iteB (decide (v8_1008 < c7_1007)) ((chkP c6_1004 fun a1010 => (0 ≤ v8_1008 ∧ v8_1008 < (c6_1005 : Int)) ∧ ∃ (x1011 : Option Addr) (x1011l : Nat) (x1011c : Nat), cell h1009 (a1010.add (v8_1008.toNat * 1)) = some (.slice x1011 x1011l x1011c) ∧ ((iteB ((x1011l : Int) != (c0_1002 : Int)) (K0 false h1009) ((bindV (if (x1011l : Int) < v8_1008 then (x1011l : Int) else v8_1008) fun n1012 => (0 ≤ n1012 ∧ n1012 ≤ (x1011c : Int)) ∧ (∃ m1016, matrix_plain.l1 (fun z1013 h1014 => K0 z1013 h1014) (fun h1015 => ((chkP x1011 fun a1017 => (0 ≤ v8_1008 ∧ v8_1008 < (x1011l : Int)) ∧ ∃ (x1018 : Int), cell h1015 (a1017.add (v8_1008.toNat * 1)) = some (.int .i64 x1018) ∧ (iteB (x1018 != (0 : Int)) (K0 false h1015) (((cont c0_1001 c0_1002 c0_1003 c6_1004 c6_1005 c6_1006 c7_1007 (IntKind.i64.wrap (v8_1008 + 1)) h1015))))))) m1016 c0_1001 c0_1002 c0_1003 v8_1008 x1011 x1011l x1011c c6_1004 c6_1005 c6_1006 c7_1007 v8_1008 (n1012.toNat : Int) 0 h1009))))))) (K2 h1009))
def matrix_plain.l0 (K0 : Bool → Heap → Prop) (K2 : Heap → Prop) : Nat → (Option Addr) → Nat → Nat → (Option Addr) → Nat → Nat → Int → Int → Heap → Prop
  | 0, _, _, _, _, _, _, _, _, _ => False
  | m + 1, c0_1001, c0_1002, c0_1003, c6_1004, c6_1005, c6_1006, c7_1007, v8_1008, h => matrix_plain.b0 K0 K2 (matrix_plain.l0 K0 K2 m) c0_1001 c0_1002 c0_1003 c6_1004 c6_1005 c6_1006 c7_1007 v8_1008 h
def matrix_plain (a1 : Option Addr) (a1l : Nat) (a1c : Nat) (h : Heap) (K : Bool → Heap → Prop) : Prop :=
  ((∃ m5, matrix_plain.l0 (fun z2 h3 => K z2 h3) (fun h4 => (K true h4)) m5 a1 a1l a1c a1 a1l a1c (a1l : Int) 0 h))
def matrix_plain.ret (K : Bool → Heap → Prop) (v : Value) (h : Heap) : Prop := match v with
  | (.bool r6) => K r6 h
  | _ => False
theorem matrix_plain.ret_elim {K : Bool → Heap → Prop} {K' : Value → Heap → Prop} {v : Value} {h : Heap} (hk : ∀ r6 h, K r6 h → K' (.bool r6) h) (hh : matrix_plain.ret K v h) : K' v h := by
  unfold matrix_plain.ret at hh
  split at hh
  · exact hk _ _ hh
  · exact hh.elim
def matrix_plain.r0 (K : Nat → List Value → Heap → Prop) (m : Nat) (vs : List Value) (h : Heap) : Prop := match vs with
  | [(.slice c0_1001 c0_1002 c0_1003), (.slice c6_1004 c6_1005 c6_1006), (.int .i64 c7_1007), (.int .i64 v8_1008)] => matrix_plain.l0 (fun z7 h' => K 0 [(.bool z7)] h') (fun h' => K 2 [] h') m c0_1001 c0_1002 c0_1003 c6_1004 c6_1005 c6_1006 c7_1007 v8_1008 h
  | _ => False
def matrix_plain.r1 (K : Nat → List Value → Heap → Prop) (m : Nat) (vs : List Value) (h : Heap) : Prop := match vs with
  | [(.slice c0_2001 c0_2002 c0_2003), (.int .i64 c3_2004), (.slice c4_2005 c4_2006 c4_2007), (.slice c6_2008 c6_2009 c6_2010), (.int .i64 c7_2011), (.int .i64 c8_2012), (.int .i64 c24_2013), (.int .i64 v25_2014)] => matrix_plain.l1 (fun z8 h' => K 0 [(.bool z8)] h') (fun h' => K 4 [(.slice c0_2001 c0_2002 c0_2003), (.int .i64 c3_2004), (.slice c4_2005 c4_2006 c4_2007), (.slice c6_2008 c6_2009 c6_2010), (.int .i64 c7_2011), (.int .i64 c8_2012)] h') m c0_2001 c0_2002 c0_2003 c3_2004 c4_2005 c4_2006 c4_2007 c6_2008 c6_2009 c6_2010 c7_2011 c8_2012 c24_2013 v25_2014 h
  | _ => False
def matrix_plain.loop (i : Nat) (vs : List Value) (h : Heap) (K : Nat → List Value → Heap → Prop) : Prop := match i with
  | 0 => ∃ m, matrix_plain.r0 K m vs h
  | 1 => ∃ m, matrix_plain.r1 K m vs h
  | _ => False
noncomputable def matrix_plain.ctx : Ctx := { P := Try.prog, call := fun _ _ _ _ => False, qcall := fun _ _ _ _ => False, quiet := fun f => Nat.beq f 1000069 || Nat.beq f 1000099, loop := matrix_plain.loop }
theorem matrix_plain.ok [DKc] : matrix_plain.ctx.OK where
  mixed := by kernel_rfl
  mono := fun hh _ => hh.elim
  call := fun hh => hh.elim
  qmono := fun hh _ => hh.elim
  qval := fun hh => hh.elim
  qcall := fun hh => hh.elim
noncomputable def matrix_plain.code : Code := (Try.f59.body).getD .skip
def matrix_plain.ann : Ann := (.two .auto (.two (.two .auto (.two (.loop 0 [0, 6, 7, 8] [(2, []), (0, [2])] (.two .auto (.two .auto (.two (.two (.two .auto (.two .auto (.two (.two .auto (.two (.loop 1 [0, 3, 4, 6, 7, 8, 24, 25] [(4, [0, 3, 4, 6, 7, 8]), (0, [2])] (.two .auto (.two .auto (.two (.two (.two .auto (.two (.reg [0, 0, 3, 7, 15, 31, 63, 63, 255, 511, 63, 63, 3135, 7231, 63, 31807, 64575, 131071, 262143] (.take 0 (.take 1 (.take 2 (.take 3 (.take 4 (.take 5 (.take 6 (.take 7 (.take 8 (.take 9 (.take 10 (.take 11 (.take 12 (.take 13 (.take 14 (.take 15 (.take 16 (.take 17 (.take 18 .done)))))))))))))))))))) .auto)) .auto) .auto)))) .auto)) .auto))) .auto) .auto)))) .auto)) .auto))
noncomputable def matrix_plain.c1 : Code := sub matrix_plain.code [1, 0, 1, 0, 0, 1, 1, 0, 0, 1, 1, 0, 1, 0, 0]
def matrix_plain.a1 : Ann := (.two .auto (.two .auto (.two (.two (.two .auto (.two (.reg [0, 0, 3, 7, 15, 31, 63, 63, 255, 511, 63, 63, 3135, 7231, 63, 31807, 64575, 131071, 262143] (.take 0 (.take 1 (.take 2 (.take 3 (.take 4 (.take 5 (.take 6 (.take 7 (.take 8 (.take 9 (.take 10 (.take 11 (.take 12 (.take 13 (.take 14 (.take 15 (.take 16 (.take 17 (.take 18 .done)))))))))))))))))))) .auto)) .auto) .auto)))
def matrix_plain.keep1 : List Nat := [0, 3, 4, 6, 7, 8, 24, 25]
def matrix_plain.outs1 : List (Nat × List Nat) := [(4, [0, 3, 4, 6, 7, 8]), (0, [2])]
noncomputable def matrix_plain.c0 : Code := sub matrix_plain.code [1, 0, 1, 0, 0]
def matrix_plain.a0 : Ann := (.two .auto (.two .auto (.two (.two (.two .auto (.two .auto (.two (.two .auto (.two (.loop 1 [0, 3, 4, 6, 7, 8, 24, 25] [(4, [0, 3, 4, 6, 7, 8]), (0, [2])] (.two .auto (.two .auto (.two (.two (.two .auto (.two (.reg [0, 0, 3, 7, 15, 31, 63, 63, 255, 511, 63, 63, 3135, 7231, 63, 31807, 64575, 131071, 262143] (.take 0 (.take 1 (.take 2 (.take 3 (.take 4 (.take 5 (.take 6 (.take 7 (.take 8 (.take 9 (.take 10 (.take 11 (.take 12 (.take 13 (.take 14 (.take 15 (.take 16 (.take 17 (.take 18 .done)))))))))))))))))))) .auto)) .auto) .auto)))) .auto)) .auto))) .auto) .auto)))
def matrix_plain.keep0 : List Nat := [0, 6, 7, 8]
def matrix_plain.outs0 : List (Nat × List Nat) := [(2, []), (0, [2])]
set_option maxRecDepth 100000 in
theorem matrix_plain.L1 [DKc] : LoopOK matrix_plain.ctx 54 matrix_plain.c1 1 matrix_plain.keep1 matrix_plain.outs1 := by
  refine loop_ok (n := matrix_plain.a1) matrix_plain.ok (by kernel_rfl) (loops_ok (l := []) (by kernel_rfl) ?_) matrix_plain.r1 ?_ ?_ (fun vs h K hh => hh)
  · exact trivial
  · intro K vs h hh
    unfold matrix_plain.r1 at hh
    split at hh
    · exact hh
    · exact hh
  · intro K m vs h hh
    unfold matrix_plain.r1 at hh
    split at hh
    · exact cast (by kernel_rfl) hh
    · exact hh.elim
set_option maxRecDepth 100000 in
theorem matrix_plain.L0 [DKc] : LoopOK matrix_plain.ctx 54 matrix_plain.c0 0 matrix_plain.keep0 matrix_plain.outs0 := by
  refine loop_ok (n := matrix_plain.a0) matrix_plain.ok (by kernel_rfl) (loops_ok (l := [(matrix_plain.c1, none, 1, matrix_plain.keep1, matrix_plain.outs1)]) (by kernel_rfl) ?_) matrix_plain.r0 ?_ ?_ (fun vs h K hh => hh)
  · exact ⟨matrix_plain.L1, trivial⟩
  · intro K vs h hh
    unfold matrix_plain.r0 at hh
    split at hh
    · exact hh
    · exact hh
  · intro K m vs h hh
    unfold matrix_plain.r0 at hh
    split at hh
    · exact cast (by kernel_rfl) hh
    · exact hh.elim
set_option maxRecDepth 100000 in
theorem matrix_plain.eq (a1 : Option Addr) (a1l : Nat) (a1c : Nat) (h : Heap) (K : Bool → Heap → Prop) : evF matrix_plain.ctx Try.f59 matrix_plain.ann [(.slice a1 a1l a1c)] h (matrix_plain.ret K) = matrix_plain a1 a1l a1c h K := by kernel_rfl
set_option maxRecDepth 100000 in
theorem matrix_plain.calls [DKc] {a1 : Option Addr} {a1l : Nat} {a1c : Nat} {h : Heap} {K : Bool → Heap → Prop} (hh : matrix_plain a1 a1l a1c h K) (w : World) (hw : w.heap = h) :
    (callFunc 59 #[(.slice a1 a1l a1c)]).run Try.prog w = .ok (.enter 59 #[(.slice a1 a1l a1c)]) w ∧ Calls Try.prog 59 #[(.slice a1 a1l a1c)] w fun e w' => ∃ v, e = .returned v ∧ Out w w' ∧ matrix_plain.ret K v w'.heap := by
  rw [← matrix_plain.eq] at hh
  exact fn_calls (args := [(.slice a1 a1l a1c)]) (c := matrix_plain.code) matrix_plain.ok Try.func59 (by kernel_rfl) (by kernel_rfl) (by kernel_rfl) (by kernel_rfl) (loops_ok (l := [(matrix_plain.c0, none, 0, matrix_plain.keep0, matrix_plain.outs0)]) (by kernel_rfl) ⟨matrix_plain.L0, trivial⟩) hh w hw

end Go.Proofs.Ytfidcekobjmamaa
