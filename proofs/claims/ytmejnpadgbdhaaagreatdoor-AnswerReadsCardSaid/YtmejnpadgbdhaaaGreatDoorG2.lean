/- WRITTEN BY A PROGRAM OF THIS SESSION (gen.py): what each function asks of memory, and that the model's run comes to it. -/
import Derived.Test.YtmejnpadgbdhaaaGreatDoorProg
import Derived.Test.YtmejnpadgbdhaaaGreatDoorFw8
import Derived.Test.YtmejnpadgbdhaaaGreatDoorG1
namespace Go.Proofs.YtmejnpadgbdhaaaGreatDoor
open Go.Hp
set_option linter.unusedVariables false
set_option linter.unusedSimpArgs false
set_option linter.unusedSectionVars false

/-! ### strait/straitref06.Parse: function 19 -/
section
variable [DKc]
def straitref06_Parse.b0 (K2 : Int → Heap → Prop) (cont : ByteArray → Addr → Int → Bool → Int → Heap → Prop) (c0_1001 : ByteArray) (c2_1002 : Addr) (v3_1003 : Int) (c4_1004 : Bool) (v5_1005 : Int) (h1006 : Heap) : Prop :=
  (iteB (decide (v5_1005 < (c0_1001.size : Int))) ((0 ≤ v5_1005 ∧ ∃ b1007 : UInt8, c0_1001[v5_1005.toNat]? = some b1007 ∧ (iteB ((b1007.toNat : Int) != (45 : Int)) (0 ≤ v5_1005 ∧ ∃ b1008 : UInt8, c0_1001[v5_1005.toNat]? = some b1008 ∧ bindV (IntKind.i64.wrap (IntKind.u8.wrap ((b1008.toNat : Int) - 48))) fun n1009 => ((iteB c4_1004 ((bindV (IntKind.i64.wrap ((IntKind.i64.wrap (10 * v3_1003)) + (IntKind.i64.wrap (0 - n1009)))) fun n1012 => ((cont c0_1001 c2_1002 n1012 c4_1004 (IntKind.i64.wrap (v5_1005 + 1)) h1006)))) ((bindV (IntKind.i64.wrap ((IntKind.i64.wrap (10 * v3_1003)) + n1009)) fun n1013 => ((cont c0_1001 c2_1002 n1013 c4_1004 (IntKind.i64.wrap (v5_1005 + 1)) h1006))))))) (((cont c0_1001 c2_1002 v3_1003 c4_1004 (IntKind.i64.wrap (v5_1005 + 1)) h1006)))))) (K2 v3_1003 h1006))
def straitref06_Parse.l0 (K2 : Int → Heap → Prop) : Nat → ByteArray → Addr → Int → Bool → Int → Heap → Prop
  | 0, _, _, _, _, _, _ => False
  | m + 1, c0_1001, c2_1002, v3_1003, c4_1004, v5_1005, h => straitref06_Parse.b0 K2 (straitref06_Parse.l0 K2 m) c0_1001 c2_1002 v3_1003 c4_1004 v5_1005 h
def straitref06_Parse (a1 : ByteArray) (h : Heap) (K : Int → Int → Heap → Prop) : Prop :=
  newP h (.cells #[(.int .i64 0), (.int .i64 0)] 57) fun a2 h3 => (qcallP1 h3 (straitref06_form a1 h3) fun x4 => (iteB (!x4) (stC h3 a2 (.int .i64 0) fun h5 => stC h5 (a2.add 1) (.int .i64 2) fun h6 => (∃ (x7 : Int), cell h6 a2 = some (.int .i64 x7) ∧ ∃ (x8 : Int), cell h6 (a2.add 1) = some (.int .i64 x8) ∧ K x7 x8 h6)) (((0 ≤ (0 : Int) ∧ ∃ b9 : UInt8, a1[(0 : Int).toNat]? = some b9 ∧ ((∃ m12, straitref06_Parse.l0 (fun z10 h11 => ((iteB (decide ((a1.size : Int) > (20 : Int))) ((stC h11 a2 (.int .i64 0) fun h21 => stC h21 (a2.add 1) (.int .i64 10) fun h22 => (∃ (x23 : Int), cell h22 a2 = some (.int .i64 x23) ∧ ∃ (x24 : Int), cell h22 (a2.add 1) = some (.int .i64 x24) ∧ K x23 x24 h22))) (callP1 (straitref06_Print z10 h11) fun x13 h14 => (iteB (!(x13.toList == a1.toList)) (stC h14 a2 (.int .i64 0) fun h25 => stC h25 (a2.add 1) (.int .i64 10) fun h26 => (∃ (x27 : Int), cell h26 a2 = some (.int .i64 x27) ∧ ∃ (x28 : Int), cell h26 (a2.add 1) = some (.int .i64 x28) ∧ K x27 x28 h26)) ((stC h14 a2 (.int .i64 z10) fun h38 => stC h38 (a2.add 1) (.int .i64 0) fun h39 => (∃ (x40 : Int), cell h39 a2 = some (.int .i64 x40) ∧ ∃ (x41 : Int), cell h39 (a2.add 1) = some (.int .i64 x41) ∧ K x40 x41 h39)))))))) m12 a1 a2 0 ((b9.toNat : Int) == (45 : Int)) 0 h3)))))))
def straitref06_Parse.ret (K : Int → Int → Heap → Prop) (v : Value) (h : Heap) : Prop := match v with
  | (.agg ⟨[(.int .i64 r42), (.int .i64 r43)]⟩) => K r42 r43 h
  | _ => False
theorem straitref06_Parse.ret_elim {K : Int → Int → Heap → Prop} {K' : Value → Heap → Prop} {v : Value} {h : Heap} (hk : ∀ r42 r43 h, K r42 r43 h → K' (.agg #[(.int .i64 r42), (.int .i64 r43)]) h) (hh : straitref06_Parse.ret K v h) : K' v h := by
  unfold straitref06_Parse.ret at hh
  split at hh
  · exact hk _ _ _ hh
  · exact hh.elim
def straitref06_Parse.call (f : FuncId) (vs : List Value) (h : Heap) (K : Value → Heap → Prop) : Prop := match f, vs with
  | 39, [(.int .i64 a1)] => callP1 (straitref06_Print a1 h) fun r8 h' => K (.string r8) h'
  | _, _ => False
def straitref06_Parse.qcall (f : FuncId) (vs : List Value) (h : Heap) (K : Value → Prop) : Prop := match f, vs with
  | 38, [(.string a1)] => qcallP1 h (straitref06_form a1 h) fun r12 => K (.bool r12)
  | _, _ => False
def straitref06_Parse.r0 (K : Nat → List Value → Heap → Prop) (m : Nat) (vs : List Value) (h : Heap) : Prop := match vs with
  | [(.string c0_1001), (.pointer (some c2_1002)), (.int .i64 v3_1003), (.bool c4_1004), (.int .i64 v5_1005)] => straitref06_Parse.l0 (fun z44 h' => K 2 [(.string c0_1001), (.pointer (some c2_1002)), (.int .i64 z44)] h') m c0_1001 c2_1002 v3_1003 c4_1004 v5_1005 h
  | _ => False
def straitref06_Parse.loop (i : Nat) (vs : List Value) (h : Heap) (K : Nat → List Value → Heap → Prop) : Prop := match i with
  | 0 => ∃ m, straitref06_Parse.r0 K m vs h
  | _ => False
noncomputable def straitref06_Parse.ctx : Ctx := { P := Tryz.prog, call := straitref06_Parse.call, qcall := straitref06_Parse.qcall, quiet := fun f => Nat.beq f 38 || Nat.beq f 2000025, loop := straitref06_Parse.loop }
theorem straitref06_Parse.ok : straitref06_Parse.ctx.OK where
  mixed := by kernel_rfl
  mono := by
    intro f args h K K' hh hk
    change straitref06_Parse.call f args h K at hh
    change straitref06_Parse.call f args h K'
    unfold straitref06_Parse.call at hh ⊢
    split at hh
    · obtain ⟨R, h1, h2⟩ := hh
      exact ⟨R, h1, fun _ x hr => hk _ _ (h2 _ x hr)⟩
    · exact hh.elim
  call := by
    intro f args h K hh w hw
    change straitref06_Parse.call f args h K at hh
    unfold straitref06_Parse.call at hh
    split at hh
    · obtain ⟨R, h1, h2⟩ := hh
      obtain ⟨g1, g2⟩ := straitref06_Print.calls h1 w hw
      exact ⟨g1, g2.mono fun e w' ⟨v, he, ho, hr⟩ => ⟨v, he, ho, straitref06_Print.ret_elim h2 hr⟩⟩
    · exact hh.elim
  qmono := by
    intro f args h K K' hh hk
    change straitref06_Parse.qcall f args h K at hh
    change straitref06_Parse.qcall f args h K'
    unfold straitref06_Parse.qcall at hh ⊢
    split at hh
    · obtain ⟨x0, h1, h2⟩ := hh
      exact ⟨x0, h1, hk _ h2⟩
    · exact hh.elim
  qval := by
    intro f args h K hh
    change straitref06_Parse.qcall f args h K at hh
    suffices H : ∃ v, K v ∧ straitref06_Parse.qcall f args h (· = v) from H
    unfold straitref06_Parse.qcall at hh ⊢
    split at hh
    · obtain ⟨x0, h1, h2⟩ := hh
      exact ⟨_, h2, x0, h1, rfl⟩
    · exact hh.elim
  qcall := by
    intro f args h v hh w hw
    change straitref06_Parse.qcall f args h (· = v) at hh
    unfold straitref06_Parse.qcall at hh
    split at hh
    · obtain ⟨x0, h1, h2⟩ := hh
      obtain ⟨g1, g2⟩ := straitref06_form.calls h1 w hw
      refine .inl ⟨g1, g2.mono fun e w' ⟨u, he, ho, hr⟩ => ?_⟩
      have hq := straitref06_form.ret_elim (K' := fun u h' => u = v ∧ h' = h) (fun _ h' hr => by obtain ⟨rfl, rfl⟩ := hr; exact ⟨h2, rfl⟩) hr
      exact ⟨hq.1 ▸ he, ho, hq.2⟩
    · exact hh.elim
noncomputable def straitref06_Parse.code : Code := (Tryz.f19.body).getD .skip
def straitref06_Parse.ann : Ann := (.two .auto (.two .auto (.two .auto (.two .auto (.two (.two .auto (.two (.loop 0 [0, 2, 3, 4, 5] [(2, [0, 2, 3])] .auto) .auto)) .auto)))))
noncomputable def straitref06_Parse.c0 : Code := sub straitref06_Parse.code [1, 1, 1, 1, 0, 1, 0, 0]
def straitref06_Parse.a0 : Ann := .auto
def straitref06_Parse.keep0 : List Nat := [0, 2, 3, 4, 5]
def straitref06_Parse.outs0 : List (Nat × List Nat) := [(2, [0, 2, 3])]
set_option maxRecDepth 100000 in
theorem straitref06_Parse.L0 : LoopOK straitref06_Parse.ctx 48 straitref06_Parse.c0 0 straitref06_Parse.keep0 straitref06_Parse.outs0 := by
  refine loop_ok (n := straitref06_Parse.a0) straitref06_Parse.ok (by kernel_rfl) (loops_ok (l := []) (by kernel_rfl) ?_) straitref06_Parse.r0 ?_ ?_ (fun vs h K hh => hh)
  · exact trivial
  · intro K vs h hh
    unfold straitref06_Parse.r0 at hh
    split at hh
    · exact hh
    · exact hh
  · intro K m vs h hh
    unfold straitref06_Parse.r0 at hh
    split at hh
    · exact cast (by kernel_rfl) hh
    · exact hh.elim
set_option maxRecDepth 100000 in
theorem straitref06_Parse.eq (a1 : ByteArray) (h : Heap) (K : Int → Int → Heap → Prop) : evF straitref06_Parse.ctx Tryz.f19 straitref06_Parse.ann [(.string a1)] h (straitref06_Parse.ret K) = straitref06_Parse a1 h K := by kernel_rfl
set_option maxRecDepth 100000 in
theorem straitref06_Parse.calls {a1 : ByteArray} {h : Heap} {K : Int → Int → Heap → Prop} (hh : straitref06_Parse a1 h K) (w : World) (hw : w.heap = h) :
    (callFunc 19 #[(.string a1)]).run Tryz.prog w = .ok (.enter 19 #[(.string a1)]) w ∧ Calls Tryz.prog 19 #[(.string a1)] w fun e w' => ∃ v, e = .returned v ∧ Out w w' ∧ straitref06_Parse.ret K v w'.heap := by
  rw [← straitref06_Parse.eq] at hh
  exact fn_calls (args := [(.string a1)]) (c := straitref06_Parse.code) straitref06_Parse.ok Tryz.func19 (by kernel_rfl) (by kernel_rfl) (by kernel_rfl) (by kernel_rfl) (loops_ok (l := [(straitref06_Parse.c0, none, 0, straitref06_Parse.keep0, straitref06_Parse.outs0)]) (by kernel_rfl) ⟨straitref06_Parse.L0, trivial⟩) hh w hw
end

/-! ### strait/straitref48.digit: function 40 -/
def straitref48_digit (a1 : Int) (h : Heap) (K : Int → Heap → Prop) : Prop :=
  (let j6 : Prop := (iteB (decide (a1 ≥ (97 : Int))) ((iteB (decide (a1 ≤ (102 : Int))) (bindV (IntKind.u8.wrap ((IntKind.u8.wrap (a1 - 97)) + 10)) fun n5 => K n5 h) (K 16 h))) ((K 16 h)));
  iteB (decide (a1 ≥ (48 : Int))) ((iteB (decide (a1 ≤ (57 : Int))) ((K (IntKind.u8.wrap (a1 - 48)) h)) ((j6)))) (((j6))))
def straitref48_digit.ret (K : Int → Heap → Prop) (v : Value) (h : Heap) : Prop := match v with
  | (.int .u8 r7) => K r7 h
  | _ => False
theorem straitref48_digit.ret_elim {K : Int → Heap → Prop} {K' : Value → Heap → Prop} {v : Value} {h : Heap} (hk : ∀ r7 h, K r7 h → K' (.int .u8 r7) h) (hh : straitref48_digit.ret K v h) : K' v h := by
  unfold straitref48_digit.ret at hh
  split at hh
  · exact hk _ _ hh
  · exact hh.elim
noncomputable def straitref48_digit.ctx : Ctx := { P := Tryz.prog, call := fun _ _ _ _ => False, qcall := fun _ _ _ _ => False, quiet := fun f => Nat.beq f 2000025, loop := fun _ _ _ _ => False }
theorem straitref48_digit.ok [DKc] : straitref48_digit.ctx.OK where
  mixed := by kernel_rfl
  mono := fun hh _ => hh.elim
  call := fun hh => hh.elim
  qmono := fun hh _ => hh.elim
  qval := fun hh => hh.elim
  qcall := fun hh => hh.elim
noncomputable def straitref48_digit.code : Code := (Tryz.f40.body).getD .skip
def straitref48_digit.ann : Ann := .auto
set_option maxRecDepth 100000 in
theorem straitref48_digit.eq (a1 : Int) (h : Heap) (K : Int → Heap → Prop) : evF straitref48_digit.ctx Tryz.f40 straitref48_digit.ann [(.int .u8 a1)] h (straitref48_digit.ret K) = straitref48_digit a1 h K := by kernel_rfl
set_option maxRecDepth 100000 in
theorem straitref48_digit.calls [DKc] {a1 : Int} {h : Heap} {K : Int → Heap → Prop} (hh : straitref48_digit a1 h K) (w : World) (hw : w.heap = h) :
    (callFunc 40 #[(.int .u8 a1)]).run Tryz.prog w = .ok (.enter 40 #[(.int .u8 a1)]) w ∧ Calls Tryz.prog 40 #[(.int .u8 a1)] w fun e w' => ∃ v, e = .returned v ∧ Out w w' ∧ straitref48_digit.ret K v w'.heap := by
  rw [← straitref48_digit.eq] at hh
  exact fn_calls (args := [(.int .u8 a1)]) (c := straitref48_digit.code) straitref48_digit.ok Tryz.func40 (by kernel_rfl) (by kernel_rfl) (by kernel_rfl) (by kernel_rfl) (loops_ok (l := []) (by kernel_rfl) trivial) hh w hw

/-! ### strait/straitref48.Bytes: function 20 -/
def straitref48_Bytes.b0 (K0 : Heap → Prop) (K2 : (Option Addr) → Nat → Nat → Heap → Prop) (cont : ByteArray → Addr → (Option Addr) → Nat → Nat → Int → Heap → Prop) (c0_1001 : ByteArray) (c2_1002 : Addr) (v3_1003 : Option Addr) (v3_1003l : Nat) (v3_1003c : Nat) (v4_1004 : Int) (h1005 : Heap) : Prop :=
  (iteB (decide ((IntKind.i64.wrap (v4_1004 + 1)) < (c0_1001.size : Int))) ((0 ≤ v4_1004 ∧ ∃ b1006 : UInt8, c0_1001[v4_1004.toNat]? = some b1006 ∧ qcallP1 h1005 (straitref48_digit (b1006.toNat : Int) h1005) fun x1007 => 0 ≤ (IntKind.i64.wrap (v4_1004 + 1)) ∧ ∃ b1008 : UInt8, c0_1001[(IntKind.i64.wrap (v4_1004 + 1)).toNat]? = some b1008 ∧ qcallP1 h1005 (straitref48_digit (b1008.toNat : Int) h1005) fun x1009 => (iteB (decide (x1007 > (15 : Int))) ((stC h1005 c2_1002 (.slice none 0 0) fun h1013 => stC h1013 (c2_1002.add 1) (.bool false) fun h1014 => K0 h1014)) ((iteB (decide (x1009 > (15 : Int))) (stC h1005 c2_1002 (.slice none 0 0) fun h1015 => stC h1015 (c2_1002.add 1) (.bool false) fun h1016 => K0 h1016) ((bindV (IntKind.u8.wrap ((IntKind.u8.wrap (16 * x1007)) + x1009)) fun n1033 => newP h1005 (.cells #[(.int .u8 n1033)] 5) fun a1034 h1035 => ∃ n1040, cellsAt h1035 (some a1034) (1 * 1) n1040 ∧ appP 5 1 1 [(.int .u8 0)] v3_1003 v3_1003l v3_1003c 1 n1040 h1035 fun q1036 l1037 c1038 h1039 => ((cont c0_1001 c2_1002 q1036 l1037 c1038 (IntKind.i64.wrap (v4_1004 + 2)) h1039))))))))) (K2 v3_1003 v3_1003l v3_1003c h1005))
def straitref48_Bytes.l0 (K0 : Heap → Prop) (K2 : (Option Addr) → Nat → Nat → Heap → Prop) : Nat → ByteArray → Addr → (Option Addr) → Nat → Nat → Int → Heap → Prop
  | 0, _, _, _, _, _, _, _ => False
  | m + 1, c0_1001, c2_1002, v3_1003, v3_1003l, v3_1003c, v4_1004, h => straitref48_Bytes.b0 K0 K2 (straitref48_Bytes.l0 K0 K2 m) c0_1001 c2_1002 v3_1003 v3_1003l v3_1003c v4_1004 h
def straitref48_Bytes (a1 : ByteArray) (h : Heap) (K : (Option Addr) → Nat → Nat → Bool → Heap → Prop) : Prop :=
  newP h (.cells #[(.slice none 0 0), (.bool false)] 60) fun a2 h3 => ((iteB (a1.toList == (⟨#[46]⟩ : ByteArray).toList) (stC h3 a2 (.slice none 0 0) fun h4 => stC h4 (a2.add 1) (.bool true) fun h5 => (∃ (x6 : Option Addr) (x6l : Nat) (x6c : Nat), cell h5 a2 = some (.slice x6 x6l x6c) ∧ ∃ (x7 : Bool), cell h5 (a2.add 1) = some (.bool x7) ∧ K x6 x6l x6c x7 h5)) ((((∃ m13, straitref48_Bytes.l0 (fun h8 => ∃ (x9 : Option Addr) (x9l : Nat) (x9c : Nat), cell h8 a2 = some (.slice x9 x9l x9c) ∧ ∃ (x10 : Bool), cell h8 (a2.add 1) = some (.bool x10) ∧ K x9 x9l x9c x10 h8) (fun z11 z11l z11c h12 => ((iteB ((a1.size : Int) == (0 : Int)) ((stC h12 a2 (.slice none 0 0) fun h19 => stC h19 (a2.add 1) (.bool false) fun h20 => (∃ (x21 : Option Addr) (x21l : Nat) (x21c : Nat), cell h20 a2 = some (.slice x21 x21l x21c) ∧ ∃ (x22 : Bool), cell h20 (a2.add 1) = some (.bool x22) ∧ K x21 x21l x21c x22 h20))) ((2 : Int) ≠ 0 ∧ (iteB (((a1.size : Int).tmod 2) == (1 : Int)) (stC h12 a2 (.slice none 0 0) fun h23 => stC h23 (a2.add 1) (.bool false) fun h24 => (∃ (x25 : Option Addr) (x25l : Nat) (x25c : Nat), cell h24 a2 = some (.slice x25 x25l x25c) ∧ ∃ (x26 : Bool), cell h24 (a2.add 1) = some (.bool x26) ∧ K x25 x25l x25c x26 h24)) ((stC h12 a2 (.slice z11 z11l z11c) fun h35 => stC h35 (a2.add 1) (.bool true) fun h36 => (∃ (x37 : Option Addr) (x37l : Nat) (x37c : Nat), cell h36 a2 = some (.slice x37 x37l x37c) ∧ ∃ (x38 : Bool), cell h36 (a2.add 1) = some (.bool x38) ∧ K x37 x37l x37c x38 h36)))))))) m13 a1 a2 none 0 0 0 h3))))))
def straitref48_Bytes.ret (K : (Option Addr) → Nat → Nat → Bool → Heap → Prop) (v : Value) (h : Heap) : Prop := match v with
  | (.agg ⟨[(.slice r39 r39l r39c), (.bool r40)]⟩) => K r39 r39l r39c r40 h
  | _ => False
theorem straitref48_Bytes.ret_elim {K : (Option Addr) → Nat → Nat → Bool → Heap → Prop} {K' : Value → Heap → Prop} {v : Value} {h : Heap} (hk : ∀ r39 r39l r39c r40 h, K r39 r39l r39c r40 h → K' (.agg #[(.slice r39 r39l r39c), (.bool r40)]) h) (hh : straitref48_Bytes.ret K v h) : K' v h := by
  unfold straitref48_Bytes.ret at hh
  split at hh
  · exact hk _ _ _ _ _ hh
  · exact hh.elim
def straitref48_Bytes.qcall (f : FuncId) (vs : List Value) (h : Heap) (K : Value → Prop) : Prop := match f, vs with
  | 40, [(.int .u8 a1)] => qcallP1 h (straitref48_digit a1 h) fun r7 => K (.int .u8 r7)
  | _, _ => False
def straitref48_Bytes.r0 (K : Nat → List Value → Heap → Prop) (m : Nat) (vs : List Value) (h : Heap) : Prop := match vs with
  | [(.string c0_1001), (.pointer (some c2_1002)), (.slice v3_1003 v3_1003l v3_1003c), (.int .i64 v4_1004)] => straitref48_Bytes.l0 (fun h' => K 0 [(.pointer (some c2_1002))] h') (fun z41 z41l z41c h' => K 2 [(.string c0_1001), (.pointer (some c2_1002)), (.slice z41 z41l z41c)] h') m c0_1001 c2_1002 v3_1003 v3_1003l v3_1003c v4_1004 h
  | _ => False
def straitref48_Bytes.loop (i : Nat) (vs : List Value) (h : Heap) (K : Nat → List Value → Heap → Prop) : Prop := match i with
  | 0 => ∃ m, straitref48_Bytes.r0 K m vs h
  | _ => False
noncomputable def straitref48_Bytes.ctx : Ctx := { P := Tryz.prog, call := fun _ _ _ _ => False, qcall := straitref48_Bytes.qcall, quiet := fun f => Nat.beq f 40 || Nat.beq f 2000025, loop := straitref48_Bytes.loop }
theorem straitref48_Bytes.ok [DKc] : straitref48_Bytes.ctx.OK where
  mixed := by kernel_rfl
  mono := fun hh _ => hh.elim
  call := fun hh => hh.elim
  qmono := by
    intro f args h K K' hh hk
    change straitref48_Bytes.qcall f args h K at hh
    change straitref48_Bytes.qcall f args h K'
    unfold straitref48_Bytes.qcall at hh ⊢
    split at hh
    · obtain ⟨x0, h1, h2⟩ := hh
      exact ⟨x0, h1, hk _ h2⟩
    · exact hh.elim
  qval := by
    intro f args h K hh
    change straitref48_Bytes.qcall f args h K at hh
    suffices H : ∃ v, K v ∧ straitref48_Bytes.qcall f args h (· = v) from H
    unfold straitref48_Bytes.qcall at hh ⊢
    split at hh
    · obtain ⟨x0, h1, h2⟩ := hh
      exact ⟨_, h2, x0, h1, rfl⟩
    · exact hh.elim
  qcall := by
    intro f args h v hh w hw
    change straitref48_Bytes.qcall f args h (· = v) at hh
    unfold straitref48_Bytes.qcall at hh
    split at hh
    · obtain ⟨x0, h1, h2⟩ := hh
      obtain ⟨g1, g2⟩ := straitref48_digit.calls h1 w hw
      refine .inl ⟨g1, g2.mono fun e w' ⟨u, he, ho, hr⟩ => ?_⟩
      have hq := straitref48_digit.ret_elim (K' := fun u h' => u = v ∧ h' = h) (fun _ h' hr => by obtain ⟨rfl, rfl⟩ := hr; exact ⟨h2, rfl⟩) hr
      exact ⟨hq.1 ▸ he, ho, hq.2⟩
    · exact hh.elim
noncomputable def straitref48_Bytes.code : Code := (Tryz.f20.body).getD .skip
def straitref48_Bytes.ann : Ann := (.two .auto (.two .auto (.two .auto (.two (.two .auto (.two (.loop 0 [0, 2, 3, 4] [(2, [0, 2, 3]), (0, [2])] (.two .auto (.two (.two (.two (.reg [0, 0, 3, 7, 0, 0, 32, 112, 255, 511, 1023] (.take 0 (.take 1 (.take 2 (.take 3 (.take 4 (.take 5 (.take 6 (.take 7 (.take 8 (.take 9 (.take 10 .done)))))))))))) .auto) .auto) .auto))) .auto)) .auto))))
noncomputable def straitref48_Bytes.c0 : Code := sub straitref48_Bytes.code [1, 1, 1, 0, 1, 0, 0]
def straitref48_Bytes.a0 : Ann := (.two .auto (.two (.two (.two (.reg [0, 0, 3, 7, 0, 0, 32, 112, 255, 511, 1023] (.take 0 (.take 1 (.take 2 (.take 3 (.take 4 (.take 5 (.take 6 (.take 7 (.take 8 (.take 9 (.take 10 .done)))))))))))) .auto) .auto) .auto))
def straitref48_Bytes.keep0 : List Nat := [0, 2, 3, 4]
def straitref48_Bytes.outs0 : List (Nat × List Nat) := [(2, [0, 2, 3]), (0, [2])]
set_option maxRecDepth 100000 in
theorem straitref48_Bytes.L0 [DKc] : LoopOK straitref48_Bytes.ctx 52 straitref48_Bytes.c0 0 straitref48_Bytes.keep0 straitref48_Bytes.outs0 := by
  refine loop_ok (n := straitref48_Bytes.a0) straitref48_Bytes.ok (by kernel_rfl) (loops_ok (l := []) (by kernel_rfl) ?_) straitref48_Bytes.r0 ?_ ?_ (fun vs h K hh => hh)
  · exact trivial
  · intro K vs h hh
    unfold straitref48_Bytes.r0 at hh
    split at hh
    · exact hh
    · exact hh
  · intro K m vs h hh
    unfold straitref48_Bytes.r0 at hh
    split at hh
    · exact cast (by kernel_rfl) hh
    · exact hh.elim
set_option maxRecDepth 100000 in
theorem straitref48_Bytes.eq (a1 : ByteArray) (h : Heap) (K : (Option Addr) → Nat → Nat → Bool → Heap → Prop) : evF straitref48_Bytes.ctx Tryz.f20 straitref48_Bytes.ann [(.string a1)] h (straitref48_Bytes.ret K) = straitref48_Bytes a1 h K := by kernel_rfl
set_option maxRecDepth 100000 in
theorem straitref48_Bytes.calls [DKc] {a1 : ByteArray} {h : Heap} {K : (Option Addr) → Nat → Nat → Bool → Heap → Prop} (hh : straitref48_Bytes a1 h K) (w : World) (hw : w.heap = h) :
    (callFunc 20 #[(.string a1)]).run Tryz.prog w = .ok (.enter 20 #[(.string a1)]) w ∧ Calls Tryz.prog 20 #[(.string a1)] w fun e w' => ∃ v, e = .returned v ∧ Out w w' ∧ straitref48_Bytes.ret K v w'.heap := by
  rw [← straitref48_Bytes.eq] at hh
  exact fn_calls (args := [(.string a1)]) (c := straitref48_Bytes.code) straitref48_Bytes.ok Tryz.func20 (by kernel_rfl) (by kernel_rfl) (by kernel_rfl) (by kernel_rfl) (loops_ok (l := [(straitref48_Bytes.c0, none, 0, straitref48_Bytes.keep0, straitref48_Bytes.outs0)]) (by kernel_rfl) ⟨straitref48_Bytes.L0, trivial⟩) hh w hw

/-! ### strait/straitref48.Hex: function 41 -/
def straitref48_Hex.b0 (K2 : ByteArray → Heap → Prop) (cont : (Option Addr) → Nat → Nat → ByteArray → ByteArray → Int → Heap → Prop) (c0_1001 : Option Addr) (c0_1002 : Nat) (c0_1003 : Nat) (c3_1004 : ByteArray) (v4_1005 : ByteArray) (v5_1006 : Int) (h1007 : Heap) : Prop :=
  (iteB (decide (v5_1006 < (c0_1002 : Int))) ((chkP c0_1001 fun a1008 => (0 ≤ v5_1006 ∧ v5_1006 < (c0_1002 : Int)) ∧ ∃ (x1009 : Int), cell h1007 (a1008.add (v5_1006.toNat * 1)) = some (.int .u8 x1009) ∧ (16 : Int) ≠ 0 ∧ chkP c0_1001 fun a1010 => (0 ≤ v5_1006 ∧ v5_1006 < (c0_1002 : Int)) ∧ ∃ (x1011 : Int), cell h1007 (a1010.add (v5_1006.toNat * 1)) = some (.int .u8 x1011) ∧ (16 : Int) ≠ 0 ∧ bindV (IntKind.u8.wrap ((IntKind.u8.wrap (x1011.tdiv 16)) + 1)) fun n1012 => (0 ≤ n1012 ∧ n1012 ≤ (c3_1004.size : Int)) ∧ (0 ≤ (IntKind.u8.wrap (x1009.tdiv 16)) ∧ (IntKind.u8.wrap (x1009.tdiv 16)) ≤ (n1012.toNat : Int)) ∧ (((v4_1005.size + (c3_1004.extract (IntKind.u8.wrap (x1009.tdiv 16)).toNat n1012.toNat).size : Nat) : Int) ≤ 9223372036854775807) ∧ chkP c0_1001 fun a1013 => (0 ≤ v5_1006 ∧ v5_1006 < (c0_1002 : Int)) ∧ ∃ (x1014 : Int), cell h1007 (a1013.add (v5_1006.toNat * 1)) = some (.int .u8 x1014) ∧ (16 : Int) ≠ 0 ∧ chkP c0_1001 fun a1015 => (0 ≤ v5_1006 ∧ v5_1006 < (c0_1002 : Int)) ∧ ∃ (x1016 : Int), cell h1007 (a1015.add (v5_1006.toNat * 1)) = some (.int .u8 x1016) ∧ (16 : Int) ≠ 0 ∧ (0 ≤ (IntKind.u8.wrap ((x1016.tmod 16) + 1)) ∧ (IntKind.u8.wrap ((x1016.tmod 16) + 1)) ≤ (c3_1004.size : Int)) ∧ (0 ≤ (x1014.tmod 16) ∧ (x1014.tmod 16) ≤ ((IntKind.u8.wrap ((x1016.tmod 16) + 1)).toNat : Int)) ∧ ((((v4_1005 ++ (c3_1004.extract (IntKind.u8.wrap (x1009.tdiv 16)).toNat n1012.toNat)).size + (c3_1004.extract (x1014.tmod 16).toNat (IntKind.u8.wrap ((x1016.tmod 16) + 1)).toNat).size : Nat) : Int) ≤ 9223372036854775807) ∧ ((cont c0_1001 c0_1002 c0_1003 c3_1004 ((v4_1005 ++ (c3_1004.extract (IntKind.u8.wrap (x1009.tdiv 16)).toNat n1012.toNat)) ++ (c3_1004.extract (x1014.tmod 16).toNat (IntKind.u8.wrap ((x1016.tmod 16) + 1)).toNat)) (IntKind.i64.wrap (v5_1006 + 1)) h1007)))) (K2 v4_1005 h1007))
def straitref48_Hex.l0 (K2 : ByteArray → Heap → Prop) : Nat → (Option Addr) → Nat → Nat → ByteArray → ByteArray → Int → Heap → Prop
  | 0, _, _, _, _, _, _, _ => False
  | m + 1, c0_1001, c0_1002, c0_1003, c3_1004, v4_1005, v5_1006, h => straitref48_Hex.b0 K2 (straitref48_Hex.l0 K2 m) c0_1001 c0_1002 c0_1003 c3_1004 v4_1005 v5_1006 h
def straitref48_Hex (a1 : Option Addr) (a1l : Nat) (a1c : Nat) (h : Heap) (K : ByteArray → Heap → Prop) : Prop :=
  ((iteB ((a1l : Int) == (0 : Int)) ((K (⟨#[46]⟩ : ByteArray) h)) (((((∃ m4, straitref48_Hex.l0 (fun z2 h3 => (K z2 h3)) m4 a1 a1l a1c (⟨#[48, 49, 50, 51, 52, 53, 54, 55, 56, 57, 97, 98, 99, 100, 101, 102]⟩ : ByteArray) (⟨#[]⟩ : ByteArray) 0 h)))))))
def straitref48_Hex.ret (K : ByteArray → Heap → Prop) (v : Value) (h : Heap) : Prop := match v with
  | (.string r5) => K r5 h
  | _ => False
theorem straitref48_Hex.ret_elim {K : ByteArray → Heap → Prop} {K' : Value → Heap → Prop} {v : Value} {h : Heap} (hk : ∀ r5 h, K r5 h → K' (.string r5) h) (hh : straitref48_Hex.ret K v h) : K' v h := by
  unfold straitref48_Hex.ret at hh
  split at hh
  · exact hk _ _ hh
  · exact hh.elim
def straitref48_Hex.r0 (K : Nat → List Value → Heap → Prop) (m : Nat) (vs : List Value) (h : Heap) : Prop := match vs with
  | [(.slice c0_1001 c0_1002 c0_1003), (.string c3_1004), (.string v4_1005), (.int .i64 v5_1006)] => straitref48_Hex.l0 (fun z6 h' => K 2 [(.string z6)] h') m c0_1001 c0_1002 c0_1003 c3_1004 v4_1005 v5_1006 h
  | _ => False
def straitref48_Hex.loop (i : Nat) (vs : List Value) (h : Heap) (K : Nat → List Value → Heap → Prop) : Prop := match i with
  | 0 => ∃ m, straitref48_Hex.r0 K m vs h
  | _ => False
noncomputable def straitref48_Hex.ctx : Ctx := { P := Tryz.prog, call := fun _ _ _ _ => False, qcall := fun _ _ _ _ => False, quiet := fun f => Nat.beq f 2000025, loop := straitref48_Hex.loop }
theorem straitref48_Hex.ok [DKc] : straitref48_Hex.ctx.OK where
  mixed := by kernel_rfl
  mono := fun hh _ => hh.elim
  call := fun hh => hh.elim
  qmono := fun hh _ => hh.elim
  qval := fun hh => hh.elim
  qcall := fun hh => hh.elim
noncomputable def straitref48_Hex.code : Code := (Tryz.f41.body).getD .skip
def straitref48_Hex.ann : Ann := (.two .auto (.two .auto (.two .auto (.two .auto (.two (.two .auto (.two (.loop 0 [0, 3, 4, 5] [(2, [4])] (.two .auto (.two (.two (.reg [0, 0, 0, 0, 12, 28, 60, 0, 0, 384, 896, 1920, 3968, 8190, 16383, 0, 0, 0, 196608, 458752, 983040, 0, 0, 6291456, 14680064, 31457280, 65011712, 134184960, 268435455, 536870911] (.take 0 (.take 1 (.take 2 (.take 3 (.take 4 (.take 5 (.take 6 (.take 7 (.take 8 (.take 9 (.take 10 (.take 11 (.take 12 (.take 13 (.take 14 (.take 15 (.take 16 (.take 17 (.take 18 (.take 19 (.take 20 (.take 21 (.take 22 (.take 23 (.take 24 (.take 25 (.take 26 (.take 27 (.take 28 (.take 29 .done))))))))))))))))))))))))))))))) .auto) .auto))) .auto)) .auto)))))
noncomputable def straitref48_Hex.c0 : Code := sub straitref48_Hex.code [1, 1, 1, 1, 0, 1, 0, 0]
def straitref48_Hex.a0 : Ann := (.two .auto (.two (.two (.reg [0, 0, 0, 0, 12, 28, 60, 0, 0, 384, 896, 1920, 3968, 8190, 16383, 0, 0, 0, 196608, 458752, 983040, 0, 0, 6291456, 14680064, 31457280, 65011712, 134184960, 268435455, 536870911] (.take 0 (.take 1 (.take 2 (.take 3 (.take 4 (.take 5 (.take 6 (.take 7 (.take 8 (.take 9 (.take 10 (.take 11 (.take 12 (.take 13 (.take 14 (.take 15 (.take 16 (.take 17 (.take 18 (.take 19 (.take 20 (.take 21 (.take 22 (.take 23 (.take 24 (.take 25 (.take 26 (.take 27 (.take 28 (.take 29 .done))))))))))))))))))))))))))))))) .auto) .auto))
def straitref48_Hex.keep0 : List Nat := [0, 3, 4, 5]
def straitref48_Hex.outs0 : List (Nat × List Nat) := [(2, [4])]
set_option maxRecDepth 100000 in
theorem straitref48_Hex.L0 [DKc] : LoopOK straitref48_Hex.ctx 45 straitref48_Hex.c0 0 straitref48_Hex.keep0 straitref48_Hex.outs0 := by
  refine loop_ok (n := straitref48_Hex.a0) straitref48_Hex.ok (by kernel_rfl) (loops_ok (l := []) (by kernel_rfl) ?_) straitref48_Hex.r0 ?_ ?_ (fun vs h K hh => hh)
  · exact trivial
  · intro K vs h hh
    unfold straitref48_Hex.r0 at hh
    split at hh
    · exact hh
    · exact hh
  · intro K m vs h hh
    unfold straitref48_Hex.r0 at hh
    split at hh
    · exact cast (by kernel_rfl) hh
    · exact hh.elim
set_option maxRecDepth 100000 in
theorem straitref48_Hex.eq (a1 : Option Addr) (a1l : Nat) (a1c : Nat) (h : Heap) (K : ByteArray → Heap → Prop) : evF straitref48_Hex.ctx Tryz.f41 straitref48_Hex.ann [(.slice a1 a1l a1c)] h (straitref48_Hex.ret K) = straitref48_Hex a1 a1l a1c h K := by kernel_rfl
set_option maxRecDepth 100000 in
theorem straitref48_Hex.calls [DKc] {a1 : Option Addr} {a1l : Nat} {a1c : Nat} {h : Heap} {K : ByteArray → Heap → Prop} (hh : straitref48_Hex a1 a1l a1c h K) (w : World) (hw : w.heap = h) :
    (callFunc 41 #[(.slice a1 a1l a1c)]).run Tryz.prog w = .ok (.enter 41 #[(.slice a1 a1l a1c)]) w ∧ Calls Tryz.prog 41 #[(.slice a1 a1l a1c)] w fun e w' => ∃ v, e = .returned v ∧ Out w w' ∧ straitref48_Hex.ret K v w'.heap := by
  rw [← straitref48_Hex.eq] at hh
  exact fn_calls (args := [(.slice a1 a1l a1c)]) (c := straitref48_Hex.code) straitref48_Hex.ok Tryz.func41 (by kernel_rfl) (by kernel_rfl) (by kernel_rfl) (by kernel_rfl) (loops_ok (l := [(straitref48_Hex.c0, none, 0, straitref48_Hex.keep0, straitref48_Hex.outs0)]) (by kernel_rfl) ⟨straitref48_Hex.L0, trivial⟩) hh w hw

/-! ### strait/straitref49.Print: function 21 -/
section
variable [DKc]
def straitref49_Print.b1 (K4 : ByteArray → Heap → Prop) (cont : (Option Addr) → Nat → Nat → (Option Addr) → Nat → Nat → ByteArray → Int → Heap → Prop) (c2_2001 : Option Addr) (c2_2002 : Nat) (c2_2003 : Nat) (c3_2004 : Option Addr) (c3_2005 : Nat) (c3_2006 : Nat) (v9_2007 : ByteArray) (v11_2008 : Int) (h2009 : Heap) : Prop :=
  (iteB (decide (v11_2008 < (c2_2002 : Int))) (((((v9_2007.size + (⟨#[32]⟩ : ByteArray).size : Nat) : Int) ≤ 9223372036854775807) ∧ chkP c2_2001 fun a2010 => (0 ≤ v11_2008 ∧ v11_2008 < (c2_2002 : Int)) ∧ ∃ (x2011 : Int), cell h2009 (a2010.add (v11_2008.toNat * 1)) = some (.int .i64 x2011) ∧ callP1 (straitref06_Print x2011 h2009) fun x2012 h2013 => ((((v9_2007 ++ (⟨#[32]⟩ : ByteArray)).size + x2012.size : Nat) : Int) ≤ 9223372036854775807) ∧ ((cont c2_2001 c2_2002 c2_2003 c3_2004 c3_2005 c3_2006 ((v9_2007 ++ (⟨#[32]⟩ : ByteArray)) ++ x2012) (IntKind.i64.wrap (v11_2008 + 1)) h2013)))) (K4 v9_2007 h2009))
def straitref49_Print.l1 (K4 : ByteArray → Heap → Prop) : Nat → (Option Addr) → Nat → Nat → (Option Addr) → Nat → Nat → ByteArray → Int → Heap → Prop
  | 0, _, _, _, _, _, _, _, _, _ => False
  | m + 1, c2_2001, c2_2002, c2_2003, c3_2004, c3_2005, c3_2006, v9_2007, v11_2008, h => straitref49_Print.b1 K4 (straitref49_Print.l1 K4 m) c2_2001 c2_2002 c2_2003 c3_2004 c3_2005 c3_2006 v9_2007 v11_2008 h
def straitref49_Print.b0 (K2 : ByteArray → Heap → Prop) (cont : (Option Addr) → Nat → Nat → (Option Addr) → Nat → Nat → (Option Addr) → Nat → Nat → ByteArray → Int → Heap → Prop) (c1_1001 : Option Addr) (c1_1002 : Nat) (c1_1003 : Nat) (c2_1004 : Option Addr) (c2_1005 : Nat) (c2_1006 : Nat) (c3_1007 : Option Addr) (c3_1008 : Nat) (c3_1009 : Nat) (v9_1010 : ByteArray) (v10_1011 : Int) (h1012 : Heap) : Prop :=
  (iteB (decide (v10_1011 < (c1_1002 : Int))) (((((v9_1010.size + (⟨#[32]⟩ : ByteArray).size : Nat) : Int) ≤ 9223372036854775807) ∧ chkP c1_1001 fun a1013 => (0 ≤ v10_1011 ∧ v10_1011 < (c1_1002 : Int)) ∧ ∃ (x1014 : Int), cell h1012 (a1013.add (v10_1011.toNat * 1)) = some (.int .i64 x1014) ∧ callP1 (straitref06_Print x1014 h1012) fun x1015 h1016 => ((((v9_1010 ++ (⟨#[32]⟩ : ByteArray)).size + x1015.size : Nat) : Int) ≤ 9223372036854775807) ∧ ((cont c1_1001 c1_1002 c1_1003 c2_1004 c2_1005 c2_1006 c3_1007 c3_1008 c3_1009 ((v9_1010 ++ (⟨#[32]⟩ : ByteArray)) ++ x1015) (IntKind.i64.wrap (v10_1011 + 1)) h1016)))) (K2 v9_1010 h1012))
def straitref49_Print.l0 (K2 : ByteArray → Heap → Prop) : Nat → (Option Addr) → Nat → Nat → (Option Addr) → Nat → Nat → (Option Addr) → Nat → Nat → ByteArray → Int → Heap → Prop
  | 0, _, _, _, _, _, _, _, _, _, _, _, _ => False
  | m + 1, c1_1001, c1_1002, c1_1003, c2_1004, c2_1005, c2_1006, c3_1007, c3_1008, c3_1009, v9_1010, v10_1011, h => straitref49_Print.b0 K2 (straitref49_Print.l0 K2 m) c1_1001 c1_1002 c1_1003 c2_1004 c2_1005 c2_1006 c3_1007 c3_1008 c3_1009 v9_1010 v10_1011 h
def straitref49_Print (a1 : Int) (a2 : Option Addr) (a2l : Nat) (a2c : Nat) (a3 : Option Addr) (a3l : Nat) (a3c : Nat) (a4 : Option Addr) (a4l : Nat) (a4c : Nat) (h : Heap) (K : ByteArray → Heap → Prop) : Prop :=
  ((let j19 := (fun (y7 : ByteArray) (h8 : Heap) => (∃ m11, straitref49_Print.l0 (fun z9 h10 => ((let j18 := (fun (y12 : ByteArray) => (∃ m15, straitref49_Print.l1 (fun z13 h14 => (((iteB (decide ((a4l : Int) > (0 : Int))) ((((z13.size + (⟨#[32, 98, 121, 116, 101, 115, 32]⟩ : ByteArray).size : Nat) : Int) ≤ 9223372036854775807) ∧ qcallP1 h14 (straitref48_Hex a4 a4l a4c h14) fun x16 => ((((z13 ++ (⟨#[32, 98, 121, 116, 101, 115, 32]⟩ : ByteArray)).size + x16.size : Nat) : Int) ≤ 9223372036854775807) ∧ ((K ((z13 ++ (⟨#[32, 98, 121, 116, 101, 115, 32]⟩ : ByteArray)) ++ x16) h14))) (K z13 h14))))) m15 a3 a3l a3c a4 a4l a4c y12 0 h10));
  (iteB (decide ((a3l : Int) > (0 : Int))) ((((z9.size + (⟨#[32, 115, 105, 100, 101]⟩ : ByteArray).size : Nat) : Int) ≤ 9223372036854775807) ∧ (j18 (z9 ++ (⟨#[32, 115, 105, 100, 101]⟩ : ByteArray)))) ((j18 z9)))))) m11 a2 a2l a2c a3 a3l a3c a4 a4l a4c y7 0 h8));
  (iteB (a1 != (0 : Int)) (callP1 (straitref06_Print a1 h) fun x5 h6 => ((((⟨#[101, 114, 114, 111, 114, 32]⟩ : ByteArray).size + x5.size : Nat) : Int) ≤ 9223372036854775807) ∧ (j19 ((⟨#[101, 114, 114, 111, 114, 32]⟩ : ByteArray) ++ x5) h6)) ((j19 (⟨#[111, 107]⟩ : ByteArray) h)))))
def straitref49_Print.ret (K : ByteArray → Heap → Prop) (v : Value) (h : Heap) : Prop := match v with
  | (.string r20) => K r20 h
  | _ => False
theorem straitref49_Print.ret_elim {K : ByteArray → Heap → Prop} {K' : Value → Heap → Prop} {v : Value} {h : Heap} (hk : ∀ r20 h, K r20 h → K' (.string r20) h) (hh : straitref49_Print.ret K v h) : K' v h := by
  unfold straitref49_Print.ret at hh
  split at hh
  · exact hk _ _ hh
  · exact hh.elim
def straitref49_Print.call (f : FuncId) (vs : List Value) (h : Heap) (K : Value → Heap → Prop) : Prop := match f, vs with
  | 39, [(.int .i64 a1)] => callP1 (straitref06_Print a1 h) fun r8 h' => K (.string r8) h'
  | _, _ => False
def straitref49_Print.qcall (f : FuncId) (vs : List Value) (h : Heap) (K : Value → Prop) : Prop := match f, vs with
  | 41, [(.slice a1 a1l a1c)] => qcallP1 h (straitref48_Hex a1 a1l a1c h) fun r5 => K (.string r5)
  | _, _ => False
def straitref49_Print.r0 (K : Nat → List Value → Heap → Prop) (m : Nat) (vs : List Value) (h : Heap) : Prop := match vs with
  | [(.slice c1_1001 c1_1002 c1_1003), (.slice c2_1004 c2_1005 c2_1006), (.slice c3_1007 c3_1008 c3_1009), (.string v9_1010), (.int .i64 v10_1011)] => straitref49_Print.l0 (fun z21 h' => K 2 [(.slice c2_1004 c2_1005 c2_1006), (.slice c3_1007 c3_1008 c3_1009), (.string z21)] h') m c1_1001 c1_1002 c1_1003 c2_1004 c2_1005 c2_1006 c3_1007 c3_1008 c3_1009 v9_1010 v10_1011 h
  | _ => False
def straitref49_Print.r1 (K : Nat → List Value → Heap → Prop) (m : Nat) (vs : List Value) (h : Heap) : Prop := match vs with
  | [(.slice c2_2001 c2_2002 c2_2003), (.slice c3_2004 c3_2005 c3_2006), (.string v9_2007), (.int .i64 v11_2008)] => straitref49_Print.l1 (fun z22 h' => K 4 [(.slice c3_2004 c3_2005 c3_2006), (.string z22)] h') m c2_2001 c2_2002 c2_2003 c3_2004 c3_2005 c3_2006 v9_2007 v11_2008 h
  | _ => False
def straitref49_Print.loop (i : Nat) (vs : List Value) (h : Heap) (K : Nat → List Value → Heap → Prop) : Prop := match i with
  | 0 => ∃ m, straitref49_Print.r0 K m vs h
  | 1 => ∃ m, straitref49_Print.r1 K m vs h
  | _ => False
noncomputable def straitref49_Print.ctx : Ctx := { P := Tryz.prog, call := straitref49_Print.call, qcall := straitref49_Print.qcall, quiet := fun f => Nat.beq f 41 || Nat.beq f 2000025, loop := straitref49_Print.loop }
theorem straitref49_Print.ok : straitref49_Print.ctx.OK where
  mixed := by kernel_rfl
  mono := by
    intro f args h K K' hh hk
    change straitref49_Print.call f args h K at hh
    change straitref49_Print.call f args h K'
    unfold straitref49_Print.call at hh ⊢
    split at hh
    · obtain ⟨R, h1, h2⟩ := hh
      exact ⟨R, h1, fun _ x hr => hk _ _ (h2 _ x hr)⟩
    · exact hh.elim
  call := by
    intro f args h K hh w hw
    change straitref49_Print.call f args h K at hh
    unfold straitref49_Print.call at hh
    split at hh
    · obtain ⟨R, h1, h2⟩ := hh
      obtain ⟨g1, g2⟩ := straitref06_Print.calls h1 w hw
      exact ⟨g1, g2.mono fun e w' ⟨v, he, ho, hr⟩ => ⟨v, he, ho, straitref06_Print.ret_elim h2 hr⟩⟩
    · exact hh.elim
  qmono := by
    intro f args h K K' hh hk
    change straitref49_Print.qcall f args h K at hh
    change straitref49_Print.qcall f args h K'
    unfold straitref49_Print.qcall at hh ⊢
    split at hh
    · obtain ⟨x0, h1, h2⟩ := hh
      exact ⟨x0, h1, hk _ h2⟩
    · exact hh.elim
  qval := by
    intro f args h K hh
    change straitref49_Print.qcall f args h K at hh
    suffices H : ∃ v, K v ∧ straitref49_Print.qcall f args h (· = v) from H
    unfold straitref49_Print.qcall at hh ⊢
    split at hh
    · obtain ⟨x0, h1, h2⟩ := hh
      exact ⟨_, h2, x0, h1, rfl⟩
    · exact hh.elim
  qcall := by
    intro f args h v hh w hw
    change straitref49_Print.qcall f args h (· = v) at hh
    unfold straitref49_Print.qcall at hh
    split at hh
    · obtain ⟨x0, h1, h2⟩ := hh
      obtain ⟨g1, g2⟩ := straitref48_Hex.calls h1 w hw
      refine .inl ⟨g1, g2.mono fun e w' ⟨u, he, ho, hr⟩ => ?_⟩
      have hq := straitref48_Hex.ret_elim (K' := fun u h' => u = v ∧ h' = h) (fun _ h' hr => by obtain ⟨rfl, rfl⟩ := hr; exact ⟨h2, rfl⟩) hr
      exact ⟨hq.1 ▸ he, ho, hq.2⟩
    · exact hh.elim
noncomputable def straitref49_Print.code : Code := (Tryz.f21.body).getD .skip
def straitref49_Print.ann : Ann := (.two .auto (.two .auto (.two .auto (.two (.two .auto (.two (.loop 0 [1, 2, 3, 9, 10] [(2, [2, 3, 9])] .auto) .auto)) (.two .auto (.two (.two .auto (.two (.loop 1 [2, 3, 9, 11] [(4, [3, 9])] .auto) .auto)) .auto))))))
noncomputable def straitref49_Print.c1 : Code := sub straitref49_Print.code [1, 1, 1, 1, 1, 0, 1, 0, 0]
def straitref49_Print.a1 : Ann := .auto
def straitref49_Print.keep1 : List Nat := [2, 3, 9, 11]
def straitref49_Print.outs1 : List (Nat × List Nat) := [(4, [3, 9])]
noncomputable def straitref49_Print.c0 : Code := sub straitref49_Print.code [1, 1, 1, 0, 1, 0, 0]
def straitref49_Print.a0 : Ann := .auto
def straitref49_Print.keep0 : List Nat := [1, 2, 3, 9, 10]
def straitref49_Print.outs0 : List (Nat × List Nat) := [(2, [2, 3, 9])]
set_option maxRecDepth 100000 in
theorem straitref49_Print.L0 : LoopOK straitref49_Print.ctx 59 straitref49_Print.c0 0 straitref49_Print.keep0 straitref49_Print.outs0 := by
  refine loop_ok (n := straitref49_Print.a0) straitref49_Print.ok (by kernel_rfl) (loops_ok (l := []) (by kernel_rfl) ?_) straitref49_Print.r0 ?_ ?_ (fun vs h K hh => hh)
  · exact trivial
  · intro K vs h hh
    unfold straitref49_Print.r0 at hh
    split at hh
    · exact hh
    · exact hh
  · intro K m vs h hh
    unfold straitref49_Print.r0 at hh
    split at hh
    · exact cast (by kernel_rfl) hh
    · exact hh.elim
set_option maxRecDepth 100000 in
theorem straitref49_Print.L1 : LoopOK straitref49_Print.ctx 59 straitref49_Print.c1 1 straitref49_Print.keep1 straitref49_Print.outs1 := by
  refine loop_ok (n := straitref49_Print.a1) straitref49_Print.ok (by kernel_rfl) (loops_ok (l := []) (by kernel_rfl) ?_) straitref49_Print.r1 ?_ ?_ (fun vs h K hh => hh)
  · exact trivial
  · intro K vs h hh
    unfold straitref49_Print.r1 at hh
    split at hh
    · exact hh
    · exact hh
  · intro K m vs h hh
    unfold straitref49_Print.r1 at hh
    split at hh
    · exact cast (by kernel_rfl) hh
    · exact hh.elim
set_option maxRecDepth 100000 in
theorem straitref49_Print.eq (a1 : Int) (a2 : Option Addr) (a2l : Nat) (a2c : Nat) (a3 : Option Addr) (a3l : Nat) (a3c : Nat) (a4 : Option Addr) (a4l : Nat) (a4c : Nat) (h : Heap) (K : ByteArray → Heap → Prop) : evF straitref49_Print.ctx Tryz.f21 straitref49_Print.ann [(.int .i64 a1), (.slice a2 a2l a2c), (.slice a3 a3l a3c), (.slice a4 a4l a4c)] h (straitref49_Print.ret K) = straitref49_Print a1 a2 a2l a2c a3 a3l a3c a4 a4l a4c h K := by kernel_rfl
set_option maxRecDepth 100000 in
theorem straitref49_Print.calls {a1 : Int} {a2 : Option Addr} {a2l : Nat} {a2c : Nat} {a3 : Option Addr} {a3l : Nat} {a3c : Nat} {a4 : Option Addr} {a4l : Nat} {a4c : Nat} {h : Heap} {K : ByteArray → Heap → Prop} (hh : straitref49_Print a1 a2 a2l a2c a3 a3l a3c a4 a4l a4c h K) (w : World) (hw : w.heap = h) :
    (callFunc 21 #[(.int .i64 a1), (.slice a2 a2l a2c), (.slice a3 a3l a3c), (.slice a4 a4l a4c)]).run Tryz.prog w = .ok (.enter 21 #[(.int .i64 a1), (.slice a2 a2l a2c), (.slice a3 a3l a3c), (.slice a4 a4l a4c)]) w ∧ Calls Tryz.prog 21 #[(.int .i64 a1), (.slice a2 a2l a2c), (.slice a3 a3l a3c), (.slice a4 a4l a4c)] w fun e w' => ∃ v, e = .returned v ∧ Out w w' ∧ straitref49_Print.ret K v w'.heap := by
  rw [← straitref49_Print.eq] at hh
  exact fn_calls (args := [(.int .i64 a1), (.slice a2 a2l a2c), (.slice a3 a3l a3c), (.slice a4 a4l a4c)]) (c := straitref49_Print.code) straitref49_Print.ok Tryz.func21 (by kernel_rfl) (by kernel_rfl) (by kernel_rfl) (by kernel_rfl) (loops_ok (l := [(straitref49_Print.c0, none, 0, straitref49_Print.keep0, straitref49_Print.outs0), (straitref49_Print.c1, none, 1, straitref49_Print.keep1, straitref49_Print.outs1)]) (by kernel_rfl) ⟨straitref49_Print.L0, straitref49_Print.L1, trivial⟩) hh w hw
end

/-! ### strait/straitref49.Parse: function 6 -/
section
variable [DKc]
def straitref49_Parse.b0 (K2 : Heap → Prop) (cont : ByteArray → Addr → Addr → Addr → Int → Int → Heap → Prop) (c0_1001 : ByteArray) (c2_1002 : Addr) (c3_1003 : Addr) (c4_1004 : Addr) (v5_1005 : Int) (v6_1006 : Int) (h1007 : Heap) : Prop :=
  ∃ (x1008 : Option Addr) (x1008l : Nat) (x1008c : Nat), cell h1007 c3_1003 = some (.slice x1008 x1008l x1008c) ∧ (iteB (decide (v6_1006 < (x1008l : Int))) ((let j1073 := (fun (y1071 : Int) (h1072 : Heap) => cont c0_1001 c2_1002 c3_1003 c4_1004 y1071 (IntKind.i64.wrap (v6_1006 + 1)) h1072);
  ∃ (x1009 : Option Addr) (x1009l : Nat) (x1009c : Nat), cell h1007 c3_1003 = some (.slice x1009 x1009l x1009c) ∧ chkP x1009 fun a1010 => (0 ≤ v6_1006 ∧ v6_1006 < (x1009l : Int)) ∧ ∃ (x1011 : ByteArray), cell h1007 (a1010.add (v6_1006.toNat * 1)) = some (.string x1011) ∧ callP2 (straitref06_Parse x1011 h1007) fun x1012 x1013 h1014 => newP h1014 (.cells #[(.int .i64 0), (.int .i64 0)] 57) fun a1015 h1016 => stC h1016 a1015 (.int .i64 x1012) fun h1017 => stC h1017 (a1015.add 1) (.int .i64 x1013) fun h1018 => (∃ (x1019 : Option Addr) (x1019l : Nat) (x1019c : Nat), cell h1018 c3_1003 = some (.slice x1019 x1019l x1019c) ∧ chkP x1019 fun a1020 => (0 ≤ v6_1006 ∧ v6_1006 < (x1019l : Int)) ∧ ∃ (x1021 : ByteArray), cell h1018 (a1020.add (v6_1006.toNat * 1)) = some (.string x1021) ∧ (iteB (x1021.toList == (⟨#[115, 105, 100, 101]⟩ : ByteArray).toList) ((((j1073 1 h1018)))) (∃ (x1022 : Option Addr) (x1022l : Nat) (x1022c : Nat), cell h1018 c3_1003 = some (.slice x1022 x1022l x1022c) ∧ chkP x1022 fun a1023 => (0 ≤ v6_1006 ∧ v6_1006 < (x1022l : Int)) ∧ ∃ (x1024 : ByteArray), cell h1018 (a1023.add (v6_1006.toNat * 1)) = some (.string x1024) ∧ (iteB (x1024.toList == (⟨#[98, 121, 116, 101, 115]⟩ : ByteArray).toList) ((((j1073 2 h1018)))) (let j1070 := (fun (y1029 : Bool) => iteB y1029 (∃ (x1030 : Option Addr) (x1030l : Nat) (x1030c : Nat), cell h1018 c3_1003 = some (.slice x1030 x1030l x1030c) ∧ chkP x1030 fun a1031 => (0 ≤ (1 : Int) ∧ (1 : Int) < (x1030l : Int)) ∧ ∃ (x1032 : ByteArray), cell h1018 (a1031.add ((1 : Int).toNat * 1)) = some (.string x1032) ∧ callP2 (straitref06_Parse x1032 h1018) fun x1033 x1034 h1035 => stC h1035 c4_1004 (.int .i64 x1033) fun h1036 => (((j1073 v5_1005 h1036)))) ((iteB (v5_1005 == (2 : Int)) (∃ (x1037 : Option Addr) (x1037l : Nat) (x1037c : Nat), cell h1018 c3_1003 = some (.slice x1037 x1037l x1037c) ∧ chkP x1037 fun a1038 => (0 ≤ v6_1006 ∧ v6_1006 < (x1037l : Int)) ∧ ∃ (x1039 : ByteArray), cell h1018 (a1038.add (v6_1006.toNat * 1)) = some (.string x1039) ∧ callP4 (straitref48_Bytes x1039 h1018) fun x1040 x1040l x1040c x1041 h1042 => stC h1042 (c4_1004.add 3) (.slice x1040 x1040l x1040c) fun h1043 => (((j1073 v5_1005 h1043)))) ((iteB (v5_1005 == (1 : Int)) (∃ (x1044 : Option Addr) (x1044l : Nat) (x1044c : Nat), cell h1018 (c4_1004.add 2) = some (.slice x1044 x1044l x1044c) ∧ ∃ (x1045 : Int), cell h1018 a1015 = some (.int .i64 x1045) ∧ newP h1018 (.cells #[(.int .i64 x1045)] 3) fun a1046 h1047 => ∃ n1052, cellsAt h1047 (some a1046) (1 * 1) n1052 ∧ appP 3 1 8 [(.int .i64 0)] x1044 x1044l x1044c 1 n1052 h1047 fun q1048 l1049 c1050 h1051 => stC h1051 (c4_1004.add 2) (.slice q1048 l1049 c1050) fun h1053 => (((j1073 v5_1005 h1053)))) (let j1069 := (fun (y1058 : Bool) => iteB y1058 (∃ (x1059 : Option Addr) (x1059l : Nat) (x1059c : Nat), cell h1018 (c4_1004.add 1) = some (.slice x1059 x1059l x1059c) ∧ ∃ (x1060 : Int), cell h1018 a1015 = some (.int .i64 x1060) ∧ newP h1018 (.cells #[(.int .i64 x1060)] 2) fun a1061 h1062 => ∃ n1067, cellsAt h1062 (some a1061) (1 * 1) n1067 ∧ appP 2 1 8 [(.int .i64 0)] x1059 x1059l x1059c 1 n1067 h1062 fun q1063 l1064 c1065 h1066 => stC h1066 (c4_1004.add 1) (.slice q1063 l1064 c1065) fun h1068 => (((j1073 v5_1005 h1068)))) ((((j1073 v5_1005 h1018)))));
  ∃ (x1054 : Int), cell h1018 (a1015.add 1) = some (.int .i64 x1054) ∧ iteB (x1054 == (0 : Int)) (iteB (decide (v6_1006 > (1 : Int))) ((j1069 true)) (∃ (x1055 : Option Addr) (x1055l : Nat) (x1055c : Nat), cell h1018 c3_1003 = some (.slice x1055 x1055l x1055c) ∧ chkP x1055 fun a1056 => (0 ≤ (0 : Int) ∧ (0 : Int) < (x1055l : Int)) ∧ ∃ (x1057 : ByteArray), cell h1018 (a1056.add ((0 : Int).toNat * 1)) = some (.string x1057) ∧ (j1069 (x1057.toList == (⟨#[111, 107]⟩ : ByteArray).toList)))) ((j1069 false))))))));
  ∃ (x1025 : Option Addr) (x1025l : Nat) (x1025c : Nat), cell h1018 c3_1003 = some (.slice x1025 x1025l x1025c) ∧ chkP x1025 fun a1026 => (0 ≤ v6_1006 ∧ v6_1006 < (x1025l : Int)) ∧ ∃ (x1027 : ByteArray), cell h1018 (a1026.add (v6_1006.toNat * 1)) = some (.string x1027) ∧ iteB (x1027.toList == (⟨#[101, 114, 114, 111, 114]⟩ : ByteArray).toList) (∃ (x1028 : Option Addr) (x1028l : Nat) (x1028c : Nat), cell h1018 c3_1003 = some (.slice x1028 x1028l x1028c) ∧ (j1070 (decide ((IntKind.i64.wrap (v6_1006 + 1)) < (x1028l : Int))))) ((j1070 false))))))))) (K2 h1007))
def straitref49_Parse.l0 (K2 : Heap → Prop) : Nat → ByteArray → Addr → Addr → Addr → Int → Int → Heap → Prop
  | 0, _, _, _, _, _, _, _ => False
  | m + 1, c0_1001, c2_1002, c3_1003, c4_1004, v5_1005, v6_1006, h => straitref49_Parse.b0 K2 (straitref49_Parse.l0 K2 m) c0_1001 c2_1002 c3_1003 c4_1004 v5_1005 v6_1006 h
def straitref49_Parse (a1 : ByteArray) (h : Heap) (K : Int → (Option Addr) → Nat → Nat → (Option Addr) → Nat → Nat → (Option Addr) → Nat → Nat → Bool → Heap → Prop) : Prop :=
  newP h (.cells #[(.int .i64 0), (.slice none 0 0), (.slice none 0 0), (.slice none 0 0), (.bool false)] 33) fun a2 h3 => (callP4 (straitref07_Words a1 h3) fun x4 x4l x4c x5 h6 => newP h6 (.cells #[(.slice none 0 0), (.bool false)] 54) fun a7 h8 => stC h8 a7 (.slice x4 x4l x4c) fun h9 => stC h9 (a7.add 1) (.bool x5) fun h10 => (∃ (x11 : Bool), cell h10 (a7.add 1) = some (.bool x11) ∧ (iteB (!x11) (stC h10 a2 (.int .i64 0) fun h12 => stC h12 (a2.add 1) (.slice none 0 0) fun h13 => stC h13 (a2.add 2) (.slice none 0 0) fun h14 => stC h14 (a2.add 3) (.slice none 0 0) fun h15 => stC h15 (a2.add 4) (.bool false) fun h16 => (∃ (x17 : Int), cell h16 a2 = some (.int .i64 x17) ∧ ∃ (x18 : Option Addr) (x18l : Nat) (x18c : Nat), cell h16 (a2.add 1) = some (.slice x18 x18l x18c) ∧ ∃ (x19 : Option Addr) (x19l : Nat) (x19c : Nat), cell h16 (a2.add 2) = some (.slice x19 x19l x19c) ∧ ∃ (x20 : Option Addr) (x20l : Nat) (x20c : Nat), cell h16 (a2.add 3) = some (.slice x20 x20l x20c) ∧ ∃ (x21 : Bool), cell h16 (a2.add 4) = some (.bool x21) ∧ K x17 x18 x18l x18c x19 x19l x19c x20 x20l x20c x21 h16)) ((newP h10 (.cells #[(.int .i64 0), (.slice none 0 0), (.slice none 0 0), (.slice none 0 0)] 31) fun a22 h23 => (((∃ m25, straitref49_Parse.l0 (fun h24 => ((∃ (x26 : Int), cell h24 a22 = some (.int .i64 x26) ∧ ∃ (x27 : Option Addr) (x27l : Nat) (x27c : Nat), cell h24 (a22.add 1) = some (.slice x27 x27l x27c) ∧ ∃ (x28 : Option Addr) (x28l : Nat) (x28c : Nat), cell h24 (a22.add 2) = some (.slice x28 x28l x28c) ∧ ∃ (x29 : Option Addr) (x29l : Nat) (x29c : Nat), cell h24 (a22.add 3) = some (.slice x29 x29l x29c) ∧ callP1 (straitref49_Print x26 x27 x27l x27c x28 x28l x28c x29 x29l x29c h24) fun x30 h31 => (iteB (!(x30.toList == a1.toList)) (stC h31 a2 (.int .i64 0) fun h32 => stC h32 (a2.add 1) (.slice none 0 0) fun h33 => stC h33 (a2.add 2) (.slice none 0 0) fun h34 => stC h34 (a2.add 3) (.slice none 0 0) fun h35 => stC h35 (a2.add 4) (.bool false) fun h36 => (∃ (x37 : Int), cell h36 a2 = some (.int .i64 x37) ∧ ∃ (x38 : Option Addr) (x38l : Nat) (x38c : Nat), cell h36 (a2.add 1) = some (.slice x38 x38l x38c) ∧ ∃ (x39 : Option Addr) (x39l : Nat) (x39c : Nat), cell h36 (a2.add 2) = some (.slice x39 x39l x39c) ∧ ∃ (x40 : Option Addr) (x40l : Nat) (x40c : Nat), cell h36 (a2.add 3) = some (.slice x40 x40l x40c) ∧ ∃ (x41 : Bool), cell h36 (a2.add 4) = some (.bool x41) ∧ K x37 x38 x38l x38c x39 x39l x39c x40 x40l x40c x41 h36)) ((∃ (x42 : Int), cell h31 a22 = some (.int .i64 x42) ∧ ∃ (x43 : Option Addr) (x43l : Nat) (x43c : Nat), cell h31 (a22.add 1) = some (.slice x43 x43l x43c) ∧ ∃ (x44 : Option Addr) (x44l : Nat) (x44c : Nat), cell h31 (a22.add 2) = some (.slice x44 x44l x44c) ∧ ∃ (x45 : Option Addr) (x45l : Nat) (x45c : Nat), cell h31 (a22.add 3) = some (.slice x45 x45l x45c) ∧ stC h31 a2 (.int .i64 x42) fun h46 => stC h46 (a2.add 1) (.slice x43 x43l x43c) fun h47 => stC h47 (a2.add 2) (.slice x44 x44l x44c) fun h48 => stC h48 (a2.add 3) (.slice x45 x45l x45c) fun h49 => stC h49 (a2.add 4) (.bool true) fun h50 => (∃ (x51 : Int), cell h50 a2 = some (.int .i64 x51) ∧ ∃ (x52 : Option Addr) (x52l : Nat) (x52c : Nat), cell h50 (a2.add 1) = some (.slice x52 x52l x52c) ∧ ∃ (x53 : Option Addr) (x53l : Nat) (x53c : Nat), cell h50 (a2.add 2) = some (.slice x53 x53l x53c) ∧ ∃ (x54 : Option Addr) (x54l : Nat) (x54c : Nat), cell h50 (a2.add 3) = some (.slice x54 x54l x54c) ∧ ∃ (x55 : Bool), cell h50 (a2.add 4) = some (.bool x55) ∧ K x51 x52 x52l x52c x53 x53l x53c x54 x54l x54c x55 h50))))))) m25 a1 a2 a7 a22 0 0 h23))))))))
def straitref49_Parse.ret (K : Int → (Option Addr) → Nat → Nat → (Option Addr) → Nat → Nat → (Option Addr) → Nat → Nat → Bool → Heap → Prop) (v : Value) (h : Heap) : Prop := match v with
  | (.agg ⟨[(.int .i64 r56), (.slice r57 r57l r57c), (.slice r58 r58l r58c), (.slice r59 r59l r59c), (.bool r60)]⟩) => K r56 r57 r57l r57c r58 r58l r58c r59 r59l r59c r60 h
  | _ => False
theorem straitref49_Parse.ret_elim {K : Int → (Option Addr) → Nat → Nat → (Option Addr) → Nat → Nat → (Option Addr) → Nat → Nat → Bool → Heap → Prop} {K' : Value → Heap → Prop} {v : Value} {h : Heap} (hk : ∀ r56 r57 r57l r57c r58 r58l r58c r59 r59l r59c r60 h, K r56 r57 r57l r57c r58 r58l r58c r59 r59l r59c r60 h → K' (.agg #[(.int .i64 r56), (.slice r57 r57l r57c), (.slice r58 r58l r58c), (.slice r59 r59l r59c), (.bool r60)]) h) (hh : straitref49_Parse.ret K v h) : K' v h := by
  unfold straitref49_Parse.ret at hh
  split at hh
  · exact hk _ _ _ _ _ _ _ _ _ _ _ _ hh
  · exact hh.elim
def straitref49_Parse.call (f : FuncId) (vs : List Value) (h : Heap) (K : Value → Heap → Prop) : Prop := match f, vs with
  | 18, [(.string a1)] => callP4 (straitref07_Words a1 h) fun r14 r14l r14c r15 h' => K (.agg #[(.slice r14 r14l r14c), (.bool r15)]) h'
  | 19, [(.string a1)] => callP2 (straitref06_Parse a1 h) fun r42 r43 h' => K (.agg #[(.int .i64 r42), (.int .i64 r43)]) h'
  | 20, [(.string a1)] => callP4 (straitref48_Bytes a1 h) fun r39 r39l r39c r40 h' => K (.agg #[(.slice r39 r39l r39c), (.bool r40)]) h'
  | 21, [(.int .i64 a1), (.slice a2 a2l a2c), (.slice a3 a3l a3c), (.slice a4 a4l a4c)] => callP1 (straitref49_Print a1 a2 a2l a2c a3 a3l a3c a4 a4l a4c h) fun r20 h' => K (.string r20) h'
  | _, _ => False
def straitref49_Parse.r0 (K : Nat → List Value → Heap → Prop) (m : Nat) (vs : List Value) (h : Heap) : Prop := match vs with
  | [(.string c0_1001), (.pointer (some c2_1002)), (.pointer (some c3_1003)), (.pointer (some c4_1004)), (.int .i64 v5_1005), (.int .i64 v6_1006)] => straitref49_Parse.l0 (fun h' => K 2 [(.string c0_1001), (.pointer (some c2_1002)), (.pointer (some c4_1004))] h') m c0_1001 c2_1002 c3_1003 c4_1004 v5_1005 v6_1006 h
  | _ => False
def straitref49_Parse.loop (i : Nat) (vs : List Value) (h : Heap) (K : Nat → List Value → Heap → Prop) : Prop := match i with
  | 0 => ∃ m, straitref49_Parse.r0 K m vs h
  | _ => False
noncomputable def straitref49_Parse.ctx : Ctx := { P := Tryz.prog, call := straitref49_Parse.call, qcall := fun _ _ _ _ => False, quiet := fun f => Nat.beq f 2000025, loop := straitref49_Parse.loop }
theorem straitref49_Parse.ok : straitref49_Parse.ctx.OK where
  mixed := by kernel_rfl
  mono := by
    intro f args h K K' hh hk
    change straitref49_Parse.call f args h K at hh
    change straitref49_Parse.call f args h K'
    unfold straitref49_Parse.call at hh ⊢
    split at hh
    · obtain ⟨R, h1, h2⟩ := hh
      exact ⟨R, h1, fun _ _ _ _ x hr => hk _ _ (h2 _ _ _ _ x hr)⟩
    · obtain ⟨R, h1, h2⟩ := hh
      exact ⟨R, h1, fun _ _ x hr => hk _ _ (h2 _ _ x hr)⟩
    · obtain ⟨R, h1, h2⟩ := hh
      exact ⟨R, h1, fun _ _ _ _ x hr => hk _ _ (h2 _ _ _ _ x hr)⟩
    · obtain ⟨R, h1, h2⟩ := hh
      exact ⟨R, h1, fun _ x hr => hk _ _ (h2 _ x hr)⟩
    · exact hh.elim
  call := by
    intro f args h K hh w hw
    change straitref49_Parse.call f args h K at hh
    unfold straitref49_Parse.call at hh
    split at hh
    · obtain ⟨R, h1, h2⟩ := hh
      obtain ⟨g1, g2⟩ := straitref07_Words.calls h1 w hw
      exact ⟨g1, g2.mono fun e w' ⟨v, he, ho, hr⟩ => ⟨v, he, ho, straitref07_Words.ret_elim h2 hr⟩⟩
    · obtain ⟨R, h1, h2⟩ := hh
      obtain ⟨g1, g2⟩ := straitref06_Parse.calls h1 w hw
      exact ⟨g1, g2.mono fun e w' ⟨v, he, ho, hr⟩ => ⟨v, he, ho, straitref06_Parse.ret_elim h2 hr⟩⟩
    · obtain ⟨R, h1, h2⟩ := hh
      obtain ⟨g1, g2⟩ := straitref48_Bytes.calls h1 w hw
      exact ⟨g1, g2.mono fun e w' ⟨v, he, ho, hr⟩ => ⟨v, he, ho, straitref48_Bytes.ret_elim h2 hr⟩⟩
    · obtain ⟨R, h1, h2⟩ := hh
      obtain ⟨g1, g2⟩ := straitref49_Print.calls h1 w hw
      exact ⟨g1, g2.mono fun e w' ⟨v, he, ho, hr⟩ => ⟨v, he, ho, straitref49_Print.ret_elim h2 hr⟩⟩
    · exact hh.elim
  qmono := fun hh _ => hh.elim
  qval := fun hh => hh.elim
  qcall := fun hh => hh.elim
noncomputable def straitref49_Parse.code : Code := (Tryz.f6.body).getD .skip
def straitref49_Parse.ann : Ann := (.two .auto (.two .auto (.two .auto (.two .auto (.two .auto (.two (.two .auto (.two (.loop 0 [0, 2, 3, 4, 5, 6] [(2, [0, 2, 4])] .auto) .auto)) .auto))))))
noncomputable def straitref49_Parse.c0 : Code := sub straitref49_Parse.code [1, 1, 1, 1, 1, 0, 1, 0, 0]
def straitref49_Parse.a0 : Ann := .auto
def straitref49_Parse.keep0 : List Nat := [0, 2, 3, 4, 5, 6]
def straitref49_Parse.outs0 : List (Nat × List Nat) := [(2, [0, 2, 4])]
set_option maxRecDepth 100000 in
theorem straitref49_Parse.L0 : LoopOK straitref49_Parse.ctx 120 straitref49_Parse.c0 0 straitref49_Parse.keep0 straitref49_Parse.outs0 := by
  refine loop_ok (n := straitref49_Parse.a0) straitref49_Parse.ok (by kernel_rfl) (loops_ok (l := []) (by kernel_rfl) ?_) straitref49_Parse.r0 ?_ ?_ (fun vs h K hh => hh)
  · exact trivial
  · intro K vs h hh
    unfold straitref49_Parse.r0 at hh
    split at hh
    · exact hh
    · exact hh
  · intro K m vs h hh
    unfold straitref49_Parse.r0 at hh
    split at hh
    · exact cast (by kernel_rfl) hh
    · exact hh.elim
set_option maxRecDepth 100000 in
theorem straitref49_Parse.eq (a1 : ByteArray) (h : Heap) (K : Int → (Option Addr) → Nat → Nat → (Option Addr) → Nat → Nat → (Option Addr) → Nat → Nat → Bool → Heap → Prop) : evF straitref49_Parse.ctx Tryz.f6 straitref49_Parse.ann [(.string a1)] h (straitref49_Parse.ret K) = straitref49_Parse a1 h K := by kernel_rfl
set_option maxRecDepth 100000 in
theorem straitref49_Parse.calls {a1 : ByteArray} {h : Heap} {K : Int → (Option Addr) → Nat → Nat → (Option Addr) → Nat → Nat → (Option Addr) → Nat → Nat → Bool → Heap → Prop} (hh : straitref49_Parse a1 h K) (w : World) (hw : w.heap = h) :
    (callFunc 6 #[(.string a1)]).run Tryz.prog w = .ok (.enter 6 #[(.string a1)]) w ∧ Calls Tryz.prog 6 #[(.string a1)] w fun e w' => ∃ v, e = .returned v ∧ Out w w' ∧ straitref49_Parse.ret K v w'.heap := by
  rw [← straitref49_Parse.eq] at hh
  exact fn_calls (args := [(.string a1)]) (c := straitref49_Parse.code) straitref49_Parse.ok Tryz.func6 (by kernel_rfl) (by kernel_rfl) (by kernel_rfl) (by kernel_rfl) (loops_ok (l := [(straitref49_Parse.c0, none, 0, straitref49_Parse.keep0, straitref49_Parse.outs0)]) (by kernel_rfl) ⟨straitref49_Parse.L0, trivial⟩) hh w hw
end

/-! ### strait/straitref04.Same: function 25 -/
def straitref04_Same.b0 (K0 : Bool → Heap → Prop) (K2 : Heap → Prop) (cont : (Option Addr) → Nat → Nat → (Option Addr) → Nat → Nat → Int → Heap → Prop) (c0_1001 : Option Addr) (c0_1002 : Nat) (c0_1003 : Nat) (c1_1004 : Option Addr) (c1_1005 : Nat) (c1_1006 : Nat) (v5_1007 : Int) (h1008 : Heap) : Prop :=
  (iteB (decide (v5_1007 < (c0_1002 : Int))) ((chkP c0_1001 fun a1009 => (0 ≤ v5_1007 ∧ v5_1007 < (c0_1002 : Int)) ∧ ∃ (x1010 : Int), cell h1008 (a1009.add (v5_1007.toNat * 1)) = some (.int .i64 x1010) ∧ chkP c1_1004 fun a1011 => (0 ≤ v5_1007 ∧ v5_1007 < (c1_1005 : Int)) ∧ ∃ (x1012 : Int), cell h1008 (a1011.add (v5_1007.toNat * 1)) = some (.int .i64 x1012) ∧ (iteB (x1010 != x1012) (K0 false h1008) (((cont c0_1001 c0_1002 c0_1003 c1_1004 c1_1005 c1_1006 (IntKind.i64.wrap (v5_1007 + 1)) h1008)))))) (K2 h1008))
def straitref04_Same.l0 (K0 : Bool → Heap → Prop) (K2 : Heap → Prop) : Nat → (Option Addr) → Nat → Nat → (Option Addr) → Nat → Nat → Int → Heap → Prop
  | 0, _, _, _, _, _, _, _, _ => False
  | m + 1, c0_1001, c0_1002, c0_1003, c1_1004, c1_1005, c1_1006, v5_1007, h => straitref04_Same.b0 K0 K2 (straitref04_Same.l0 K0 K2 m) c0_1001 c0_1002 c0_1003 c1_1004 c1_1005 c1_1006 v5_1007 h
def straitref04_Same (a1 : Option Addr) (a1l : Nat) (a1c : Nat) (a2 : Option Addr) (a2l : Nat) (a2c : Nat) (h : Heap) (K : Bool → Heap → Prop) : Prop :=
  ((iteB ((a1l : Int) != (a2l : Int)) (K false h) (((∃ m6, straitref04_Same.l0 (fun z3 h4 => K z3 h4) (fun h5 => (K true h5)) m6 a1 a1l a1c a2 a2l a2c 0 h)))))
def straitref04_Same.ret (K : Bool → Heap → Prop) (v : Value) (h : Heap) : Prop := match v with
  | (.bool r7) => K r7 h
  | _ => False
theorem straitref04_Same.ret_elim {K : Bool → Heap → Prop} {K' : Value → Heap → Prop} {v : Value} {h : Heap} (hk : ∀ r7 h, K r7 h → K' (.bool r7) h) (hh : straitref04_Same.ret K v h) : K' v h := by
  unfold straitref04_Same.ret at hh
  split at hh
  · exact hk _ _ hh
  · exact hh.elim
def straitref04_Same.r0 (K : Nat → List Value → Heap → Prop) (m : Nat) (vs : List Value) (h : Heap) : Prop := match vs with
  | [(.slice c0_1001 c0_1002 c0_1003), (.slice c1_1004 c1_1005 c1_1006), (.int .i64 v5_1007)] => straitref04_Same.l0 (fun z8 h' => K 0 [(.bool z8)] h') (fun h' => K 2 [] h') m c0_1001 c0_1002 c0_1003 c1_1004 c1_1005 c1_1006 v5_1007 h
  | _ => False
def straitref04_Same.loop (i : Nat) (vs : List Value) (h : Heap) (K : Nat → List Value → Heap → Prop) : Prop := match i with
  | 0 => ∃ m, straitref04_Same.r0 K m vs h
  | _ => False
noncomputable def straitref04_Same.ctx : Ctx := { P := Tryz.prog, call := fun _ _ _ _ => False, qcall := fun _ _ _ _ => False, quiet := fun f => Nat.beq f 2000025, loop := straitref04_Same.loop }
theorem straitref04_Same.ok [DKc] : straitref04_Same.ctx.OK where
  mixed := by kernel_rfl
  mono := fun hh _ => hh.elim
  call := fun hh => hh.elim
  qmono := fun hh _ => hh.elim
  qval := fun hh => hh.elim
  qcall := fun hh => hh.elim
noncomputable def straitref04_Same.code : Code := (Tryz.f25.body).getD .skip
def straitref04_Same.ann : Ann := (.two .auto (.two .auto (.two (.two .auto (.two (.loop 0 [0, 1, 5] [(2, []), (0, [4])] (.two .auto (.two (.two (.two (.reg [0, 0, 3, 7, 0, 0, 48, 112, 255] (.take 0 (.take 1 (.take 2 (.take 3 (.take 4 (.take 5 (.take 6 (.take 7 (.take 8 .done)))))))))) .auto) .auto) .auto))) .auto)) .auto)))
noncomputable def straitref04_Same.c0 : Code := sub straitref04_Same.code [1, 1, 0, 1, 0, 0]
def straitref04_Same.a0 : Ann := (.two .auto (.two (.two (.two (.reg [0, 0, 3, 7, 0, 0, 48, 112, 255] (.take 0 (.take 1 (.take 2 (.take 3 (.take 4 (.take 5 (.take 6 (.take 7 (.take 8 .done)))))))))) .auto) .auto) .auto))
def straitref04_Same.keep0 : List Nat := [0, 1, 5]
def straitref04_Same.outs0 : List (Nat × List Nat) := [(2, []), (0, [4])]
set_option maxRecDepth 100000 in
theorem straitref04_Same.L0 [DKc] : LoopOK straitref04_Same.ctx 26 straitref04_Same.c0 0 straitref04_Same.keep0 straitref04_Same.outs0 := by
  refine loop_ok (n := straitref04_Same.a0) straitref04_Same.ok (by kernel_rfl) (loops_ok (l := []) (by kernel_rfl) ?_) straitref04_Same.r0 ?_ ?_ (fun vs h K hh => hh)
  · exact trivial
  · intro K vs h hh
    unfold straitref04_Same.r0 at hh
    split at hh
    · exact hh
    · exact hh
  · intro K m vs h hh
    unfold straitref04_Same.r0 at hh
    split at hh
    · exact cast (by kernel_rfl) hh
    · exact hh.elim
set_option maxRecDepth 100000 in
theorem straitref04_Same.eq (a1 : Option Addr) (a1l : Nat) (a1c : Nat) (a2 : Option Addr) (a2l : Nat) (a2c : Nat) (h : Heap) (K : Bool → Heap → Prop) : evF straitref04_Same.ctx Tryz.f25 straitref04_Same.ann [(.slice a1 a1l a1c), (.slice a2 a2l a2c)] h (straitref04_Same.ret K) = straitref04_Same a1 a1l a1c a2 a2l a2c h K := by kernel_rfl
set_option maxRecDepth 100000 in
theorem straitref04_Same.calls [DKc] {a1 : Option Addr} {a1l : Nat} {a1c : Nat} {a2 : Option Addr} {a2l : Nat} {a2c : Nat} {h : Heap} {K : Bool → Heap → Prop} (hh : straitref04_Same a1 a1l a1c a2 a2l a2c h K) (w : World) (hw : w.heap = h) :
    (callFunc 25 #[(.slice a1 a1l a1c), (.slice a2 a2l a2c)]).run Tryz.prog w = .ok (.enter 25 #[(.slice a1 a1l a1c), (.slice a2 a2l a2c)]) w ∧ Calls Tryz.prog 25 #[(.slice a1 a1l a1c), (.slice a2 a2l a2c)] w fun e w' => ∃ v, e = .returned v ∧ Out w w' ∧ straitref04_Same.ret K v w'.heap := by
  rw [← straitref04_Same.eq] at hh
  exact fn_calls (args := [(.slice a1 a1l a1c), (.slice a2 a2l a2c)]) (c := straitref04_Same.code) straitref04_Same.ok Tryz.func25 (by kernel_rfl) (by kernel_rfl) (by kernel_rfl) (by kernel_rfl) (loops_ok (l := [(straitref04_Same.c0, none, 0, straitref04_Same.keep0, straitref04_Same.outs0)]) (by kernel_rfl) ⟨straitref04_Same.L0, trivial⟩) hh w hw

/-! ### strait/straitref09.Ints: function 26 -/
def straitref09_Ints.b0 (K0 : Bool → Heap → Prop) (K2 : Heap → Prop) (cont : (Option Addr) → Nat → Nat → (Option Addr) → Nat → Nat → Int → Heap → Prop) (c0_1001 : Option Addr) (c0_1002 : Nat) (c0_1003 : Nat) (c1_1004 : Option Addr) (c1_1005 : Nat) (c1_1006 : Nat) (v5_1007 : Int) (h1008 : Heap) : Prop :=
  (iteB (decide (v5_1007 < (c0_1002 : Int))) ((chkP c0_1001 fun a1009 => (0 ≤ v5_1007 ∧ v5_1007 < (c0_1002 : Int)) ∧ ∃ (x1010 : Int), cell h1008 (a1009.add (v5_1007.toNat * 1)) = some (.int .i64 x1010) ∧ chkP c1_1004 fun a1011 => (0 ≤ v5_1007 ∧ v5_1007 < (c1_1005 : Int)) ∧ ∃ (x1012 : Int), cell h1008 (a1011.add (v5_1007.toNat * 1)) = some (.int .i64 x1012) ∧ (iteB (x1010 != x1012) (K0 false h1008) (((cont c0_1001 c0_1002 c0_1003 c1_1004 c1_1005 c1_1006 (IntKind.i64.wrap (v5_1007 + 1)) h1008)))))) (K2 h1008))
def straitref09_Ints.l0 (K0 : Bool → Heap → Prop) (K2 : Heap → Prop) : Nat → (Option Addr) → Nat → Nat → (Option Addr) → Nat → Nat → Int → Heap → Prop
  | 0, _, _, _, _, _, _, _, _ => False
  | m + 1, c0_1001, c0_1002, c0_1003, c1_1004, c1_1005, c1_1006, v5_1007, h => straitref09_Ints.b0 K0 K2 (straitref09_Ints.l0 K0 K2 m) c0_1001 c0_1002 c0_1003 c1_1004 c1_1005 c1_1006 v5_1007 h
def straitref09_Ints (a1 : Option Addr) (a1l : Nat) (a1c : Nat) (a2 : Option Addr) (a2l : Nat) (a2c : Nat) (h : Heap) (K : Bool → Heap → Prop) : Prop :=
  ((iteB ((a1l : Int) != (a2l : Int)) (K false h) (((∃ m6, straitref09_Ints.l0 (fun z3 h4 => K z3 h4) (fun h5 => (K true h5)) m6 a1 a1l a1c a2 a2l a2c 0 h)))))
def straitref09_Ints.ret (K : Bool → Heap → Prop) (v : Value) (h : Heap) : Prop := match v with
  | (.bool r7) => K r7 h
  | _ => False
theorem straitref09_Ints.ret_elim {K : Bool → Heap → Prop} {K' : Value → Heap → Prop} {v : Value} {h : Heap} (hk : ∀ r7 h, K r7 h → K' (.bool r7) h) (hh : straitref09_Ints.ret K v h) : K' v h := by
  unfold straitref09_Ints.ret at hh
  split at hh
  · exact hk _ _ hh
  · exact hh.elim
def straitref09_Ints.r0 (K : Nat → List Value → Heap → Prop) (m : Nat) (vs : List Value) (h : Heap) : Prop := match vs with
  | [(.slice c0_1001 c0_1002 c0_1003), (.slice c1_1004 c1_1005 c1_1006), (.int .i64 v5_1007)] => straitref09_Ints.l0 (fun z8 h' => K 0 [(.bool z8)] h') (fun h' => K 2 [] h') m c0_1001 c0_1002 c0_1003 c1_1004 c1_1005 c1_1006 v5_1007 h
  | _ => False
def straitref09_Ints.loop (i : Nat) (vs : List Value) (h : Heap) (K : Nat → List Value → Heap → Prop) : Prop := match i with
  | 0 => ∃ m, straitref09_Ints.r0 K m vs h
  | _ => False
noncomputable def straitref09_Ints.ctx : Ctx := { P := Tryz.prog, call := fun _ _ _ _ => False, qcall := fun _ _ _ _ => False, quiet := fun f => Nat.beq f 2000025, loop := straitref09_Ints.loop }
theorem straitref09_Ints.ok [DKc] : straitref09_Ints.ctx.OK where
  mixed := by kernel_rfl
  mono := fun hh _ => hh.elim
  call := fun hh => hh.elim
  qmono := fun hh _ => hh.elim
  qval := fun hh => hh.elim
  qcall := fun hh => hh.elim
noncomputable def straitref09_Ints.code : Code := (Tryz.f26.body).getD .skip
def straitref09_Ints.ann : Ann := (.two .auto (.two .auto (.two (.two .auto (.two (.loop 0 [0, 1, 5] [(2, []), (0, [4])] (.two .auto (.two (.two (.two (.reg [0, 0, 3, 7, 0, 0, 48, 112, 255] (.take 0 (.take 1 (.take 2 (.take 3 (.take 4 (.take 5 (.take 6 (.take 7 (.take 8 .done)))))))))) .auto) .auto) .auto))) .auto)) .auto)))
noncomputable def straitref09_Ints.c0 : Code := sub straitref09_Ints.code [1, 1, 0, 1, 0, 0]
def straitref09_Ints.a0 : Ann := (.two .auto (.two (.two (.two (.reg [0, 0, 3, 7, 0, 0, 48, 112, 255] (.take 0 (.take 1 (.take 2 (.take 3 (.take 4 (.take 5 (.take 6 (.take 7 (.take 8 .done)))))))))) .auto) .auto) .auto))
def straitref09_Ints.keep0 : List Nat := [0, 1, 5]
def straitref09_Ints.outs0 : List (Nat × List Nat) := [(2, []), (0, [4])]
set_option maxRecDepth 100000 in
theorem straitref09_Ints.L0 [DKc] : LoopOK straitref09_Ints.ctx 26 straitref09_Ints.c0 0 straitref09_Ints.keep0 straitref09_Ints.outs0 := by
  refine loop_ok (n := straitref09_Ints.a0) straitref09_Ints.ok (by kernel_rfl) (loops_ok (l := []) (by kernel_rfl) ?_) straitref09_Ints.r0 ?_ ?_ (fun vs h K hh => hh)
  · exact trivial
  · intro K vs h hh
    unfold straitref09_Ints.r0 at hh
    split at hh
    · exact hh
    · exact hh
  · intro K m vs h hh
    unfold straitref09_Ints.r0 at hh
    split at hh
    · exact cast (by kernel_rfl) hh
    · exact hh.elim
set_option maxRecDepth 100000 in
theorem straitref09_Ints.eq (a1 : Option Addr) (a1l : Nat) (a1c : Nat) (a2 : Option Addr) (a2l : Nat) (a2c : Nat) (h : Heap) (K : Bool → Heap → Prop) : evF straitref09_Ints.ctx Tryz.f26 straitref09_Ints.ann [(.slice a1 a1l a1c), (.slice a2 a2l a2c)] h (straitref09_Ints.ret K) = straitref09_Ints a1 a1l a1c a2 a2l a2c h K := by kernel_rfl
set_option maxRecDepth 100000 in
theorem straitref09_Ints.calls [DKc] {a1 : Option Addr} {a1l : Nat} {a1c : Nat} {a2 : Option Addr} {a2l : Nat} {a2c : Nat} {h : Heap} {K : Bool → Heap → Prop} (hh : straitref09_Ints a1 a1l a1c a2 a2l a2c h K) (w : World) (hw : w.heap = h) :
    (callFunc 26 #[(.slice a1 a1l a1c), (.slice a2 a2l a2c)]).run Tryz.prog w = .ok (.enter 26 #[(.slice a1 a1l a1c), (.slice a2 a2l a2c)]) w ∧ Calls Tryz.prog 26 #[(.slice a1 a1l a1c), (.slice a2 a2l a2c)] w fun e w' => ∃ v, e = .returned v ∧ Out w w' ∧ straitref09_Ints.ret K v w'.heap := by
  rw [← straitref09_Ints.eq] at hh
  exact fn_calls (args := [(.slice a1 a1l a1c), (.slice a2 a2l a2c)]) (c := straitref09_Ints.code) straitref09_Ints.ok Tryz.func26 (by kernel_rfl) (by kernel_rfl) (by kernel_rfl) (by kernel_rfl) (loops_ok (l := [(straitref09_Ints.c0, none, 0, straitref09_Ints.keep0, straitref09_Ints.outs0)]) (by kernel_rfl) ⟨straitref09_Ints.L0, trivial⟩) hh w hw

/-! ### strait/straitref49.Same: function 8 -/
def straitref49_Same (a1 : Int) (a2 : Option Addr) (a2l : Nat) (a2c : Nat) (a3 : Option Addr) (a3l : Nat) (a3c : Nat) (a4 : Option Addr) (a4l : Nat) (a4c : Nat) (a5 : Int) (a6 : Option Addr) (a6l : Nat) (a6c : Nat) (a7 : Option Addr) (a7l : Nat) (a7c : Nat) (a8 : Option Addr) (a8l : Nat) (a8c : Nat) (h : Heap) (K : Bool → Heap → Prop) : Prop :=
  newP h (.cells #[(.int .i64 a1), (.slice a2 a2l a2c), (.slice a3 a3l a3c), (.slice a4 a4l a4c)] 31) fun a9 h10 => newP h10 (.cells #[(.int .i64 a5), (.slice a6 a6l a6c), (.slice a7 a7l a7c), (.slice a8 a8l a8c)] 31) fun a11 h12 => (∃ (x13 : Int), cell h12 a9 = some (.int .i64 x13) ∧ ∃ (x14 : Int), cell h12 a11 = some (.int .i64 x14) ∧ iteB (x13 == x14) (∃ (x15 : Option Addr) (x15l : Nat) (x15c : Nat), cell h12 (a9.add 1) = some (.slice x15 x15l x15c) ∧ ∃ (x16 : Option Addr) (x16l : Nat) (x16c : Nat), cell h12 (a11.add 1) = some (.slice x16 x16l x16c) ∧ qcallP1 h12 (straitref04_Same x15 x15l x15c x16 x16l x16c h12) fun x17 => iteB x17 (∃ (x18 : Option Addr) (x18l : Nat) (x18c : Nat), cell h12 (a9.add 2) = some (.slice x18 x18l x18c) ∧ ∃ (x19 : Option Addr) (x19l : Nat) (x19c : Nat), cell h12 (a11.add 2) = some (.slice x19 x19l x19c) ∧ qcallP1 h12 (straitref09_Ints x18 x18l x18c x19 x19l x19c h12) fun x20 => iteB x20 (∃ (x21 : Option Addr) (x21l : Nat) (x21c : Nat), cell h12 (a9.add 3) = some (.slice x21 x21l x21c) ∧ ∃ l22 : List UInt8, bytesAt h12 x21 x21l l22 ∧ ∃ (x23 : Option Addr) (x23l : Nat) (x23c : Nat), cell h12 (a11.add 3) = some (.slice x23 x23l x23c) ∧ ∃ l24 : List UInt8, bytesAt h12 x23 x23l l24 ∧ (K ((⟨l22.toArray⟩ : ByteArray).toList == (⟨l24.toArray⟩ : ByteArray).toList) h12)) (K false h12)) (K false h12)) (K false h12))
def straitref49_Same.ret (K : Bool → Heap → Prop) (v : Value) (h : Heap) : Prop := match v with
  | (.bool r26) => K r26 h
  | _ => False
theorem straitref49_Same.ret_elim {K : Bool → Heap → Prop} {K' : Value → Heap → Prop} {v : Value} {h : Heap} (hk : ∀ r26 h, K r26 h → K' (.bool r26) h) (hh : straitref49_Same.ret K v h) : K' v h := by
  unfold straitref49_Same.ret at hh
  split at hh
  · exact hk _ _ hh
  · exact hh.elim
def straitref49_Same.qcall (f : FuncId) (vs : List Value) (h : Heap) (K : Value → Prop) : Prop := match f, vs with
  | 25, [(.slice a1 a1l a1c), (.slice a2 a2l a2c)] => qcallP1 h (straitref04_Same a1 a1l a1c a2 a2l a2c h) fun r7 => K (.bool r7)
  | 26, [(.slice a1 a1l a1c), (.slice a2 a2l a2c)] => qcallP1 h (straitref09_Ints a1 a1l a1c a2 a2l a2c h) fun r7 => K (.bool r7)
  | _, _ => False
noncomputable def straitref49_Same.ctx : Ctx := { P := Tryz.prog, call := fun _ _ _ _ => False, qcall := straitref49_Same.qcall, quiet := fun f => Nat.beq f 25 || Nat.beq f 26 || Nat.beq f 2000025, loop := fun _ _ _ _ => False }
theorem straitref49_Same.ok [DKc] : straitref49_Same.ctx.OK where
  mixed := by kernel_rfl
  mono := fun hh _ => hh.elim
  call := fun hh => hh.elim
  qmono := by
    intro f args h K K' hh hk
    change straitref49_Same.qcall f args h K at hh
    change straitref49_Same.qcall f args h K'
    unfold straitref49_Same.qcall at hh ⊢
    split at hh
    · obtain ⟨x0, h1, h2⟩ := hh
      exact ⟨x0, h1, hk _ h2⟩
    · obtain ⟨x0, h1, h2⟩ := hh
      exact ⟨x0, h1, hk _ h2⟩
    · exact hh.elim
  qval := by
    intro f args h K hh
    change straitref49_Same.qcall f args h K at hh
    suffices H : ∃ v, K v ∧ straitref49_Same.qcall f args h (· = v) from H
    unfold straitref49_Same.qcall at hh ⊢
    split at hh
    · obtain ⟨x0, h1, h2⟩ := hh
      exact ⟨_, h2, x0, h1, rfl⟩
    · obtain ⟨x0, h1, h2⟩ := hh
      exact ⟨_, h2, x0, h1, rfl⟩
    · exact hh.elim
  qcall := by
    intro f args h v hh w hw
    change straitref49_Same.qcall f args h (· = v) at hh
    unfold straitref49_Same.qcall at hh
    split at hh
    · obtain ⟨x0, h1, h2⟩ := hh
      obtain ⟨g1, g2⟩ := straitref04_Same.calls h1 w hw
      refine .inl ⟨g1, g2.mono fun e w' ⟨u, he, ho, hr⟩ => ?_⟩
      have hq := straitref04_Same.ret_elim (K' := fun u h' => u = v ∧ h' = h) (fun _ h' hr => by obtain ⟨rfl, rfl⟩ := hr; exact ⟨h2, rfl⟩) hr
      exact ⟨hq.1 ▸ he, ho, hq.2⟩
    · obtain ⟨x0, h1, h2⟩ := hh
      obtain ⟨g1, g2⟩ := straitref09_Ints.calls h1 w hw
      refine .inl ⟨g1, g2.mono fun e w' ⟨u, he, ho, hr⟩ => ?_⟩
      have hq := straitref09_Ints.ret_elim (K' := fun u h' => u = v ∧ h' = h) (fun _ h' hr => by obtain ⟨rfl, rfl⟩ := hr; exact ⟨h2, rfl⟩) hr
      exact ⟨hq.1 ▸ he, ho, hq.2⟩
    · exact hh.elim
noncomputable def straitref49_Same.code : Code := (Tryz.f8.body).getD .skip
def straitref49_Same.ann : Ann := .auto
set_option maxRecDepth 100000 in
theorem straitref49_Same.eq (a1 : Int) (a2 : Option Addr) (a2l : Nat) (a2c : Nat) (a3 : Option Addr) (a3l : Nat) (a3c : Nat) (a4 : Option Addr) (a4l : Nat) (a4c : Nat) (a5 : Int) (a6 : Option Addr) (a6l : Nat) (a6c : Nat) (a7 : Option Addr) (a7l : Nat) (a7c : Nat) (a8 : Option Addr) (a8l : Nat) (a8c : Nat) (h : Heap) (K : Bool → Heap → Prop) : evF straitref49_Same.ctx Tryz.f8 straitref49_Same.ann [(.agg #[(.int .i64 a1), (.slice a2 a2l a2c), (.slice a3 a3l a3c), (.slice a4 a4l a4c)]), (.agg #[(.int .i64 a5), (.slice a6 a6l a6c), (.slice a7 a7l a7c), (.slice a8 a8l a8c)])] h (straitref49_Same.ret K) = straitref49_Same a1 a2 a2l a2c a3 a3l a3c a4 a4l a4c a5 a6 a6l a6c a7 a7l a7c a8 a8l a8c h K := by kernel_rfl
set_option maxRecDepth 100000 in
theorem straitref49_Same.calls [DKc] {a1 : Int} {a2 : Option Addr} {a2l : Nat} {a2c : Nat} {a3 : Option Addr} {a3l : Nat} {a3c : Nat} {a4 : Option Addr} {a4l : Nat} {a4c : Nat} {a5 : Int} {a6 : Option Addr} {a6l : Nat} {a6c : Nat} {a7 : Option Addr} {a7l : Nat} {a7c : Nat} {a8 : Option Addr} {a8l : Nat} {a8c : Nat} {h : Heap} {K : Bool → Heap → Prop} (hh : straitref49_Same a1 a2 a2l a2c a3 a3l a3c a4 a4l a4c a5 a6 a6l a6c a7 a7l a7c a8 a8l a8c h K) (w : World) (hw : w.heap = h) :
    (callFunc 8 #[(.agg #[(.int .i64 a1), (.slice a2 a2l a2c), (.slice a3 a3l a3c), (.slice a4 a4l a4c)]), (.agg #[(.int .i64 a5), (.slice a6 a6l a6c), (.slice a7 a7l a7c), (.slice a8 a8l a8c)])]).run Tryz.prog w = .ok (.enter 8 #[(.agg #[(.int .i64 a1), (.slice a2 a2l a2c), (.slice a3 a3l a3c), (.slice a4 a4l a4c)]), (.agg #[(.int .i64 a5), (.slice a6 a6l a6c), (.slice a7 a7l a7c), (.slice a8 a8l a8c)])]) w ∧ Calls Tryz.prog 8 #[(.agg #[(.int .i64 a1), (.slice a2 a2l a2c), (.slice a3 a3l a3c), (.slice a4 a4l a4c)]), (.agg #[(.int .i64 a5), (.slice a6 a6l a6c), (.slice a7 a7l a7c), (.slice a8 a8l a8c)])] w fun e w' => ∃ v, e = .returned v ∧ Out w w' ∧ straitref49_Same.ret K v w'.heap := by
  rw [← straitref49_Same.eq] at hh
  exact fn_calls (args := [(.agg #[(.int .i64 a1), (.slice a2 a2l a2c), (.slice a3 a3l a3c), (.slice a4 a4l a4c)]), (.agg #[(.int .i64 a5), (.slice a6 a6l a6c), (.slice a7 a7l a7c), (.slice a8 a8l a8c)])]) (c := straitref49_Same.code) straitref49_Same.ok Tryz.func8 (by kernel_rfl) (by kernel_rfl) (by kernel_rfl) (by kernel_rfl) (loops_ok (l := []) (by kernel_rfl) trivial) hh w hw

/-! ### slices.Equal[[]int64,int64]: function 27 -/
def slices_Equal_Lint64_int64.b0 (K0 : Bool → Heap → Prop) (K2 : Heap → Prop) (cont : (Option Addr) → Nat → Nat → (Option Addr) → Nat → Nat → Int → Int → Heap → Prop) (c0_1001 : Option Addr) (c0_1002 : Nat) (c0_1003 : Nat) (c1_1004 : Option Addr) (c1_1005 : Nat) (c1_1006 : Nat) (c12_1007 : Int) (v13_1008 : Int) (h1009 : Heap) : Prop :=
  (iteB (decide (v13_1008 < c12_1007)) (((chkP c0_1001 fun a1010 => (0 ≤ v13_1008 ∧ v13_1008 < (c0_1002 : Int)) ∧ ∃ (x1011 : Int), cell h1009 (a1010.add (v13_1008.toNat * 1)) = some (.int .i64 x1011) ∧ chkP c1_1004 fun a1012 => (0 ≤ v13_1008 ∧ v13_1008 < (c1_1005 : Int)) ∧ ∃ (x1013 : Int), cell h1009 (a1012.add (v13_1008.toNat * 1)) = some (.int .i64 x1013) ∧ (iteB (x1011 != x1013) (K0 false h1009) (((cont c0_1001 c0_1002 c0_1003 c1_1004 c1_1005 c1_1006 c12_1007 (IntKind.i64.wrap (v13_1008 + 1)) h1009))))))) (K2 h1009))
def slices_Equal_Lint64_int64.l0 (K0 : Bool → Heap → Prop) (K2 : Heap → Prop) : Nat → (Option Addr) → Nat → Nat → (Option Addr) → Nat → Nat → Int → Int → Heap → Prop
  | 0, _, _, _, _, _, _, _, _, _ => False
  | m + 1, c0_1001, c0_1002, c0_1003, c1_1004, c1_1005, c1_1006, c12_1007, v13_1008, h => slices_Equal_Lint64_int64.b0 K0 K2 (slices_Equal_Lint64_int64.l0 K0 K2 m) c0_1001 c0_1002 c0_1003 c1_1004 c1_1005 c1_1006 c12_1007 v13_1008 h
def slices_Equal_Lint64_int64 (a1 : Option Addr) (a1l : Nat) (a1c : Nat) (a2 : Option Addr) (a2l : Nat) (a2c : Nat) (h : Heap) (K : Bool → Heap → Prop) : Prop :=
  ((iteB ((a1l : Int) != (a2l : Int)) (K false h) (((∃ m6, slices_Equal_Lint64_int64.l0 (fun z3 h4 => K z3 h4) (fun h5 => (K true h5)) m6 a1 a1l a1c a2 a2l a2c (a1l : Int) 0 h)))))
def slices_Equal_Lint64_int64.ret (K : Bool → Heap → Prop) (v : Value) (h : Heap) : Prop := match v with
  | (.bool r7) => K r7 h
  | _ => False
theorem slices_Equal_Lint64_int64.ret_elim {K : Bool → Heap → Prop} {K' : Value → Heap → Prop} {v : Value} {h : Heap} (hk : ∀ r7 h, K r7 h → K' (.bool r7) h) (hh : slices_Equal_Lint64_int64.ret K v h) : K' v h := by
  unfold slices_Equal_Lint64_int64.ret at hh
  split at hh
  · exact hk _ _ hh
  · exact hh.elim
def slices_Equal_Lint64_int64.r0 (K : Nat → List Value → Heap → Prop) (m : Nat) (vs : List Value) (h : Heap) : Prop := match vs with
  | [(.slice c0_1001 c0_1002 c0_1003), (.slice c1_1004 c1_1005 c1_1006), (.int .i64 c12_1007), (.int .i64 v13_1008)] => slices_Equal_Lint64_int64.l0 (fun z8 h' => K 0 [(.bool z8)] h') (fun h' => K 2 [] h') m c0_1001 c0_1002 c0_1003 c1_1004 c1_1005 c1_1006 c12_1007 v13_1008 h
  | _ => False
def slices_Equal_Lint64_int64.loop (i : Nat) (vs : List Value) (h : Heap) (K : Nat → List Value → Heap → Prop) : Prop := match i with
  | 0 => ∃ m, slices_Equal_Lint64_int64.r0 K m vs h
  | _ => False
noncomputable def slices_Equal_Lint64_int64.ctx : Ctx := { P := Tryz.prog, call := fun _ _ _ _ => False, qcall := fun _ _ _ _ => False, quiet := fun f => Nat.beq f 2000025, loop := slices_Equal_Lint64_int64.loop }
theorem slices_Equal_Lint64_int64.ok [DKc] : slices_Equal_Lint64_int64.ctx.OK where
  mixed := by kernel_rfl
  mono := fun hh _ => hh.elim
  call := fun hh => hh.elim
  qmono := fun hh _ => hh.elim
  qval := fun hh => hh.elim
  qcall := fun hh => hh.elim
noncomputable def slices_Equal_Lint64_int64.code : Code := (Tryz.f27.body).getD .skip
def slices_Equal_Lint64_int64.ann : Ann := (.two .auto (.two .auto (.two (.two .auto (.two (.loop 0 [0, 1, 12, 13] [(2, []), (0, [4])] (.two .auto (.two .auto (.two (.two (.two .auto (.two (.reg [0, 0, 3, 7, 0, 0, 48, 112, 255] (.take 0 (.take 1 (.take 2 (.take 3 (.take 4 (.take 5 (.take 6 (.take 7 (.take 8 .done)))))))))) .auto)) .auto) .auto)))) .auto)) .auto)))
noncomputable def slices_Equal_Lint64_int64.c0 : Code := sub slices_Equal_Lint64_int64.code [1, 1, 0, 1, 0, 0]
def slices_Equal_Lint64_int64.a0 : Ann := (.two .auto (.two .auto (.two (.two (.two .auto (.two (.reg [0, 0, 3, 7, 0, 0, 48, 112, 255] (.take 0 (.take 1 (.take 2 (.take 3 (.take 4 (.take 5 (.take 6 (.take 7 (.take 8 .done)))))))))) .auto)) .auto) .auto)))
def slices_Equal_Lint64_int64.keep0 : List Nat := [0, 1, 12, 13]
def slices_Equal_Lint64_int64.outs0 : List (Nat × List Nat) := [(2, []), (0, [4])]
set_option maxRecDepth 100000 in
theorem slices_Equal_Lint64_int64.L0 [DKc] : LoopOK slices_Equal_Lint64_int64.ctx 26 slices_Equal_Lint64_int64.c0 0 slices_Equal_Lint64_int64.keep0 slices_Equal_Lint64_int64.outs0 := by
  refine loop_ok (n := slices_Equal_Lint64_int64.a0) slices_Equal_Lint64_int64.ok (by kernel_rfl) (loops_ok (l := []) (by kernel_rfl) ?_) slices_Equal_Lint64_int64.r0 ?_ ?_ (fun vs h K hh => hh)
  · exact trivial
  · intro K vs h hh
    unfold slices_Equal_Lint64_int64.r0 at hh
    split at hh
    · exact hh
    · exact hh
  · intro K m vs h hh
    unfold slices_Equal_Lint64_int64.r0 at hh
    split at hh
    · exact cast (by kernel_rfl) hh
    · exact hh.elim
set_option maxRecDepth 100000 in
theorem slices_Equal_Lint64_int64.eq (a1 : Option Addr) (a1l : Nat) (a1c : Nat) (a2 : Option Addr) (a2l : Nat) (a2c : Nat) (h : Heap) (K : Bool → Heap → Prop) : evF slices_Equal_Lint64_int64.ctx Tryz.f27 slices_Equal_Lint64_int64.ann [(.slice a1 a1l a1c), (.slice a2 a2l a2c)] h (slices_Equal_Lint64_int64.ret K) = slices_Equal_Lint64_int64 a1 a1l a1c a2 a2l a2c h K := by kernel_rfl
set_option maxRecDepth 100000 in
theorem slices_Equal_Lint64_int64.calls [DKc] {a1 : Option Addr} {a1l : Nat} {a1c : Nat} {a2 : Option Addr} {a2l : Nat} {a2c : Nat} {h : Heap} {K : Bool → Heap → Prop} (hh : slices_Equal_Lint64_int64 a1 a1l a1c a2 a2l a2c h K) (w : World) (hw : w.heap = h) :
    (callFunc 27 #[(.slice a1 a1l a1c), (.slice a2 a2l a2c)]).run Tryz.prog w = .ok (.enter 27 #[(.slice a1 a1l a1c), (.slice a2 a2l a2c)]) w ∧ Calls Tryz.prog 27 #[(.slice a1 a1l a1c), (.slice a2 a2l a2c)] w fun e w' => ∃ v, e = .returned v ∧ Out w w' ∧ slices_Equal_Lint64_int64.ret K v w'.heap := by
  rw [← slices_Equal_Lint64_int64.eq] at hh
  exact fn_calls (args := [(.slice a1 a1l a1c), (.slice a2 a2l a2c)]) (c := slices_Equal_Lint64_int64.code) slices_Equal_Lint64_int64.ok Tryz.func27 (by kernel_rfl) (by kernel_rfl) (by kernel_rfl) (by kernel_rfl) (loops_ok (l := [(slices_Equal_Lint64_int64.c0, none, 0, slices_Equal_Lint64_int64.keep0, slices_Equal_Lint64_int64.outs0)]) (by kernel_rfl) ⟨slices_Equal_Lint64_int64.L0, trivial⟩) hh w hw

/-! ### slices.Equal[[]int,int]: function 28 -/
def slices_Equal_Lint_int.b0 (K0 : Bool → Heap → Prop) (K2 : Heap → Prop) (cont : (Option Addr) → Nat → Nat → (Option Addr) → Nat → Nat → Int → Int → Heap → Prop) (c0_1001 : Option Addr) (c0_1002 : Nat) (c0_1003 : Nat) (c1_1004 : Option Addr) (c1_1005 : Nat) (c1_1006 : Nat) (c12_1007 : Int) (v13_1008 : Int) (h1009 : Heap) : Prop :=
  (iteB (decide (v13_1008 < c12_1007)) (((chkP c0_1001 fun a1010 => (0 ≤ v13_1008 ∧ v13_1008 < (c0_1002 : Int)) ∧ ∃ (x1011 : Int), cell h1009 (a1010.add (v13_1008.toNat * 1)) = some (.int .i64 x1011) ∧ chkP c1_1004 fun a1012 => (0 ≤ v13_1008 ∧ v13_1008 < (c1_1005 : Int)) ∧ ∃ (x1013 : Int), cell h1009 (a1012.add (v13_1008.toNat * 1)) = some (.int .i64 x1013) ∧ (iteB (x1011 != x1013) (K0 false h1009) (((cont c0_1001 c0_1002 c0_1003 c1_1004 c1_1005 c1_1006 c12_1007 (IntKind.i64.wrap (v13_1008 + 1)) h1009))))))) (K2 h1009))
def slices_Equal_Lint_int.l0 (K0 : Bool → Heap → Prop) (K2 : Heap → Prop) : Nat → (Option Addr) → Nat → Nat → (Option Addr) → Nat → Nat → Int → Int → Heap → Prop
  | 0, _, _, _, _, _, _, _, _, _ => False
  | m + 1, c0_1001, c0_1002, c0_1003, c1_1004, c1_1005, c1_1006, c12_1007, v13_1008, h => slices_Equal_Lint_int.b0 K0 K2 (slices_Equal_Lint_int.l0 K0 K2 m) c0_1001 c0_1002 c0_1003 c1_1004 c1_1005 c1_1006 c12_1007 v13_1008 h
def slices_Equal_Lint_int (a1 : Option Addr) (a1l : Nat) (a1c : Nat) (a2 : Option Addr) (a2l : Nat) (a2c : Nat) (h : Heap) (K : Bool → Heap → Prop) : Prop :=
  ((iteB ((a1l : Int) != (a2l : Int)) (K false h) (((∃ m6, slices_Equal_Lint_int.l0 (fun z3 h4 => K z3 h4) (fun h5 => (K true h5)) m6 a1 a1l a1c a2 a2l a2c (a1l : Int) 0 h)))))
def slices_Equal_Lint_int.ret (K : Bool → Heap → Prop) (v : Value) (h : Heap) : Prop := match v with
  | (.bool r7) => K r7 h
  | _ => False
theorem slices_Equal_Lint_int.ret_elim {K : Bool → Heap → Prop} {K' : Value → Heap → Prop} {v : Value} {h : Heap} (hk : ∀ r7 h, K r7 h → K' (.bool r7) h) (hh : slices_Equal_Lint_int.ret K v h) : K' v h := by
  unfold slices_Equal_Lint_int.ret at hh
  split at hh
  · exact hk _ _ hh
  · exact hh.elim
def slices_Equal_Lint_int.r0 (K : Nat → List Value → Heap → Prop) (m : Nat) (vs : List Value) (h : Heap) : Prop := match vs with
  | [(.slice c0_1001 c0_1002 c0_1003), (.slice c1_1004 c1_1005 c1_1006), (.int .i64 c12_1007), (.int .i64 v13_1008)] => slices_Equal_Lint_int.l0 (fun z8 h' => K 0 [(.bool z8)] h') (fun h' => K 2 [] h') m c0_1001 c0_1002 c0_1003 c1_1004 c1_1005 c1_1006 c12_1007 v13_1008 h
  | _ => False
def slices_Equal_Lint_int.loop (i : Nat) (vs : List Value) (h : Heap) (K : Nat → List Value → Heap → Prop) : Prop := match i with
  | 0 => ∃ m, slices_Equal_Lint_int.r0 K m vs h
  | _ => False
noncomputable def slices_Equal_Lint_int.ctx : Ctx := { P := Tryz.prog, call := fun _ _ _ _ => False, qcall := fun _ _ _ _ => False, quiet := fun f => Nat.beq f 2000025, loop := slices_Equal_Lint_int.loop }
theorem slices_Equal_Lint_int.ok [DKc] : slices_Equal_Lint_int.ctx.OK where
  mixed := by kernel_rfl
  mono := fun hh _ => hh.elim
  call := fun hh => hh.elim
  qmono := fun hh _ => hh.elim
  qval := fun hh => hh.elim
  qcall := fun hh => hh.elim
noncomputable def slices_Equal_Lint_int.code : Code := (Tryz.f28.body).getD .skip
def slices_Equal_Lint_int.ann : Ann := (.two .auto (.two .auto (.two (.two .auto (.two (.loop 0 [0, 1, 12, 13] [(2, []), (0, [4])] (.two .auto (.two .auto (.two (.two (.two .auto (.two (.reg [0, 0, 3, 7, 0, 0, 48, 112, 255] (.take 0 (.take 1 (.take 2 (.take 3 (.take 4 (.take 5 (.take 6 (.take 7 (.take 8 .done)))))))))) .auto)) .auto) .auto)))) .auto)) .auto)))
noncomputable def slices_Equal_Lint_int.c0 : Code := sub slices_Equal_Lint_int.code [1, 1, 0, 1, 0, 0]
def slices_Equal_Lint_int.a0 : Ann := (.two .auto (.two .auto (.two (.two (.two .auto (.two (.reg [0, 0, 3, 7, 0, 0, 48, 112, 255] (.take 0 (.take 1 (.take 2 (.take 3 (.take 4 (.take 5 (.take 6 (.take 7 (.take 8 .done)))))))))) .auto)) .auto) .auto)))
def slices_Equal_Lint_int.keep0 : List Nat := [0, 1, 12, 13]
def slices_Equal_Lint_int.outs0 : List (Nat × List Nat) := [(2, []), (0, [4])]
set_option maxRecDepth 100000 in
theorem slices_Equal_Lint_int.L0 [DKc] : LoopOK slices_Equal_Lint_int.ctx 26 slices_Equal_Lint_int.c0 0 slices_Equal_Lint_int.keep0 slices_Equal_Lint_int.outs0 := by
  refine loop_ok (n := slices_Equal_Lint_int.a0) slices_Equal_Lint_int.ok (by kernel_rfl) (loops_ok (l := []) (by kernel_rfl) ?_) slices_Equal_Lint_int.r0 ?_ ?_ (fun vs h K hh => hh)
  · exact trivial
  · intro K vs h hh
    unfold slices_Equal_Lint_int.r0 at hh
    split at hh
    · exact hh
    · exact hh
  · intro K m vs h hh
    unfold slices_Equal_Lint_int.r0 at hh
    split at hh
    · exact cast (by kernel_rfl) hh
    · exact hh.elim
set_option maxRecDepth 100000 in
theorem slices_Equal_Lint_int.eq (a1 : Option Addr) (a1l : Nat) (a1c : Nat) (a2 : Option Addr) (a2l : Nat) (a2c : Nat) (h : Heap) (K : Bool → Heap → Prop) : evF slices_Equal_Lint_int.ctx Tryz.f28 slices_Equal_Lint_int.ann [(.slice a1 a1l a1c), (.slice a2 a2l a2c)] h (slices_Equal_Lint_int.ret K) = slices_Equal_Lint_int a1 a1l a1c a2 a2l a2c h K := by kernel_rfl
set_option maxRecDepth 100000 in
theorem slices_Equal_Lint_int.calls [DKc] {a1 : Option Addr} {a1l : Nat} {a1c : Nat} {a2 : Option Addr} {a2l : Nat} {a2c : Nat} {h : Heap} {K : Bool → Heap → Prop} (hh : slices_Equal_Lint_int a1 a1l a1c a2 a2l a2c h K) (w : World) (hw : w.heap = h) :
    (callFunc 28 #[(.slice a1 a1l a1c), (.slice a2 a2l a2c)]).run Tryz.prog w = .ok (.enter 28 #[(.slice a1 a1l a1c), (.slice a2 a2l a2c)]) w ∧ Calls Tryz.prog 28 #[(.slice a1 a1l a1c), (.slice a2 a2l a2c)] w fun e w' => ∃ v, e = .returned v ∧ Out w w' ∧ slices_Equal_Lint_int.ret K v w'.heap := by
  rw [← slices_Equal_Lint_int.eq] at hh
  exact fn_calls (args := [(.slice a1 a1l a1c), (.slice a2 a2l a2c)]) (c := slices_Equal_Lint_int.code) slices_Equal_Lint_int.ok Tryz.func28 (by kernel_rfl) (by kernel_rfl) (by kernel_rfl) (by kernel_rfl) (loops_ok (l := [(slices_Equal_Lint_int.c0, none, 0, slices_Equal_Lint_int.keep0, slices_Equal_Lint_int.outs0)]) (by kernel_rfl) ⟨slices_Equal_Lint_int.L0, trivial⟩) hh w hw

end Go.Proofs.YtmejnpadgbdhaaaGreatDoor
