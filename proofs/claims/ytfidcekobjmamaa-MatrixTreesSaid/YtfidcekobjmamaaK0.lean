/- WRITTEN BY A PROGRAM OF THIS SESSION (gen.py): what each function asks of memory, and that the model's run comes to it. -/
import Derived.Test.YtfidcekobjmamaaProg
import Derived.Test.YtfidcekobjmamaaFw8
import Derived.Test.YtfidcekobjmamaaJ0
namespace Go.Proofs.Ytfidcekobjmamaa
open Go.Hp
set_option linter.unusedVariables false
set_option linter.unusedSimpArgs false
set_option linter.unusedSectionVars false

/-! ### strait/straitlaw35.wide: function 37 -/
def straitlaw35_wide.b0 (K0 : Bool → Heap → Prop) (K2 : Heap → Prop) (cont : (Option Addr) → Nat → Nat → Int → Heap → Prop) (c0_1001 : Option Addr) (c0_1002 : Nat) (c0_1003 : Nat) (v3_1004 : Int) (h1005 : Heap) : Prop :=
  let j1009 : Prop := (chkP c0_1001 fun a1007 => (0 ≤ v3_1004 ∧ v3_1004 < (c0_1002 : Int)) ∧ ∃ (x1008 : Option Addr) (x1008l : Nat) (x1008c : Nat), cell h1005 (a1007.add (v3_1004.toNat * 1)) = some (.slice x1008 x1008l x1008c) ∧ (iteB (decide ((x1008l : Int) > (40 : Int))) (K0 true h1005) (((cont c0_1001 c0_1002 c0_1003 (IntKind.i64.wrap (v3_1004 + 1)) h1005)))));
  iteB (decide (v3_1004 < (c0_1002 : Int))) ((iteB (decide (v3_1004 < (41 : Int))) ((j1009)) (K2 h1005))) (K2 h1005)
def straitlaw35_wide.l0 (K0 : Bool → Heap → Prop) (K2 : Heap → Prop) : Nat → (Option Addr) → Nat → Nat → Int → Heap → Prop
  | 0, _, _, _, _, _ => False
  | m + 1, c0_1001, c0_1002, c0_1003, v3_1004, h => straitlaw35_wide.b0 K0 K2 (straitlaw35_wide.l0 K0 K2 m) c0_1001 c0_1002 c0_1003 v3_1004 h
def straitlaw35_wide (a1 : Option Addr) (a1l : Nat) (a1c : Nat) (h : Heap) (K : Bool → Heap → Prop) : Prop :=
  ((∃ m5, straitlaw35_wide.l0 (fun z2 h3 => K z2 h3) (fun h4 => (((K (decide ((a1l : Int) > (40 : Int))) h4)))) m5 a1 a1l a1c 0 h))
def straitlaw35_wide.ret (K : Bool → Heap → Prop) (v : Value) (h : Heap) : Prop := match v with
  | (.bool r6) => K r6 h
  | _ => False
theorem straitlaw35_wide.ret_elim {K : Bool → Heap → Prop} {K' : Value → Heap → Prop} {v : Value} {h : Heap} (hk : ∀ r6 h, K r6 h → K' (.bool r6) h) (hh : straitlaw35_wide.ret K v h) : K' v h := by
  unfold straitlaw35_wide.ret at hh
  split at hh
  · exact hk _ _ hh
  · exact hh.elim
def straitlaw35_wide.r0 (K : Nat → List Value → Heap → Prop) (m : Nat) (vs : List Value) (h : Heap) : Prop := match vs with
  | [(.slice c0_1001 c0_1002 c0_1003), (.int .i64 v3_1004)] => straitlaw35_wide.l0 (fun z7 h' => K 0 [(.bool z7)] h') (fun h' => K 2 [(.slice c0_1001 c0_1002 c0_1003)] h') m c0_1001 c0_1002 c0_1003 v3_1004 h
  | _ => False
def straitlaw35_wide.loop (i : Nat) (vs : List Value) (h : Heap) (K : Nat → List Value → Heap → Prop) : Prop := match i with
  | 0 => ∃ m, straitlaw35_wide.r0 K m vs h
  | _ => False
noncomputable def straitlaw35_wide.ctx : Ctx := { P := Try.prog, call := fun _ _ _ _ => False, qcall := fun _ _ _ _ => False, quiet := fun f => Nat.beq f 1000069 || Nat.beq f 1000099, loop := straitlaw35_wide.loop }
theorem straitlaw35_wide.ok [DKc] : straitlaw35_wide.ctx.OK where
  mixed := by kernel_rfl
  mono := fun hh _ => hh.elim
  call := fun hh => hh.elim
  qmono := fun hh _ => hh.elim
  qval := fun hh => hh.elim
  qcall := fun hh => hh.elim
noncomputable def straitlaw35_wide.code : Code := (Try.f37.body).getD .skip
def straitlaw35_wide.ann : Ann := (.two .auto (.two (.two .auto (.two (.loop 0 [0, 3] [(2, [0]), (0, [2])] .auto) .auto)) .auto))
noncomputable def straitlaw35_wide.c0 : Code := sub straitlaw35_wide.code [1, 0, 1, 0, 0]
def straitlaw35_wide.a0 : Ann := .auto
def straitlaw35_wide.keep0 : List Nat := [0, 3]
def straitlaw35_wide.outs0 : List (Nat × List Nat) := [(2, [0]), (0, [2])]
set_option maxRecDepth 100000 in
theorem straitlaw35_wide.L0 [DKc] : LoopOK straitlaw35_wide.ctx 23 straitlaw35_wide.c0 0 straitlaw35_wide.keep0 straitlaw35_wide.outs0 := by
  refine loop_ok (n := straitlaw35_wide.a0) straitlaw35_wide.ok (by kernel_rfl) (loops_ok (l := []) (by kernel_rfl) ?_) straitlaw35_wide.r0 ?_ ?_ (fun vs h K hh => hh)
  · exact trivial
  · intro K vs h hh
    unfold straitlaw35_wide.r0 at hh
    split at hh
    · exact hh
    · exact hh
  · intro K m vs h hh
    unfold straitlaw35_wide.r0 at hh
    split at hh
    · exact cast (by kernel_rfl) hh
    · exact hh.elim
set_option maxRecDepth 100000 in
theorem straitlaw35_wide.eq (a1 : Option Addr) (a1l : Nat) (a1c : Nat) (h : Heap) (K : Bool → Heap → Prop) : evF straitlaw35_wide.ctx Try.f37 straitlaw35_wide.ann [(.slice a1 a1l a1c)] h (straitlaw35_wide.ret K) = straitlaw35_wide a1 a1l a1c h K := by kernel_rfl
set_option maxRecDepth 100000 in
theorem straitlaw35_wide.calls [DKc] {a1 : Option Addr} {a1l : Nat} {a1c : Nat} {h : Heap} {K : Bool → Heap → Prop} (hh : straitlaw35_wide a1 a1l a1c h K) (w : World) (hw : w.heap = h) :
    (callFunc 37 #[(.slice a1 a1l a1c)]).run Try.prog w = .ok (.enter 37 #[(.slice a1 a1l a1c)]) w ∧ Calls Try.prog 37 #[(.slice a1 a1l a1c)] w fun e w' => ∃ v, e = .returned v ∧ Out w w' ∧ straitlaw35_wide.ret K v w'.heap := by
  rw [← straitlaw35_wide.eq] at hh
  exact fn_calls (args := [(.slice a1 a1l a1c)]) (c := straitlaw35_wide.code) straitlaw35_wide.ok Try.func37 (by kernel_rfl) (by kernel_rfl) (by kernel_rfl) (by kernel_rfl) (loops_ok (l := [(straitlaw35_wide.c0, none, 0, straitlaw35_wide.keep0, straitlaw35_wide.outs0)]) (by kernel_rfl) ⟨straitlaw35_wide.L0, trivial⟩) hh w hw

/-! ### strait/straitref35.Ultra: function 38 -/
def straitref35_Ultra.b3 (K0 : Bool → Heap → Prop) (K8 : Heap → Prop) (cont : (Option Addr) → Nat → Nat → Int → Int → Int → Int → Heap → Prop) (c0_4001 : Option Addr) (c0_4002 : Nat) (c0_4003 : Nat) (c3_4004 : Int) (c5_4005 : Int) (c6_4006 : Int) (v7_4007 : Int) (h4008 : Heap) : Prop :=
  (iteB (decide (v7_4007 < c3_4004)) ((let j4022 : Prop := (cont c0_4001 c0_4002 c0_4003 c3_4004 c5_4005 c6_4006 (IntKind.i64.wrap (v7_4007 + 1)) h4008);
  iteB (c5_4005 != c6_4006) (iteB (c5_4005 != v7_4007) (iteB (c6_4006 != v7_4007) (chkP c0_4001 fun a4009 => (0 ≤ c5_4005 ∧ c5_4005 < (c0_4002 : Int)) ∧ ∃ (x4010 : Option Addr) (x4010l : Nat) (x4010c : Nat), cell h4008 (a4009.add (c5_4005.toNat * 1)) = some (.slice x4010 x4010l x4010c) ∧ chkP x4010 fun a4011 => (0 ≤ c6_4006 ∧ c6_4006 < (x4010l : Int)) ∧ ∃ (x4012 : Int), cell h4008 (a4011.add (c6_4006.toNat * 1)) = some (.int .i64 x4012) ∧ chkP c0_4001 fun a4013 => (0 ≤ c5_4005 ∧ c5_4005 < (c0_4002 : Int)) ∧ ∃ (x4014 : Option Addr) (x4014l : Nat) (x4014c : Nat), cell h4008 (a4013.add (c5_4005.toNat * 1)) = some (.slice x4014 x4014l x4014c) ∧ chkP x4014 fun a4015 => (0 ≤ v7_4007 ∧ v7_4007 < (x4014l : Int)) ∧ ∃ (x4016 : Int), cell h4008 (a4015.add (v7_4007.toNat * 1)) = some (.int .i64 x4016) ∧ chkP c0_4001 fun a4017 => (0 ≤ v7_4007 ∧ v7_4007 < (c0_4002 : Int)) ∧ ∃ (x4018 : Option Addr) (x4018l : Nat) (x4018c : Nat), cell h4008 (a4017.add (v7_4007.toNat * 1)) = some (.slice x4018 x4018l x4018c) ∧ chkP x4018 fun a4019 => (0 ≤ c6_4006 ∧ c6_4006 < (x4018l : Int)) ∧ ∃ (x4020 : Int), cell h4008 (a4019.add (c6_4006.toNat * 1)) = some (.int .i64 x4020) ∧ (iteB (decide (x4012 < (if x4020 < x4016 then x4020 else x4016))) (K0 false h4008) (((j4022))))) ((((j4022))))) ((((j4022))))) ((((j4022)))))) (K8 h4008))
def straitref35_Ultra.l3 (K0 : Bool → Heap → Prop) (K8 : Heap → Prop) : Nat → (Option Addr) → Nat → Nat → Int → Int → Int → Int → Heap → Prop
  | 0, _, _, _, _, _, _, _, _ => False
  | m + 1, c0_4001, c0_4002, c0_4003, c3_4004, c5_4005, c6_4006, v7_4007, h => straitref35_Ultra.b3 K0 K8 (straitref35_Ultra.l3 K0 K8 m) c0_4001 c0_4002 c0_4003 c3_4004 c5_4005 c6_4006 v7_4007 h
def straitref35_Ultra.b2 (K0 : Bool → Heap → Prop) (K6 : Heap → Prop) (cont : (Option Addr) → Nat → Nat → Int → Int → Int → Heap → Prop) (c0_3001 : Option Addr) (c0_3002 : Nat) (c0_3003 : Nat) (c3_3004 : Int) (c5_3005 : Int) (v6_3006 : Int) (h3007 : Heap) : Prop :=
  (iteB (decide (v6_3006 < c3_3004)) ((let j3029 : Prop := ((∃ m3028, straitref35_Ultra.l3 (fun z3025 h3026 => K0 z3025 h3026) (fun h3027 => (((cont c0_3001 c0_3002 c0_3003 c3_3004 c5_3005 (IntKind.i64.wrap (v6_3006 + 1)) h3027)))) m3028 c0_3001 c0_3002 c0_3003 c3_3004 c5_3005 v6_3006 0 h3007));
  chkP c0_3001 fun a3008 => (0 ≤ c5_3005 ∧ c5_3005 < (c0_3002 : Int)) ∧ ∃ (x3009 : Option Addr) (x3009l : Nat) (x3009c : Nat), cell h3007 (a3008.add (c5_3005.toNat * 1)) = some (.slice x3009 x3009l x3009c) ∧ chkP x3009 fun a3010 => (0 ≤ v6_3006 ∧ v6_3006 < (x3009l : Int)) ∧ ∃ (x3011 : Int), cell h3007 (a3010.add (v6_3006.toNat * 1)) = some (.int .i64 x3011) ∧ iteB (decide (x3011 < (0 : Int))) (K0 false h3007) (chkP c0_3001 fun a3012 => (0 ≤ c5_3005 ∧ c5_3005 < (c0_3002 : Int)) ∧ ∃ (x3013 : Option Addr) (x3013l : Nat) (x3013c : Nat), cell h3007 (a3012.add (c5_3005.toNat * 1)) = some (.slice x3013 x3013l x3013c) ∧ chkP x3013 fun a3014 => (0 ≤ v6_3006 ∧ v6_3006 < (x3013l : Int)) ∧ ∃ (x3015 : Int), cell h3007 (a3014.add (v6_3006.toNat * 1)) = some (.int .i64 x3015) ∧ chkP c0_3001 fun a3016 => (0 ≤ v6_3006 ∧ v6_3006 < (c0_3002 : Int)) ∧ ∃ (x3017 : Option Addr) (x3017l : Nat) (x3017c : Nat), cell h3007 (a3016.add (v6_3006.toNat * 1)) = some (.slice x3017 x3017l x3017c) ∧ chkP x3017 fun a3018 => (0 ≤ c5_3005 ∧ c5_3005 < (x3017l : Int)) ∧ ∃ (x3019 : Int), cell h3007 (a3018.add (c5_3005.toNat * 1)) = some (.int .i64 x3019) ∧ iteB (x3015 != x3019) (K0 false h3007) (iteB (c5_3005 == v6_3006) (chkP c0_3001 fun a3020 => (0 ≤ c5_3005 ∧ c5_3005 < (c0_3002 : Int)) ∧ ∃ (x3021 : Option Addr) (x3021l : Nat) (x3021c : Nat), cell h3007 (a3020.add (c5_3005.toNat * 1)) = some (.slice x3021 x3021l x3021c) ∧ chkP x3021 fun a3022 => (0 ≤ v6_3006 ∧ v6_3006 < (x3021l : Int)) ∧ ∃ (x3023 : Int), cell h3007 (a3022.add (v6_3006.toNat * 1)) = some (.int .i64 x3023) ∧ (iteB (x3023 != (0 : Int)) (K0 false h3007) ((j3029)))) (((j3029))))))) (K6 h3007))
def straitref35_Ultra.l2 (K0 : Bool → Heap → Prop) (K6 : Heap → Prop) : Nat → (Option Addr) → Nat → Nat → Int → Int → Int → Heap → Prop
  | 0, _, _, _, _, _, _, _ => False
  | m + 1, c0_3001, c0_3002, c0_3003, c3_3004, c5_3005, v6_3006, h => straitref35_Ultra.b2 K0 K6 (straitref35_Ultra.l2 K0 K6 m) c0_3001 c0_3002 c0_3003 c3_3004 c5_3005 v6_3006 h
def straitref35_Ultra.b1 (K0 : Bool → Heap → Prop) (K4 : Heap → Prop) (cont : (Option Addr) → Nat → Nat → Int → Int → Heap → Prop) (c0_2001 : Option Addr) (c0_2002 : Nat) (c0_2003 : Nat) (c3_2004 : Int) (v5_2005 : Int) (h2006 : Heap) : Prop :=
  (iteB (decide (v5_2005 < c3_2004)) (((∃ m2010, straitref35_Ultra.l2 (fun z2007 h2008 => K0 z2007 h2008) (fun h2009 => (((cont c0_2001 c0_2002 c0_2003 c3_2004 (IntKind.i64.wrap (v5_2005 + 1)) h2009)))) m2010 c0_2001 c0_2002 c0_2003 c3_2004 v5_2005 0 h2006))) (K4 h2006))
def straitref35_Ultra.l1 (K0 : Bool → Heap → Prop) (K4 : Heap → Prop) : Nat → (Option Addr) → Nat → Nat → Int → Int → Heap → Prop
  | 0, _, _, _, _, _, _ => False
  | m + 1, c0_2001, c0_2002, c0_2003, c3_2004, v5_2005, h => straitref35_Ultra.b1 K0 K4 (straitref35_Ultra.l1 K0 K4 m) c0_2001 c0_2002 c0_2003 c3_2004 v5_2005 h
def straitref35_Ultra.b0 (K0 : Bool → Heap → Prop) (K2 : Heap → Prop) (cont : (Option Addr) → Nat → Nat → Int → Int → Heap → Prop) (c0_1001 : Option Addr) (c0_1002 : Nat) (c0_1003 : Nat) (c3_1004 : Int) (v4_1005 : Int) (h1006 : Heap) : Prop :=
  (iteB (decide (v4_1005 < c3_1004)) ((chkP c0_1001 fun a1007 => (0 ≤ v4_1005 ∧ v4_1005 < (c0_1002 : Int)) ∧ ∃ (x1008 : Option Addr) (x1008l : Nat) (x1008c : Nat), cell h1006 (a1007.add (v4_1005.toNat * 1)) = some (.slice x1008 x1008l x1008c) ∧ (iteB ((x1008l : Int) != c3_1004) (K0 false h1006) (((cont c0_1001 c0_1002 c0_1003 c3_1004 (IntKind.i64.wrap (v4_1005 + 1)) h1006)))))) (K2 h1006))
def straitref35_Ultra.l0 (K0 : Bool → Heap → Prop) (K2 : Heap → Prop) : Nat → (Option Addr) → Nat → Nat → Int → Int → Heap → Prop
  | 0, _, _, _, _, _, _ => False
  | m + 1, c0_1001, c0_1002, c0_1003, c3_1004, v4_1005, h => straitref35_Ultra.b0 K0 K2 (straitref35_Ultra.l0 K0 K2 m) c0_1001 c0_1002 c0_1003 c3_1004 v4_1005 h
def straitref35_Ultra (a1 : Option Addr) (a1l : Nat) (a1c : Nat) (h : Heap) (K : Bool → Heap → Prop) : Prop :=
  (((iteB (decide ((a1l : Int) > (256 : Int))) (K false h) (((∃ m5, straitref35_Ultra.l0 (fun z2 h3 => K z2 h3) (fun h4 => (((∃ m9, straitref35_Ultra.l1 (fun z6 h7 => K z6 h7) (fun h8 => (K true h8)) m9 a1 a1l a1c (a1l : Int) 0 h4)))) m5 a1 a1l a1c (a1l : Int) 0 h))))))
def straitref35_Ultra.ret (K : Bool → Heap → Prop) (v : Value) (h : Heap) : Prop := match v with
  | (.bool r10) => K r10 h
  | _ => False
theorem straitref35_Ultra.ret_elim {K : Bool → Heap → Prop} {K' : Value → Heap → Prop} {v : Value} {h : Heap} (hk : ∀ r10 h, K r10 h → K' (.bool r10) h) (hh : straitref35_Ultra.ret K v h) : K' v h := by
  unfold straitref35_Ultra.ret at hh
  split at hh
  · exact hk _ _ hh
  · exact hh.elim
def straitref35_Ultra.r0 (K : Nat → List Value → Heap → Prop) (m : Nat) (vs : List Value) (h : Heap) : Prop := match vs with
  | [(.slice c0_1001 c0_1002 c0_1003), (.int .i64 c3_1004), (.int .i64 v4_1005)] => straitref35_Ultra.l0 (fun z11 h' => K 0 [(.bool z11)] h') (fun h' => K 2 [(.slice c0_1001 c0_1002 c0_1003), (.int .i64 c3_1004)] h') m c0_1001 c0_1002 c0_1003 c3_1004 v4_1005 h
  | _ => False
def straitref35_Ultra.r1 (K : Nat → List Value → Heap → Prop) (m : Nat) (vs : List Value) (h : Heap) : Prop := match vs with
  | [(.slice c0_2001 c0_2002 c0_2003), (.int .i64 c3_2004), (.int .i64 v5_2005)] => straitref35_Ultra.l1 (fun z12 h' => K 0 [(.bool z12)] h') (fun h' => K 4 [] h') m c0_2001 c0_2002 c0_2003 c3_2004 v5_2005 h
  | _ => False
def straitref35_Ultra.r2 (K : Nat → List Value → Heap → Prop) (m : Nat) (vs : List Value) (h : Heap) : Prop := match vs with
  | [(.slice c0_3001 c0_3002 c0_3003), (.int .i64 c3_3004), (.int .i64 c5_3005), (.int .i64 v6_3006)] => straitref35_Ultra.l2 (fun z13 h' => K 0 [(.bool z13)] h') (fun h' => K 6 [(.slice c0_3001 c0_3002 c0_3003), (.int .i64 c3_3004), (.int .i64 c5_3005)] h') m c0_3001 c0_3002 c0_3003 c3_3004 c5_3005 v6_3006 h
  | _ => False
def straitref35_Ultra.r3 (K : Nat → List Value → Heap → Prop) (m : Nat) (vs : List Value) (h : Heap) : Prop := match vs with
  | [(.slice c0_4001 c0_4002 c0_4003), (.int .i64 c3_4004), (.int .i64 c5_4005), (.int .i64 c6_4006), (.int .i64 v7_4007)] => straitref35_Ultra.l3 (fun z14 h' => K 0 [(.bool z14)] h') (fun h' => K 8 [(.slice c0_4001 c0_4002 c0_4003), (.int .i64 c3_4004), (.int .i64 c5_4005), (.int .i64 c6_4006)] h') m c0_4001 c0_4002 c0_4003 c3_4004 c5_4005 c6_4006 v7_4007 h
  | _ => False
def straitref35_Ultra.loop (i : Nat) (vs : List Value) (h : Heap) (K : Nat → List Value → Heap → Prop) : Prop := match i with
  | 0 => ∃ m, straitref35_Ultra.r0 K m vs h
  | 1 => ∃ m, straitref35_Ultra.r1 K m vs h
  | 2 => ∃ m, straitref35_Ultra.r2 K m vs h
  | 3 => ∃ m, straitref35_Ultra.r3 K m vs h
  | _ => False
noncomputable def straitref35_Ultra.ctx : Ctx := { P := Try.prog, call := fun _ _ _ _ => False, qcall := fun _ _ _ _ => False, quiet := fun f => Nat.beq f 1000069 || Nat.beq f 1000099, loop := straitref35_Ultra.loop }
theorem straitref35_Ultra.ok [DKc] : straitref35_Ultra.ctx.OK where
  mixed := by kernel_rfl
  mono := fun hh _ => hh.elim
  call := fun hh => hh.elim
  qmono := fun hh _ => hh.elim
  qval := fun hh => hh.elim
  qcall := fun hh => hh.elim
noncomputable def straitref35_Ultra.code : Code := (Try.f38.body).getD .skip
def straitref35_Ultra.ann : Ann := (.two .auto (.two .auto (.two .auto (.two (.two .auto (.two (.loop 0 [0, 3, 4] [(2, [0, 3]), (0, [2])] .auto) .auto)) (.two (.two .auto (.two (.loop 1 [0, 3, 5] [(4, []), (0, [2])] (.two .auto (.two (.two (.two .auto (.two (.loop 2 [0, 3, 5, 6] [(6, [0, 3, 5]), (0, [2])] (.two .auto (.two (.two (.two (.two (.reg [0, 0, 3, 7, 0, 31, 63, 127, 255, 511, 511, 2047, 4095, 511, 16383, 32767, 511, 511, 197119, 459263, 511, 2032127, 4129279, 8388607, 16777215, 33554431, 67108863, 67108863, 268435455, 536870911, 1073741823, 1073741823, 4294967295, 8589934591, 1073741823, 34359738367, 68719476735, 137438953471, 274877906943, 549755813887] (.take 0 (.take 1 (.take 2 (.take 3 (.take 4 (.take 5 (.take 6 (.take 7 (.take 8 (.take 9 (.take 10 (.take 11 (.take 12 (.take 13 (.take 14 (.take 15 (.take 16 (.take 17 (.take 18 (.take 19 (.take 20 (.take 21 (.take 22 (.take 23 (.take 24 (.take 25 (.take 26 (.take 27 (.take 28 (.take 29 (.take 30 (.take 31 (.take 32 (.take 33 (.take 34 (.take 35 (.take 36 (.take 37 (.take 38 (.take 39 .done))))))))))))))))))))))))))))))))))))))))) .auto) (.two .auto (.two (.loop 3 [0, 3, 5, 6, 7] [(8, [0, 3, 5, 6]), (0, [2])] (.two .auto (.two (.two (.two (.reg [0, 0, 3, 7, 15, 15, 63, 127, 255, 511, 511, 2047, 4095, 8191, 16383, 16383, 65535, 131071, 16383, 524287, 1048575, 16383, 16383, 6307839, 14696447, 16383, 65028095, 132136959, 16383, 16383, 805322751, 1879064575, 16383, 8321515519, 16911450111, 34357657599, 68719476735, 137438953471] (.take 0 (.take 1 (.take 2 (.take 3 (.take 4 (.take 5 (.take 6 (.take 7 (.take 8 (.take 9 (.take 10 (.take 11 (.take 12 (.take 13 (.take 14 (.take 15 (.take 16 (.take 17 (.take 18 (.take 19 (.take 20 (.take 21 (.take 22 (.take 23 (.take 24 (.take 25 (.take 26 (.take 27 (.take 28 (.take 29 (.take 30 (.take 31 (.take 32 (.take 33 (.take 34 (.take 35 (.take 36 (.take 37 .done))))))))))))))))))))))))))))))))))))))) .auto) .auto) .auto))) .auto))) .auto) .auto))) .auto)) .auto) .auto))) .auto)) .auto)))))
noncomputable def straitref35_Ultra.c3 : Code := sub straitref35_Ultra.code [1, 1, 1, 1, 0, 1, 0, 0, 1, 0, 0, 1, 0, 0, 1, 0, 0, 1, 1, 0, 0]
def straitref35_Ultra.a3 : Ann := (.two .auto (.two (.two (.two (.reg [0, 0, 3, 7, 15, 15, 63, 127, 255, 511, 511, 2047, 4095, 8191, 16383, 16383, 65535, 131071, 16383, 524287, 1048575, 16383, 16383, 6307839, 14696447, 16383, 65028095, 132136959, 16383, 16383, 805322751, 1879064575, 16383, 8321515519, 16911450111, 34357657599, 68719476735, 137438953471] (.take 0 (.take 1 (.take 2 (.take 3 (.take 4 (.take 5 (.take 6 (.take 7 (.take 8 (.take 9 (.take 10 (.take 11 (.take 12 (.take 13 (.take 14 (.take 15 (.take 16 (.take 17 (.take 18 (.take 19 (.take 20 (.take 21 (.take 22 (.take 23 (.take 24 (.take 25 (.take 26 (.take 27 (.take 28 (.take 29 (.take 30 (.take 31 (.take 32 (.take 33 (.take 34 (.take 35 (.take 36 (.take 37 .done))))))))))))))))))))))))))))))))))))))) .auto) .auto) .auto))
def straitref35_Ultra.keep3 : List Nat := [0, 3, 5, 6, 7]
def straitref35_Ultra.outs3 : List (Nat × List Nat) := [(8, [0, 3, 5, 6]), (0, [2])]
noncomputable def straitref35_Ultra.c2 : Code := sub straitref35_Ultra.code [1, 1, 1, 1, 0, 1, 0, 0, 1, 0, 0, 1, 0, 0]
def straitref35_Ultra.a2 : Ann := (.two .auto (.two (.two (.two (.two (.reg [0, 0, 3, 7, 0, 31, 63, 127, 255, 511, 511, 2047, 4095, 511, 16383, 32767, 511, 511, 197119, 459263, 511, 2032127, 4129279, 8388607, 16777215, 33554431, 67108863, 67108863, 268435455, 536870911, 1073741823, 1073741823, 4294967295, 8589934591, 1073741823, 34359738367, 68719476735, 137438953471, 274877906943, 549755813887] (.take 0 (.take 1 (.take 2 (.take 3 (.take 4 (.take 5 (.take 6 (.take 7 (.take 8 (.take 9 (.take 10 (.take 11 (.take 12 (.take 13 (.take 14 (.take 15 (.take 16 (.take 17 (.take 18 (.take 19 (.take 20 (.take 21 (.take 22 (.take 23 (.take 24 (.take 25 (.take 26 (.take 27 (.take 28 (.take 29 (.take 30 (.take 31 (.take 32 (.take 33 (.take 34 (.take 35 (.take 36 (.take 37 (.take 38 (.take 39 .done))))))))))))))))))))))))))))))))))))))))) .auto) (.two .auto (.two (.loop 3 [0, 3, 5, 6, 7] [(8, [0, 3, 5, 6]), (0, [2])] (.two .auto (.two (.two (.two (.reg [0, 0, 3, 7, 15, 15, 63, 127, 255, 511, 511, 2047, 4095, 8191, 16383, 16383, 65535, 131071, 16383, 524287, 1048575, 16383, 16383, 6307839, 14696447, 16383, 65028095, 132136959, 16383, 16383, 805322751, 1879064575, 16383, 8321515519, 16911450111, 34357657599, 68719476735, 137438953471] (.take 0 (.take 1 (.take 2 (.take 3 (.take 4 (.take 5 (.take 6 (.take 7 (.take 8 (.take 9 (.take 10 (.take 11 (.take 12 (.take 13 (.take 14 (.take 15 (.take 16 (.take 17 (.take 18 (.take 19 (.take 20 (.take 21 (.take 22 (.take 23 (.take 24 (.take 25 (.take 26 (.take 27 (.take 28 (.take 29 (.take 30 (.take 31 (.take 32 (.take 33 (.take 34 (.take 35 (.take 36 (.take 37 .done))))))))))))))))))))))))))))))))))))))) .auto) .auto) .auto))) .auto))) .auto) .auto))
def straitref35_Ultra.keep2 : List Nat := [0, 3, 5, 6]
def straitref35_Ultra.outs2 : List (Nat × List Nat) := [(6, [0, 3, 5]), (0, [2])]
noncomputable def straitref35_Ultra.c1 : Code := sub straitref35_Ultra.code [1, 1, 1, 1, 0, 1, 0, 0]
def straitref35_Ultra.a1 : Ann := (.two .auto (.two (.two (.two .auto (.two (.loop 2 [0, 3, 5, 6] [(6, [0, 3, 5]), (0, [2])] (.two .auto (.two (.two (.two (.two (.reg [0, 0, 3, 7, 0, 31, 63, 127, 255, 511, 511, 2047, 4095, 511, 16383, 32767, 511, 511, 197119, 459263, 511, 2032127, 4129279, 8388607, 16777215, 33554431, 67108863, 67108863, 268435455, 536870911, 1073741823, 1073741823, 4294967295, 8589934591, 1073741823, 34359738367, 68719476735, 137438953471, 274877906943, 549755813887] (.take 0 (.take 1 (.take 2 (.take 3 (.take 4 (.take 5 (.take 6 (.take 7 (.take 8 (.take 9 (.take 10 (.take 11 (.take 12 (.take 13 (.take 14 (.take 15 (.take 16 (.take 17 (.take 18 (.take 19 (.take 20 (.take 21 (.take 22 (.take 23 (.take 24 (.take 25 (.take 26 (.take 27 (.take 28 (.take 29 (.take 30 (.take 31 (.take 32 (.take 33 (.take 34 (.take 35 (.take 36 (.take 37 (.take 38 (.take 39 .done))))))))))))))))))))))))))))))))))))))))) .auto) (.two .auto (.two (.loop 3 [0, 3, 5, 6, 7] [(8, [0, 3, 5, 6]), (0, [2])] (.two .auto (.two (.two (.two (.reg [0, 0, 3, 7, 15, 15, 63, 127, 255, 511, 511, 2047, 4095, 8191, 16383, 16383, 65535, 131071, 16383, 524287, 1048575, 16383, 16383, 6307839, 14696447, 16383, 65028095, 132136959, 16383, 16383, 805322751, 1879064575, 16383, 8321515519, 16911450111, 34357657599, 68719476735, 137438953471] (.take 0 (.take 1 (.take 2 (.take 3 (.take 4 (.take 5 (.take 6 (.take 7 (.take 8 (.take 9 (.take 10 (.take 11 (.take 12 (.take 13 (.take 14 (.take 15 (.take 16 (.take 17 (.take 18 (.take 19 (.take 20 (.take 21 (.take 22 (.take 23 (.take 24 (.take 25 (.take 26 (.take 27 (.take 28 (.take 29 (.take 30 (.take 31 (.take 32 (.take 33 (.take 34 (.take 35 (.take 36 (.take 37 .done))))))))))))))))))))))))))))))))))))))) .auto) .auto) .auto))) .auto))) .auto) .auto))) .auto)) .auto) .auto))
def straitref35_Ultra.keep1 : List Nat := [0, 3, 5]
def straitref35_Ultra.outs1 : List (Nat × List Nat) := [(4, []), (0, [2])]
noncomputable def straitref35_Ultra.c0 : Code := sub straitref35_Ultra.code [1, 1, 1, 0, 1, 0, 0]
def straitref35_Ultra.a0 : Ann := .auto
def straitref35_Ultra.keep0 : List Nat := [0, 3, 4]
def straitref35_Ultra.outs0 : List (Nat × List Nat) := [(2, [0, 3]), (0, [2])]
set_option maxRecDepth 100000 in
theorem straitref35_Ultra.L0 [DKc] : LoopOK straitref35_Ultra.ctx 117 straitref35_Ultra.c0 0 straitref35_Ultra.keep0 straitref35_Ultra.outs0 := by
  refine loop_ok (n := straitref35_Ultra.a0) straitref35_Ultra.ok (by kernel_rfl) (loops_ok (l := []) (by kernel_rfl) ?_) straitref35_Ultra.r0 ?_ ?_ (fun vs h K hh => hh)
  · exact trivial
  · intro K vs h hh
    unfold straitref35_Ultra.r0 at hh
    split at hh
    · exact hh
    · exact hh
  · intro K m vs h hh
    unfold straitref35_Ultra.r0 at hh
    split at hh
    · exact cast (by kernel_rfl) hh
    · exact hh.elim
set_option maxRecDepth 100000 in
theorem straitref35_Ultra.L3 [DKc] : LoopOK straitref35_Ultra.ctx 117 straitref35_Ultra.c3 3 straitref35_Ultra.keep3 straitref35_Ultra.outs3 := by
  refine loop_ok (n := straitref35_Ultra.a3) straitref35_Ultra.ok (by kernel_rfl) (loops_ok (l := []) (by kernel_rfl) ?_) straitref35_Ultra.r3 ?_ ?_ (fun vs h K hh => hh)
  · exact trivial
  · intro K vs h hh
    unfold straitref35_Ultra.r3 at hh
    split at hh
    · exact hh
    · exact hh
  · intro K m vs h hh
    unfold straitref35_Ultra.r3 at hh
    split at hh
    · exact cast (by kernel_rfl) hh
    · exact hh.elim
set_option maxRecDepth 100000 in
theorem straitref35_Ultra.L2 [DKc] : LoopOK straitref35_Ultra.ctx 117 straitref35_Ultra.c2 2 straitref35_Ultra.keep2 straitref35_Ultra.outs2 := by
  refine loop_ok (n := straitref35_Ultra.a2) straitref35_Ultra.ok (by kernel_rfl) (loops_ok (l := [(straitref35_Ultra.c3, none, 3, straitref35_Ultra.keep3, straitref35_Ultra.outs3)]) (by kernel_rfl) ?_) straitref35_Ultra.r2 ?_ ?_ (fun vs h K hh => hh)
  · exact ⟨straitref35_Ultra.L3, trivial⟩
  · intro K vs h hh
    unfold straitref35_Ultra.r2 at hh
    split at hh
    · exact hh
    · exact hh
  · intro K m vs h hh
    unfold straitref35_Ultra.r2 at hh
    split at hh
    · exact cast (by kernel_rfl) hh
    · exact hh.elim
set_option maxRecDepth 100000 in
theorem straitref35_Ultra.L1 [DKc] : LoopOK straitref35_Ultra.ctx 117 straitref35_Ultra.c1 1 straitref35_Ultra.keep1 straitref35_Ultra.outs1 := by
  refine loop_ok (n := straitref35_Ultra.a1) straitref35_Ultra.ok (by kernel_rfl) (loops_ok (l := [(straitref35_Ultra.c2, none, 2, straitref35_Ultra.keep2, straitref35_Ultra.outs2)]) (by kernel_rfl) ?_) straitref35_Ultra.r1 ?_ ?_ (fun vs h K hh => hh)
  · exact ⟨straitref35_Ultra.L2, trivial⟩
  · intro K vs h hh
    unfold straitref35_Ultra.r1 at hh
    split at hh
    · exact hh
    · exact hh
  · intro K m vs h hh
    unfold straitref35_Ultra.r1 at hh
    split at hh
    · exact cast (by kernel_rfl) hh
    · exact hh.elim
set_option maxRecDepth 100000 in
theorem straitref35_Ultra.eq (a1 : Option Addr) (a1l : Nat) (a1c : Nat) (h : Heap) (K : Bool → Heap → Prop) : evF straitref35_Ultra.ctx Try.f38 straitref35_Ultra.ann [(.slice a1 a1l a1c)] h (straitref35_Ultra.ret K) = straitref35_Ultra a1 a1l a1c h K := by kernel_rfl
set_option maxRecDepth 100000 in
theorem straitref35_Ultra.calls [DKc] {a1 : Option Addr} {a1l : Nat} {a1c : Nat} {h : Heap} {K : Bool → Heap → Prop} (hh : straitref35_Ultra a1 a1l a1c h K) (w : World) (hw : w.heap = h) :
    (callFunc 38 #[(.slice a1 a1l a1c)]).run Try.prog w = .ok (.enter 38 #[(.slice a1 a1l a1c)]) w ∧ Calls Try.prog 38 #[(.slice a1 a1l a1c)] w fun e w' => ∃ v, e = .returned v ∧ Out w w' ∧ straitref35_Ultra.ret K v w'.heap := by
  rw [← straitref35_Ultra.eq] at hh
  exact fn_calls (args := [(.slice a1 a1l a1c)]) (c := straitref35_Ultra.code) straitref35_Ultra.ok Try.func38 (by kernel_rfl) (by kernel_rfl) (by kernel_rfl) (by kernel_rfl) (loops_ok (l := [(straitref35_Ultra.c0, none, 0, straitref35_Ultra.keep0, straitref35_Ultra.outs0), (straitref35_Ultra.c1, none, 1, straitref35_Ultra.keep1, straitref35_Ultra.outs1)]) (by kernel_rfl) ⟨straitref35_Ultra.L0, straitref35_Ultra.L1, trivial⟩) hh w hw

/-! ### strait/straitref14.By: function 77 -/
def straitref14_By.b1 (K4 : Int → Heap → Prop) (cont : (Option Addr) → Nat → Nat → (Option Addr) → Nat → Nat → Addr → Nat → Nat → Int → Int → Int → Heap → Prop) (c0_2001 : Option Addr) (c0_2002 : Nat) (c0_2003 : Nat) (c3_2004 : Option Addr) (c3_2005 : Nat) (c3_2006 : Nat) (c4_2007 : Addr) (c4_2008 : Nat) (c4_2009 : Nat) (c5_2010 : Int) (v6_2011 : Int) (v7_2012 : Int) (h2013 : Heap) : Prop :=
  (iteB (decide (v7_2012 < (c0_2002 : Int))) ((let j2021 := (fun (y2020 : Int) => cont c0_2001 c0_2002 c0_2003 c3_2004 c3_2005 c3_2006 c4_2007 c4_2008 c4_2009 c5_2010 y2020 (IntKind.i64.wrap (v7_2012 + 1)) h2013);
  (0 ≤ v7_2012 ∧ v7_2012 < (c4_2008 : Int)) ∧ ∃ (x2014 : Bool), cell h2013 (c4_2007.add (v7_2012.toNat * 1)) = some (.bool x2014) ∧ iteB (!x2014) (iteB (decide (v6_2011 < (0 : Int))) ((((j2021 v7_2012)))) (chkP c0_2001 fun a2015 => (0 ≤ v7_2012 ∧ v7_2012 < (c0_2002 : Int)) ∧ ∃ (x2016 : Int), cell h2013 (a2015.add (v7_2012.toNat * 1)) = some (.int .i64 x2016) ∧ chkP c0_2001 fun a2017 => (0 ≤ v6_2011 ∧ v6_2011 < (c0_2002 : Int)) ∧ ∃ (x2018 : Int), cell h2013 (a2017.add (v6_2011.toNat * 1)) = some (.int .i64 x2018) ∧ (iteB (decide (x2016 < x2018)) (((j2021 v7_2012))) (((j2021 v6_2011)))))) ((((j2021 v6_2011)))))) (K4 v6_2011 h2013))
def straitref14_By.l1 (K4 : Int → Heap → Prop) : Nat → (Option Addr) → Nat → Nat → (Option Addr) → Nat → Nat → Addr → Nat → Nat → Int → Int → Int → Heap → Prop
  | 0, _, _, _, _, _, _, _, _, _, _, _, _, _ => False
  | m + 1, c0_2001, c0_2002, c0_2003, c3_2004, c3_2005, c3_2006, c4_2007, c4_2008, c4_2009, c5_2010, v6_2011, v7_2012, h => straitref14_By.b1 K4 (straitref14_By.l1 K4 m) c0_2001 c0_2002 c0_2003 c3_2004 c3_2005 c3_2006 c4_2007 c4_2008 c4_2009 c5_2010 v6_2011 v7_2012 h
def straitref14_By.b0 (K2 : (Option Addr) → Nat → Nat → Heap → Prop) (cont : (Option Addr) → Nat → Nat → (Option Addr) → Nat → Nat → Addr → Nat → Nat → Int → Heap → Prop) (c0_1001 : Option Addr) (c0_1002 : Nat) (c0_1003 : Nat) (v3_1004 : Option Addr) (v3_1004l : Nat) (v3_1004c : Nat) (c4_1005 : Addr) (c4_1006 : Nat) (c4_1007 : Nat) (v5_1008 : Int) (h1009 : Heap) : Prop :=
  (iteB (decide (v5_1008 < (c0_1002 : Int))) ((((∃ m1012, straitref14_By.l1 (fun z1010 h1011 => (((0 ≤ z1010 ∧ z1010 < (c4_1006 : Int)) ∧ stC h1011 (c4_1005.add (z1010.toNat * 1)) (.bool true) fun h1013 => (newP h1013 (.cells #[(.int .i64 z1010)] 3) fun a1014 h1015 => ∃ n1020, cellsAt h1015 (some a1014) (1 * 1) n1020 ∧ appP 3 1 8 [(.int .i64 0)] v3_1004 v3_1004l v3_1004c 1 n1020 h1015 fun q1016 l1017 c1018 h1019 => ((cont c0_1001 c0_1002 c0_1003 q1016 l1017 c1018 c4_1005 c4_1006 c4_1007 (IntKind.i64.wrap (v5_1008 + 1)) h1019)))))) m1012 c0_1001 c0_1002 c0_1003 v3_1004 v3_1004l v3_1004c c4_1005 c4_1006 c4_1007 v5_1008 (-1) 0 h1009)))) (K2 v3_1004 v3_1004l v3_1004c h1009))
def straitref14_By.l0 (K2 : (Option Addr) → Nat → Nat → Heap → Prop) : Nat → (Option Addr) → Nat → Nat → (Option Addr) → Nat → Nat → Addr → Nat → Nat → Int → Heap → Prop
  | 0, _, _, _, _, _, _, _, _, _, _, _ => False
  | m + 1, c0_1001, c0_1002, c0_1003, v3_1004, v3_1004l, v3_1004c, c4_1005, c4_1006, c4_1007, v5_1008, h => straitref14_By.b0 K2 (straitref14_By.l0 K2 m) c0_1001 c0_1002 c0_1003 v3_1004 v3_1004l v3_1004c c4_1005 c4_1006 c4_1007 v5_1008 h
def straitref14_By (a1 : Option Addr) (a1l : Nat) (a1c : Nat) (h : Heap) (K : (Option Addr) → Nat → Nat → Heap → Prop) : Prop :=
  (((0 ≤ (a1l : Int) ∧ (a1l : Int) ≤ (a1l : Int) ∧ (a1l : Int) * (1 : Nat) ≤ 2 ^ 47 ∧ (a1l : Int) ≤ 2 ^ 47) ∧ newP h (.cells (zeroRow [(.bool false)] (a1l : Int).toNat).toArray 4) fun a2 h3 => ((∃ m6, straitref14_By.l0 (fun z4 z4l z4c h5 => (K z4 z4l z4c h5)) m6 a1 a1l a1c none 0 0 a2 ((a1l : Int).toNat) ((a1l : Int).toNat) 0 h3))))
def straitref14_By.ret (K : (Option Addr) → Nat → Nat → Heap → Prop) (v : Value) (h : Heap) : Prop := match v with
  | (.slice r7 r7l r7c) => K r7 r7l r7c h
  | _ => False
theorem straitref14_By.ret_elim {K : (Option Addr) → Nat → Nat → Heap → Prop} {K' : Value → Heap → Prop} {v : Value} {h : Heap} (hk : ∀ r7 r7l r7c h, K r7 r7l r7c h → K' (.slice r7 r7l r7c) h) (hh : straitref14_By.ret K v h) : K' v h := by
  unfold straitref14_By.ret at hh
  split at hh
  · exact hk _ _ _ _ hh
  · exact hh.elim
def straitref14_By.r0 (K : Nat → List Value → Heap → Prop) (m : Nat) (vs : List Value) (h : Heap) : Prop := match vs with
  | [(.slice c0_1001 c0_1002 c0_1003), (.slice v3_1004 v3_1004l v3_1004c), (.slice (some c4_1005) c4_1006 c4_1007), (.int .i64 v5_1008)] => straitref14_By.l0 (fun z8 z8l z8c h' => K 2 [(.slice z8 z8l z8c)] h') m c0_1001 c0_1002 c0_1003 v3_1004 v3_1004l v3_1004c c4_1005 c4_1006 c4_1007 v5_1008 h
  | _ => False
def straitref14_By.r1 (K : Nat → List Value → Heap → Prop) (m : Nat) (vs : List Value) (h : Heap) : Prop := match vs with
  | [(.slice c0_2001 c0_2002 c0_2003), (.slice c3_2004 c3_2005 c3_2006), (.slice (some c4_2007) c4_2008 c4_2009), (.int .i64 c5_2010), (.int .i64 v6_2011), (.int .i64 v7_2012)] => straitref14_By.l1 (fun z9 h' => K 4 [(.slice c0_2001 c0_2002 c0_2003), (.slice c3_2004 c3_2005 c3_2006), (.slice (some c4_2007) c4_2008 c4_2009), (.int .i64 c5_2010), (.int .i64 z9)] h') m c0_2001 c0_2002 c0_2003 c3_2004 c3_2005 c3_2006 c4_2007 c4_2008 c4_2009 c5_2010 v6_2011 v7_2012 h
  | _ => False
def straitref14_By.loop (i : Nat) (vs : List Value) (h : Heap) (K : Nat → List Value → Heap → Prop) : Prop := match i with
  | 0 => ∃ m, straitref14_By.r0 K m vs h
  | 1 => ∃ m, straitref14_By.r1 K m vs h
  | _ => False
noncomputable def straitref14_By.ctx : Ctx := { P := Try.prog, call := fun _ _ _ _ => False, qcall := fun _ _ _ _ => False, quiet := fun f => Nat.beq f 1000069 || Nat.beq f 1000099, loop := straitref14_By.loop }
theorem straitref14_By.ok [DKc] : straitref14_By.ctx.OK where
  mixed := by kernel_rfl
  mono := fun hh _ => hh.elim
  call := fun hh => hh.elim
  qmono := fun hh _ => hh.elim
  qval := fun hh => hh.elim
  qcall := fun hh => hh.elim
noncomputable def straitref14_By.code : Code := (Try.f77.body).getD .skip
def straitref14_By.ann : Ann := (.two .auto (.two .auto (.two .auto (.two (.two .auto (.two (.loop 0 [0, 3, 4, 5] [(2, [3])] (.two .auto (.two (.two (.two .auto (.two (.two .auto (.two (.loop 1 [0, 3, 4, 5, 6, 7] [(4, [0, 3, 4, 5, 6])] (.two .auto (.two (.two (.two (.reg [0, 0, 3, 7, 15, 31, 63, 127, 255, 511, 511, 2047, 4095, 511, 511, 25087, 57855, 131071, 262143, 524287] (.take 0 (.take 1 (.take 2 (.take 3 (.take 4 (.take 5 (.take 6 (.take 7 (.take 8 (.take 9 (.take 10 (.take 11 (.take 12 (.take 13 (.take 14 (.take 15 (.take 16 (.take 17 (.take 18 (.take 19 .done))))))))))))))))))))) .auto) .auto) .auto))) .auto)) .auto)) .auto) .auto))) .auto)) .auto))))
noncomputable def straitref14_By.c1 : Code := sub straitref14_By.code [1, 1, 1, 0, 1, 0, 0, 1, 0, 0, 1, 0, 1, 0, 0]
def straitref14_By.a1 : Ann := (.two .auto (.two (.two (.two (.reg [0, 0, 3, 7, 15, 31, 63, 127, 255, 511, 511, 2047, 4095, 511, 511, 25087, 57855, 131071, 262143, 524287] (.take 0 (.take 1 (.take 2 (.take 3 (.take 4 (.take 5 (.take 6 (.take 7 (.take 8 (.take 9 (.take 10 (.take 11 (.take 12 (.take 13 (.take 14 (.take 15 (.take 16 (.take 17 (.take 18 (.take 19 .done))))))))))))))))))))) .auto) .auto) .auto))
def straitref14_By.keep1 : List Nat := [0, 3, 4, 5, 6, 7]
def straitref14_By.outs1 : List (Nat × List Nat) := [(4, [0, 3, 4, 5, 6])]
noncomputable def straitref14_By.c0 : Code := sub straitref14_By.code [1, 1, 1, 0, 1, 0, 0]
def straitref14_By.a0 : Ann := (.two .auto (.two (.two (.two .auto (.two (.two .auto (.two (.loop 1 [0, 3, 4, 5, 6, 7] [(4, [0, 3, 4, 5, 6])] (.two .auto (.two (.two (.two (.reg [0, 0, 3, 7, 15, 31, 63, 127, 255, 511, 511, 2047, 4095, 511, 511, 25087, 57855, 131071, 262143, 524287] (.take 0 (.take 1 (.take 2 (.take 3 (.take 4 (.take 5 (.take 6 (.take 7 (.take 8 (.take 9 (.take 10 (.take 11 (.take 12 (.take 13 (.take 14 (.take 15 (.take 16 (.take 17 (.take 18 (.take 19 .done))))))))))))))))))))) .auto) .auto) .auto))) .auto)) .auto)) .auto) .auto))
def straitref14_By.keep0 : List Nat := [0, 3, 4, 5]
def straitref14_By.outs0 : List (Nat × List Nat) := [(2, [3])]
set_option maxRecDepth 100000 in
theorem straitref14_By.L1 [DKc] : LoopOK straitref14_By.ctx 52 straitref14_By.c1 1 straitref14_By.keep1 straitref14_By.outs1 := by
  refine loop_ok (n := straitref14_By.a1) straitref14_By.ok (by kernel_rfl) (loops_ok (l := []) (by kernel_rfl) ?_) straitref14_By.r1 ?_ ?_ (fun vs h K hh => hh)
  · exact trivial
  · intro K vs h hh
    unfold straitref14_By.r1 at hh
    split at hh
    · exact hh
    · exact hh
  · intro K m vs h hh
    unfold straitref14_By.r1 at hh
    split at hh
    · exact cast (by kernel_rfl) hh
    · exact hh.elim
set_option maxRecDepth 100000 in
theorem straitref14_By.L0 [DKc] : LoopOK straitref14_By.ctx 52 straitref14_By.c0 0 straitref14_By.keep0 straitref14_By.outs0 := by
  refine loop_ok (n := straitref14_By.a0) straitref14_By.ok (by kernel_rfl) (loops_ok (l := [(straitref14_By.c1, none, 1, straitref14_By.keep1, straitref14_By.outs1)]) (by kernel_rfl) ?_) straitref14_By.r0 ?_ ?_ (fun vs h K hh => hh)
  · exact ⟨straitref14_By.L1, trivial⟩
  · intro K vs h hh
    unfold straitref14_By.r0 at hh
    split at hh
    · exact hh
    · exact hh
  · intro K m vs h hh
    unfold straitref14_By.r0 at hh
    split at hh
    · exact cast (by kernel_rfl) hh
    · exact hh.elim
set_option maxRecDepth 100000 in
theorem straitref14_By.eq (a1 : Option Addr) (a1l : Nat) (a1c : Nat) (h : Heap) (K : (Option Addr) → Nat → Nat → Heap → Prop) : evF straitref14_By.ctx Try.f77 straitref14_By.ann [(.slice a1 a1l a1c)] h (straitref14_By.ret K) = straitref14_By a1 a1l a1c h K := by kernel_rfl
set_option maxRecDepth 100000 in
theorem straitref14_By.calls [DKc] {a1 : Option Addr} {a1l : Nat} {a1c : Nat} {h : Heap} {K : (Option Addr) → Nat → Nat → Heap → Prop} (hh : straitref14_By a1 a1l a1c h K) (w : World) (hw : w.heap = h) :
    (callFunc 77 #[(.slice a1 a1l a1c)]).run Try.prog w = .ok (.enter 77 #[(.slice a1 a1l a1c)]) w ∧ Calls Try.prog 77 #[(.slice a1 a1l a1c)] w fun e w' => ∃ v, e = .returned v ∧ Out w w' ∧ straitref14_By.ret K v w'.heap := by
  rw [← straitref14_By.eq] at hh
  exact fn_calls (args := [(.slice a1 a1l a1c)]) (c := straitref14_By.code) straitref14_By.ok Try.func77 (by kernel_rfl) (by kernel_rfl) (by kernel_rfl) (by kernel_rfl) (loops_ok (l := [(straitref14_By.c0, none, 0, straitref14_By.keep0, straitref14_By.outs0)]) (by kernel_rfl) ⟨straitref14_By.L0, trivial⟩) hh w hw

/-! ### strait/straitref14.Distinct: function 62 -/
def straitref14_Distinct.b0 (K2 : (Option Addr) → Nat → Nat → Heap → Prop) (cont : (Option Addr) → Nat → Nat → (Option Addr) → Nat → Nat → (Option Addr) → Nat → Nat → Int → Heap → Prop) (c0_1001 : Option Addr) (c0_1002 : Nat) (c0_1003 : Nat) (v3_1004 : Option Addr) (v3_1004l : Nat) (v3_1004c : Nat) (c4_1005 : Option Addr) (c4_1006 : Nat) (c4_1007 : Nat) (v5_1008 : Int) (h1009 : Heap) : Prop :=
  (iteB (decide (v5_1008 < (c4_1006 : Int))) ((let j1030 := (fun (y1018 : Bool) => iteB y1018 (chkP c4_1005 fun a1019 => (0 ≤ v5_1008 ∧ v5_1008 < (c4_1006 : Int)) ∧ ∃ (x1020 : Int), cell h1009 (a1019.add (v5_1008.toNat * 1)) = some (.int .i64 x1020) ∧ chkP c0_1001 fun a1021 => (0 ≤ x1020 ∧ x1020 < (c0_1002 : Int)) ∧ ∃ (x1022 : Int), cell h1009 (a1021.add (x1020.toNat * 1)) = some (.int .i64 x1022) ∧ newP h1009 (.cells #[(.int .i64 x1022)] 2) fun a1023 h1024 => ∃ n1029, cellsAt h1024 (some a1023) (1 * 1) n1029 ∧ appP 2 1 8 [(.int .i64 0)] v3_1004 v3_1004l v3_1004c 1 n1029 h1024 fun q1025 l1026 c1027 h1028 => ((cont c0_1001 c0_1002 c0_1003 q1025 l1026 c1027 c4_1005 c4_1006 c4_1007 (IntKind.i64.wrap (v5_1008 + 1)) h1028))) (((cont c0_1001 c0_1002 c0_1003 v3_1004 v3_1004l v3_1004c c4_1005 c4_1006 c4_1007 (IntKind.i64.wrap (v5_1008 + 1)) h1009))));
  iteB (v5_1008 == (0 : Int)) ((j1030 true)) (chkP c4_1005 fun a1010 => (0 ≤ v5_1008 ∧ v5_1008 < (c4_1006 : Int)) ∧ ∃ (x1011 : Int), cell h1009 (a1010.add (v5_1008.toNat * 1)) = some (.int .i64 x1011) ∧ chkP c0_1001 fun a1012 => (0 ≤ x1011 ∧ x1011 < (c0_1002 : Int)) ∧ ∃ (x1013 : Int), cell h1009 (a1012.add (x1011.toNat * 1)) = some (.int .i64 x1013) ∧ chkP c4_1005 fun a1014 => (0 ≤ (IntKind.i64.wrap (v5_1008 - 1)) ∧ (IntKind.i64.wrap (v5_1008 - 1)) < (c4_1006 : Int)) ∧ ∃ (x1015 : Int), cell h1009 (a1014.add ((IntKind.i64.wrap (v5_1008 - 1)).toNat * 1)) = some (.int .i64 x1015) ∧ chkP c0_1001 fun a1016 => (0 ≤ x1015 ∧ x1015 < (c0_1002 : Int)) ∧ ∃ (x1017 : Int), cell h1009 (a1016.add (x1015.toNat * 1)) = some (.int .i64 x1017) ∧ (j1030 (x1013 != x1017))))) (K2 v3_1004 v3_1004l v3_1004c h1009))
def straitref14_Distinct.l0 (K2 : (Option Addr) → Nat → Nat → Heap → Prop) : Nat → (Option Addr) → Nat → Nat → (Option Addr) → Nat → Nat → (Option Addr) → Nat → Nat → Int → Heap → Prop
  | 0, _, _, _, _, _, _, _, _, _, _, _ => False
  | m + 1, c0_1001, c0_1002, c0_1003, v3_1004, v3_1004l, v3_1004c, c4_1005, c4_1006, c4_1007, v5_1008, h => straitref14_Distinct.b0 K2 (straitref14_Distinct.l0 K2 m) c0_1001 c0_1002 c0_1003 v3_1004 v3_1004l v3_1004c c4_1005 c4_1006 c4_1007 v5_1008 h
def straitref14_Distinct (a1 : Option Addr) (a1l : Nat) (a1c : Nat) (h : Heap) (K : (Option Addr) → Nat → Nat → Heap → Prop) : Prop :=
  ((callP3 (straitref14_By a1 a1l a1c h) fun x2 x2l x2c h3 => ((∃ m6, straitref14_Distinct.l0 (fun z4 z4l z4c h5 => (K z4 z4l z4c h5)) m6 a1 a1l a1c none 0 0 x2 x2l x2c 0 h3))))
def straitref14_Distinct.ret (K : (Option Addr) → Nat → Nat → Heap → Prop) (v : Value) (h : Heap) : Prop := match v with
  | (.slice r7 r7l r7c) => K r7 r7l r7c h
  | _ => False
theorem straitref14_Distinct.ret_elim {K : (Option Addr) → Nat → Nat → Heap → Prop} {K' : Value → Heap → Prop} {v : Value} {h : Heap} (hk : ∀ r7 r7l r7c h, K r7 r7l r7c h → K' (.slice r7 r7l r7c) h) (hh : straitref14_Distinct.ret K v h) : K' v h := by
  unfold straitref14_Distinct.ret at hh
  split at hh
  · exact hk _ _ _ _ hh
  · exact hh.elim
def straitref14_Distinct.call (f : FuncId) (vs : List Value) (h : Heap) (K : Value → Heap → Prop) : Prop := match f, vs with
  | 77, [(.slice a1 a1l a1c)] => callP3 (straitref14_By a1 a1l a1c h) fun r7 r7l r7c h' => K (.slice r7 r7l r7c) h'
  | _, _ => False
def straitref14_Distinct.r0 (K : Nat → List Value → Heap → Prop) (m : Nat) (vs : List Value) (h : Heap) : Prop := match vs with
  | [(.slice c0_1001 c0_1002 c0_1003), (.slice v3_1004 v3_1004l v3_1004c), (.slice c4_1005 c4_1006 c4_1007), (.int .i64 v5_1008)] => straitref14_Distinct.l0 (fun z8 z8l z8c h' => K 2 [(.slice z8 z8l z8c)] h') m c0_1001 c0_1002 c0_1003 v3_1004 v3_1004l v3_1004c c4_1005 c4_1006 c4_1007 v5_1008 h
  | _ => False
def straitref14_Distinct.loop (i : Nat) (vs : List Value) (h : Heap) (K : Nat → List Value → Heap → Prop) : Prop := match i with
  | 0 => ∃ m, straitref14_Distinct.r0 K m vs h
  | _ => False
noncomputable def straitref14_Distinct.ctx : Ctx := { P := Try.prog, call := straitref14_Distinct.call, qcall := fun _ _ _ _ => False, quiet := fun f => Nat.beq f 1000069 || Nat.beq f 1000099, loop := straitref14_Distinct.loop }
theorem straitref14_Distinct.ok [DKc] : straitref14_Distinct.ctx.OK where
  mixed := by kernel_rfl
  mono := by
    intro f args h K K' hh hk
    change straitref14_Distinct.call f args h K at hh
    change straitref14_Distinct.call f args h K'
    unfold straitref14_Distinct.call at hh ⊢
    split at hh
    · obtain ⟨R, h1, h2⟩ := hh
      exact ⟨R, h1, fun _ _ _ x hr => hk _ _ (h2 _ _ _ x hr)⟩
    · exact hh.elim
  call := by
    intro f args h K hh w hw
    change straitref14_Distinct.call f args h K at hh
    unfold straitref14_Distinct.call at hh
    split at hh
    · obtain ⟨R, h1, h2⟩ := hh
      obtain ⟨g1, g2⟩ := straitref14_By.calls h1 w hw
      exact ⟨g1, g2.mono fun e w' ⟨v, he, ho, hr⟩ => ⟨v, he, ho, straitref14_By.ret_elim h2 hr⟩⟩
    · exact hh.elim
  qmono := fun hh _ => hh.elim
  qval := fun hh => hh.elim
  qcall := fun hh => hh.elim
noncomputable def straitref14_Distinct.code : Code := (Try.f62.body).getD .skip
def straitref14_Distinct.ann : Ann := (.two .auto (.two .auto (.two .auto (.two (.two .auto (.two (.loop 0 [0, 3, 4, 5] [(2, [3])] (.two .auto (.two (.two (.two (.reg [0, 1, 3, 7, 7, 7, 55, 119, 255, 511, 7, 7, 7, 4103, 14343, 30727, 64519, 130055, 262143, 524287] (.take 0 (.take 1 (.take 2 (.take 3 (.take 4 (.take 5 (.take 6 (.take 7 (.take 8 (.take 9 (.take 10 (.take 11 (.take 12 (.take 13 (.take 14 (.take 15 (.take 16 (.take 17 (.take 18 (.take 19 .done))))))))))))))))))))) .auto) .auto) .auto))) .auto)) .auto))))
noncomputable def straitref14_Distinct.c0 : Code := sub straitref14_Distinct.code [1, 1, 1, 0, 1, 0, 0]
def straitref14_Distinct.a0 : Ann := (.two .auto (.two (.two (.two (.reg [0, 1, 3, 7, 7, 7, 55, 119, 255, 511, 7, 7, 7, 4103, 14343, 30727, 64519, 130055, 262143, 524287] (.take 0 (.take 1 (.take 2 (.take 3 (.take 4 (.take 5 (.take 6 (.take 7 (.take 8 (.take 9 (.take 10 (.take 11 (.take 12 (.take 13 (.take 14 (.take 15 (.take 16 (.take 17 (.take 18 (.take 19 .done))))))))))))))))))))) .auto) .auto) .auto))
def straitref14_Distinct.keep0 : List Nat := [0, 3, 4, 5]
def straitref14_Distinct.outs0 : List (Nat × List Nat) := [(2, [3])]
set_option maxRecDepth 100000 in
theorem straitref14_Distinct.L0 [DKc] : LoopOK straitref14_Distinct.ctx 45 straitref14_Distinct.c0 0 straitref14_Distinct.keep0 straitref14_Distinct.outs0 := by
  refine loop_ok (n := straitref14_Distinct.a0) straitref14_Distinct.ok (by kernel_rfl) (loops_ok (l := []) (by kernel_rfl) ?_) straitref14_Distinct.r0 ?_ ?_ (fun vs h K hh => hh)
  · exact trivial
  · intro K vs h hh
    unfold straitref14_Distinct.r0 at hh
    split at hh
    · exact hh
    · exact hh
  · intro K m vs h hh
    unfold straitref14_Distinct.r0 at hh
    split at hh
    · exact cast (by kernel_rfl) hh
    · exact hh.elim
set_option maxRecDepth 100000 in
theorem straitref14_Distinct.eq (a1 : Option Addr) (a1l : Nat) (a1c : Nat) (h : Heap) (K : (Option Addr) → Nat → Nat → Heap → Prop) : evF straitref14_Distinct.ctx Try.f62 straitref14_Distinct.ann [(.slice a1 a1l a1c)] h (straitref14_Distinct.ret K) = straitref14_Distinct a1 a1l a1c h K := by kernel_rfl
set_option maxRecDepth 100000 in
theorem straitref14_Distinct.calls [DKc] {a1 : Option Addr} {a1l : Nat} {a1c : Nat} {h : Heap} {K : (Option Addr) → Nat → Nat → Heap → Prop} (hh : straitref14_Distinct a1 a1l a1c h K) (w : World) (hw : w.heap = h) :
    (callFunc 62 #[(.slice a1 a1l a1c)]).run Try.prog w = .ok (.enter 62 #[(.slice a1 a1l a1c)]) w ∧ Calls Try.prog 62 #[(.slice a1 a1l a1c)] w fun e w' => ∃ v, e = .returned v ∧ Out w w' ∧ straitref14_Distinct.ret K v w'.heap := by
  rw [← straitref14_Distinct.eq] at hh
  exact fn_calls (args := [(.slice a1 a1l a1c)]) (c := straitref14_Distinct.code) straitref14_Distinct.ok Try.func62 (by kernel_rfl) (by kernel_rfl) (by kernel_rfl) (by kernel_rfl) (loops_ok (l := [(straitref14_Distinct.c0, none, 0, straitref14_Distinct.keep0, straitref14_Distinct.outs0)]) (by kernel_rfl) ⟨straitref14_Distinct.L0, trivial⟩) hh w hw

/-! ### strait/straitref35.Values: function 41 -/
def straitref35_Values.b1 (K4 : (Option Addr) → Nat → Nat → Heap → Prop) (cont : (Option Addr) → Nat → Nat → (Option Addr) → Nat → Nat → Int → Int → Heap → Prop) (c0_2001 : Option Addr) (c0_2002 : Nat) (c0_2003 : Nat) (v3_2004 : Option Addr) (v3_2004l : Nat) (v3_2004c : Nat) (c4_2005 : Int) (v5_2006 : Int) (h2007 : Heap) : Prop :=
  let j2022 : Prop := (chkP c0_2001 fun a2011 => (0 ≤ c4_2005 ∧ c4_2005 < (c0_2002 : Int)) ∧ ∃ (x2012 : Option Addr) (x2012l : Nat) (x2012c : Nat), cell h2007 (a2011.add (c4_2005.toNat * 1)) = some (.slice x2012 x2012l x2012c) ∧ chkP x2012 fun a2013 => (0 ≤ v5_2006 ∧ v5_2006 < (x2012l : Int)) ∧ ∃ (x2014 : Int), cell h2007 (a2013.add (v5_2006.toNat * 1)) = some (.int .i64 x2014) ∧ newP h2007 (.cells #[(.int .i64 x2014)] 2) fun a2015 h2016 => ∃ n2021, cellsAt h2016 (some a2015) (1 * 1) n2021 ∧ appP 2 1 8 [(.int .i64 0)] v3_2004 v3_2004l v3_2004c 1 n2021 h2016 fun q2017 l2018 c2019 h2020 => ((cont c0_2001 c0_2002 c0_2003 q2017 l2018 c2019 c4_2005 (IntKind.i64.wrap (v5_2006 + 1)) h2020)));
  chkP c0_2001 fun a2008 => (0 ≤ c4_2005 ∧ c4_2005 < (c0_2002 : Int)) ∧ ∃ (x2009 : Option Addr) (x2009l : Nat) (x2009c : Nat), cell h2007 (a2008.add (c4_2005.toNat * 1)) = some (.slice x2009 x2009l x2009c) ∧ iteB (decide (v5_2006 < (x2009l : Int))) ((iteB (decide (v5_2006 < (c0_2002 : Int))) ((j2022)) (K4 v3_2004 v3_2004l v3_2004c h2007))) (K4 v3_2004 v3_2004l v3_2004c h2007)
def straitref35_Values.l1 (K4 : (Option Addr) → Nat → Nat → Heap → Prop) : Nat → (Option Addr) → Nat → Nat → (Option Addr) → Nat → Nat → Int → Int → Heap → Prop
  | 0, _, _, _, _, _, _, _, _, _ => False
  | m + 1, c0_2001, c0_2002, c0_2003, v3_2004, v3_2004l, v3_2004c, c4_2005, v5_2006, h => straitref35_Values.b1 K4 (straitref35_Values.l1 K4 m) c0_2001 c0_2002 c0_2003 v3_2004 v3_2004l v3_2004c c4_2005 v5_2006 h
def straitref35_Values.b0 (K2 : (Option Addr) → Nat → Nat → Heap → Prop) (cont : (Option Addr) → Nat → Nat → (Option Addr) → Nat → Nat → Int → Heap → Prop) (c0_1001 : Option Addr) (c0_1002 : Nat) (c0_1003 : Nat) (v3_1004 : Option Addr) (v3_1004l : Nat) (v3_1004c : Nat) (v4_1005 : Int) (h1006 : Heap) : Prop :=
  (iteB (decide (v4_1005 < (c0_1002 : Int))) (((∃ m1009, straitref35_Values.l1 (fun z1007 z1007l z1007c h1008 => (((cont c0_1001 c0_1002 c0_1003 z1007 z1007l z1007c (IntKind.i64.wrap (v4_1005 + 1)) h1008)))) m1009 c0_1001 c0_1002 c0_1003 v3_1004 v3_1004l v3_1004c v4_1005 (IntKind.i64.wrap (v4_1005 + 1)) h1006))) (K2 v3_1004 v3_1004l v3_1004c h1006))
def straitref35_Values.l0 (K2 : (Option Addr) → Nat → Nat → Heap → Prop) : Nat → (Option Addr) → Nat → Nat → (Option Addr) → Nat → Nat → Int → Heap → Prop
  | 0, _, _, _, _, _, _, _, _ => False
  | m + 1, c0_1001, c0_1002, c0_1003, v3_1004, v3_1004l, v3_1004c, v4_1005, h => straitref35_Values.b0 K2 (straitref35_Values.l0 K2 m) c0_1001 c0_1002 c0_1003 v3_1004 v3_1004l v3_1004c v4_1005 h
def straitref35_Values (a1 : Option Addr) (a1l : Nat) (a1c : Nat) (h : Heap) (K : (Option Addr) → Nat → Nat → Heap → Prop) : Prop :=
  (((∃ m4, straitref35_Values.l0 (fun z2 z2l z2c h3 => ((callP3 (straitref14_Distinct z2 z2l z2c h3) fun x5 x5l x5c h6 => K x5 x5l x5c h6))) m4 a1 a1l a1c none 0 0 0 h)))
def straitref35_Values.ret (K : (Option Addr) → Nat → Nat → Heap → Prop) (v : Value) (h : Heap) : Prop := match v with
  | (.slice r7 r7l r7c) => K r7 r7l r7c h
  | _ => False
theorem straitref35_Values.ret_elim {K : (Option Addr) → Nat → Nat → Heap → Prop} {K' : Value → Heap → Prop} {v : Value} {h : Heap} (hk : ∀ r7 r7l r7c h, K r7 r7l r7c h → K' (.slice r7 r7l r7c) h) (hh : straitref35_Values.ret K v h) : K' v h := by
  unfold straitref35_Values.ret at hh
  split at hh
  · exact hk _ _ _ _ hh
  · exact hh.elim
def straitref35_Values.call (f : FuncId) (vs : List Value) (h : Heap) (K : Value → Heap → Prop) : Prop := match f, vs with
  | 62, [(.slice a1 a1l a1c)] => callP3 (straitref14_Distinct a1 a1l a1c h) fun r7 r7l r7c h' => K (.slice r7 r7l r7c) h'
  | _, _ => False
def straitref35_Values.r0 (K : Nat → List Value → Heap → Prop) (m : Nat) (vs : List Value) (h : Heap) : Prop := match vs with
  | [(.slice c0_1001 c0_1002 c0_1003), (.slice v3_1004 v3_1004l v3_1004c), (.int .i64 v4_1005)] => straitref35_Values.l0 (fun z8 z8l z8c h' => K 2 [(.slice z8 z8l z8c)] h') m c0_1001 c0_1002 c0_1003 v3_1004 v3_1004l v3_1004c v4_1005 h
  | _ => False
def straitref35_Values.r1 (K : Nat → List Value → Heap → Prop) (m : Nat) (vs : List Value) (h : Heap) : Prop := match vs with
  | [(.slice c0_2001 c0_2002 c0_2003), (.slice v3_2004 v3_2004l v3_2004c), (.int .i64 c4_2005), (.int .i64 v5_2006)] => straitref35_Values.l1 (fun z9 z9l z9c h' => K 4 [(.slice c0_2001 c0_2002 c0_2003), (.slice z9 z9l z9c), (.int .i64 c4_2005)] h') m c0_2001 c0_2002 c0_2003 v3_2004 v3_2004l v3_2004c c4_2005 v5_2006 h
  | _ => False
def straitref35_Values.loop (i : Nat) (vs : List Value) (h : Heap) (K : Nat → List Value → Heap → Prop) : Prop := match i with
  | 0 => ∃ m, straitref35_Values.r0 K m vs h
  | 1 => ∃ m, straitref35_Values.r1 K m vs h
  | _ => False
noncomputable def straitref35_Values.ctx : Ctx := { P := Try.prog, call := straitref35_Values.call, qcall := fun _ _ _ _ => False, quiet := fun f => Nat.beq f 1000069 || Nat.beq f 1000099, loop := straitref35_Values.loop }
theorem straitref35_Values.ok [DKc] : straitref35_Values.ctx.OK where
  mixed := by kernel_rfl
  mono := by
    intro f args h K K' hh hk
    change straitref35_Values.call f args h K at hh
    change straitref35_Values.call f args h K'
    unfold straitref35_Values.call at hh ⊢
    split at hh
    · obtain ⟨R, h1, h2⟩ := hh
      exact ⟨R, h1, fun _ _ _ x hr => hk _ _ (h2 _ _ _ x hr)⟩
    · exact hh.elim
  call := by
    intro f args h K hh w hw
    change straitref35_Values.call f args h K at hh
    unfold straitref35_Values.call at hh
    split at hh
    · obtain ⟨R, h1, h2⟩ := hh
      obtain ⟨g1, g2⟩ := straitref14_Distinct.calls h1 w hw
      exact ⟨g1, g2.mono fun e w' ⟨v, he, ho, hr⟩ => ⟨v, he, ho, straitref14_Distinct.ret_elim h2 hr⟩⟩
    · exact hh.elim
  qmono := fun hh _ => hh.elim
  qval := fun hh => hh.elim
  qcall := fun hh => hh.elim
noncomputable def straitref35_Values.code : Code := (Try.f41.body).getD .skip
def straitref35_Values.ann : Ann := (.two .auto (.two .auto (.two (.two .auto (.two (.loop 0 [0, 3, 4] [(2, [3])] (.two .auto (.two (.two (.two .auto (.two (.loop 1 [0, 3, 4, 5] [(4, [0, 3, 4])] .auto) .auto)) .auto) .auto))) .auto)) .auto)))
noncomputable def straitref35_Values.c1 : Code := sub straitref35_Values.code [1, 1, 0, 1, 0, 0, 1, 0, 0, 1, 0, 0]
def straitref35_Values.a1 : Ann := .auto
def straitref35_Values.keep1 : List Nat := [0, 3, 4, 5]
def straitref35_Values.outs1 : List (Nat × List Nat) := [(4, [0, 3, 4])]
noncomputable def straitref35_Values.c0 : Code := sub straitref35_Values.code [1, 1, 0, 1, 0, 0]
def straitref35_Values.a0 : Ann := (.two .auto (.two (.two (.two .auto (.two (.loop 1 [0, 3, 4, 5] [(4, [0, 3, 4])] .auto) .auto)) .auto) .auto))
def straitref35_Values.keep0 : List Nat := [0, 3, 4]
def straitref35_Values.outs0 : List (Nat × List Nat) := [(2, [3])]
set_option maxRecDepth 100000 in
theorem straitref35_Values.L1 [DKc] : LoopOK straitref35_Values.ctx 41 straitref35_Values.c1 1 straitref35_Values.keep1 straitref35_Values.outs1 := by
  refine loop_ok (n := straitref35_Values.a1) straitref35_Values.ok (by kernel_rfl) (loops_ok (l := []) (by kernel_rfl) ?_) straitref35_Values.r1 ?_ ?_ (fun vs h K hh => hh)
  · exact trivial
  · intro K vs h hh
    unfold straitref35_Values.r1 at hh
    split at hh
    · exact hh
    · exact hh
  · intro K m vs h hh
    unfold straitref35_Values.r1 at hh
    split at hh
    · exact cast (by kernel_rfl) hh
    · exact hh.elim
set_option maxRecDepth 100000 in
theorem straitref35_Values.L0 [DKc] : LoopOK straitref35_Values.ctx 41 straitref35_Values.c0 0 straitref35_Values.keep0 straitref35_Values.outs0 := by
  refine loop_ok (n := straitref35_Values.a0) straitref35_Values.ok (by kernel_rfl) (loops_ok (l := [(straitref35_Values.c1, none, 1, straitref35_Values.keep1, straitref35_Values.outs1)]) (by kernel_rfl) ?_) straitref35_Values.r0 ?_ ?_ (fun vs h K hh => hh)
  · exact ⟨straitref35_Values.L1, trivial⟩
  · intro K vs h hh
    unfold straitref35_Values.r0 at hh
    split at hh
    · exact hh
    · exact hh
  · intro K m vs h hh
    unfold straitref35_Values.r0 at hh
    split at hh
    · exact cast (by kernel_rfl) hh
    · exact hh.elim
set_option maxRecDepth 100000 in
theorem straitref35_Values.eq (a1 : Option Addr) (a1l : Nat) (a1c : Nat) (h : Heap) (K : (Option Addr) → Nat → Nat → Heap → Prop) : evF straitref35_Values.ctx Try.f41 straitref35_Values.ann [(.slice a1 a1l a1c)] h (straitref35_Values.ret K) = straitref35_Values a1 a1l a1c h K := by kernel_rfl
set_option maxRecDepth 100000 in
theorem straitref35_Values.calls [DKc] {a1 : Option Addr} {a1l : Nat} {a1c : Nat} {h : Heap} {K : (Option Addr) → Nat → Nat → Heap → Prop} (hh : straitref35_Values a1 a1l a1c h K) (w : World) (hw : w.heap = h) :
    (callFunc 41 #[(.slice a1 a1l a1c)]).run Try.prog w = .ok (.enter 41 #[(.slice a1 a1l a1c)]) w ∧ Calls Try.prog 41 #[(.slice a1 a1l a1c)] w fun e w' => ∃ v, e = .returned v ∧ Out w w' ∧ straitref35_Values.ret K v w'.heap := by
  rw [← straitref35_Values.eq] at hh
  exact fn_calls (args := [(.slice a1 a1l a1c)]) (c := straitref35_Values.code) straitref35_Values.ok Try.func41 (by kernel_rfl) (by kernel_rfl) (by kernel_rfl) (by kernel_rfl) (loops_ok (l := [(straitref35_Values.c0, none, 0, straitref35_Values.keep0, straitref35_Values.outs0)]) (by kernel_rfl) ⟨straitref35_Values.L0, trivial⟩) hh w hw

/-! ### strait/straitref35.Tree: function 42 -/
def straitref35_Tree.b2 (K6 : Bool → Int → Heap → Prop) (cont : (Option Addr) → Nat → Nat → Addr → Int → Addr → (Option Addr) → Nat → Nat → Int → Int → Int → Bool → Int → Int → Heap → Prop) (c0_3001 : Option Addr) (c0_3002 : Nat) (c0_3003 : Nat) (c2_3004 : Addr) (c3_3005 : Int) (c4_3006 : Addr) (c5_3007 : Option Addr) (c5_3008 : Nat) (c5_3009 : Nat) (c6_3010 : Int) (c7_3011 : Int) (c8_3012 : Int) (v9_3013 : Bool) (v10_3014 : Int) (v11_3015 : Int) (h3016 : Heap) : Prop :=
  (iteB (decide (v11_3015 < (c5_3008 : Int))) ((let j3046 := (fun (y3019 : Bool) => let j3045 := (fun (y3042 : Bool) => iteB y3042 (chkP c5_3007 fun a3043 => (0 ≤ v11_3015 ∧ v11_3015 < (c5_3008 : Int)) ∧ ∃ (x3044 : Int), cell h3016 (a3043.add (v11_3015.toNat * 1)) = some (.int .i64 x3044) ∧ ((cont c0_3001 c0_3002 c0_3003 c2_3004 c3_3005 c4_3006 c5_3007 c5_3008 c5_3009 c6_3010 c7_3011 c8_3012 y3019 x3044 (IntKind.i64.wrap (v11_3015 + 1)) h3016))) (((cont c0_3001 c0_3002 c0_3003 c2_3004 c3_3005 c4_3006 c5_3007 c5_3008 c5_3009 c6_3010 c7_3011 c8_3012 y3019 v10_3014 (IntKind.i64.wrap (v11_3015 + 1)) h3016))));
  iteB (decide (v10_3014 < (0 : Int))) ((j3045 true)) (chkP c5_3007 fun a3020 => (0 ≤ v11_3015 ∧ v11_3015 < (c5_3008 : Int)) ∧ ∃ (x3021 : Int), cell h3016 (a3020.add (v11_3015.toNat * 1)) = some (.int .i64 x3021) ∧ chkP c0_3001 fun a3022 => (0 ≤ x3021 ∧ x3021 < (c0_3002 : Int)) ∧ ∃ (x3023 : Option Addr) (x3023l : Nat) (x3023c : Nat), cell h3016 (a3022.add (x3021.toNat * 1)) = some (.slice x3023 x3023l x3023c) ∧ chkP x3023 fun a3024 => (0 ≤ c8_3012 ∧ c8_3012 < (x3023l : Int)) ∧ ∃ (x3025 : Int), cell h3016 (a3024.add (c8_3012.toNat * 1)) = some (.int .i64 x3025) ∧ chkP c0_3001 fun a3026 => (0 ≤ v10_3014 ∧ v10_3014 < (c0_3002 : Int)) ∧ ∃ (x3027 : Option Addr) (x3027l : Nat) (x3027c : Nat), cell h3016 (a3026.add (v10_3014.toNat * 1)) = some (.slice x3027 x3027l x3027c) ∧ chkP x3027 fun a3028 => (0 ≤ c8_3012 ∧ c8_3012 < (x3027l : Int)) ∧ ∃ (x3029 : Int), cell h3016 (a3028.add (c8_3012.toNat * 1)) = some (.int .i64 x3029) ∧ iteB (decide (x3025 > x3029)) ((j3045 true)) (chkP c5_3007 fun a3030 => (0 ≤ v11_3015 ∧ v11_3015 < (c5_3008 : Int)) ∧ ∃ (x3031 : Int), cell h3016 (a3030.add (v11_3015.toNat * 1)) = some (.int .i64 x3031) ∧ chkP c0_3001 fun a3032 => (0 ≤ x3031 ∧ x3031 < (c0_3002 : Int)) ∧ ∃ (x3033 : Option Addr) (x3033l : Nat) (x3033c : Nat), cell h3016 (a3032.add (x3031.toNat * 1)) = some (.slice x3033 x3033l x3033c) ∧ chkP x3033 fun a3034 => (0 ≤ c8_3012 ∧ c8_3012 < (x3033l : Int)) ∧ ∃ (x3035 : Int), cell h3016 (a3034.add (c8_3012.toNat * 1)) = some (.int .i64 x3035) ∧ chkP c0_3001 fun a3036 => (0 ≤ v10_3014 ∧ v10_3014 < (c0_3002 : Int)) ∧ ∃ (x3037 : Option Addr) (x3037l : Nat) (x3037c : Nat), cell h3016 (a3036.add (v10_3014.toNat * 1)) = some (.slice x3037 x3037l x3037c) ∧ chkP x3037 fun a3038 => (0 ≤ c8_3012 ∧ c8_3012 < (x3037l : Int)) ∧ ∃ (x3039 : Int), cell h3016 (a3038.add (c8_3012.toNat * 1)) = some (.int .i64 x3039) ∧ iteB (x3035 == x3039) (chkP c5_3007 fun a3040 => (0 ≤ v11_3015 ∧ v11_3015 < (c5_3008 : Int)) ∧ ∃ (x3041 : Int), cell h3016 (a3040.add (v11_3015.toNat * 1)) = some (.int .i64 x3041) ∧ (j3045 (decide (x3041 < v10_3014)))) ((j3045 false)))));
  iteB v9_3013 ((j3046 true)) (chkP c5_3007 fun a3017 => (0 ≤ v11_3015 ∧ v11_3015 < (c5_3008 : Int)) ∧ ∃ (x3018 : Int), cell h3016 (a3017.add (v11_3015.toNat * 1)) = some (.int .i64 x3018) ∧ (j3046 (x3018 == c8_3012))))) (K6 v9_3013 v10_3014 h3016))
def straitref35_Tree.l2 (K6 : Bool → Int → Heap → Prop) : Nat → (Option Addr) → Nat → Nat → Addr → Int → Addr → (Option Addr) → Nat → Nat → Int → Int → Int → Bool → Int → Int → Heap → Prop
  | 0, _, _, _, _, _, _, _, _, _, _, _, _, _, _, _, _ => False
  | m + 1, c0_3001, c0_3002, c0_3003, c2_3004, c3_3005, c4_3006, c5_3007, c5_3008, c5_3009, c6_3010, c7_3011, c8_3012, v9_3013, v10_3014, v11_3015, h => straitref35_Tree.b2 K6 (straitref35_Tree.l2 K6 m) c0_3001 c0_3002 c0_3003 c2_3004 c3_3005 c4_3006 c5_3007 c5_3008 c5_3009 c6_3010 c7_3011 c8_3012 v9_3013 v10_3014 v11_3015 h
def straitref35_Tree.b1 (K4 : Int → Int → Heap → Prop) (cont : (Option Addr) → Nat → Nat → Addr → Int → Addr → (Option Addr) → Nat → Nat → Int → Int → Int → Heap → Prop) (c0_2001 : Option Addr) (c0_2002 : Nat) (c0_2003 : Nat) (c2_2004 : Addr) (c3_2005 : Int) (c4_2006 : Addr) (c5_2007 : Option Addr) (c5_2008 : Nat) (c5_2009 : Nat) (v6_2010 : Int) (v7_2011 : Int) (v8_2012 : Int) (h2013 : Heap) : Prop :=
  (iteB (decide (v8_2012 < c3_2005)) ((let j2030 := (fun (y2027 : Int) (y2028 : Int) (h2029 : Heap) => cont c0_2001 c0_2002 c0_2003 c2_2004 c3_2005 c4_2006 c5_2007 c5_2008 c5_2009 y2027 y2028 (IntKind.i64.wrap (v8_2012 + 1)) h2029);
  (((∃ m2017, straitref35_Tree.l2 (fun z2014 z2015 h2016 => ((iteB (!z2014) (iteB (decide (v6_2010 < (0 : Int))) (((((j2030 v8_2012 z2015 h2016))))) (chkP c0_2001 fun a2018 => (0 ≤ z2015 ∧ z2015 < (c0_2002 : Int)) ∧ ∃ (x2019 : Option Addr) (x2019l : Nat) (x2019c : Nat), cell h2016 (a2018.add (z2015.toNat * 1)) = some (.slice x2019 x2019l x2019c) ∧ chkP x2019 fun a2020 => (0 ≤ v8_2012 ∧ v8_2012 < (x2019l : Int)) ∧ ∃ (x2021 : Int), cell h2016 (a2020.add (v8_2012.toNat * 1)) = some (.int .i64 x2021) ∧ chkP c0_2001 fun a2022 => (0 ≤ v7_2011 ∧ v7_2011 < (c0_2002 : Int)) ∧ ∃ (x2023 : Option Addr) (x2023l : Nat) (x2023c : Nat), cell h2016 (a2022.add (v7_2011.toNat * 1)) = some (.slice x2023 x2023l x2023c) ∧ chkP x2023 fun a2024 => (0 ≤ v6_2010 ∧ v6_2010 < (x2023l : Int)) ∧ ∃ (x2025 : Int), cell h2016 (a2024.add (v6_2010.toNat * 1)) = some (.int .i64 x2025) ∧ (iteB (decide (x2021 > x2025)) ((((j2030 v8_2012 z2015 h2016)))) (((j2030 v6_2010 v7_2011 h2016)))))) ((((j2030 v6_2010 v7_2011 h2016))))))) m2017 c0_2001 c0_2002 c0_2003 c2_2004 c3_2005 c4_2006 c5_2007 c5_2008 c5_2009 v6_2010 v7_2011 v8_2012 false (-1) 0 h2013))))) (K4 v6_2010 v7_2011 h2013))
def straitref35_Tree.l1 (K4 : Int → Int → Heap → Prop) : Nat → (Option Addr) → Nat → Nat → Addr → Int → Addr → (Option Addr) → Nat → Nat → Int → Int → Int → Heap → Prop
  | 0, _, _, _, _, _, _, _, _, _, _, _, _, _ => False
  | m + 1, c0_2001, c0_2002, c0_2003, c2_2004, c3_2005, c4_2006, c5_2007, c5_2008, c5_2009, v6_2010, v7_2011, v8_2012, h => straitref35_Tree.b1 K4 (straitref35_Tree.l1 K4 m) c0_2001 c0_2002 c0_2003 c2_2004 c3_2005 c4_2006 c5_2007 c5_2008 c5_2009 v6_2010 v7_2011 v8_2012 h
def straitref35_Tree.b0 (K2 : Heap → Prop) (cont : (Option Addr) → Nat → Nat → Addr → Int → Addr → (Option Addr) → Nat → Nat → Heap → Prop) (c0_1001 : Option Addr) (c0_1002 : Nat) (c0_1003 : Nat) (c2_1004 : Addr) (c3_1005 : Int) (c4_1006 : Addr) (v5_1007 : Option Addr) (v5_1007l : Nat) (v5_1007c : Nat) (h1008 : Heap) : Prop :=
  (iteB (decide ((v5_1007l : Int) < c3_1005)) ((((∃ m1012, straitref35_Tree.l1 (fun z1009 z1010 h1011 => ((newP h1011 (.cells #[(.int .i64 z1009)] 3) fun a1013 h1014 => ∃ n1019, cellsAt h1014 (some a1013) (1 * 1) n1019 ∧ appP 3 1 8 [(.int .i64 0)] v5_1007 v5_1007l v5_1007c 1 n1019 h1014 fun q1015 l1016 c1017 h1018 => (∃ (x1020 : Option Addr) (x1020l : Nat) (x1020c : Nat), cell h1018 c4_1006 = some (.slice x1020 x1020l x1020c) ∧ chkP x1020 fun a1021 => (0 ≤ z1009 ∧ z1009 < (x1020l : Int)) ∧ stC h1018 (a1021.add (z1009.toNat * 1)) (.int .i64 z1010) fun h1022 => (∃ (x1023 : Option Addr) (x1023l : Nat) (x1023c : Nat), cell h1022 (c4_1006.add 1) = some (.slice x1023 x1023l x1023c) ∧ chkP c0_1001 fun a1024 => (0 ≤ z1010 ∧ z1010 < (c0_1002 : Int)) ∧ ∃ (x1025 : Option Addr) (x1025l : Nat) (x1025c : Nat), cell h1022 (a1024.add (z1010.toNat * 1)) = some (.slice x1025 x1025l x1025c) ∧ chkP x1025 fun a1026 => (0 ≤ z1009 ∧ z1009 < (x1025l : Int)) ∧ ∃ (x1027 : Int), cell h1022 (a1026.add (z1009.toNat * 1)) = some (.int .i64 x1027) ∧ chkP x1023 fun a1028 => (0 ≤ z1009 ∧ z1009 < (x1023l : Int)) ∧ stC h1022 (a1028.add (z1009.toNat * 1)) (.int .i64 x1027) fun h1029 => cont c0_1001 c0_1002 c0_1003 c2_1004 c3_1005 c4_1006 q1015 l1016 c1017 h1029))))) m1012 c0_1001 c0_1002 c0_1003 c2_1004 c3_1005 c4_1006 v5_1007 v5_1007l v5_1007c (-1) (-1) 0 h1008)))) (K2 h1008))
def straitref35_Tree.l0 (K2 : Heap → Prop) : Nat → (Option Addr) → Nat → Nat → Addr → Int → Addr → (Option Addr) → Nat → Nat → Heap → Prop
  | 0, _, _, _, _, _, _, _, _, _, _ => False
  | m + 1, c0_1001, c0_1002, c0_1003, c2_1004, c3_1005, c4_1006, v5_1007, v5_1007l, v5_1007c, h => straitref35_Tree.b0 K2 (straitref35_Tree.l0 K2 m) c0_1001 c0_1002 c0_1003 c2_1004 c3_1005 c4_1006 v5_1007 v5_1007l v5_1007c h
def straitref35_Tree (a1 : Option Addr) (a1l : Nat) (a1c : Nat) (h : Heap) (K : (Option Addr) → Nat → Nat → (Option Addr) → Nat → Nat → Heap → Prop) : Prop :=
  newP h (.cells #[(.slice none 0 0), (.slice none 0 0)] 25) fun a2 h3 => ((let j67 := (fun (y46 : Addr) (h47 : Heap) => (iteB ((a1l : Int) == (0 : Int)) (∃ (x48 : Option Addr) (x48l : Nat) (x48c : Nat), cell h47 y46 = some (.slice x48 x48l x48c) ∧ ∃ (x49 : Option Addr) (x49l : Nat) (x49c : Nat), cell h47 (y46.add 1) = some (.slice x49 x49l x49c) ∧ stC h47 a2 (.slice x48 x48l x48c) fun h50 => stC h50 (a2.add 1) (.slice x49 x49l x49c) fun h51 => (∃ (x52 : Option Addr) (x52l : Nat) (x52c : Nat), cell h51 a2 = some (.slice x52 x52l x52c) ∧ ∃ (x53 : Option Addr) (x53l : Nat) (x53c : Nat), cell h51 (a2.add 1) = some (.slice x53 x53l x53c) ∧ K x52 x52l x52c x53 x53l x53c h51)) ((newP h47 (.cells #[(.int .i64 0)] 3) fun a54 h55 => (∃ (x56 : Option Addr) (x56l : Nat) (x56c : Nat), cell h55 y46 = some (.slice x56 x56l x56c) ∧ chkP x56 fun a57 => (0 ≤ (0 : Int) ∧ (0 : Int) < (x56l : Int)) ∧ stC h55 (a57.add ((0 : Int).toNat * 1)) (.int .i64 (-1)) fun h58 => (∃ m60, straitref35_Tree.l0 (fun h59 => ((∃ (x61 : Option Addr) (x61l : Nat) (x61c : Nat), cell h59 y46 = some (.slice x61 x61l x61c) ∧ ∃ (x62 : Option Addr) (x62l : Nat) (x62c : Nat), cell h59 (y46.add 1) = some (.slice x62 x62l x62c) ∧ stC h59 a2 (.slice x61 x61l x61c) fun h63 => stC h63 (a2.add 1) (.slice x62 x62l x62c) fun h64 => (∃ (x65 : Option Addr) (x65l : Nat) (x65c : Nat), cell h64 a2 = some (.slice x65 x65l x65c) ∧ ∃ (x66 : Option Addr) (x66l : Nat) (x66c : Nat), cell h64 (a2.add 1) = some (.slice x66 x66l x66c) ∧ K x65 x65l x65c x66 x66l x66c h64)))) m60 a1 a1l a1c a2 (a1l : Int) y46 (some a54) 1 1 h58))))));
  ((0 ≤ (a1l : Int) ∧ (a1l : Int) ≤ (a1l : Int) ∧ (a1l : Int) * (8 : Nat) ≤ 2 ^ 47 ∧ (a1l : Int) ≤ 2 ^ 47) ∧ newP h3 (.cells (zeroRow [(.int .i64 0)] (a1l : Int).toNat).toArray 3) fun a4 h5 => ((0 ≤ (a1l : Int) ∧ (a1l : Int) ≤ (a1l : Int) ∧ (a1l : Int) * (8 : Nat) ≤ 2 ^ 47 ∧ (a1l : Int) ≤ 2 ^ 47) ∧ newP h5 (.cells (zeroRow [(.int .i64 0)] (a1l : Int).toNat).toArray 2) fun a6 h7 => newP h7 (.cells #[(.slice none 0 0), (.slice none 0 0)] 25) fun a8 h9 => stC h9 a8 (.slice (some a4) ((a1l : Int).toNat) ((a1l : Int).toNat)) fun h10 => stC h10 (a8.add 1) (.slice (some a6) ((a1l : Int).toNat) ((a1l : Int).toNat)) fun h11 => (j67 a8 h11)) ∧ (newP h5 (.cells #[(.slice none 0 0), (.slice none 0 0)] 25) fun a12 h13 => (0 ≤ (a1l : Int) ∧ (a1l : Int) ≤ (a1l : Int) ∧ (a1l : Int) * (8 : Nat) ≤ 2 ^ 47 ∧ (a1l : Int) ≤ 2 ^ 47) ∧ newP h13 (.cells (zeroRow [(.int .i64 0)] (a1l : Int).toNat).toArray 2) fun a14 h15 => stC h15 a12 (.slice (some a4) ((a1l : Int).toNat) ((a1l : Int).toNat)) fun h16 => stC h16 (a12.add 1) (.slice (some a14) ((a1l : Int).toNat) ((a1l : Int).toNat)) fun h17 => (j67 a12 h17))) ∧ (((0 ≤ (a1l : Int) ∧ (a1l : Int) ≤ (a1l : Int) ∧ (a1l : Int) * (8 : Nat) ≤ 2 ^ 47 ∧ (a1l : Int) ≤ 2 ^ 47) ∧ newP h3 (.cells (zeroRow [(.int .i64 0)] (a1l : Int).toNat).toArray 2) fun a18 h19 => ((0 ≤ (a1l : Int) ∧ (a1l : Int) ≤ (a1l : Int) ∧ (a1l : Int) * (8 : Nat) ≤ 2 ^ 47 ∧ (a1l : Int) ≤ 2 ^ 47) ∧ newP h19 (.cells (zeroRow [(.int .i64 0)] (a1l : Int).toNat).toArray 3) fun a20 h21 => newP h21 (.cells #[(.slice none 0 0), (.slice none 0 0)] 25) fun a22 h23 => stC h23 a22 (.slice (some a20) ((a1l : Int).toNat) ((a1l : Int).toNat)) fun h24 => stC h24 (a22.add 1) (.slice (some a18) ((a1l : Int).toNat) ((a1l : Int).toNat)) fun h25 => (j67 a22 h25)) ∧ (newP h19 (.cells #[(.slice none 0 0), (.slice none 0 0)] 25) fun a26 h27 => (0 ≤ (a1l : Int) ∧ (a1l : Int) ≤ (a1l : Int) ∧ (a1l : Int) * (8 : Nat) ≤ 2 ^ 47 ∧ (a1l : Int) ≤ 2 ^ 47) ∧ newP h27 (.cells (zeroRow [(.int .i64 0)] (a1l : Int).toNat).toArray 3) fun a28 h29 => stC h29 a26 (.slice (some a28) ((a1l : Int).toNat) ((a1l : Int).toNat)) fun h30 => stC h30 (a26.add 1) (.slice (some a18) ((a1l : Int).toNat) ((a1l : Int).toNat)) fun h31 => (j67 a26 h31))) ∧ (newP h3 (.cells #[(.slice none 0 0), (.slice none 0 0)] 25) fun a32 h33 => ((0 ≤ (a1l : Int) ∧ (a1l : Int) ≤ (a1l : Int) ∧ (a1l : Int) * (8 : Nat) ≤ 2 ^ 47 ∧ (a1l : Int) ≤ 2 ^ 47) ∧ newP h33 (.cells (zeroRow [(.int .i64 0)] (a1l : Int).toNat).toArray 3) fun a34 h35 => (0 ≤ (a1l : Int) ∧ (a1l : Int) ≤ (a1l : Int) ∧ (a1l : Int) * (8 : Nat) ≤ 2 ^ 47 ∧ (a1l : Int) ≤ 2 ^ 47) ∧ newP h35 (.cells (zeroRow [(.int .i64 0)] (a1l : Int).toNat).toArray 2) fun a36 h37 => stC h37 a32 (.slice (some a34) ((a1l : Int).toNat) ((a1l : Int).toNat)) fun h38 => stC h38 (a32.add 1) (.slice (some a36) ((a1l : Int).toNat) ((a1l : Int).toNat)) fun h39 => (j67 a32 h39)) ∧ ((0 ≤ (a1l : Int) ∧ (a1l : Int) ≤ (a1l : Int) ∧ (a1l : Int) * (8 : Nat) ≤ 2 ^ 47 ∧ (a1l : Int) ≤ 2 ^ 47) ∧ newP h33 (.cells (zeroRow [(.int .i64 0)] (a1l : Int).toNat).toArray 2) fun a40 h41 => (0 ≤ (a1l : Int) ∧ (a1l : Int) ≤ (a1l : Int) ∧ (a1l : Int) * (8 : Nat) ≤ 2 ^ 47 ∧ (a1l : Int) ≤ 2 ^ 47) ∧ newP h41 (.cells (zeroRow [(.int .i64 0)] (a1l : Int).toNat).toArray 3) fun a42 h43 => stC h43 a32 (.slice (some a42) ((a1l : Int).toNat) ((a1l : Int).toNat)) fun h44 => stC h44 (a32.add 1) (.slice (some a40) ((a1l : Int).toNat) ((a1l : Int).toNat)) fun h45 => (j67 a32 h45))))))
def straitref35_Tree.ret (K : (Option Addr) → Nat → Nat → (Option Addr) → Nat → Nat → Heap → Prop) (v : Value) (h : Heap) : Prop := match v with
  | (.agg ⟨[(.slice r68 r68l r68c), (.slice r69 r69l r69c)]⟩) => K r68 r68l r68c r69 r69l r69c h
  | _ => False
theorem straitref35_Tree.ret_elim {K : (Option Addr) → Nat → Nat → (Option Addr) → Nat → Nat → Heap → Prop} {K' : Value → Heap → Prop} {v : Value} {h : Heap} (hk : ∀ r68 r68l r68c r69 r69l r69c h, K r68 r68l r68c r69 r69l r69c h → K' (.agg #[(.slice r68 r68l r68c), (.slice r69 r69l r69c)]) h) (hh : straitref35_Tree.ret K v h) : K' v h := by
  unfold straitref35_Tree.ret at hh
  split at hh
  · exact hk _ _ _ _ _ _ _ hh
  · exact hh.elim
def straitref35_Tree.r0 (K : Nat → List Value → Heap → Prop) (m : Nat) (vs : List Value) (h : Heap) : Prop := match vs with
  | [(.slice c0_1001 c0_1002 c0_1003), (.pointer (some c2_1004)), (.int .i64 c3_1005), (.pointer (some c4_1006)), (.slice v5_1007 v5_1007l v5_1007c)] => straitref35_Tree.l0 (fun h' => K 2 [(.pointer (some c2_1004)), (.pointer (some c4_1006))] h') m c0_1001 c0_1002 c0_1003 c2_1004 c3_1005 c4_1006 v5_1007 v5_1007l v5_1007c h
  | _ => False
def straitref35_Tree.r1 (K : Nat → List Value → Heap → Prop) (m : Nat) (vs : List Value) (h : Heap) : Prop := match vs with
  | [(.slice c0_2001 c0_2002 c0_2003), (.pointer (some c2_2004)), (.int .i64 c3_2005), (.pointer (some c4_2006)), (.slice c5_2007 c5_2008 c5_2009), (.int .i64 v6_2010), (.int .i64 v7_2011), (.int .i64 v8_2012)] => straitref35_Tree.l1 (fun z70 z71 h' => K 4 [(.slice c0_2001 c0_2002 c0_2003), (.pointer (some c2_2004)), (.int .i64 c3_2005), (.pointer (some c4_2006)), (.slice c5_2007 c5_2008 c5_2009), (.int .i64 z70), (.int .i64 z71)] h') m c0_2001 c0_2002 c0_2003 c2_2004 c3_2005 c4_2006 c5_2007 c5_2008 c5_2009 v6_2010 v7_2011 v8_2012 h
  | _ => False
def straitref35_Tree.r2 (K : Nat → List Value → Heap → Prop) (m : Nat) (vs : List Value) (h : Heap) : Prop := match vs with
  | [(.slice c0_3001 c0_3002 c0_3003), (.pointer (some c2_3004)), (.int .i64 c3_3005), (.pointer (some c4_3006)), (.slice c5_3007 c5_3008 c5_3009), (.int .i64 c6_3010), (.int .i64 c7_3011), (.int .i64 c8_3012), (.bool v9_3013), (.int .i64 v10_3014), (.int .i64 v11_3015)] => straitref35_Tree.l2 (fun z72 z73 h' => K 6 [(.slice c0_3001 c0_3002 c0_3003), (.pointer (some c2_3004)), (.int .i64 c3_3005), (.pointer (some c4_3006)), (.slice c5_3007 c5_3008 c5_3009), (.int .i64 c6_3010), (.int .i64 c7_3011), (.int .i64 c8_3012), (.bool z72), (.int .i64 z73)] h') m c0_3001 c0_3002 c0_3003 c2_3004 c3_3005 c4_3006 c5_3007 c5_3008 c5_3009 c6_3010 c7_3011 c8_3012 v9_3013 v10_3014 v11_3015 h
  | _ => False
def straitref35_Tree.loop (i : Nat) (vs : List Value) (h : Heap) (K : Nat → List Value → Heap → Prop) : Prop := match i with
  | 0 => ∃ m, straitref35_Tree.r0 K m vs h
  | 1 => ∃ m, straitref35_Tree.r1 K m vs h
  | 2 => ∃ m, straitref35_Tree.r2 K m vs h
  | _ => False
noncomputable def straitref35_Tree.ctx : Ctx := { P := Try.prog, call := fun _ _ _ _ => False, qcall := fun _ _ _ _ => False, quiet := fun f => Nat.beq f 1000069 || Nat.beq f 1000099, loop := straitref35_Tree.loop }
theorem straitref35_Tree.ok [DKc] : straitref35_Tree.ctx.OK where
  mixed := by kernel_rfl
  mono := fun hh _ => hh.elim
  call := fun hh => hh.elim
  qmono := fun hh _ => hh.elim
  qval := fun hh => hh.elim
  qcall := fun hh => hh.elim
noncomputable def straitref35_Tree.code : Code := (Try.f42.body).getD .skip
def straitref35_Tree.ann : Ann := (.two .auto (.two .auto (.two (.reg [0, 1, 0, 4, 15, 0, 63] (.take 0 (.take 2 (.alt 1 (.alt 3 (.take 4 (.alt 5 (.alt 6 .done .noalt) .noalt)) (.alt 5 (.alt 3 (.take 4 (.alt 6 .done .noalt)) .noalt) .noalt)) (.alt 3 (.alt 1 (.take 4 (.alt 5 (.alt 6 .done .noalt) .noalt)) (.alt 5 (.alt 1 (.take 4 (.alt 6 .done .noalt)) .noalt) .noalt)) (.alt 5 (.alt 1 (.alt 3 (.take 4 (.alt 6 .done .noalt)) .noalt) (.alt 3 (.alt 1 (.take 4 (.alt 6 .done .noalt)) .noalt) .noalt)) .noalt)))))) (.two .auto (.two .auto (.two .auto (.two (.two (.loop 0 [0, 2, 3, 4, 5] [(2, [2, 4])] (.two .auto (.two (.two .auto (.two (.two .auto (.two (.loop 1 [0, 2, 3, 4, 5, 6, 7, 8] [(4, [0, 2, 3, 4, 5, 6, 7])] (.two .auto (.two (.two (.two .auto (.two .auto (.two (.two .auto (.two (.loop 2 [0, 2, 3, 4, 5, 6, 7, 8, 9, 10, 11] [(6, [0, 2, 3, 4, 5, 6, 7, 8, 9, 10])] (.two .auto (.two (.two (.two .auto (.two (.reg [0, 1, 3, 7, 7, 7, 55, 119, 255, 511, 7, 2047, 4095, 7, 7, 24583, 57351, 7, 253959, 516103, 1048575, 2097151, 4194303, 8388607, 8388607, 8388607, 58720255, 125829119, 268435455, 536870911, 8388607, 2147483647, 4294967295, 8388607, 8388607, 25778192383, 60137930751, 8388607, 266296360959, 541174267903, 1099511627775, 2199023255551, 4398046511103, 4398046511103, 17592186044415, 35184372088831, 4398046511103, 140737488355327, 281474976710655, 562949953421311] (.take 0 (.take 1 (.take 2 (.take 3 (.take 4 (.take 5 (.take 6 (.take 7 (.take 8 (.take 9 (.take 10 (.take 11 (.take 12 (.take 13 (.take 14 (.take 15 (.take 16 (.take 17 (.take 18 (.take 19 (.take 20 (.take 21 (.take 22 (.take 23 (.take 24 (.take 25 (.take 26 (.take 27 (.take 28 (.take 29 (.take 30 (.take 31 (.take 32 (.take 33 (.take 34 (.take 35 (.take 36 (.take 37 (.take 38 (.take 39 (.take 40 (.take 41 (.take 42 (.take 43 (.take 44 (.take 45 (.take 46 (.take 47 (.take 48 (.take 49 .done))))))))))))))))))))))))))))))))))))))))))))))))))) .auto)) .auto) .auto))) .auto)) (.two (.reg [0, 1, 3, 7, 15, 31, 63, 63, 255, 511, 63, 2047, 4095, 63, 63, 24639, 57407, 63, 254015, 516159, 1048575, 2097151, 4194303] (.take 0 (.take 1 (.take 2 (.take 3 (.take 4 (.take 5 (.take 6 (.take 7 (.take 8 (.take 9 (.take 10 (.take 11 (.take 12 (.take 13 (.take 14 (.take 15 (.take 16 (.take 17 (.take 18 (.take 19 (.take 20 (.take 21 (.take 22 .done)))))))))))))))))))))))) .auto)))) .auto) .auto))) .auto)) (.two .auto (.two .auto (.reg [0, 1, 0, 0, 0, 24, 56, 0, 248, 504, 1023, 2047] (.take 0 (.take 1 (.take 2 (.take 3 (.take 4 (.take 5 (.take 6 (.take 7 (.take 8 (.take 9 (.take 10 (.alt 11 .done .noalt))))))))))))))))) .auto))) .auto) .auto)))))))
noncomputable def straitref35_Tree.c2 : Code := sub straitref35_Tree.code [1, 1, 1, 1, 1, 1, 0, 0, 0, 1, 0, 1, 0, 1, 0, 0, 1, 0, 0, 1, 1, 0, 1, 0, 0]
def straitref35_Tree.a2 : Ann := (.two .auto (.two (.two (.two .auto (.two (.reg [0, 1, 3, 7, 7, 7, 55, 119, 255, 511, 7, 2047, 4095, 7, 7, 24583, 57351, 7, 253959, 516103, 1048575, 2097151, 4194303, 8388607, 8388607, 8388607, 58720255, 125829119, 268435455, 536870911, 8388607, 2147483647, 4294967295, 8388607, 8388607, 25778192383, 60137930751, 8388607, 266296360959, 541174267903, 1099511627775, 2199023255551, 4398046511103, 4398046511103, 17592186044415, 35184372088831, 4398046511103, 140737488355327, 281474976710655, 562949953421311] (.take 0 (.take 1 (.take 2 (.take 3 (.take 4 (.take 5 (.take 6 (.take 7 (.take 8 (.take 9 (.take 10 (.take 11 (.take 12 (.take 13 (.take 14 (.take 15 (.take 16 (.take 17 (.take 18 (.take 19 (.take 20 (.take 21 (.take 22 (.take 23 (.take 24 (.take 25 (.take 26 (.take 27 (.take 28 (.take 29 (.take 30 (.take 31 (.take 32 (.take 33 (.take 34 (.take 35 (.take 36 (.take 37 (.take 38 (.take 39 (.take 40 (.take 41 (.take 42 (.take 43 (.take 44 (.take 45 (.take 46 (.take 47 (.take 48 (.take 49 .done))))))))))))))))))))))))))))))))))))))))))))))))))) .auto)) .auto) .auto))
def straitref35_Tree.keep2 : List Nat := [0, 2, 3, 4, 5, 6, 7, 8, 9, 10, 11]
def straitref35_Tree.outs2 : List (Nat × List Nat) := [(6, [0, 2, 3, 4, 5, 6, 7, 8, 9, 10])]
noncomputable def straitref35_Tree.c1 : Code := sub straitref35_Tree.code [1, 1, 1, 1, 1, 1, 0, 0, 0, 1, 0, 1, 0, 1, 0, 0]
def straitref35_Tree.a1 : Ann := (.two .auto (.two (.two (.two .auto (.two .auto (.two (.two .auto (.two (.loop 2 [0, 2, 3, 4, 5, 6, 7, 8, 9, 10, 11] [(6, [0, 2, 3, 4, 5, 6, 7, 8, 9, 10])] (.two .auto (.two (.two (.two .auto (.two (.reg [0, 1, 3, 7, 7, 7, 55, 119, 255, 511, 7, 2047, 4095, 7, 7, 24583, 57351, 7, 253959, 516103, 1048575, 2097151, 4194303, 8388607, 8388607, 8388607, 58720255, 125829119, 268435455, 536870911, 8388607, 2147483647, 4294967295, 8388607, 8388607, 25778192383, 60137930751, 8388607, 266296360959, 541174267903, 1099511627775, 2199023255551, 4398046511103, 4398046511103, 17592186044415, 35184372088831, 4398046511103, 140737488355327, 281474976710655, 562949953421311] (.take 0 (.take 1 (.take 2 (.take 3 (.take 4 (.take 5 (.take 6 (.take 7 (.take 8 (.take 9 (.take 10 (.take 11 (.take 12 (.take 13 (.take 14 (.take 15 (.take 16 (.take 17 (.take 18 (.take 19 (.take 20 (.take 21 (.take 22 (.take 23 (.take 24 (.take 25 (.take 26 (.take 27 (.take 28 (.take 29 (.take 30 (.take 31 (.take 32 (.take 33 (.take 34 (.take 35 (.take 36 (.take 37 (.take 38 (.take 39 (.take 40 (.take 41 (.take 42 (.take 43 (.take 44 (.take 45 (.take 46 (.take 47 (.take 48 (.take 49 .done))))))))))))))))))))))))))))))))))))))))))))))))))) .auto)) .auto) .auto))) .auto)) (.two (.reg [0, 1, 3, 7, 15, 31, 63, 63, 255, 511, 63, 2047, 4095, 63, 63, 24639, 57407, 63, 254015, 516159, 1048575, 2097151, 4194303] (.take 0 (.take 1 (.take 2 (.take 3 (.take 4 (.take 5 (.take 6 (.take 7 (.take 8 (.take 9 (.take 10 (.take 11 (.take 12 (.take 13 (.take 14 (.take 15 (.take 16 (.take 17 (.take 18 (.take 19 (.take 20 (.take 21 (.take 22 .done)))))))))))))))))))))))) .auto)))) .auto) .auto))
def straitref35_Tree.keep1 : List Nat := [0, 2, 3, 4, 5, 6, 7, 8]
def straitref35_Tree.outs1 : List (Nat × List Nat) := [(4, [0, 2, 3, 4, 5, 6, 7])]
noncomputable def straitref35_Tree.c0 : Code := sub straitref35_Tree.code [1, 1, 1, 1, 1, 1, 0, 0, 0]
def straitref35_Tree.a0 : Ann := (.two .auto (.two (.two .auto (.two (.two .auto (.two (.loop 1 [0, 2, 3, 4, 5, 6, 7, 8] [(4, [0, 2, 3, 4, 5, 6, 7])] (.two .auto (.two (.two (.two .auto (.two .auto (.two (.two .auto (.two (.loop 2 [0, 2, 3, 4, 5, 6, 7, 8, 9, 10, 11] [(6, [0, 2, 3, 4, 5, 6, 7, 8, 9, 10])] (.two .auto (.two (.two (.two .auto (.two (.reg [0, 1, 3, 7, 7, 7, 55, 119, 255, 511, 7, 2047, 4095, 7, 7, 24583, 57351, 7, 253959, 516103, 1048575, 2097151, 4194303, 8388607, 8388607, 8388607, 58720255, 125829119, 268435455, 536870911, 8388607, 2147483647, 4294967295, 8388607, 8388607, 25778192383, 60137930751, 8388607, 266296360959, 541174267903, 1099511627775, 2199023255551, 4398046511103, 4398046511103, 17592186044415, 35184372088831, 4398046511103, 140737488355327, 281474976710655, 562949953421311] (.take 0 (.take 1 (.take 2 (.take 3 (.take 4 (.take 5 (.take 6 (.take 7 (.take 8 (.take 9 (.take 10 (.take 11 (.take 12 (.take 13 (.take 14 (.take 15 (.take 16 (.take 17 (.take 18 (.take 19 (.take 20 (.take 21 (.take 22 (.take 23 (.take 24 (.take 25 (.take 26 (.take 27 (.take 28 (.take 29 (.take 30 (.take 31 (.take 32 (.take 33 (.take 34 (.take 35 (.take 36 (.take 37 (.take 38 (.take 39 (.take 40 (.take 41 (.take 42 (.take 43 (.take 44 (.take 45 (.take 46 (.take 47 (.take 48 (.take 49 .done))))))))))))))))))))))))))))))))))))))))))))))))))) .auto)) .auto) .auto))) .auto)) (.two (.reg [0, 1, 3, 7, 15, 31, 63, 63, 255, 511, 63, 2047, 4095, 63, 63, 24639, 57407, 63, 254015, 516159, 1048575, 2097151, 4194303] (.take 0 (.take 1 (.take 2 (.take 3 (.take 4 (.take 5 (.take 6 (.take 7 (.take 8 (.take 9 (.take 10 (.take 11 (.take 12 (.take 13 (.take 14 (.take 15 (.take 16 (.take 17 (.take 18 (.take 19 (.take 20 (.take 21 (.take 22 .done)))))))))))))))))))))))) .auto)))) .auto) .auto))) .auto)) (.two .auto (.two .auto (.reg [0, 1, 0, 0, 0, 24, 56, 0, 248, 504, 1023, 2047] (.take 0 (.take 1 (.take 2 (.take 3 (.take 4 (.take 5 (.take 6 (.take 7 (.take 8 (.take 9 (.take 10 (.alt 11 .done .noalt))))))))))))))))) .auto))
def straitref35_Tree.keep0 : List Nat := [0, 2, 3, 4, 5]
def straitref35_Tree.outs0 : List (Nat × List Nat) := [(2, [2, 4])]
set_option maxRecDepth 100000 in
theorem straitref35_Tree.L2 [DKc] : LoopOK straitref35_Tree.ctx 150 straitref35_Tree.c2 2 straitref35_Tree.keep2 straitref35_Tree.outs2 := by
  refine loop_ok (n := straitref35_Tree.a2) straitref35_Tree.ok (by kernel_rfl) (loops_ok (l := []) (by kernel_rfl) ?_) straitref35_Tree.r2 ?_ ?_ (fun vs h K hh => hh)
  · exact trivial
  · intro K vs h hh
    unfold straitref35_Tree.r2 at hh
    split at hh
    · exact hh
    · exact hh
  · intro K m vs h hh
    unfold straitref35_Tree.r2 at hh
    split at hh
    · exact cast (by kernel_rfl) hh
    · exact hh.elim
set_option maxRecDepth 100000 in
theorem straitref35_Tree.L1 [DKc] : LoopOK straitref35_Tree.ctx 150 straitref35_Tree.c1 1 straitref35_Tree.keep1 straitref35_Tree.outs1 := by
  refine loop_ok (n := straitref35_Tree.a1) straitref35_Tree.ok (by kernel_rfl) (loops_ok (l := [(straitref35_Tree.c2, none, 2, straitref35_Tree.keep2, straitref35_Tree.outs2)]) (by kernel_rfl) ?_) straitref35_Tree.r1 ?_ ?_ (fun vs h K hh => hh)
  · exact ⟨straitref35_Tree.L2, trivial⟩
  · intro K vs h hh
    unfold straitref35_Tree.r1 at hh
    split at hh
    · exact hh
    · exact hh
  · intro K m vs h hh
    unfold straitref35_Tree.r1 at hh
    split at hh
    · exact cast (by kernel_rfl) hh
    · exact hh.elim
set_option maxRecDepth 100000 in
theorem straitref35_Tree.L0 [DKc] : LoopOK straitref35_Tree.ctx 150 straitref35_Tree.c0 0 straitref35_Tree.keep0 straitref35_Tree.outs0 := by
  refine loop_ok (n := straitref35_Tree.a0) straitref35_Tree.ok (by kernel_rfl) (loops_ok (l := [(straitref35_Tree.c1, none, 1, straitref35_Tree.keep1, straitref35_Tree.outs1)]) (by kernel_rfl) ?_) straitref35_Tree.r0 ?_ ?_ (fun vs h K hh => hh)
  · exact ⟨straitref35_Tree.L1, trivial⟩
  · intro K vs h hh
    unfold straitref35_Tree.r0 at hh
    split at hh
    · exact hh
    · exact hh
  · intro K m vs h hh
    unfold straitref35_Tree.r0 at hh
    split at hh
    · exact cast (by kernel_rfl) hh
    · exact hh.elim
set_option maxRecDepth 100000 in
theorem straitref35_Tree.eq (a1 : Option Addr) (a1l : Nat) (a1c : Nat) (h : Heap) (K : (Option Addr) → Nat → Nat → (Option Addr) → Nat → Nat → Heap → Prop) : evF straitref35_Tree.ctx Try.f42 straitref35_Tree.ann [(.slice a1 a1l a1c)] h (straitref35_Tree.ret K) = straitref35_Tree a1 a1l a1c h K := by kernel_rfl
set_option maxRecDepth 100000 in
theorem straitref35_Tree.calls [DKc] {a1 : Option Addr} {a1l : Nat} {a1c : Nat} {h : Heap} {K : (Option Addr) → Nat → Nat → (Option Addr) → Nat → Nat → Heap → Prop} (hh : straitref35_Tree a1 a1l a1c h K) (w : World) (hw : w.heap = h) :
    (callFunc 42 #[(.slice a1 a1l a1c)]).run Try.prog w = .ok (.enter 42 #[(.slice a1 a1l a1c)]) w ∧ Calls Try.prog 42 #[(.slice a1 a1l a1c)] w fun e w' => ∃ v, e = .returned v ∧ Out w w' ∧ straitref35_Tree.ret K v w'.heap := by
  rw [← straitref35_Tree.eq] at hh
  exact fn_calls (args := [(.slice a1 a1l a1c)]) (c := straitref35_Tree.code) straitref35_Tree.ok Try.func42 (by kernel_rfl) (by kernel_rfl) (by kernel_rfl) (by kernel_rfl) (loops_ok (l := [(straitref35_Tree.c0, none, 0, straitref35_Tree.keep0, straitref35_Tree.outs0)]) (by kernel_rfl) ⟨straitref35_Tree.L0, trivial⟩) hh w hw

/-! ### strait/straitref09.Ints: function 18 -/
def straitref09_Ints.b0 (K0 : Bool → Heap → Prop) (K2 : Heap → Prop) (cont : (Option Addr) → Nat → Nat → (Option Addr) → Nat → Nat → Int → Heap → Prop) (c0_1001 : Option Addr) (c0_1002 : Nat) (c0_1003 : Nat) (c1_1004 : Option Addr) (c1_1005 : Nat) (c1_1006 : Nat) (v5_1007 : Int) (h1008 : Heap) : Prop :=
  (iteB (decide (v5_1007 < (c0_1002 : Int))) ((chkP c0_1001 fun a1009 => (0 ≤ v5_1007 ∧ v5_1007 < (c0_1002 : Int)) ∧ ∃ (x1010 : Int), cell h1008 (a1009.add (v5_1007.toNat * 1)) = some (.int .i64 x1010) ∧ chkP c1_1004 fun a1011 => (0 ≤ v5_1007 ∧ v5_1007 < (c1_1005 : Int)) ∧ ∃ (x1012 : Int), cell h1008 (a1011.add (v5_1007.toNat * 1)) = some (.int .i64 x1012) ∧ (iteB (x1010 != x1012) (K0 false h1008) (((cont c0_1001 c0_1002 c0_1003 c1_1004 c1_1005 c1_1006 (IntKind.i64.wrap (v5_1007 + 1)) h1008)))))) (K2 h1008))
def straitref09_Ints.l0 (K0 : Bool → Heap → Prop) (K2 : Heap → Prop) : Nat → (Option Addr) → Nat → Nat → (Option Addr) → Nat → Nat → Int → Heap → Prop
  | 0, _, _, _, _, _, _, _, _ => False
  | m + 1, c0_1001, c0_1002, c0_1003, c1_1004, c1_1005, c1_1006, v5_1007, h => straitref09_Ints.b0 K0 K2 (straitref09_Ints.l0 K0 K2 m) c0_1001 c0_1002 c0_1003 c1_1004 c1_1005 c1_1006 v5_1007 h
def straitref09_Ints (a1 : Option Addr) (a1l : Nat) (a1c : Nat) (a2 : Option Addr) (a2l : Nat) (a2c : Nat) (h : Heap) (K : Bool → Heap → Prop) : Prop :=
  ((iteB ((a1l : Int) != (a2l : Int)) (K false h) (((∃ m6, straitref09_Ints.l0 (fun z3 h4 => K z3 h4) (fun h5 => (K true h5)) m6 a1 a1l a1c a2 a2l a2c 0 h)))))
def straitref09_Ints.ret (K : Bool → Heap → Prop) (v : Value) (h : Heap) : Prop := match v with
  | (.bool r7) => K r7 h
  | _ => False
theorem straitref09_Ints.ret_elim {K : Bool → Heap → Prop} {K' : Value → Heap → Prop} {v : Value} {h : Heap} (hk : ∀ r7 h, K r7 h → K' (.bool r7) h) (hh : straitref09_Ints.ret K v h) : K' v h := by
  unfold straitref09_Ints.ret at hh
  split at hh
  · exact hk _ _ hh
  · exact hh.elim
def straitref09_Ints.r0 (K : Nat → List Value → Heap → Prop) (m : Nat) (vs : List Value) (h : Heap) : Prop := match vs with
  | [(.slice c0_1001 c0_1002 c0_1003), (.slice c1_1004 c1_1005 c1_1006), (.int .i64 v5_1007)] => straitref09_Ints.l0 (fun z8 h' => K 0 [(.bool z8)] h') (fun h' => K 2 [] h') m c0_1001 c0_1002 c0_1003 c1_1004 c1_1005 c1_1006 v5_1007 h
  | _ => False
def straitref09_Ints.loop (i : Nat) (vs : List Value) (h : Heap) (K : Nat → List Value → Heap → Prop) : Prop := match i with
  | 0 => ∃ m, straitref09_Ints.r0 K m vs h
  | _ => False
noncomputable def straitref09_Ints.ctx : Ctx := { P := Try.prog, call := fun _ _ _ _ => False, qcall := fun _ _ _ _ => False, quiet := fun f => Nat.beq f 1000069 || Nat.beq f 1000099, loop := straitref09_Ints.loop }
theorem straitref09_Ints.ok [DKc] : straitref09_Ints.ctx.OK where
  mixed := by kernel_rfl
  mono := fun hh _ => hh.elim
  call := fun hh => hh.elim
  qmono := fun hh _ => hh.elim
  qval := fun hh => hh.elim
  qcall := fun hh => hh.elim
noncomputable def straitref09_Ints.code : Code := (Try.f18.body).getD .skip
def straitref09_Ints.ann : Ann := (.two .auto (.two .auto (.two (.two .auto (.two (.loop 0 [0, 1, 5] [(2, []), (0, [4])] (.two .auto (.two (.two (.two (.reg [0, 0, 3, 7, 0, 0, 48, 112, 255] (.take 0 (.take 1 (.take 2 (.take 3 (.take 4 (.take 5 (.take 6 (.take 7 (.take 8 .done)))))))))) .auto) .auto) .auto))) .auto)) .auto)))
noncomputable def straitref09_Ints.c0 : Code := sub straitref09_Ints.code [1, 1, 0, 1, 0, 0]
def straitref09_Ints.a0 : Ann := (.two .auto (.two (.two (.two (.reg [0, 0, 3, 7, 0, 0, 48, 112, 255] (.take 0 (.take 1 (.take 2 (.take 3 (.take 4 (.take 5 (.take 6 (.take 7 (.take 8 .done)))))))))) .auto) .auto) .auto))
def straitref09_Ints.keep0 : List Nat := [0, 1, 5]
def straitref09_Ints.outs0 : List (Nat × List Nat) := [(2, []), (0, [4])]
set_option maxRecDepth 100000 in
theorem straitref09_Ints.L0 [DKc] : LoopOK straitref09_Ints.ctx 26 straitref09_Ints.c0 0 straitref09_Ints.keep0 straitref09_Ints.outs0 := by
  refine loop_ok (n := straitref09_Ints.a0) straitref09_Ints.ok (by kernel_rfl) (loops_ok (l := []) (by kernel_rfl) ?_) straitref09_Ints.r0 ?_ ?_ (fun vs h K hh => hh)
  · exact trivial
  · intro K vs h hh
    unfold straitref09_Ints.r0 at hh
    split at hh
    · exact hh
    · exact hh
  · intro K m vs h hh
    unfold straitref09_Ints.r0 at hh
    split at hh
    · exact cast (by kernel_rfl) hh
    · exact hh.elim
set_option maxRecDepth 100000 in
theorem straitref09_Ints.eq (a1 : Option Addr) (a1l : Nat) (a1c : Nat) (a2 : Option Addr) (a2l : Nat) (a2c : Nat) (h : Heap) (K : Bool → Heap → Prop) : evF straitref09_Ints.ctx Try.f18 straitref09_Ints.ann [(.slice a1 a1l a1c), (.slice a2 a2l a2c)] h (straitref09_Ints.ret K) = straitref09_Ints a1 a1l a1c a2 a2l a2c h K := by kernel_rfl
set_option maxRecDepth 100000 in
theorem straitref09_Ints.calls [DKc] {a1 : Option Addr} {a1l : Nat} {a1c : Nat} {a2 : Option Addr} {a2l : Nat} {a2c : Nat} {h : Heap} {K : Bool → Heap → Prop} (hh : straitref09_Ints a1 a1l a1c a2 a2l a2c h K) (w : World) (hw : w.heap = h) :
    (callFunc 18 #[(.slice a1 a1l a1c), (.slice a2 a2l a2c)]).run Try.prog w = .ok (.enter 18 #[(.slice a1 a1l a1c), (.slice a2 a2l a2c)]) w ∧ Calls Try.prog 18 #[(.slice a1 a1l a1c), (.slice a2 a2l a2c)] w fun e w' => ∃ v, e = .returned v ∧ Out w w' ∧ straitref09_Ints.ret K v w'.heap := by
  rw [← straitref09_Ints.eq] at hh
  exact fn_calls (args := [(.slice a1 a1l a1c), (.slice a2 a2l a2c)]) (c := straitref09_Ints.code) straitref09_Ints.ok Try.func18 (by kernel_rfl) (by kernel_rfl) (by kernel_rfl) (by kernel_rfl) (loops_ok (l := [(straitref09_Ints.c0, none, 0, straitref09_Ints.keep0, straitref09_Ints.outs0)]) (by kernel_rfl) ⟨straitref09_Ints.L0, trivial⟩) hh w hw

end Go.Proofs.Ytfidcekobjmamaa
