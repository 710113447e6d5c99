/- WRITTEN BY A PROGRAM OF THIS SESSION (gen.py): what each function asks of memory, and that the model's run comes to it. -/
import Derived.Test.YtfidcekobjmamaaProg
import Derived.Test.YtfidcekobjmamaaFw8
import Derived.Test.YtfidcekobjmamaaG0
namespace Go.Proofs.Ytfidcekobjmamaa
open Go.Hp
set_option linter.unusedVariables false
set_option linter.unusedSimpArgs false
set_option linter.unusedSectionVars false

/-! ### slices.symMergeCmpFunc[int]: function 93 -/
section
variable [DKc]
def slices_symMergeCmpFunc_int_tree_Order_c1.b4 (K10 : Int → Heap → Prop) (cont : (Option Addr) → Nat → Nat → Int → Int → Int → Addr → Int → Int → Int → Int → Int → Heap → Prop) (c0_5001 : Option Addr) (c0_5002 : Nat) (c0_5003 : Nat) (c1_5004 : Int) (c2_5005 : Int) (c3_5006 : Int) (c4_5007 : Addr) (c18_5008 : Int) (c19_5009 : Int) (v20_5010 : Int) (v21_5011 : Int) (c22_5012 : Int) (h5013 : Heap) : Prop :=
  (iteB (decide (v20_5010 < v21_5011)) ((bindV (IntKind.u64.wrap (IntKind.i64.wrap (v20_5010 + v21_5011))) fun n5014 => 0 ≤ (1 : Int) ∧ (bindV (IntKind.i64.wrap (c22_5012 - (IntKind.i64.wrap (n5014.fdiv (2 ^ 1))))) fun n5015 => chkP c0_5001 fun a5016 => (0 ≤ n5015 ∧ n5015 < (c0_5002 : Int)) ∧ ∃ (x5017 : Int), cell h5013 (a5016.add (n5015.toNat * 1)) = some (.int .i64 x5017) ∧ chkP c0_5001 fun a5018 => (0 ≤ (IntKind.i64.wrap (n5014.fdiv (2 ^ 1))) ∧ (IntKind.i64.wrap (n5014.fdiv (2 ^ 1))) < (c0_5002 : Int)) ∧ ∃ (x5019 : Int), cell h5013 (a5018.add ((IntKind.i64.wrap (n5014.fdiv (2 ^ 1))).toNat * 1)) = some (.int .i64 x5019) ∧ callP1 (tree_Order_c1 x5017 x5019 c4_5007 h5013) fun x5020 h5021 => (iteB (!(decide (x5020 < (0 : Int)))) (bindV (IntKind.i64.wrap ((IntKind.i64.wrap (n5014.fdiv (2 ^ 1))) + 1)) fun n5022 => cont c0_5001 c0_5002 c0_5003 c1_5004 c2_5005 c3_5006 c4_5007 c18_5008 c19_5009 n5022 v21_5011 c22_5012 h5021) ((cont c0_5001 c0_5002 c0_5003 c1_5004 c2_5005 c3_5006 c4_5007 c18_5008 c19_5009 v20_5010 (IntKind.i64.wrap (n5014.fdiv (2 ^ 1))) c22_5012 h5021)))))) (K10 v20_5010 h5013))
def slices_symMergeCmpFunc_int_tree_Order_c1.l4 (K10 : Int → Heap → Prop) : Nat → (Option Addr) → Nat → Nat → Int → Int → Int → Addr → Int → Int → Int → Int → Int → Heap → Prop
  | 0, _, _, _, _, _, _, _, _, _, _, _, _, _ => False
  | m + 1, c0_5001, c0_5002, c0_5003, c1_5004, c2_5005, c3_5006, c4_5007, c18_5008, c19_5009, v20_5010, v21_5011, c22_5012, h => slices_symMergeCmpFunc_int_tree_Order_c1.b4 K10 (slices_symMergeCmpFunc_int_tree_Order_c1.l4 K10 m) c0_5001 c0_5002 c0_5003 c1_5004 c2_5005 c3_5006 c4_5007 c18_5008 c19_5009 v20_5010 v21_5011 c22_5012 h
def slices_symMergeCmpFunc_int_tree_Order_c1.b3 (K8 : Heap → Prop) (cont : (Option Addr) → Nat → Nat → Int → Int → Heap → Prop) (c0_4001 : Option Addr) (c0_4002 : Nat) (c0_4003 : Nat) (c14_4004 : Int) (v17_4005 : Int) (h4006 : Heap) : Prop :=
  (iteB (decide (v17_4005 > c14_4004)) ((chkP c0_4001 fun a4007 => (0 ≤ (IntKind.i64.wrap (v17_4005 - 1)) ∧ (IntKind.i64.wrap (v17_4005 - 1)) < (c0_4002 : Int)) ∧ ∃ (x4008 : Int), cell h4006 (a4007.add ((IntKind.i64.wrap (v17_4005 - 1)).toNat * 1)) = some (.int .i64 x4008) ∧ chkP c0_4001 fun a4009 => (0 ≤ v17_4005 ∧ v17_4005 < (c0_4002 : Int)) ∧ ∃ (x4010 : Int), cell h4006 (a4009.add (v17_4005.toNat * 1)) = some (.int .i64 x4010) ∧ chkP c0_4001 fun a4011 => (0 ≤ v17_4005 ∧ v17_4005 < (c0_4002 : Int)) ∧ stC h4006 (a4011.add (v17_4005.toNat * 1)) (.int .i64 x4008) fun h4012 => chkP c0_4001 fun a4013 => (0 ≤ (IntKind.i64.wrap (v17_4005 - 1)) ∧ (IntKind.i64.wrap (v17_4005 - 1)) < (c0_4002 : Int)) ∧ stC h4012 (a4013.add ((IntKind.i64.wrap (v17_4005 - 1)).toNat * 1)) (.int .i64 x4010) fun h4014 => ((cont c0_4001 c0_4002 c0_4003 c14_4004 (IntKind.i64.wrap (v17_4005 - 1)) h4014)))) (K8 h4006))
def slices_symMergeCmpFunc_int_tree_Order_c1.l3 (K8 : Heap → Prop) : Nat → (Option Addr) → Nat → Nat → Int → Int → Heap → Prop
  | 0, _, _, _, _, _, _ => False
  | m + 1, c0_4001, c0_4002, c0_4003, c14_4004, v17_4005, h => slices_symMergeCmpFunc_int_tree_Order_c1.b3 K8 (slices_symMergeCmpFunc_int_tree_Order_c1.l3 K8 m) c0_4001 c0_4002 c0_4003 c14_4004 v17_4005 h
def slices_symMergeCmpFunc_int_tree_Order_c1.b2 (K6 : Int → Heap → Prop) (cont : (Option Addr) → Nat → Nat → Int → Addr → Int → Int → Heap → Prop) (c0_3001 : Option Addr) (c0_3002 : Nat) (c0_3003 : Nat) (c2_3004 : Int) (c4_3005 : Addr) (v14_3006 : Int) (v15_3007 : Int) (h3008 : Heap) : Prop :=
  (iteB (decide (v14_3006 < v15_3007)) ((bindV (IntKind.u64.wrap (IntKind.i64.wrap (v14_3006 + v15_3007))) fun n3009 => 0 ≤ (1 : Int) ∧ (chkP c0_3001 fun a3010 => (0 ≤ c2_3004 ∧ c2_3004 < (c0_3002 : Int)) ∧ ∃ (x3011 : Int), cell h3008 (a3010.add (c2_3004.toNat * 1)) = some (.int .i64 x3011) ∧ chkP c0_3001 fun a3012 => (0 ≤ (IntKind.i64.wrap (n3009.fdiv (2 ^ 1))) ∧ (IntKind.i64.wrap (n3009.fdiv (2 ^ 1))) < (c0_3002 : Int)) ∧ ∃ (x3013 : Int), cell h3008 (a3012.add ((IntKind.i64.wrap (n3009.fdiv (2 ^ 1))).toNat * 1)) = some (.int .i64 x3013) ∧ callP1 (tree_Order_c1 x3011 x3013 c4_3005 h3008) fun x3014 h3015 => (iteB (!(decide (x3014 < (0 : Int)))) (bindV (IntKind.i64.wrap ((IntKind.i64.wrap (n3009.fdiv (2 ^ 1))) + 1)) fun n3016 => cont c0_3001 c0_3002 c0_3003 c2_3004 c4_3005 n3016 v15_3007 h3015) ((cont c0_3001 c0_3002 c0_3003 c2_3004 c4_3005 v14_3006 (IntKind.i64.wrap (n3009.fdiv (2 ^ 1))) h3015)))))) (K6 v14_3006 h3008))
def slices_symMergeCmpFunc_int_tree_Order_c1.l2 (K6 : Int → Heap → Prop) : Nat → (Option Addr) → Nat → Nat → Int → Addr → Int → Int → Heap → Prop
  | 0, _, _, _, _, _, _, _, _ => False
  | m + 1, c0_3001, c0_3002, c0_3003, c2_3004, c4_3005, v14_3006, v15_3007, h => slices_symMergeCmpFunc_int_tree_Order_c1.b2 K6 (slices_symMergeCmpFunc_int_tree_Order_c1.l2 K6 m) c0_3001 c0_3002 c0_3003 c2_3004 c4_3005 v14_3006 v15_3007 h
def slices_symMergeCmpFunc_int_tree_Order_c1.b1 (K4 : Heap → Prop) (cont : (Option Addr) → Nat → Nat → Int → Int → Heap → Prop) (c0_2001 : Option Addr) (c0_2002 : Nat) (c0_2003 : Nat) (c10_2004 : Int) (v13_2005 : Int) (h2006 : Heap) : Prop :=
  (iteB (decide (v13_2005 < (IntKind.i64.wrap (c10_2004 - 1)))) ((chkP c0_2001 fun a2007 => (0 ≤ (IntKind.i64.wrap (v13_2005 + 1)) ∧ (IntKind.i64.wrap (v13_2005 + 1)) < (c0_2002 : Int)) ∧ ∃ (x2008 : Int), cell h2006 (a2007.add ((IntKind.i64.wrap (v13_2005 + 1)).toNat * 1)) = some (.int .i64 x2008) ∧ chkP c0_2001 fun a2009 => (0 ≤ v13_2005 ∧ v13_2005 < (c0_2002 : Int)) ∧ ∃ (x2010 : Int), cell h2006 (a2009.add (v13_2005.toNat * 1)) = some (.int .i64 x2010) ∧ chkP c0_2001 fun a2011 => (0 ≤ v13_2005 ∧ v13_2005 < (c0_2002 : Int)) ∧ stC h2006 (a2011.add (v13_2005.toNat * 1)) (.int .i64 x2008) fun h2012 => chkP c0_2001 fun a2013 => (0 ≤ (IntKind.i64.wrap (v13_2005 + 1)) ∧ (IntKind.i64.wrap (v13_2005 + 1)) < (c0_2002 : Int)) ∧ stC h2012 (a2013.add ((IntKind.i64.wrap (v13_2005 + 1)).toNat * 1)) (.int .i64 x2010) fun h2014 => ((cont c0_2001 c0_2002 c0_2003 c10_2004 (IntKind.i64.wrap (v13_2005 + 1)) h2014)))) (K4 h2006))
def slices_symMergeCmpFunc_int_tree_Order_c1.l1 (K4 : Heap → Prop) : Nat → (Option Addr) → Nat → Nat → Int → Int → Heap → Prop
  | 0, _, _, _, _, _, _ => False
  | m + 1, c0_2001, c0_2002, c0_2003, c10_2004, v13_2005, h => slices_symMergeCmpFunc_int_tree_Order_c1.b1 K4 (slices_symMergeCmpFunc_int_tree_Order_c1.l1 K4 m) c0_2001 c0_2002 c0_2003 c10_2004 v13_2005 h
def slices_symMergeCmpFunc_int_tree_Order_c1.b0 (K2 : Int → Heap → Prop) (cont : (Option Addr) → Nat → Nat → Int → Addr → Int → Int → Heap → Prop) (c0_1001 : Option Addr) (c0_1002 : Nat) (c0_1003 : Nat) (c1_1004 : Int) (c4_1005 : Addr) (v10_1006 : Int) (v11_1007 : Int) (h1008 : Heap) : Prop :=
  (iteB (decide (v10_1006 < v11_1007)) ((bindV (IntKind.u64.wrap (IntKind.i64.wrap (v10_1006 + v11_1007))) fun n1009 => 0 ≤ (1 : Int) ∧ (chkP c0_1001 fun a1010 => (0 ≤ (IntKind.i64.wrap (n1009.fdiv (2 ^ 1))) ∧ (IntKind.i64.wrap (n1009.fdiv (2 ^ 1))) < (c0_1002 : Int)) ∧ ∃ (x1011 : Int), cell h1008 (a1010.add ((IntKind.i64.wrap (n1009.fdiv (2 ^ 1))).toNat * 1)) = some (.int .i64 x1011) ∧ chkP c0_1001 fun a1012 => (0 ≤ c1_1004 ∧ c1_1004 < (c0_1002 : Int)) ∧ ∃ (x1013 : Int), cell h1008 (a1012.add (c1_1004.toNat * 1)) = some (.int .i64 x1013) ∧ callP1 (tree_Order_c1 x1011 x1013 c4_1005 h1008) fun x1014 h1015 => (iteB (decide (x1014 < (0 : Int))) (bindV (IntKind.i64.wrap ((IntKind.i64.wrap (n1009.fdiv (2 ^ 1))) + 1)) fun n1016 => cont c0_1001 c0_1002 c0_1003 c1_1004 c4_1005 n1016 v11_1007 h1015) ((cont c0_1001 c0_1002 c0_1003 c1_1004 c4_1005 v10_1006 (IntKind.i64.wrap (n1009.fdiv (2 ^ 1))) h1015)))))) (K2 v10_1006 h1008))
def slices_symMergeCmpFunc_int_tree_Order_c1.l0 (K2 : Int → Heap → Prop) : Nat → (Option Addr) → Nat → Nat → Int → Addr → Int → Int → Heap → Prop
  | 0, _, _, _, _, _, _, _, _ => False
  | m + 1, c0_1001, c0_1002, c0_1003, c1_1004, c4_1005, v10_1006, v11_1007, h => slices_symMergeCmpFunc_int_tree_Order_c1.b0 K2 (slices_symMergeCmpFunc_int_tree_Order_c1.l0 K2 m) c0_1001 c0_1002 c0_1003 c1_1004 c4_1005 v10_1006 v11_1007 h
def slices_symMergeCmpFunc_int_tree_Order_c1 (a1 : Option Addr) (a1l : Nat) (a1c : Nat) (a2 : Int) (a3 : Int) (a4 : Int) (a5 : Addr) (h : Heap) (K : Heap → Prop) : Prop :=
  (iteB ((IntKind.i64.wrap (a3 - a2)) == (1 : Int)) (((∃ m8, slices_symMergeCmpFunc_int_tree_Order_c1.l0 (fun z6 h7 => (((∃ m10, slices_symMergeCmpFunc_int_tree_Order_c1.l1 (fun h9 => (K h9)) m10 a1 a1l a1c z6 a2 h7)))) m8 a1 a1l a1c a2 a5 a3 a4 h))) (((iteB ((IntKind.i64.wrap (a4 - a3)) == (1 : Int)) (((∃ m13, slices_symMergeCmpFunc_int_tree_Order_c1.l2 (fun z11 h12 => (((∃ m15, slices_symMergeCmpFunc_int_tree_Order_c1.l3 (fun h14 => (K h14)) m15 a1 a1l a1c z11 a3 h12)))) m13 a1 a1l a1c a3 a5 a2 a3 h))) ((bindV (IntKind.u64.wrap (IntKind.i64.wrap (a2 + a4))) fun n16 => 0 ≤ (1 : Int) ∧ (bindV (IntKind.i64.wrap ((IntKind.i64.wrap (n16.fdiv (2 ^ 1))) + a3)) fun n17 => ((let j39 := (fun (y18 : Int) (y19 : Int) (y20 : Int) => (∃ m23, slices_symMergeCmpFunc_int_tree_Order_c1.l4 (fun z21 h22 => (((let j38 := (fun (y28 : Int) (h29 : Heap) => let j37 := (fun (h33 : Heap) => iteB (decide (y18 < y28)) ((iteB (decide (y28 < a4)) (callP0 (slices_symMergeCmpFunc_int_tree_Order_c1_rec a1 a1l a1c y18 y28 a4 a5 h33) fun h36 => K h36) (K h33))) (K h33));
  iteB (decide (a2 < z21)) ((iteB (decide (z21 < y18)) (callP0 (slices_symMergeCmpFunc_int_tree_Order_c1_rec a1 a1l a1c a2 z21 y18 a5 h29) fun h32 => (j37 h32)) ((j37 h29)))) (((j37 h29))));
  iteB (decide (z21 < a3)) ((iteB (decide (a3 < (IntKind.i64.wrap (n17 - z21)))) (callP0 (slices_rotateCmpFunc_int_tree_Order_c1 a1 a1l a1c z21 a3 (IntKind.i64.wrap (n17 - z21)) a5 h22) fun h27 => (j38 (IntKind.i64.wrap (n17 - z21)) h27)) ((j38 (IntKind.i64.wrap (n17 - z21)) h22)))) (((j38 (IntKind.i64.wrap (n17 - z21)) h22))))))) m23 a1 a1l a1c a2 a3 a4 a5 y18 n17 y19 y20 (IntKind.i64.wrap (n17 - 1)) h));
  (iteB (decide (a3 > (IntKind.i64.wrap (n16.fdiv (2 ^ 1))))) (((j39 (IntKind.i64.wrap (n16.fdiv (2 ^ 1))) (IntKind.i64.wrap (n17 - a4)) (IntKind.i64.wrap (n16.fdiv (2 ^ 1)))))) (((j39 (IntKind.i64.wrap (n16.fdiv (2 ^ 1))) a2 a3)))))))))))))
def slices_symMergeCmpFunc_int_tree_Order_c1.ret (K : Heap → Prop) (v : Value) (h : Heap) : Prop := match v with
  | (.tuple ⟨[]⟩) => K h
  | _ => False
theorem slices_symMergeCmpFunc_int_tree_Order_c1.ret_elim {K : Heap → Prop} {K' : Value → Heap → Prop} {v : Value} {h : Heap} (hk : ∀  h, K h → K' (.tuple #[]) h) (hh : slices_symMergeCmpFunc_int_tree_Order_c1.ret K v h) : K' v h := by
  unfold slices_symMergeCmpFunc_int_tree_Order_c1.ret at hh
  split at hh
  · exact hk _ hh
  · exact hh.elim
def slices_symMergeCmpFunc_int_tree_Order_c1.call (f : FuncId) (vs : List Value) (h : Heap) (K : Value → Heap → Prop) : Prop := match f, vs with
  | 52, [(.int .i64 a1), (.int .i64 a2), (.pointer (some a3))] => callP1 (tree_Order_c1 a1 a2 a3 h) fun r11 h' => K (.int .i64 r11) h'
  | 93, [(.slice a1 a1l a1c), (.int .i64 a2), (.int .i64 a3), (.int .i64 a4), (.func (.func 52) ⟨[]⟩ ⟨[(.pointer (some a5))]⟩)] => callP0 (slices_symMergeCmpFunc_int_tree_Order_c1_rec a1 a1l a1c a2 a3 a4 a5 h) fun h' => K (.tuple #[]) h'
  | 114, [(.slice a1 a1l a1c), (.int .i64 a2), (.int .i64 a3), (.int .i64 a4), (.func (.func 52) ⟨[]⟩ ⟨[(.pointer (some a5))]⟩)] => callP0 (slices_rotateCmpFunc_int_tree_Order_c1 a1 a1l a1c a2 a3 a4 a5 h) fun h' => K (.tuple #[]) h'
  | _, _ => False
def slices_symMergeCmpFunc_int_tree_Order_c1.r0 (K : Nat → List Value → Heap → Prop) (m : Nat) (vs : List Value) (h : Heap) : Prop := match vs with
  | [(.slice c0_1001 c0_1002 c0_1003), (.int .i64 c1_1004), (.func (.func 52) ⟨[]⟩ ⟨[(.pointer (some c4_1005))]⟩), (.int .i64 v10_1006), (.int .i64 v11_1007)] => slices_symMergeCmpFunc_int_tree_Order_c1.l0 (fun z40 h' => K 2 [(.slice c0_1001 c0_1002 c0_1003), (.int .i64 c1_1004), (.int .i64 z40)] h') m c0_1001 c0_1002 c0_1003 c1_1004 c4_1005 v10_1006 v11_1007 h
  | _ => False
def slices_symMergeCmpFunc_int_tree_Order_c1.r1 (K : Nat → List Value → Heap → Prop) (m : Nat) (vs : List Value) (h : Heap) : Prop := match vs with
  | [(.slice c0_2001 c0_2002 c0_2003), (.int .i64 c10_2004), (.int .i64 v13_2005)] => slices_symMergeCmpFunc_int_tree_Order_c1.l1 (fun h' => K 4 [] h') m c0_2001 c0_2002 c0_2003 c10_2004 v13_2005 h
  | _ => False
def slices_symMergeCmpFunc_int_tree_Order_c1.r2 (K : Nat → List Value → Heap → Prop) (m : Nat) (vs : List Value) (h : Heap) : Prop := match vs with
  | [(.slice c0_3001 c0_3002 c0_3003), (.int .i64 c2_3004), (.func (.func 52) ⟨[]⟩ ⟨[(.pointer (some c4_3005))]⟩), (.int .i64 v14_3006), (.int .i64 v15_3007)] => slices_symMergeCmpFunc_int_tree_Order_c1.l2 (fun z41 h' => K 6 [(.slice c0_3001 c0_3002 c0_3003), (.int .i64 c2_3004), (.int .i64 z41)] h') m c0_3001 c0_3002 c0_3003 c2_3004 c4_3005 v14_3006 v15_3007 h
  | _ => False
def slices_symMergeCmpFunc_int_tree_Order_c1.r3 (K : Nat → List Value → Heap → Prop) (m : Nat) (vs : List Value) (h : Heap) : Prop := match vs with
  | [(.slice c0_4001 c0_4002 c0_4003), (.int .i64 c14_4004), (.int .i64 v17_4005)] => slices_symMergeCmpFunc_int_tree_Order_c1.l3 (fun h' => K 8 [] h') m c0_4001 c0_4002 c0_4003 c14_4004 v17_4005 h
  | _ => False
def slices_symMergeCmpFunc_int_tree_Order_c1.r4 (K : Nat → List Value → Heap → Prop) (m : Nat) (vs : List Value) (h : Heap) : Prop := match vs with
  | [(.slice c0_5001 c0_5002 c0_5003), (.int .i64 c1_5004), (.int .i64 c2_5005), (.int .i64 c3_5006), (.func (.func 52) ⟨[]⟩ ⟨[(.pointer (some c4_5007))]⟩), (.int .i64 c18_5008), (.int .i64 c19_5009), (.int .i64 v20_5010), (.int .i64 v21_5011), (.int .i64 c22_5012)] => slices_symMergeCmpFunc_int_tree_Order_c1.l4 (fun z42 h' => K 10 [(.slice c0_5001 c0_5002 c0_5003), (.int .i64 c1_5004), (.int .i64 c2_5005), (.int .i64 c3_5006), (.func (.func 52) #[] #[(.pointer (some c4_5007))]), (.int .i64 c18_5008), (.int .i64 c19_5009), (.int .i64 z42)] h') m c0_5001 c0_5002 c0_5003 c1_5004 c2_5005 c3_5006 c4_5007 c18_5008 c19_5009 v20_5010 v21_5011 c22_5012 h
  | _ => False
def slices_symMergeCmpFunc_int_tree_Order_c1.loop (i : Nat) (vs : List Value) (h : Heap) (K : Nat → List Value → Heap → Prop) : Prop := match i with
  | 0 => ∃ m, slices_symMergeCmpFunc_int_tree_Order_c1.r0 K m vs h
  | 1 => ∃ m, slices_symMergeCmpFunc_int_tree_Order_c1.r1 K m vs h
  | 2 => ∃ m, slices_symMergeCmpFunc_int_tree_Order_c1.r2 K m vs h
  | 3 => ∃ m, slices_symMergeCmpFunc_int_tree_Order_c1.r3 K m vs h
  | 4 => ∃ m, slices_symMergeCmpFunc_int_tree_Order_c1.r4 K m vs h
  | _ => False
noncomputable def slices_symMergeCmpFunc_int_tree_Order_c1.ctx : Ctx := { P := Try.prog, call := slices_symMergeCmpFunc_int_tree_Order_c1.call, qcall := fun _ _ _ _ => False, quiet := fun f => Nat.beq f 1000069 || Nat.beq f 1000099, loop := slices_symMergeCmpFunc_int_tree_Order_c1.loop }
theorem slices_symMergeCmpFunc_int_tree_Order_c1.ok : slices_symMergeCmpFunc_int_tree_Order_c1.ctx.OK where
  mixed := by kernel_rfl
  mono := by
    intro f args h K K' hh hk
    change slices_symMergeCmpFunc_int_tree_Order_c1.call f args h K at hh
    change slices_symMergeCmpFunc_int_tree_Order_c1.call f args h K'
    unfold slices_symMergeCmpFunc_int_tree_Order_c1.call at hh ⊢
    split at hh
    · obtain ⟨R, h1, h2⟩ := hh
      exact ⟨R, h1, fun _ x hr => hk _ _ (h2 _ x hr)⟩
    · obtain ⟨R, h1, h2⟩ := hh
      exact ⟨R, h1, fun x hr => hk _ _ (h2 x hr)⟩
    · obtain ⟨R, h1, h2⟩ := hh
      exact ⟨R, h1, fun x hr => hk _ _ (h2 x hr)⟩
    · exact hh.elim
  call := by
    intro f args h K hh w hw
    change slices_symMergeCmpFunc_int_tree_Order_c1.call f args h K at hh
    unfold slices_symMergeCmpFunc_int_tree_Order_c1.call at hh
    split at hh
    · obtain ⟨R, h1, h2⟩ := hh
      obtain ⟨g1, g2⟩ := tree_Order_c1.calls h1 w hw
      exact ⟨g1, g2.mono fun e w' ⟨v, he, ho, hr⟩ => ⟨v, he, ho, tree_Order_c1.ret_elim h2 hr⟩⟩
    · obtain ⟨R, h1, h2⟩ := hh
      obtain ⟨g1, g2⟩ := slices_symMergeCmpFunc_int_tree_Order_c1_rec.calls h1 w hw
      exact ⟨g1, g2.mono fun e w' ⟨v, he, ho, hr⟩ => ⟨v, he, ho, slices_symMergeCmpFunc_int_tree_Order_c1_rec.ret_elim h2 hr⟩⟩
    · obtain ⟨R, h1, h2⟩ := hh
      obtain ⟨g1, g2⟩ := slices_rotateCmpFunc_int_tree_Order_c1.calls h1 w hw
      exact ⟨g1, g2.mono fun e w' ⟨v, he, ho, hr⟩ => ⟨v, he, ho, slices_rotateCmpFunc_int_tree_Order_c1.ret_elim h2 hr⟩⟩
    · exact hh.elim
  qmono := fun hh _ => hh.elim
  qval := fun hh => hh.elim
  qcall := fun hh => hh.elim
noncomputable def slices_symMergeCmpFunc_int_tree_Order_c1.code : Code := (Try.f93.body).getD .skip
def slices_symMergeCmpFunc_int_tree_Order_c1.ann : Ann := (.two (.two .auto (.two (.two .auto (.two .auto (.two (.two (.loop 0 [0, 1, 4, 10, 11] [(2, [0, 1, 10])] (.two .auto (.two (.two .auto (.two (.reg [0, 0, 0, 6, 14, 0, 0, 96, 224, 511, 1023] (.take 0 (.take 1 (.take 2 (.take 3 (.take 4 (.take 5 (.take 6 (.take 7 (.take 8 (.alt 9 (.take 10 .done) .noalt))))))))))) .auto)) .auto))) .auto) (.two (.two .auto (.two (.loop 1 [0, 10, 13] [(4, [])] (.two .auto (.two (.two (.reg [0, 0, 0, 0, 8, 0, 0, 64, 224, 480, 0, 0, 3072, 7168, 16355, 32739, 65535, 131071] (.take 0 (.take 1 (.take 2 (.take 3 (.take 4 (.take 5 (.take 6 (.take 7 (.take 8 (.take 9 (.take 10 (.take 11 (.take 12 (.take 13 (.take 14 (.alt 15 (.take 16 (.alt 17 .done .noalt)) .noalt))))))))))))))))) .auto) .auto))) .auto)) .auto)))) .auto)) (.two (.two .auto (.two (.two .auto (.two .auto (.two (.two (.loop 2 [0, 2, 4, 14, 15] [(6, [0, 2, 14])] (.two .auto (.two (.two .auto (.two (.reg [0, 0, 0, 6, 14, 0, 0, 96, 224, 511, 1023, 2047] (.take 0 (.take 1 (.take 2 (.take 3 (.take 4 (.take 5 (.take 6 (.take 7 (.take 8 (.alt 9 (.take 10 (.take 11 .done)) .noalt))))))))))) .auto)) .auto))) .auto) (.two (.two .auto (.two (.loop 3 [0, 14, 17] [(8, [])] (.two .auto (.two (.two (.reg [0, 0, 0, 0, 8, 0, 0, 64, 224, 480, 0, 0, 3072, 7168, 16355, 32739, 65535, 131071] (.take 0 (.take 1 (.take 2 (.take 3 (.take 4 (.take 5 (.take 6 (.take 7 (.take 8 (.take 9 (.take 10 (.take 11 (.take 12 (.take 13 (.take 14 (.alt 15 (.take 16 (.alt 17 .done .noalt)) .noalt))))))))))))))))) .auto) .auto))) .auto)) .auto)))) .auto)) (.two .auto (.two .auto (.two .auto (.two .auto (.two .auto (.two (.two (.loop 4 [0, 1, 2, 3, 4, 18, 19, 20, 21, 22] [(10, [0, 1, 2, 3, 4, 18, 19, 20])] (.two .auto (.two (.two .auto (.two (.reg [0, 0, 0, 0, 12, 30, 62, 0, 0, 384, 896, 2047, 4095, 8191] (.take 0 (.take 1 (.take 2 (.take 3 (.take 4 (.take 5 (.take 6 (.take 7 (.take 8 (.take 9 (.take 10 (.alt 11 (.take 12 (.take 13 .done)) .noalt))))))))))))) .auto)) .auto))) .auto) .auto))))))))
noncomputable def slices_symMergeCmpFunc_int_tree_Order_c1.c4 : Code := sub slices_symMergeCmpFunc_int_tree_Order_c1.code [1, 1, 1, 1, 1, 1, 1, 0, 0, 0]
def slices_symMergeCmpFunc_int_tree_Order_c1.a4 : Ann := (.two .auto (.two (.two .auto (.two (.reg [0, 0, 0, 0, 12, 30, 62, 0, 0, 384, 896, 2047, 4095, 8191] (.take 0 (.take 1 (.take 2 (.take 3 (.take 4 (.take 5 (.take 6 (.take 7 (.take 8 (.take 9 (.take 10 (.alt 11 (.take 12 (.take 13 .done)) .noalt))))))))))))) .auto)) .auto))
def slices_symMergeCmpFunc_int_tree_Order_c1.keep4 : List Nat := [0, 1, 2, 3, 4, 18, 19, 20, 21, 22]
def slices_symMergeCmpFunc_int_tree_Order_c1.outs4 : List (Nat × List Nat) := [(10, [0, 1, 2, 3, 4, 18, 19, 20])]
noncomputable def slices_symMergeCmpFunc_int_tree_Order_c1.c3 : Code := sub slices_symMergeCmpFunc_int_tree_Order_c1.code [1, 0, 1, 0, 1, 1, 1, 0, 1, 0, 0]
def slices_symMergeCmpFunc_int_tree_Order_c1.a3 : Ann := (.two .auto (.two (.two (.reg [0, 0, 0, 0, 8, 0, 0, 64, 224, 480, 0, 0, 3072, 7168, 16355, 32739, 65535, 131071] (.take 0 (.take 1 (.take 2 (.take 3 (.take 4 (.take 5 (.take 6 (.take 7 (.take 8 (.take 9 (.take 10 (.take 11 (.take 12 (.take 13 (.take 14 (.alt 15 (.take 16 (.alt 17 .done .noalt)) .noalt))))))))))))))))) .auto) .auto))
def slices_symMergeCmpFunc_int_tree_Order_c1.keep3 : List Nat := [0, 14, 17]
def slices_symMergeCmpFunc_int_tree_Order_c1.outs3 : List (Nat × List Nat) := [(8, [])]
noncomputable def slices_symMergeCmpFunc_int_tree_Order_c1.c2 : Code := sub slices_symMergeCmpFunc_int_tree_Order_c1.code [1, 0, 1, 0, 1, 1, 0, 0, 0]
def slices_symMergeCmpFunc_int_tree_Order_c1.a2 : Ann := (.two .auto (.two (.two .auto (.two (.reg [0, 0, 0, 6, 14, 0, 0, 96, 224, 511, 1023, 2047] (.take 0 (.take 1 (.take 2 (.take 3 (.take 4 (.take 5 (.take 6 (.take 7 (.take 8 (.alt 9 (.take 10 (.take 11 .done)) .noalt))))))))))) .auto)) .auto))
def slices_symMergeCmpFunc_int_tree_Order_c1.keep2 : List Nat := [0, 2, 4, 14, 15]
def slices_symMergeCmpFunc_int_tree_Order_c1.outs2 : List (Nat × List Nat) := [(6, [0, 2, 14])]
noncomputable def slices_symMergeCmpFunc_int_tree_Order_c1.c1 : Code := sub slices_symMergeCmpFunc_int_tree_Order_c1.code [0, 1, 0, 1, 1, 1, 0, 1, 0, 0]
def slices_symMergeCmpFunc_int_tree_Order_c1.a1 : Ann := (.two .auto (.two (.two (.reg [0, 0, 0, 0, 8, 0, 0, 64, 224, 480, 0, 0, 3072, 7168, 16355, 32739, 65535, 131071] (.take 0 (.take 1 (.take 2 (.take 3 (.take 4 (.take 5 (.take 6 (.take 7 (.take 8 (.take 9 (.take 10 (.take 11 (.take 12 (.take 13 (.take 14 (.alt 15 (.take 16 (.alt 17 .done .noalt)) .noalt))))))))))))))))) .auto) .auto))
def slices_symMergeCmpFunc_int_tree_Order_c1.keep1 : List Nat := [0, 10, 13]
def slices_symMergeCmpFunc_int_tree_Order_c1.outs1 : List (Nat × List Nat) := [(4, [])]
noncomputable def slices_symMergeCmpFunc_int_tree_Order_c1.c0 : Code := sub slices_symMergeCmpFunc_int_tree_Order_c1.code [0, 1, 0, 1, 1, 0, 0, 0]
def slices_symMergeCmpFunc_int_tree_Order_c1.a0 : Ann := (.two .auto (.two (.two .auto (.two (.reg [0, 0, 0, 6, 14, 0, 0, 96, 224, 511, 1023] (.take 0 (.take 1 (.take 2 (.take 3 (.take 4 (.take 5 (.take 6 (.take 7 (.take 8 (.alt 9 (.take 10 .done) .noalt))))))))))) .auto)) .auto))
def slices_symMergeCmpFunc_int_tree_Order_c1.keep0 : List Nat := [0, 1, 4, 10, 11]
def slices_symMergeCmpFunc_int_tree_Order_c1.outs0 : List (Nat × List Nat) := [(2, [0, 1, 10])]
set_option maxRecDepth 100000 in
theorem slices_symMergeCmpFunc_int_tree_Order_c1.L0 : LoopOK slices_symMergeCmpFunc_int_tree_Order_c1.ctx 220 slices_symMergeCmpFunc_int_tree_Order_c1.c0 0 slices_symMergeCmpFunc_int_tree_Order_c1.keep0 slices_symMergeCmpFunc_int_tree_Order_c1.outs0 := by
  refine loop_ok (n := slices_symMergeCmpFunc_int_tree_Order_c1.a0) slices_symMergeCmpFunc_int_tree_Order_c1.ok (by kernel_rfl) (loops_ok (l := []) (by kernel_rfl) ?_) slices_symMergeCmpFunc_int_tree_Order_c1.r0 ?_ ?_ (fun vs h K hh => hh)
  · exact trivial
  · intro K vs h hh
    unfold slices_symMergeCmpFunc_int_tree_Order_c1.r0 at hh
    split at hh
    · exact hh
    · exact hh
  · intro K m vs h hh
    unfold slices_symMergeCmpFunc_int_tree_Order_c1.r0 at hh
    split at hh
    · exact cast (by kernel_rfl) hh
    · exact hh.elim
set_option maxRecDepth 100000 in
theorem slices_symMergeCmpFunc_int_tree_Order_c1.L1 : LoopOK slices_symMergeCmpFunc_int_tree_Order_c1.ctx 220 slices_symMergeCmpFunc_int_tree_Order_c1.c1 1 slices_symMergeCmpFunc_int_tree_Order_c1.keep1 slices_symMergeCmpFunc_int_tree_Order_c1.outs1 := by
  refine loop_ok (n := slices_symMergeCmpFunc_int_tree_Order_c1.a1) slices_symMergeCmpFunc_int_tree_Order_c1.ok (by kernel_rfl) (loops_ok (l := []) (by kernel_rfl) ?_) slices_symMergeCmpFunc_int_tree_Order_c1.r1 ?_ ?_ (fun vs h K hh => hh)
  · exact trivial
  · intro K vs h hh
    unfold slices_symMergeCmpFunc_int_tree_Order_c1.r1 at hh
    split at hh
    · exact hh
    · exact hh
  · intro K m vs h hh
    unfold slices_symMergeCmpFunc_int_tree_Order_c1.r1 at hh
    split at hh
    · exact cast (by kernel_rfl) hh
    · exact hh.elim
set_option maxRecDepth 100000 in
theorem slices_symMergeCmpFunc_int_tree_Order_c1.L2 : LoopOK slices_symMergeCmpFunc_int_tree_Order_c1.ctx 220 slices_symMergeCmpFunc_int_tree_Order_c1.c2 2 slices_symMergeCmpFunc_int_tree_Order_c1.keep2 slices_symMergeCmpFunc_int_tree_Order_c1.outs2 := by
  refine loop_ok (n := slices_symMergeCmpFunc_int_tree_Order_c1.a2) slices_symMergeCmpFunc_int_tree_Order_c1.ok (by kernel_rfl) (loops_ok (l := []) (by kernel_rfl) ?_) slices_symMergeCmpFunc_int_tree_Order_c1.r2 ?_ ?_ (fun vs h K hh => hh)
  · exact trivial
  · intro K vs h hh
    unfold slices_symMergeCmpFunc_int_tree_Order_c1.r2 at hh
    split at hh
    · exact hh
    · exact hh
  · intro K m vs h hh
    unfold slices_symMergeCmpFunc_int_tree_Order_c1.r2 at hh
    split at hh
    · exact cast (by kernel_rfl) hh
    · exact hh.elim
set_option maxRecDepth 100000 in
theorem slices_symMergeCmpFunc_int_tree_Order_c1.L3 : LoopOK slices_symMergeCmpFunc_int_tree_Order_c1.ctx 220 slices_symMergeCmpFunc_int_tree_Order_c1.c3 3 slices_symMergeCmpFunc_int_tree_Order_c1.keep3 slices_symMergeCmpFunc_int_tree_Order_c1.outs3 := by
  refine loop_ok (n := slices_symMergeCmpFunc_int_tree_Order_c1.a3) slices_symMergeCmpFunc_int_tree_Order_c1.ok (by kernel_rfl) (loops_ok (l := []) (by kernel_rfl) ?_) slices_symMergeCmpFunc_int_tree_Order_c1.r3 ?_ ?_ (fun vs h K hh => hh)
  · exact trivial
  · intro K vs h hh
    unfold slices_symMergeCmpFunc_int_tree_Order_c1.r3 at hh
    split at hh
    · exact hh
    · exact hh
  · intro K m vs h hh
    unfold slices_symMergeCmpFunc_int_tree_Order_c1.r3 at hh
    split at hh
    · exact cast (by kernel_rfl) hh
    · exact hh.elim
set_option maxRecDepth 100000 in
theorem slices_symMergeCmpFunc_int_tree_Order_c1.L4 : LoopOK slices_symMergeCmpFunc_int_tree_Order_c1.ctx 220 slices_symMergeCmpFunc_int_tree_Order_c1.c4 4 slices_symMergeCmpFunc_int_tree_Order_c1.keep4 slices_symMergeCmpFunc_int_tree_Order_c1.outs4 := by
  refine loop_ok (n := slices_symMergeCmpFunc_int_tree_Order_c1.a4) slices_symMergeCmpFunc_int_tree_Order_c1.ok (by kernel_rfl) (loops_ok (l := []) (by kernel_rfl) ?_) slices_symMergeCmpFunc_int_tree_Order_c1.r4 ?_ ?_ (fun vs h K hh => hh)
  · exact trivial
  · intro K vs h hh
    unfold slices_symMergeCmpFunc_int_tree_Order_c1.r4 at hh
    split at hh
    · exact hh
    · exact hh
  · intro K m vs h hh
    unfold slices_symMergeCmpFunc_int_tree_Order_c1.r4 at hh
    split at hh
    · exact cast (by kernel_rfl) hh
    · exact hh.elim
set_option maxRecDepth 100000 in
theorem slices_symMergeCmpFunc_int_tree_Order_c1.eq (a1 : Option Addr) (a1l : Nat) (a1c : Nat) (a2 : Int) (a3 : Int) (a4 : Int) (a5 : Addr) (h : Heap) (K : Heap → Prop) : evF slices_symMergeCmpFunc_int_tree_Order_c1.ctx Try.f93 slices_symMergeCmpFunc_int_tree_Order_c1.ann [(.slice a1 a1l a1c), (.int .i64 a2), (.int .i64 a3), (.int .i64 a4), (.func (.func 52) #[] #[(.pointer (some a5))])] h (slices_symMergeCmpFunc_int_tree_Order_c1.ret K) = slices_symMergeCmpFunc_int_tree_Order_c1 a1 a1l a1c a2 a3 a4 a5 h K := by kernel_rfl
set_option maxRecDepth 100000 in
theorem slices_symMergeCmpFunc_int_tree_Order_c1.calls {a1 : Option Addr} {a1l : Nat} {a1c : Nat} {a2 : Int} {a3 : Int} {a4 : Int} {a5 : Addr} {h : Heap} {K : Heap → Prop} (hh : slices_symMergeCmpFunc_int_tree_Order_c1 a1 a1l a1c a2 a3 a4 a5 h K) (w : World) (hw : w.heap = h) :
    (callFunc 93 #[(.slice a1 a1l a1c), (.int .i64 a2), (.int .i64 a3), (.int .i64 a4), (.func (.func 52) #[] #[(.pointer (some a5))])]).run Try.prog w = .ok (.enter 93 #[(.slice a1 a1l a1c), (.int .i64 a2), (.int .i64 a3), (.int .i64 a4), (.func (.func 52) #[] #[(.pointer (some a5))])]) w ∧ Calls Try.prog 93 #[(.slice a1 a1l a1c), (.int .i64 a2), (.int .i64 a3), (.int .i64 a4), (.func (.func 52) #[] #[(.pointer (some a5))])] w fun e w' => ∃ v, e = .returned v ∧ Out w w' ∧ slices_symMergeCmpFunc_int_tree_Order_c1.ret K v w'.heap := by
  rw [← slices_symMergeCmpFunc_int_tree_Order_c1.eq] at hh
  exact fn_calls (args := [(.slice a1 a1l a1c), (.int .i64 a2), (.int .i64 a3), (.int .i64 a4), (.func (.func 52) #[] #[(.pointer (some a5))])]) (c := slices_symMergeCmpFunc_int_tree_Order_c1.code) slices_symMergeCmpFunc_int_tree_Order_c1.ok Try.func93 (by kernel_rfl) (by kernel_rfl) (by kernel_rfl) (by kernel_rfl) (loops_ok (l := [(slices_symMergeCmpFunc_int_tree_Order_c1.c0, none, 0, slices_symMergeCmpFunc_int_tree_Order_c1.keep0, slices_symMergeCmpFunc_int_tree_Order_c1.outs0), (slices_symMergeCmpFunc_int_tree_Order_c1.c1, none, 1, slices_symMergeCmpFunc_int_tree_Order_c1.keep1, slices_symMergeCmpFunc_int_tree_Order_c1.outs1), (slices_symMergeCmpFunc_int_tree_Order_c1.c2, none, 2, slices_symMergeCmpFunc_int_tree_Order_c1.keep2, slices_symMergeCmpFunc_int_tree_Order_c1.outs2), (slices_symMergeCmpFunc_int_tree_Order_c1.c3, none, 3, slices_symMergeCmpFunc_int_tree_Order_c1.keep3, slices_symMergeCmpFunc_int_tree_Order_c1.outs3), (slices_symMergeCmpFunc_int_tree_Order_c1.c4, none, 4, slices_symMergeCmpFunc_int_tree_Order_c1.keep4, slices_symMergeCmpFunc_int_tree_Order_c1.outs4)]) (by kernel_rfl) ⟨slices_symMergeCmpFunc_int_tree_Order_c1.L0, slices_symMergeCmpFunc_int_tree_Order_c1.L1, slices_symMergeCmpFunc_int_tree_Order_c1.L2, slices_symMergeCmpFunc_int_tree_Order_c1.L3, slices_symMergeCmpFunc_int_tree_Order_c1.L4, trivial⟩) hh w hw
end

/-! ### slices.stableCmpFunc[int]: function 70 -/
section
variable [DKc]
def slices_stableCmpFunc_int_tree_Order_c1.b2 (K6 : Int → Heap → Prop) (cont : (Option Addr) → Nat → Nat → Int → Addr → Int → Int → Int → Heap → Prop) (c0_3001 : Option Addr) (c0_3002 : Nat) (c0_3003 : Nat) (c1_3004 : Int) (c2_3005 : Addr) (c6_3006 : Int) (v7_3007 : Int) (v8_3008 : Int) (h3009 : Heap) : Prop :=
  (iteB (decide (v8_3008 ≤ c1_3004)) ((callP0 (slices_symMergeCmpFunc_int_tree_Order_c1 c0_3001 c0_3002 c0_3003 v7_3007 (IntKind.i64.wrap (v7_3007 + c6_3006)) v8_3008 c2_3005 h3009) fun h3010 => ((bindV (IntKind.i64.wrap (v8_3008 + (IntKind.i64.wrap (2 * c6_3006)))) fun n3011 => cont c0_3001 c0_3002 c0_3003 c1_3004 c2_3005 c6_3006 v8_3008 n3011 h3010)))) (K6 v7_3007 h3009))
def slices_stableCmpFunc_int_tree_Order_c1.l2 (K6 : Int → Heap → Prop) : Nat → (Option Addr) → Nat → Nat → Int → Addr → Int → Int → Int → Heap → Prop
  | 0, _, _, _, _, _, _, _, _, _ => False
  | m + 1, c0_3001, c0_3002, c0_3003, c1_3004, c2_3005, c6_3006, v7_3007, v8_3008, h => slices_stableCmpFunc_int_tree_Order_c1.b2 K6 (slices_stableCmpFunc_int_tree_Order_c1.l2 K6 m) c0_3001 c0_3002 c0_3003 c1_3004 c2_3005 c6_3006 v7_3007 v8_3008 h
def slices_stableCmpFunc_int_tree_Order_c1.b1 (K4 : Heap → Prop) (cont : (Option Addr) → Nat → Nat → Int → Addr → Int → Heap → Prop) (c0_2001 : Option Addr) (c0_2002 : Nat) (c0_2003 : Nat) (c1_2004 : Int) (c2_2005 : Addr) (v6_2006 : Int) (h2007 : Heap) : Prop :=
  (iteB (decide (v6_2006 < c1_2004)) (((∃ m2010, slices_stableCmpFunc_int_tree_Order_c1.l2 (fun z2008 h2009 => ((((iteB (decide ((IntKind.i64.wrap (z2008 + v6_2006)) < c1_2004)) (callP0 (slices_symMergeCmpFunc_int_tree_Order_c1 c0_2001 c0_2002 c0_2003 z2008 (IntKind.i64.wrap (z2008 + v6_2006)) c1_2004 c2_2005 h2009) fun h2011 => ((cont c0_2001 c0_2002 c0_2003 c1_2004 c2_2005 (IntKind.i64.wrap (v6_2006 * 2)) h2011))) (((cont c0_2001 c0_2002 c0_2003 c1_2004 c2_2005 (IntKind.i64.wrap (v6_2006 * 2)) h2009)))))))) m2010 c0_2001 c0_2002 c0_2003 c1_2004 c2_2005 v6_2006 0 (IntKind.i64.wrap (2 * v6_2006)) h2007))) (K4 h2007))
def slices_stableCmpFunc_int_tree_Order_c1.l1 (K4 : Heap → Prop) : Nat → (Option Addr) → Nat → Nat → Int → Addr → Int → Heap → Prop
  | 0, _, _, _, _, _, _, _ => False
  | m + 1, c0_2001, c0_2002, c0_2003, c1_2004, c2_2005, v6_2006, h => slices_stableCmpFunc_int_tree_Order_c1.b1 K4 (slices_stableCmpFunc_int_tree_Order_c1.l1 K4 m) c0_2001 c0_2002 c0_2003 c1_2004 c2_2005 v6_2006 h
def slices_stableCmpFunc_int_tree_Order_c1.b0 (K2 : Int → Heap → Prop) (cont : (Option Addr) → Nat → Nat → Int → Addr → Int → Int → Heap → Prop) (c0_1001 : Option Addr) (c0_1002 : Nat) (c0_1003 : Nat) (c1_1004 : Int) (c2_1005 : Addr) (v7_1006 : Int) (v8_1007 : Int) (h1008 : Heap) : Prop :=
  (iteB (decide (v8_1007 ≤ c1_1004)) ((callP0 (slices_insertionSortCmpFunc_int_tree_Order_c1 c0_1001 c0_1002 c0_1003 v7_1006 v8_1007 c2_1005 h1008) fun h1009 => (((cont c0_1001 c0_1002 c0_1003 c1_1004 c2_1005 v8_1007 (IntKind.i64.wrap (v8_1007 + 20)) h1009))))) (K2 v7_1006 h1008))
def slices_stableCmpFunc_int_tree_Order_c1.l0 (K2 : Int → Heap → Prop) : Nat → (Option Addr) → Nat → Nat → Int → Addr → Int → Int → Heap → Prop
  | 0, _, _, _, _, _, _, _, _ => False
  | m + 1, c0_1001, c0_1002, c0_1003, c1_1004, c2_1005, v7_1006, v8_1007, h => slices_stableCmpFunc_int_tree_Order_c1.b0 K2 (slices_stableCmpFunc_int_tree_Order_c1.l0 K2 m) c0_1001 c0_1002 c0_1003 c1_1004 c2_1005 v7_1006 v8_1007 h
def slices_stableCmpFunc_int_tree_Order_c1 (a1 : Option Addr) (a1l : Nat) (a1c : Nat) (a2 : Int) (a3 : Addr) (h : Heap) (K : Heap → Prop) : Prop :=
  ((∃ m6, slices_stableCmpFunc_int_tree_Order_c1.l0 (fun z4 h5 => ((callP0 (slices_insertionSortCmpFunc_int_tree_Order_c1 a1 a1l a1c z4 a2 a3 h5) fun h7 => (∃ m9, slices_stableCmpFunc_int_tree_Order_c1.l1 (fun h8 => K h8) m9 a1 a1l a1c a2 a3 20 h7)))) m6 a1 a1l a1c a2 a3 0 20 h))
def slices_stableCmpFunc_int_tree_Order_c1.ret (K : Heap → Prop) (v : Value) (h : Heap) : Prop := match v with
  | (.tuple ⟨[]⟩) => K h
  | _ => False
theorem slices_stableCmpFunc_int_tree_Order_c1.ret_elim {K : Heap → Prop} {K' : Value → Heap → Prop} {v : Value} {h : Heap} (hk : ∀  h, K h → K' (.tuple #[]) h) (hh : slices_stableCmpFunc_int_tree_Order_c1.ret K v h) : K' v h := by
  unfold slices_stableCmpFunc_int_tree_Order_c1.ret at hh
  split at hh
  · exact hk _ hh
  · exact hh.elim
def slices_stableCmpFunc_int_tree_Order_c1.call (f : FuncId) (vs : List Value) (h : Heap) (K : Value → Heap → Prop) : Prop := match f, vs with
  | 92, [(.slice a1 a1l a1c), (.int .i64 a2), (.int .i64 a3), (.func (.func 52) ⟨[]⟩ ⟨[(.pointer (some a4))]⟩)] => callP0 (slices_insertionSortCmpFunc_int_tree_Order_c1 a1 a1l a1c a2 a3 a4 h) fun h' => K (.tuple #[]) h'
  | 93, [(.slice a1 a1l a1c), (.int .i64 a2), (.int .i64 a3), (.int .i64 a4), (.func (.func 52) ⟨[]⟩ ⟨[(.pointer (some a5))]⟩)] => callP0 (slices_symMergeCmpFunc_int_tree_Order_c1 a1 a1l a1c a2 a3 a4 a5 h) fun h' => K (.tuple #[]) h'
  | _, _ => False
def slices_stableCmpFunc_int_tree_Order_c1.r0 (K : Nat → List Value → Heap → Prop) (m : Nat) (vs : List Value) (h : Heap) : Prop := match vs with
  | [(.slice c0_1001 c0_1002 c0_1003), (.int .i64 c1_1004), (.func (.func 52) ⟨[]⟩ ⟨[(.pointer (some c2_1005))]⟩), (.int .i64 20), (.int .i64 v7_1006), (.int .i64 v8_1007)] => slices_stableCmpFunc_int_tree_Order_c1.l0 (fun z10 h' => K 2 [(.slice c0_1001 c0_1002 c0_1003), (.int .i64 c1_1004), (.func (.func 52) #[] #[(.pointer (some c2_1005))]), (.int .i64 20), (.int .i64 z10)] h') m c0_1001 c0_1002 c0_1003 c1_1004 c2_1005 v7_1006 v8_1007 h
  | _ => False
def slices_stableCmpFunc_int_tree_Order_c1.r1 (K : Nat → List Value → Heap → Prop) (m : Nat) (vs : List Value) (h : Heap) : Prop := match vs with
  | [(.slice c0_2001 c0_2002 c0_2003), (.int .i64 c1_2004), (.func (.func 52) ⟨[]⟩ ⟨[(.pointer (some c2_2005))]⟩), (.int .i64 v6_2006)] => slices_stableCmpFunc_int_tree_Order_c1.l1 (fun h' => K 4 [] h') m c0_2001 c0_2002 c0_2003 c1_2004 c2_2005 v6_2006 h
  | _ => False
def slices_stableCmpFunc_int_tree_Order_c1.r2 (K : Nat → List Value → Heap → Prop) (m : Nat) (vs : List Value) (h : Heap) : Prop := match vs with
  | [(.slice c0_3001 c0_3002 c0_3003), (.int .i64 c1_3004), (.func (.func 52) ⟨[]⟩ ⟨[(.pointer (some c2_3005))]⟩), (.int .i64 c6_3006), (.int .i64 v7_3007), (.int .i64 v8_3008)] => slices_stableCmpFunc_int_tree_Order_c1.l2 (fun z11 h' => K 6 [(.slice c0_3001 c0_3002 c0_3003), (.int .i64 c1_3004), (.func (.func 52) #[] #[(.pointer (some c2_3005))]), (.int .i64 c6_3006), (.int .i64 z11)] h') m c0_3001 c0_3002 c0_3003 c1_3004 c2_3005 c6_3006 v7_3007 v8_3008 h
  | _ => False
def slices_stableCmpFunc_int_tree_Order_c1.loop (i : Nat) (vs : List Value) (h : Heap) (K : Nat → List Value → Heap → Prop) : Prop := match i with
  | 0 => ∃ m, slices_stableCmpFunc_int_tree_Order_c1.r0 K m vs h
  | 1 => ∃ m, slices_stableCmpFunc_int_tree_Order_c1.r1 K m vs h
  | 2 => ∃ m, slices_stableCmpFunc_int_tree_Order_c1.r2 K m vs h
  | _ => False
noncomputable def slices_stableCmpFunc_int_tree_Order_c1.ctx : Ctx := { P := Try.prog, call := slices_stableCmpFunc_int_tree_Order_c1.call, qcall := fun _ _ _ _ => False, quiet := fun f => Nat.beq f 1000069 || Nat.beq f 1000099, loop := slices_stableCmpFunc_int_tree_Order_c1.loop }
theorem slices_stableCmpFunc_int_tree_Order_c1.ok : slices_stableCmpFunc_int_tree_Order_c1.ctx.OK where
  mixed := by kernel_rfl
  mono := by
    intro f args h K K' hh hk
    change slices_stableCmpFunc_int_tree_Order_c1.call f args h K at hh
    change slices_stableCmpFunc_int_tree_Order_c1.call f args h K'
    unfold slices_stableCmpFunc_int_tree_Order_c1.call at hh ⊢
    split at hh
    · obtain ⟨R, h1, h2⟩ := hh
      exact ⟨R, h1, fun x hr => hk _ _ (h2 x hr)⟩
    · obtain ⟨R, h1, h2⟩ := hh
      exact ⟨R, h1, fun x hr => hk _ _ (h2 x hr)⟩
    · exact hh.elim
  call := by
    intro f args h K hh w hw
    change slices_stableCmpFunc_int_tree_Order_c1.call f args h K at hh
    unfold slices_stableCmpFunc_int_tree_Order_c1.call at hh
    split at hh
    · obtain ⟨R, h1, h2⟩ := hh
      obtain ⟨g1, g2⟩ := slices_insertionSortCmpFunc_int_tree_Order_c1.calls h1 w hw
      exact ⟨g1, g2.mono fun e w' ⟨v, he, ho, hr⟩ => ⟨v, he, ho, slices_insertionSortCmpFunc_int_tree_Order_c1.ret_elim h2 hr⟩⟩
    · obtain ⟨R, h1, h2⟩ := hh
      obtain ⟨g1, g2⟩ := slices_symMergeCmpFunc_int_tree_Order_c1.calls h1 w hw
      exact ⟨g1, g2.mono fun e w' ⟨v, he, ho, hr⟩ => ⟨v, he, ho, slices_symMergeCmpFunc_int_tree_Order_c1.ret_elim h2 hr⟩⟩
    · exact hh.elim
  qmono := fun hh _ => hh.elim
  qval := fun hh => hh.elim
  qcall := fun hh => hh.elim
noncomputable def slices_stableCmpFunc_int_tree_Order_c1.code : Code := (Try.f70.body).getD .skip
def slices_stableCmpFunc_int_tree_Order_c1.ann : Ann := (.two .auto (.two .auto (.two (.two (.loop 0 [0, 1, 2, 6, 7, 8] [(2, [0, 1, 2, 6, 7])] .auto) .auto) (.two .auto (.two (.loop 1 [0, 1, 2, 6] [(4, [])] (.two .auto (.two (.two .auto (.two (.two (.loop 2 [0, 1, 2, 6, 7, 8] [(6, [0, 1, 2, 6, 7])] .auto) .auto) .auto)) .auto))) .auto)))))
noncomputable def slices_stableCmpFunc_int_tree_Order_c1.c2 : Code := sub slices_stableCmpFunc_int_tree_Order_c1.code [1, 1, 1, 1, 0, 0, 1, 0, 1, 0, 0, 0]
def slices_stableCmpFunc_int_tree_Order_c1.a2 : Ann := .auto
def slices_stableCmpFunc_int_tree_Order_c1.keep2 : List Nat := [0, 1, 2, 6, 7, 8]
def slices_stableCmpFunc_int_tree_Order_c1.outs2 : List (Nat × List Nat) := [(6, [0, 1, 2, 6, 7])]
noncomputable def slices_stableCmpFunc_int_tree_Order_c1.c1 : Code := sub slices_stableCmpFunc_int_tree_Order_c1.code [1, 1, 1, 1, 0, 0]
def slices_stableCmpFunc_int_tree_Order_c1.a1 : Ann := (.two .auto (.two (.two .auto (.two (.two (.loop 2 [0, 1, 2, 6, 7, 8] [(6, [0, 1, 2, 6, 7])] .auto) .auto) .auto)) .auto))
def slices_stableCmpFunc_int_tree_Order_c1.keep1 : List Nat := [0, 1, 2, 6]
def slices_stableCmpFunc_int_tree_Order_c1.outs1 : List (Nat × List Nat) := [(4, [])]
noncomputable def slices_stableCmpFunc_int_tree_Order_c1.c0 : Code := sub slices_stableCmpFunc_int_tree_Order_c1.code [1, 1, 0, 0, 0]
def slices_stableCmpFunc_int_tree_Order_c1.a0 : Ann := .auto
def slices_stableCmpFunc_int_tree_Order_c1.keep0 : List Nat := [0, 1, 2, 6, 7, 8]
def slices_stableCmpFunc_int_tree_Order_c1.outs0 : List (Nat × List Nat) := [(2, [0, 1, 2, 6, 7])]
set_option maxRecDepth 100000 in
theorem slices_stableCmpFunc_int_tree_Order_c1.L0 : LoopOK slices_stableCmpFunc_int_tree_Order_c1.ctx 63 slices_stableCmpFunc_int_tree_Order_c1.c0 0 slices_stableCmpFunc_int_tree_Order_c1.keep0 slices_stableCmpFunc_int_tree_Order_c1.outs0 := by
  refine loop_ok (n := slices_stableCmpFunc_int_tree_Order_c1.a0) slices_stableCmpFunc_int_tree_Order_c1.ok (by kernel_rfl) (loops_ok (l := []) (by kernel_rfl) ?_) slices_stableCmpFunc_int_tree_Order_c1.r0 ?_ ?_ (fun vs h K hh => hh)
  · exact trivial
  · intro K vs h hh
    unfold slices_stableCmpFunc_int_tree_Order_c1.r0 at hh
    split at hh
    · exact hh
    · exact hh
  · intro K m vs h hh
    unfold slices_stableCmpFunc_int_tree_Order_c1.r0 at hh
    split at hh
    · exact cast (by kernel_rfl) hh
    · exact hh.elim
set_option maxRecDepth 100000 in
theorem slices_stableCmpFunc_int_tree_Order_c1.L2 : LoopOK slices_stableCmpFunc_int_tree_Order_c1.ctx 63 slices_stableCmpFunc_int_tree_Order_c1.c2 2 slices_stableCmpFunc_int_tree_Order_c1.keep2 slices_stableCmpFunc_int_tree_Order_c1.outs2 := by
  refine loop_ok (n := slices_stableCmpFunc_int_tree_Order_c1.a2) slices_stableCmpFunc_int_tree_Order_c1.ok (by kernel_rfl) (loops_ok (l := []) (by kernel_rfl) ?_) slices_stableCmpFunc_int_tree_Order_c1.r2 ?_ ?_ (fun vs h K hh => hh)
  · exact trivial
  · intro K vs h hh
    unfold slices_stableCmpFunc_int_tree_Order_c1.r2 at hh
    split at hh
    · exact hh
    · exact hh
  · intro K m vs h hh
    unfold slices_stableCmpFunc_int_tree_Order_c1.r2 at hh
    split at hh
    · exact cast (by kernel_rfl) hh
    · exact hh.elim
set_option maxRecDepth 100000 in
theorem slices_stableCmpFunc_int_tree_Order_c1.L1 : LoopOK slices_stableCmpFunc_int_tree_Order_c1.ctx 63 slices_stableCmpFunc_int_tree_Order_c1.c1 1 slices_stableCmpFunc_int_tree_Order_c1.keep1 slices_stableCmpFunc_int_tree_Order_c1.outs1 := by
  refine loop_ok (n := slices_stableCmpFunc_int_tree_Order_c1.a1) slices_stableCmpFunc_int_tree_Order_c1.ok (by kernel_rfl) (loops_ok (l := [(slices_stableCmpFunc_int_tree_Order_c1.c2, none, 2, slices_stableCmpFunc_int_tree_Order_c1.keep2, slices_stableCmpFunc_int_tree_Order_c1.outs2)]) (by kernel_rfl) ?_) slices_stableCmpFunc_int_tree_Order_c1.r1 ?_ ?_ (fun vs h K hh => hh)
  · exact ⟨slices_stableCmpFunc_int_tree_Order_c1.L2, trivial⟩
  · intro K vs h hh
    unfold slices_stableCmpFunc_int_tree_Order_c1.r1 at hh
    split at hh
    · exact hh
    · exact hh
  · intro K m vs h hh
    unfold slices_stableCmpFunc_int_tree_Order_c1.r1 at hh
    split at hh
    · exact cast (by kernel_rfl) hh
    · exact hh.elim
set_option maxRecDepth 100000 in
theorem slices_stableCmpFunc_int_tree_Order_c1.eq (a1 : Option Addr) (a1l : Nat) (a1c : Nat) (a2 : Int) (a3 : Addr) (h : Heap) (K : Heap → Prop) : evF slices_stableCmpFunc_int_tree_Order_c1.ctx Try.f70 slices_stableCmpFunc_int_tree_Order_c1.ann [(.slice a1 a1l a1c), (.int .i64 a2), (.func (.func 52) #[] #[(.pointer (some a3))])] h (slices_stableCmpFunc_int_tree_Order_c1.ret K) = slices_stableCmpFunc_int_tree_Order_c1 a1 a1l a1c a2 a3 h K := by kernel_rfl
set_option maxRecDepth 100000 in
theorem slices_stableCmpFunc_int_tree_Order_c1.calls {a1 : Option Addr} {a1l : Nat} {a1c : Nat} {a2 : Int} {a3 : Addr} {h : Heap} {K : Heap → Prop} (hh : slices_stableCmpFunc_int_tree_Order_c1 a1 a1l a1c a2 a3 h K) (w : World) (hw : w.heap = h) :
    (callFunc 70 #[(.slice a1 a1l a1c), (.int .i64 a2), (.func (.func 52) #[] #[(.pointer (some a3))])]).run Try.prog w = .ok (.enter 70 #[(.slice a1 a1l a1c), (.int .i64 a2), (.func (.func 52) #[] #[(.pointer (some a3))])]) w ∧ Calls Try.prog 70 #[(.slice a1 a1l a1c), (.int .i64 a2), (.func (.func 52) #[] #[(.pointer (some a3))])] w fun e w' => ∃ v, e = .returned v ∧ Out w w' ∧ slices_stableCmpFunc_int_tree_Order_c1.ret K v w'.heap := by
  rw [← slices_stableCmpFunc_int_tree_Order_c1.eq] at hh
  exact fn_calls (args := [(.slice a1 a1l a1c), (.int .i64 a2), (.func (.func 52) #[] #[(.pointer (some a3))])]) (c := slices_stableCmpFunc_int_tree_Order_c1.code) slices_stableCmpFunc_int_tree_Order_c1.ok Try.func70 (by kernel_rfl) (by kernel_rfl) (by kernel_rfl) (by kernel_rfl) (loops_ok (l := [(slices_stableCmpFunc_int_tree_Order_c1.c0, none, 0, slices_stableCmpFunc_int_tree_Order_c1.keep0, slices_stableCmpFunc_int_tree_Order_c1.outs0), (slices_stableCmpFunc_int_tree_Order_c1.c1, none, 1, slices_stableCmpFunc_int_tree_Order_c1.keep1, slices_stableCmpFunc_int_tree_Order_c1.outs1)]) (by kernel_rfl) ⟨slices_stableCmpFunc_int_tree_Order_c1.L0, slices_stableCmpFunc_int_tree_Order_c1.L1, trivial⟩) hh w hw
end

/-! ### slices.SortStableFunc[[]int,int]: function 51 -/
section
variable [DKc]
def slices_SortStableFunc_Lint_int_tree_Order_c1 (a1 : Option Addr) (a1l : Nat) (a1c : Nat) (a2 : Addr) (h : Heap) (K : Heap → Prop) : Prop :=
  callP0 (slices_stableCmpFunc_int_tree_Order_c1 a1 a1l a1c (a1l : Int) a2 h) fun h3 => K h3
def slices_SortStableFunc_Lint_int_tree_Order_c1.ret (K : Heap → Prop) (v : Value) (h : Heap) : Prop := match v with
  | (.tuple ⟨[]⟩) => K h
  | _ => False
theorem slices_SortStableFunc_Lint_int_tree_Order_c1.ret_elim {K : Heap → Prop} {K' : Value → Heap → Prop} {v : Value} {h : Heap} (hk : ∀  h, K h → K' (.tuple #[]) h) (hh : slices_SortStableFunc_Lint_int_tree_Order_c1.ret K v h) : K' v h := by
  unfold slices_SortStableFunc_Lint_int_tree_Order_c1.ret at hh
  split at hh
  · exact hk _ hh
  · exact hh.elim
def slices_SortStableFunc_Lint_int_tree_Order_c1.call (f : FuncId) (vs : List Value) (h : Heap) (K : Value → Heap → Prop) : Prop := match f, vs with
  | 70, [(.slice a1 a1l a1c), (.int .i64 a2), (.func (.func 52) ⟨[]⟩ ⟨[(.pointer (some a3))]⟩)] => callP0 (slices_stableCmpFunc_int_tree_Order_c1 a1 a1l a1c a2 a3 h) fun h' => K (.tuple #[]) h'
  | _, _ => False
noncomputable def slices_SortStableFunc_Lint_int_tree_Order_c1.ctx : Ctx := { P := Try.prog, call := slices_SortStableFunc_Lint_int_tree_Order_c1.call, qcall := fun _ _ _ _ => False, quiet := fun f => Nat.beq f 1000069 || Nat.beq f 1000099, loop := fun _ _ _ _ => False }
theorem slices_SortStableFunc_Lint_int_tree_Order_c1.ok : slices_SortStableFunc_Lint_int_tree_Order_c1.ctx.OK where
  mixed := by kernel_rfl
  mono := by
    intro f args h K K' hh hk
    change slices_SortStableFunc_Lint_int_tree_Order_c1.call f args h K at hh
    change slices_SortStableFunc_Lint_int_tree_Order_c1.call f args h K'
    unfold slices_SortStableFunc_Lint_int_tree_Order_c1.call at hh ⊢
    split at hh
    · obtain ⟨R, h1, h2⟩ := hh
      exact ⟨R, h1, fun x hr => hk _ _ (h2 x hr)⟩
    · exact hh.elim
  call := by
    intro f args h K hh w hw
    change slices_SortStableFunc_Lint_int_tree_Order_c1.call f args h K at hh
    unfold slices_SortStableFunc_Lint_int_tree_Order_c1.call at hh
    split at hh
    · obtain ⟨R, h1, h2⟩ := hh
      obtain ⟨g1, g2⟩ := slices_stableCmpFunc_int_tree_Order_c1.calls h1 w hw
      exact ⟨g1, g2.mono fun e w' ⟨v, he, ho, hr⟩ => ⟨v, he, ho, slices_stableCmpFunc_int_tree_Order_c1.ret_elim h2 hr⟩⟩
    · exact hh.elim
  qmono := fun hh _ => hh.elim
  qval := fun hh => hh.elim
  qcall := fun hh => hh.elim
noncomputable def slices_SortStableFunc_Lint_int_tree_Order_c1.code : Code := (Try.f51.body).getD .skip
def slices_SortStableFunc_Lint_int_tree_Order_c1.ann : Ann := .auto
set_option maxRecDepth 100000 in
theorem slices_SortStableFunc_Lint_int_tree_Order_c1.eq (a1 : Option Addr) (a1l : Nat) (a1c : Nat) (a2 : Addr) (h : Heap) (K : Heap → Prop) : evF slices_SortStableFunc_Lint_int_tree_Order_c1.ctx Try.f51 slices_SortStableFunc_Lint_int_tree_Order_c1.ann [(.slice a1 a1l a1c), (.func (.func 52) #[] #[(.pointer (some a2))])] h (slices_SortStableFunc_Lint_int_tree_Order_c1.ret K) = slices_SortStableFunc_Lint_int_tree_Order_c1 a1 a1l a1c a2 h K := by kernel_rfl
set_option maxRecDepth 100000 in
theorem slices_SortStableFunc_Lint_int_tree_Order_c1.calls {a1 : Option Addr} {a1l : Nat} {a1c : Nat} {a2 : Addr} {h : Heap} {K : Heap → Prop} (hh : slices_SortStableFunc_Lint_int_tree_Order_c1 a1 a1l a1c a2 h K) (w : World) (hw : w.heap = h) :
    (callFunc 51 #[(.slice a1 a1l a1c), (.func (.func 52) #[] #[(.pointer (some a2))])]).run Try.prog w = .ok (.enter 51 #[(.slice a1 a1l a1c), (.func (.func 52) #[] #[(.pointer (some a2))])]) w ∧ Calls Try.prog 51 #[(.slice a1 a1l a1c), (.func (.func 52) #[] #[(.pointer (some a2))])] w fun e w' => ∃ v, e = .returned v ∧ Out w w' ∧ slices_SortStableFunc_Lint_int_tree_Order_c1.ret K v w'.heap := by
  rw [← slices_SortStableFunc_Lint_int_tree_Order_c1.eq] at hh
  exact fn_calls (args := [(.slice a1 a1l a1c), (.func (.func 52) #[] #[(.pointer (some a2))])]) (c := slices_SortStableFunc_Lint_int_tree_Order_c1.code) slices_SortStableFunc_Lint_int_tree_Order_c1.ok Try.func51 (by kernel_rfl) (by kernel_rfl) (by kernel_rfl) (by kernel_rfl) (loops_ok (l := []) (by kernel_rfl) trivial) hh w hw
end

/-! ### strait/tree.Order: function 21 -/
section
variable [DKc]
def tree_Order.b0 (K2 : Heap → Prop) (cont : Addr → Addr → Nat → Nat → Int → Int → Heap → Prop) (c3_1001 : Addr) (c4_1002 : Addr) (c4_1003 : Nat) (c4_1004 : Nat) (c12_1005 : Int) (v13_1006 : Int) (h1007 : Heap) : Prop :=
  (iteB (decide (v13_1006 < c12_1005)) ((((0 ≤ v13_1006 ∧ v13_1006 < (c4_1003 : Int)) ∧ stC h1007 (c4_1002.add (v13_1006.toNat * 1)) (.int .i64 v13_1006) fun h1008 => ((cont c3_1001 c4_1002 c4_1003 c4_1004 c12_1005 (IntKind.i64.wrap (v13_1006 + 1)) h1008))))) (K2 h1007))
def tree_Order.l0 (K2 : Heap → Prop) : Nat → Addr → Addr → Nat → Nat → Int → Int → Heap → Prop
  | 0, _, _, _, _, _, _, _ => False
  | m + 1, c3_1001, c4_1002, c4_1003, c4_1004, c12_1005, v13_1006, h => tree_Order.b0 K2 (tree_Order.l0 K2 m) c3_1001 c4_1002 c4_1003 c4_1004 c12_1005 v13_1006 h
def tree_Order (a1 : Option Addr) (a1l : Nat) (a1c : Nat) (a2 : Option Addr) (a2l : Nat) (a2c : Nat) (h : Heap) (K : (Option Addr) → Nat → Nat → Heap → Prop) : Prop :=
  newP h (.cells #[(.slice a1 a1l a1c), (.slice a2 a2l a2c)] 25) fun a3 h4 => (∃ (x5 : Option Addr) (x5l : Nat) (x5c : Nat), cell h4 a3 = some (.slice x5 x5l x5c) ∧ ∃ (x6 : Option Addr) (x6l : Nat) (x6c : Nat), cell h4 (a3.add 1) = some (.slice x6 x6l x6c) ∧ callP3 (tree_Depths x5 x5l x5c x6 x6l x6c h4) fun x7 x7l x7c h8 => newP h8 (.cells #[(.slice none 0 0)] 22) fun a9 h10 => stC h10 a9 (.slice x7 x7l x7c) fun h11 => (∃ (x12 : Option Addr) (x12l : Nat) (x12c : Nat), cell h11 a9 = some (.slice x12 x12l x12c) ∧ (0 ≤ (x12l : Int) ∧ (x12l : Int) ≤ (x12l : Int) ∧ (x12l : Int) * (8 : Nat) ≤ 2 ^ 47 ∧ (x12l : Int) ≤ 2 ^ 47) ∧ newP h11 (.cells (zeroRow [(.int .i64 0)] (x12l : Int).toNat).toArray 3) fun a13 h14 => (∃ (x15 : Option Addr) (x15l : Nat) (x15c : Nat), cell h14 a9 = some (.slice x15 x15l x15c) ∧ (∃ m17, tree_Order.l0 (fun h16 => ((callP0 (slices_SortStableFunc_Lint_int_tree_Order_c1 (some a13) ((x12l : Int).toNat) ((x12l : Int).toNat) a9 h16) fun h18 => ((K (some a13) ((x12l : Int).toNat) ((x12l : Int).toNat) h18))))) m17 a9 a13 ((x12l : Int).toNat) ((x12l : Int).toNat) (x15l : Int) 0 h14))))
def tree_Order.ret (K : (Option Addr) → Nat → Nat → Heap → Prop) (v : Value) (h : Heap) : Prop := match v with
  | (.slice r19 r19l r19c) => K r19 r19l r19c h
  | _ => False
theorem tree_Order.ret_elim {K : (Option Addr) → Nat → Nat → Heap → Prop} {K' : Value → Heap → Prop} {v : Value} {h : Heap} (hk : ∀ r19 r19l r19c h, K r19 r19l r19c h → K' (.slice r19 r19l r19c) h) (hh : tree_Order.ret K v h) : K' v h := by
  unfold tree_Order.ret at hh
  split at hh
  · exact hk _ _ _ _ hh
  · exact hh.elim
def tree_Order.call (f : FuncId) (vs : List Value) (h : Heap) (K : Value → Heap → Prop) : Prop := match f, vs with
  | 19, [(.agg ⟨[(.slice a1 a1l a1c), (.slice a2 a2l a2c)]⟩)] => callP3 (tree_Depths a1 a1l a1c a2 a2l a2c h) fun r10 r10l r10c h' => K (.slice r10 r10l r10c) h'
  | 51, [(.slice a1 a1l a1c), (.func (.func 52) ⟨[]⟩ ⟨[(.pointer (some a2))]⟩)] => callP0 (slices_SortStableFunc_Lint_int_tree_Order_c1 a1 a1l a1c a2 h) fun h' => K (.tuple #[]) h'
  | _, _ => False
def tree_Order.r0 (K : Nat → List Value → Heap → Prop) (m : Nat) (vs : List Value) (h : Heap) : Prop := match vs with
  | [(.pointer (some c3_1001)), (.slice (some c4_1002) c4_1003 c4_1004), (.int .i64 c12_1005), (.int .i64 v13_1006)] => tree_Order.l0 (fun h' => K 2 [(.pointer (some c3_1001)), (.slice (some c4_1002) c4_1003 c4_1004)] h') m c3_1001 c4_1002 c4_1003 c4_1004 c12_1005 v13_1006 h
  | _ => False
def tree_Order.loop (i : Nat) (vs : List Value) (h : Heap) (K : Nat → List Value → Heap → Prop) : Prop := match i with
  | 0 => ∃ m, tree_Order.r0 K m vs h
  | _ => False
noncomputable def tree_Order.ctx : Ctx := { P := Try.prog, call := tree_Order.call, qcall := fun _ _ _ _ => False, quiet := fun f => Nat.beq f 1000069 || Nat.beq f 1000099, loop := tree_Order.loop }
theorem tree_Order.ok : tree_Order.ctx.OK where
  mixed := by kernel_rfl
  mono := by
    intro f args h K K' hh hk
    change tree_Order.call f args h K at hh
    change tree_Order.call f args h K'
    unfold tree_Order.call at hh ⊢
    split at hh
    · obtain ⟨R, h1, h2⟩ := hh
      exact ⟨R, h1, fun _ _ _ x hr => hk _ _ (h2 _ _ _ x hr)⟩
    · obtain ⟨R, h1, h2⟩ := hh
      exact ⟨R, h1, fun x hr => hk _ _ (h2 x hr)⟩
    · exact hh.elim
  call := by
    intro f args h K hh w hw
    change tree_Order.call f args h K at hh
    unfold tree_Order.call at hh
    split at hh
    · obtain ⟨R, h1, h2⟩ := hh
      obtain ⟨g1, g2⟩ := tree_Depths.calls h1 w hw
      exact ⟨g1, g2.mono fun e w' ⟨v, he, ho, hr⟩ => ⟨v, he, ho, tree_Depths.ret_elim h2 hr⟩⟩
    · obtain ⟨R, h1, h2⟩ := hh
      obtain ⟨g1, g2⟩ := slices_SortStableFunc_Lint_int_tree_Order_c1.calls h1 w hw
      exact ⟨g1, g2.mono fun e w' ⟨v, he, ho, hr⟩ => ⟨v, he, ho, slices_SortStableFunc_Lint_int_tree_Order_c1.ret_elim h2 hr⟩⟩
    · exact hh.elim
  qmono := fun hh _ => hh.elim
  qval := fun hh => hh.elim
  qcall := fun hh => hh.elim
noncomputable def tree_Order.code : Code := (Try.f21.body).getD .skip
def tree_Order.ann : Ann := (.two .auto (.two .auto (.two .auto (.two (.two .auto (.two (.loop 0 [3, 4, 12, 13] [(2, [3, 4])] .auto) .auto)) .auto))))
noncomputable def tree_Order.c0 : Code := sub tree_Order.code [1, 1, 1, 0, 1, 0, 0]
def tree_Order.a0 : Ann := .auto
def tree_Order.keep0 : List Nat := [3, 4, 12, 13]
def tree_Order.outs0 : List (Nat × List Nat) := [(2, [3, 4])]
set_option maxRecDepth 100000 in
theorem tree_Order.L0 : LoopOK tree_Order.ctx 25 tree_Order.c0 0 tree_Order.keep0 tree_Order.outs0 := by
  refine loop_ok (n := tree_Order.a0) tree_Order.ok (by kernel_rfl) (loops_ok (l := []) (by kernel_rfl) ?_) tree_Order.r0 ?_ ?_ (fun vs h K hh => hh)
  · exact trivial
  · intro K vs h hh
    unfold tree_Order.r0 at hh
    split at hh
    · exact hh
    · exact hh
  · intro K m vs h hh
    unfold tree_Order.r0 at hh
    split at hh
    · exact cast (by kernel_rfl) hh
    · exact hh.elim
set_option maxRecDepth 100000 in
theorem tree_Order.eq (a1 : Option Addr) (a1l : Nat) (a1c : Nat) (a2 : Option Addr) (a2l : Nat) (a2c : Nat) (h : Heap) (K : (Option Addr) → Nat → Nat → Heap → Prop) : evF tree_Order.ctx Try.f21 tree_Order.ann [(.agg #[(.slice a1 a1l a1c), (.slice a2 a2l a2c)])] h (tree_Order.ret K) = tree_Order a1 a1l a1c a2 a2l a2c h K := by kernel_rfl
set_option maxRecDepth 100000 in
theorem tree_Order.calls {a1 : Option Addr} {a1l : Nat} {a1c : Nat} {a2 : Option Addr} {a2l : Nat} {a2c : Nat} {h : Heap} {K : (Option Addr) → Nat → Nat → Heap → Prop} (hh : tree_Order a1 a1l a1c a2 a2l a2c h K) (w : World) (hw : w.heap = h) :
    (callFunc 21 #[(.agg #[(.slice a1 a1l a1c), (.slice a2 a2l a2c)])]).run Try.prog w = .ok (.enter 21 #[(.agg #[(.slice a1 a1l a1c), (.slice a2 a2l a2c)])]) w ∧ Calls Try.prog 21 #[(.agg #[(.slice a1 a1l a1c), (.slice a2 a2l a2c)])] w fun e w' => ∃ v, e = .returned v ∧ Out w w' ∧ tree_Order.ret K v w'.heap := by
  rw [← tree_Order.eq] at hh
  exact fn_calls (args := [(.agg #[(.slice a1 a1l a1c), (.slice a2 a2l a2c)])]) (c := tree_Order.code) tree_Order.ok Try.func21 (by kernel_rfl) (by kernel_rfl) (by kernel_rfl) (by kernel_rfl) (loops_ok (l := [(tree_Order.c0, none, 0, tree_Order.keep0, tree_Order.outs0)]) (by kernel_rfl) ⟨tree_Order.L0, trivial⟩) hh w hw
end

/-! ### strait/straitref29.Up: function 48 -/
def straitref29_Up.b0 (K2 : (Option Addr) → Nat → Nat → Heap → Prop) (cont : Int → Addr → (Option Addr) → Nat → Nat → Heap → Prop) (v1_1001 : Int) (c2_1002 : Addr) (v5_1003 : Option Addr) (v5_1003l : Nat) (v5_1003c : Nat) (h1004 : Heap) : Prop :=
  let j1018 : Prop := (newP h1004 (.cells #[(.int .i64 v1_1001)] 3) fun a1008 h1009 => ∃ n1014, cellsAt h1009 (some a1008) (1 * 1) n1014 ∧ appP 3 1 8 [(.int .i64 0)] v5_1003 v5_1003l v5_1003c 1 n1014 h1009 fun q1010 l1011 c1012 h1013 => (∃ (x1015 : Option Addr) (x1015l : Nat) (x1015c : Nat), cell h1013 c2_1002 = some (.slice x1015 x1015l x1015c) ∧ chkP x1015 fun a1016 => (0 ≤ v1_1001 ∧ v1_1001 < (x1015l : Int)) ∧ ∃ (x1017 : Int), cell h1013 (a1016.add (v1_1001.toNat * 1)) = some (.int .i64 x1017) ∧ cont x1017 c2_1002 q1010 l1011 c1012 h1013));
  iteB (decide (v1_1001 ≥ (0 : Int))) (∃ (x1005 : Option Addr) (x1005l : Nat) (x1005c : Nat), cell h1004 c2_1002 = some (.slice x1005 x1005l x1005c) ∧ iteB (decide (v1_1001 < (x1005l : Int))) (∃ (x1006 : Option Addr) (x1006l : Nat) (x1006c : Nat), cell h1004 c2_1002 = some (.slice x1006 x1006l x1006c) ∧ (iteB (decide ((v5_1003l : Int) ≤ (x1006l : Int))) ((j1018)) (K2 v5_1003 v5_1003l v5_1003c h1004))) (K2 v5_1003 v5_1003l v5_1003c h1004)) (K2 v5_1003 v5_1003l v5_1003c h1004)
def straitref29_Up.l0 (K2 : (Option Addr) → Nat → Nat → Heap → Prop) : Nat → Int → Addr → (Option Addr) → Nat → Nat → Heap → Prop
  | 0, _, _, _, _, _, _ => False
  | m + 1, v1_1001, c2_1002, v5_1003, v5_1003l, v5_1003c, h => straitref29_Up.b0 K2 (straitref29_Up.l0 K2 m) v1_1001 c2_1002 v5_1003 v5_1003l v5_1003c h
def straitref29_Up (a1 : Option Addr) (a1l : Nat) (a1c : Nat) (a2 : Option Addr) (a2l : Nat) (a2c : Nat) (a3 : Int) (h : Heap) (K : (Option Addr) → Nat → Nat → Heap → Prop) : Prop :=
  newP h (.cells #[(.slice a1 a1l a1c), (.slice a2 a2l a2c)] 25) fun a4 h5 => ((∃ m8, straitref29_Up.l0 (fun z6 z6l z6c h7 => (K z6 z6l z6c h7)) m8 a3 a4 none 0 0 h5))
def straitref29_Up.ret (K : (Option Addr) → Nat → Nat → Heap → Prop) (v : Value) (h : Heap) : Prop := match v with
  | (.slice r9 r9l r9c) => K r9 r9l r9c h
  | _ => False
theorem straitref29_Up.ret_elim {K : (Option Addr) → Nat → Nat → Heap → Prop} {K' : Value → Heap → Prop} {v : Value} {h : Heap} (hk : ∀ r9 r9l r9c h, K r9 r9l r9c h → K' (.slice r9 r9l r9c) h) (hh : straitref29_Up.ret K v h) : K' v h := by
  unfold straitref29_Up.ret at hh
  split at hh
  · exact hk _ _ _ _ hh
  · exact hh.elim
def straitref29_Up.r0 (K : Nat → List Value → Heap → Prop) (m : Nat) (vs : List Value) (h : Heap) : Prop := match vs with
  | [(.int .i64 v1_1001), (.pointer (some c2_1002)), (.slice v5_1003 v5_1003l v5_1003c)] => straitref29_Up.l0 (fun z10 z10l z10c h' => K 2 [(.slice z10 z10l z10c)] h') m v1_1001 c2_1002 v5_1003 v5_1003l v5_1003c h
  | _ => False
def straitref29_Up.loop (i : Nat) (vs : List Value) (h : Heap) (K : Nat → List Value → Heap → Prop) : Prop := match i with
  | 0 => ∃ m, straitref29_Up.r0 K m vs h
  | _ => False
noncomputable def straitref29_Up.ctx : Ctx := { P := Try.prog, call := fun _ _ _ _ => False, qcall := fun _ _ _ _ => False, quiet := fun f => Nat.beq f 1000069 || Nat.beq f 1000099, loop := straitref29_Up.loop }
theorem straitref29_Up.ok [DKc] : straitref29_Up.ctx.OK where
  mixed := by kernel_rfl
  mono := fun hh _ => hh.elim
  call := fun hh => hh.elim
  qmono := fun hh _ => hh.elim
  qval := fun hh => hh.elim
  qcall := fun hh => hh.elim
noncomputable def straitref29_Up.code : Code := (Try.f48.body).getD .skip
def straitref29_Up.ann : Ann := (.two .auto (.two .auto (.two (.two (.loop 0 [1, 2, 5] [(2, [5])] .auto) .auto) .auto)))
noncomputable def straitref29_Up.c0 : Code := sub straitref29_Up.code [1, 1, 0, 0, 0]
def straitref29_Up.a0 : Ann := .auto
def straitref29_Up.keep0 : List Nat := [1, 2, 5]
def straitref29_Up.outs0 : List (Nat × List Nat) := [(2, [5])]
set_option maxRecDepth 100000 in
theorem straitref29_Up.L0 [DKc] : LoopOK straitref29_Up.ctx 33 straitref29_Up.c0 0 straitref29_Up.keep0 straitref29_Up.outs0 := by
  refine loop_ok (n := straitref29_Up.a0) straitref29_Up.ok (by kernel_rfl) (loops_ok (l := []) (by kernel_rfl) ?_) straitref29_Up.r0 ?_ ?_ (fun vs h K hh => hh)
  · exact trivial
  · intro K vs h hh
    unfold straitref29_Up.r0 at hh
    split at hh
    · exact hh
    · exact hh
  · intro K m vs h hh
    unfold straitref29_Up.r0 at hh
    split at hh
    · exact cast (by kernel_rfl) hh
    · exact hh.elim
set_option maxRecDepth 100000 in
theorem straitref29_Up.eq (a1 : Option Addr) (a1l : Nat) (a1c : Nat) (a2 : Option Addr) (a2l : Nat) (a2c : Nat) (a3 : Int) (h : Heap) (K : (Option Addr) → Nat → Nat → Heap → Prop) : evF straitref29_Up.ctx Try.f48 straitref29_Up.ann [(.agg #[(.slice a1 a1l a1c), (.slice a2 a2l a2c)]), (.int .i64 a3)] h (straitref29_Up.ret K) = straitref29_Up a1 a1l a1c a2 a2l a2c a3 h K := by kernel_rfl
set_option maxRecDepth 100000 in
theorem straitref29_Up.calls [DKc] {a1 : Option Addr} {a1l : Nat} {a1c : Nat} {a2 : Option Addr} {a2l : Nat} {a2c : Nat} {a3 : Int} {h : Heap} {K : (Option Addr) → Nat → Nat → Heap → Prop} (hh : straitref29_Up a1 a1l a1c a2 a2l a2c a3 h K) (w : World) (hw : w.heap = h) :
    (callFunc 48 #[(.agg #[(.slice a1 a1l a1c), (.slice a2 a2l a2c)]), (.int .i64 a3)]).run Try.prog w = .ok (.enter 48 #[(.agg #[(.slice a1 a1l a1c), (.slice a2 a2l a2c)]), (.int .i64 a3)]) w ∧ Calls Try.prog 48 #[(.agg #[(.slice a1 a1l a1c), (.slice a2 a2l a2c)]), (.int .i64 a3)] w fun e w' => ∃ v, e = .returned v ∧ Out w w' ∧ straitref29_Up.ret K v w'.heap := by
  rw [← straitref29_Up.eq] at hh
  exact fn_calls (args := [(.agg #[(.slice a1 a1l a1c), (.slice a2 a2l a2c)]), (.int .i64 a3)]) (c := straitref29_Up.code) straitref29_Up.ok Try.func48 (by kernel_rfl) (by kernel_rfl) (by kernel_rfl) (by kernel_rfl) (loops_ok (l := [(straitref29_Up.c0, none, 0, straitref29_Up.keep0, straitref29_Up.outs0)]) (by kernel_rfl) ⟨straitref29_Up.L0, trivial⟩) hh w hw

/-! ### strait/straitref29.Right: function 15 -/
def straitref29_Right.b1 (K0 : Bool → Heap → Prop) (K4 : Heap → Prop) (cont : Addr → Int → Heap → Prop) (c1_2001 : Addr) (v5_2002 : Int) (h2003 : Heap) : Prop :=
  ∃ (x2004 : Option Addr) (x2004l : Nat) (x2004c : Nat), cell h2003 c1_2001 = some (.slice x2004 x2004l x2004c) ∧ (iteB (decide (v5_2002 < (x2004l : Int))) ((∃ (x2005 : Option Addr) (x2005l : Nat) (x2005c : Nat), cell h2003 c1_2001 = some (.slice x2005 x2005l x2005c) ∧ ∃ (x2006 : Option Addr) (x2006l : Nat) (x2006c : Nat), cell h2003 (c1_2001.add 1) = some (.slice x2006 x2006l x2006c) ∧ ∃ (x2007 : Option Addr) (x2007l : Nat) (x2007c : Nat), cell h2003 c1_2001 = some (.slice x2007 x2007l x2007c) ∧ callP3 (straitref29_Up x2005 x2005l x2005c x2006 x2006l x2006c v5_2002 h2003) fun x2008 x2008l x2008c h2009 => (∃ (x2010 : Option Addr) (x2010l : Nat) (x2010c : Nat), cell h2009 c1_2001 = some (.slice x2010 x2010l x2010c) ∧ ((.slice x2010 x2010l x2010c) : Value) = (.slice x2007 x2007l x2007c)) ∧ (iteB (decide ((x2008l : Int) > (x2007l : Int))) (K0 false h2009) (((cont c1_2001 (IntKind.i64.wrap (v5_2002 + 1)) h2009)))))) (K4 h2003))
def straitref29_Right.l1 (K0 : Bool → Heap → Prop) (K4 : Heap → Prop) : Nat → Addr → Int → Heap → Prop
  | 0, _, _, _ => False
  | m + 1, c1_2001, v5_2002, h => straitref29_Right.b1 K0 K4 (straitref29_Right.l1 K0 K4 m) c1_2001 v5_2002 h
def straitref29_Right.b0 (K0 : Bool → Heap → Prop) (K2 : Int → Heap → Prop) (cont : Addr → Int → Int → Heap → Prop) (c1_1001 : Addr) (v3_1002 : Int) (v4_1003 : Int) (h1004 : Heap) : Prop :=
  ∃ (x1005 : Option Addr) (x1005l : Nat) (x1005c : Nat), cell h1004 c1_1001 = some (.slice x1005 x1005l x1005c) ∧ (iteB (decide (v4_1003 < (x1005l : Int))) ((let j1023 : Prop := (∃ (x1017 : Option Addr) (x1017l : Nat) (x1017c : Nat), cell h1004 c1_1001 = some (.slice x1017 x1017l x1017c) ∧ chkP x1017 fun a1018 => (0 ≤ v4_1003 ∧ v4_1003 < (x1017l : Int)) ∧ ∃ (x1019 : Int), cell h1004 (a1018.add (v4_1003.toNat * 1)) = some (.int .i64 x1019) ∧ (iteB (x1019 == ((-1) : Int)) ((∃ (x1020 : Option Addr) (x1020l : Nat) (x1020c : Nat), cell h1004 (c1_1001.add 1) = some (.slice x1020 x1020l x1020c) ∧ chkP x1020 fun a1021 => (0 ≤ v4_1003 ∧ v4_1003 < (x1020l : Int)) ∧ ∃ (x1022 : Int), cell h1004 (a1021.add (v4_1003.toNat * 1)) = some (.int .i64 x1022) ∧ (iteB (x1022 != (0 : Int)) (K0 false h1004) (((cont c1_1001 (IntKind.i64.wrap (v3_1002 + 1)) (IntKind.i64.wrap (v4_1003 + 1)) h1004)))))) (((cont c1_1001 v3_1002 (IntKind.i64.wrap (v4_1003 + 1)) h1004)))));
  ∃ (x1006 : Option Addr) (x1006l : Nat) (x1006c : Nat), cell h1004 c1_1001 = some (.slice x1006 x1006l x1006c) ∧ chkP x1006 fun a1007 => (0 ≤ v4_1003 ∧ v4_1003 < (x1006l : Int)) ∧ ∃ (x1008 : Int), cell h1004 (a1007.add (v4_1003.toNat * 1)) = some (.int .i64 x1008) ∧ iteB (decide (x1008 < ((-1) : Int))) (K0 false h1004) (∃ (x1009 : Option Addr) (x1009l : Nat) (x1009c : Nat), cell h1004 c1_1001 = some (.slice x1009 x1009l x1009c) ∧ chkP x1009 fun a1010 => (0 ≤ v4_1003 ∧ v4_1003 < (x1009l : Int)) ∧ ∃ (x1011 : Int), cell h1004 (a1010.add (v4_1003.toNat * 1)) = some (.int .i64 x1011) ∧ ∃ (x1012 : Option Addr) (x1012l : Nat) (x1012c : Nat), cell h1004 c1_1001 = some (.slice x1012 x1012l x1012c) ∧ iteB (decide (x1011 ≥ (x1012l : Int))) (K0 false h1004) (∃ (x1013 : Option Addr) (x1013l : Nat) (x1013c : Nat), cell h1004 (c1_1001.add 1) = some (.slice x1013 x1013l x1013c) ∧ chkP x1013 fun a1014 => (0 ≤ v4_1003 ∧ v4_1003 < (x1013l : Int)) ∧ ∃ (x1015 : Int), cell h1004 (a1014.add (v4_1003.toNat * 1)) = some (.int .i64 x1015) ∧ (iteB (decide (x1015 < (0 : Int))) (K0 false h1004) ((j1023))))))) (K2 v3_1002 h1004))
def straitref29_Right.l0 (K0 : Bool → Heap → Prop) (K2 : Int → Heap → Prop) : Nat → Addr → Int → Int → Heap → Prop
  | 0, _, _, _, _ => False
  | m + 1, c1_1001, v3_1002, v4_1003, h => straitref29_Right.b0 K0 K2 (straitref29_Right.l0 K0 K2 m) c1_1001 v3_1002 v4_1003 h
def straitref29_Right (a1 : Option Addr) (a1l : Nat) (a1c : Nat) (a2 : Option Addr) (a2l : Nat) (a2c : Nat) (h : Heap) (K : Bool → Heap → Prop) : Prop :=
  newP h (.cells #[(.slice a1 a1l a1c), (.slice a2 a2l a2c)] 25) fun a3 h4 => (let j32 : Prop := (((∃ m13, straitref29_Right.l0 (fun z9 h10 => K z9 h10) (fun z11 h12 => ((iteB (decide (z11 > (1 : Int))) (K false h12) (iteB (z11 == (0 : Int)) (∃ (x14 : Option Addr) (x14l : Nat) (x14c : Nat), cell h12 a3 = some (.slice x14 x14l x14c) ∧ (iteB (decide ((x14l : Int) > (0 : Int))) (K false h12) (((∃ m27, straitref29_Right.l1 (fun z24 h25 => K z24 h25) (fun h26 => (K true h26)) m27 a3 0 h12))))) ((((∃ m31, straitref29_Right.l1 (fun z28 h29 => K z28 h29) (fun h30 => (K true h30)) m31 a3 0 h12)))))))) m13 a3 0 0 h4)));
  ∃ (x5 : Option Addr) (x5l : Nat) (x5c : Nat), cell h4 a3 = some (.slice x5 x5l x5c) ∧ ∃ (x6 : Option Addr) (x6l : Nat) (x6c : Nat), cell h4 (a3.add 1) = some (.slice x6 x6l x6c) ∧ iteB ((x5l : Int) != (x6l : Int)) (K false h4) (∃ (x7 : Option Addr) (x7l : Nat) (x7c : Nat), cell h4 a3 = some (.slice x7 x7l x7c) ∧ (iteB (decide ((x7l : Int) > (4096 : Int))) (K false h4) ((j32)))))
def straitref29_Right.ret (K : Bool → Heap → Prop) (v : Value) (h : Heap) : Prop := match v with
  | (.bool r33) => K r33 h
  | _ => False
theorem straitref29_Right.ret_elim {K : Bool → Heap → Prop} {K' : Value → Heap → Prop} {v : Value} {h : Heap} (hk : ∀ r33 h, K r33 h → K' (.bool r33) h) (hh : straitref29_Right.ret K v h) : K' v h := by
  unfold straitref29_Right.ret at hh
  split at hh
  · exact hk _ _ hh
  · exact hh.elim
def straitref29_Right.call (f : FuncId) (vs : List Value) (h : Heap) (K : Value → Heap → Prop) : Prop := match f, vs with
  | 48, [(.agg ⟨[(.slice a1 a1l a1c), (.slice a2 a2l a2c)]⟩), (.int .i64 a3)] => callP3 (straitref29_Up a1 a1l a1c a2 a2l a2c a3 h) fun r9 r9l r9c h' => K (.slice r9 r9l r9c) h'
  | _, _ => False
def straitref29_Right.r0 (K : Nat → List Value → Heap → Prop) (m : Nat) (vs : List Value) (h : Heap) : Prop := match vs with
  | [(.pointer (some c1_1001)), (.int .i64 v3_1002), (.int .i64 v4_1003)] => straitref29_Right.l0 (fun z34 h' => K 0 [(.bool z34)] h') (fun z35 h' => K 2 [(.pointer (some c1_1001)), (.int .i64 z35)] h') m c1_1001 v3_1002 v4_1003 h
  | _ => False
def straitref29_Right.r1 (K : Nat → List Value → Heap → Prop) (m : Nat) (vs : List Value) (h : Heap) : Prop := match vs with
  | [(.pointer (some c1_2001)), (.int .i64 v5_2002)] => straitref29_Right.l1 (fun z36 h' => K 0 [(.bool z36)] h') (fun h' => K 4 [] h') m c1_2001 v5_2002 h
  | _ => False
def straitref29_Right.loop (i : Nat) (vs : List Value) (h : Heap) (K : Nat → List Value → Heap → Prop) : Prop := match i with
  | 0 => ∃ m, straitref29_Right.r0 K m vs h
  | 1 => ∃ m, straitref29_Right.r1 K m vs h
  | _ => False
noncomputable def straitref29_Right.ctx : Ctx := { P := Try.prog, call := straitref29_Right.call, qcall := fun _ _ _ _ => False, quiet := fun f => Nat.beq f 1000069 || Nat.beq f 1000099, loop := straitref29_Right.loop }
theorem straitref29_Right.ok [DKc] : straitref29_Right.ctx.OK where
  mixed := by kernel_rfl
  mono := by
    intro f args h K K' hh hk
    change straitref29_Right.call f args h K at hh
    change straitref29_Right.call f args h K'
    unfold straitref29_Right.call at hh ⊢
    split at hh
    · obtain ⟨R, h1, h2⟩ := hh
      exact ⟨R, h1, fun _ _ _ x hr => hk _ _ (h2 _ _ _ x hr)⟩
    · exact hh.elim
  call := by
    intro f args h K hh w hw
    change straitref29_Right.call f args h K at hh
    unfold straitref29_Right.call at hh
    split at hh
    · obtain ⟨R, h1, h2⟩ := hh
      obtain ⟨g1, g2⟩ := straitref29_Up.calls h1 w hw
      exact ⟨g1, g2.mono fun e w' ⟨v, he, ho, hr⟩ => ⟨v, he, ho, straitref29_Up.ret_elim h2 hr⟩⟩
    · exact hh.elim
  qmono := fun hh _ => hh.elim
  qval := fun hh => hh.elim
  qcall := fun hh => hh.elim
noncomputable def straitref29_Right.code : Code := (Try.f15.body).getD .skip
def straitref29_Right.ann : Ann := (.two .auto (.two .auto (.two .auto (.two (.two .auto (.two (.loop 0 [1, 3, 4] [(2, [1, 3]), (0, [2])] (.two .auto (.two (.two (.two (.two (.reg [0, 1, 0, 7, 15, 31, 63, 127, 255, 127, 1023, 2047, 127, 4223, 12415, 32767, 65535, 131071, 262143, 524287, 262143, 2097151, 4194303, 8388607, 16777215] (.take 0 (.take 1 (.take 2 (.take 3 (.take 4 (.take 5 (.take 6 (.take 7 (.take 8 (.take 9 (.take 10 (.take 11 (.take 12 (.take 13 (.take 14 (.take 15 (.take 16 (.take 17 (.take 18 (.take 19 (.take 20 (.take 21 (.take 22 (.take 23 (.take 24 .done)))))))))))))))))))))))))) .auto) .auto) .auto) .auto))) .auto)) (.two .auto (.two (.two .auto (.two (.loop 1 [1, 5] [(4, []), (0, [2])] (.two .auto (.two (.two (.two (.reg [0, 0, 3, 7, 0, 16, 48, 127] (.take 0 (.take 1 (.take 4 (.early 5 (.take 6 (.alt 2 (.take 3 (.take 7 .done)) .noalt))))))) .auto) .auto) .auto))) .auto)) .auto))))))
noncomputable def straitref29_Right.c1 : Code := sub straitref29_Right.code [1, 1, 1, 1, 1, 0, 1, 0, 0]
def straitref29_Right.a1 : Ann := (.two .auto (.two (.two (.two (.reg [0, 0, 3, 7, 0, 16, 48, 127] (.take 0 (.take 1 (.take 4 (.early 5 (.take 6 (.alt 2 (.take 3 (.take 7 .done)) .noalt))))))) .auto) .auto) .auto))
def straitref29_Right.keep1 : List Nat := [1, 5]
def straitref29_Right.outs1 : List (Nat × List Nat) := [(4, []), (0, [2])]
noncomputable def straitref29_Right.c0 : Code := sub straitref29_Right.code [1, 1, 1, 0, 1, 0, 0]
def straitref29_Right.a0 : Ann := (.two .auto (.two (.two (.two (.two (.reg [0, 1, 0, 7, 15, 31, 63, 127, 255, 127, 1023, 2047, 127, 4223, 12415, 32767, 65535, 131071, 262143, 524287, 262143, 2097151, 4194303, 8388607, 16777215] (.take 0 (.take 1 (.take 2 (.take 3 (.take 4 (.take 5 (.take 6 (.take 7 (.take 8 (.take 9 (.take 10 (.take 11 (.take 12 (.take 13 (.take 14 (.take 15 (.take 16 (.take 17 (.take 18 (.take 19 (.take 20 (.take 21 (.take 22 (.take 23 (.take 24 .done)))))))))))))))))))))))))) .auto) .auto) .auto) .auto))
def straitref29_Right.keep0 : List Nat := [1, 3, 4]
def straitref29_Right.outs0 : List (Nat × List Nat) := [(2, [1, 3]), (0, [2])]
set_option maxRecDepth 100000 in
theorem straitref29_Right.L0 [DKc] : LoopOK straitref29_Right.ctx 92 straitref29_Right.c0 0 straitref29_Right.keep0 straitref29_Right.outs0 := by
  refine loop_ok (n := straitref29_Right.a0) straitref29_Right.ok (by kernel_rfl) (loops_ok (l := []) (by kernel_rfl) ?_) straitref29_Right.r0 ?_ ?_ (fun vs h K hh => hh)
  · exact trivial
  · intro K vs h hh
    unfold straitref29_Right.r0 at hh
    split at hh
    · exact hh
    · exact hh
  · intro K m vs h hh
    unfold straitref29_Right.r0 at hh
    split at hh
    · exact cast (by kernel_rfl) hh
    · exact hh.elim
set_option maxRecDepth 100000 in
theorem straitref29_Right.L1 [DKc] : LoopOK straitref29_Right.ctx 92 straitref29_Right.c1 1 straitref29_Right.keep1 straitref29_Right.outs1 := by
  refine loop_ok (n := straitref29_Right.a1) straitref29_Right.ok (by kernel_rfl) (loops_ok (l := []) (by kernel_rfl) ?_) straitref29_Right.r1 ?_ ?_ (fun vs h K hh => hh)
  · exact trivial
  · intro K vs h hh
    unfold straitref29_Right.r1 at hh
    split at hh
    · exact hh
    · exact hh
  · intro K m vs h hh
    unfold straitref29_Right.r1 at hh
    split at hh
    · exact cast (by kernel_rfl) hh
    · exact hh.elim
set_option maxRecDepth 100000 in
theorem straitref29_Right.eq (a1 : Option Addr) (a1l : Nat) (a1c : Nat) (a2 : Option Addr) (a2l : Nat) (a2c : Nat) (h : Heap) (K : Bool → Heap → Prop) : evF straitref29_Right.ctx Try.f15 straitref29_Right.ann [(.agg #[(.slice a1 a1l a1c), (.slice a2 a2l a2c)])] h (straitref29_Right.ret K) = straitref29_Right a1 a1l a1c a2 a2l a2c h K := by kernel_rfl
set_option maxRecDepth 100000 in
theorem straitref29_Right.calls [DKc] {a1 : Option Addr} {a1l : Nat} {a1c : Nat} {a2 : Option Addr} {a2l : Nat} {a2c : Nat} {h : Heap} {K : Bool → Heap → Prop} (hh : straitref29_Right a1 a1l a1c a2 a2l a2c h K) (w : World) (hw : w.heap = h) :
    (callFunc 15 #[(.agg #[(.slice a1 a1l a1c), (.slice a2 a2l a2c)])]).run Try.prog w = .ok (.enter 15 #[(.agg #[(.slice a1 a1l a1c), (.slice a2 a2l a2c)])]) w ∧ Calls Try.prog 15 #[(.agg #[(.slice a1 a1l a1c), (.slice a2 a2l a2c)])] w fun e w' => ∃ v, e = .returned v ∧ Out w w' ∧ straitref29_Right.ret K v w'.heap := by
  rw [← straitref29_Right.eq] at hh
  exact fn_calls (args := [(.agg #[(.slice a1 a1l a1c), (.slice a2 a2l a2c)])]) (c := straitref29_Right.code) straitref29_Right.ok Try.func15 (by kernel_rfl) (by kernel_rfl) (by kernel_rfl) (by kernel_rfl) (loops_ok (l := [(straitref29_Right.c0, none, 0, straitref29_Right.keep0, straitref29_Right.outs0), (straitref29_Right.c1, none, 1, straitref29_Right.keep1, straitref29_Right.outs1)]) (by kernel_rfl) ⟨straitref29_Right.L0, straitref29_Right.L1, trivial⟩) hh w hw

/-! ### strait/straitref29.in: function 50 -/
def straitref29_in (a1 : Option Addr) (a1l : Nat) (a1c : Nat) (a2 : Option Addr) (a2l : Nat) (a2c : Nat) (a3 : Int) (h : Heap) (K : Bool → Heap → Prop) : Prop :=
  newP h (.cells #[(.slice a1 a1l a1c), (.slice a2 a2l a2c)] 25) fun a4 h5 => (∃ (x6 : Option Addr) (x6l : Nat) (x6c : Nat), cell h5 a4 = some (.slice x6 x6l x6c) ∧ ∃ (x7 : Option Addr) (x7l : Nat) (x7c : Nat), cell h5 (a4.add 1) = some (.slice x7 x7l x7c) ∧ callP1 (straitref29_Right x6 x6l x6c x7 x7l x7c h5) fun x8 h9 => iteB x8 (iteB (decide (a3 ≥ (0 : Int))) (∃ (x10 : Option Addr) (x10l : Nat) (x10c : Nat), cell h9 a4 = some (.slice x10 x10l x10c) ∧ (K (decide (a3 < (x10l : Int))) h9)) (K false h9)) (K false h9))
def straitref29_in.ret (K : Bool → Heap → Prop) (v : Value) (h : Heap) : Prop := match v with
  | (.bool r13) => K r13 h
  | _ => False
theorem straitref29_in.ret_elim {K : Bool → Heap → Prop} {K' : Value → Heap → Prop} {v : Value} {h : Heap} (hk : ∀ r13 h, K r13 h → K' (.bool r13) h) (hh : straitref29_in.ret K v h) : K' v h := by
  unfold straitref29_in.ret at hh
  split at hh
  · exact hk _ _ hh
  · exact hh.elim
def straitref29_in.call (f : FuncId) (vs : List Value) (h : Heap) (K : Value → Heap → Prop) : Prop := match f, vs with
  | 15, [(.agg ⟨[(.slice a1 a1l a1c), (.slice a2 a2l a2c)]⟩)] => callP1 (straitref29_Right a1 a1l a1c a2 a2l a2c h) fun r33 h' => K (.bool r33) h'
  | _, _ => False
noncomputable def straitref29_in.ctx : Ctx := { P := Try.prog, call := straitref29_in.call, qcall := fun _ _ _ _ => False, quiet := fun f => Nat.beq f 1000069 || Nat.beq f 1000099, loop := fun _ _ _ _ => False }
theorem straitref29_in.ok [DKc] : straitref29_in.ctx.OK where
  mixed := by kernel_rfl
  mono := by
    intro f args h K K' hh hk
    change straitref29_in.call f args h K at hh
    change straitref29_in.call f args h K'
    unfold straitref29_in.call at hh ⊢
    split at hh
    · obtain ⟨R, h1, h2⟩ := hh
      exact ⟨R, h1, fun _ x hr => hk _ _ (h2 _ x hr)⟩
    · exact hh.elim
  call := by
    intro f args h K hh w hw
    change straitref29_in.call f args h K at hh
    unfold straitref29_in.call at hh
    split at hh
    · obtain ⟨R, h1, h2⟩ := hh
      obtain ⟨g1, g2⟩ := straitref29_Right.calls h1 w hw
      exact ⟨g1, g2.mono fun e w' ⟨v, he, ho, hr⟩ => ⟨v, he, ho, straitref29_Right.ret_elim h2 hr⟩⟩
    · exact hh.elim
  qmono := fun hh _ => hh.elim
  qval := fun hh => hh.elim
  qcall := fun hh => hh.elim
noncomputable def straitref29_in.code : Code := (Try.f50.body).getD .skip
def straitref29_in.ann : Ann := .auto
set_option maxRecDepth 100000 in
theorem straitref29_in.eq (a1 : Option Addr) (a1l : Nat) (a1c : Nat) (a2 : Option Addr) (a2l : Nat) (a2c : Nat) (a3 : Int) (h : Heap) (K : Bool → Heap → Prop) : evF straitref29_in.ctx Try.f50 straitref29_in.ann [(.agg #[(.slice a1 a1l a1c), (.slice a2 a2l a2c)]), (.int .i64 a3)] h (straitref29_in.ret K) = straitref29_in a1 a1l a1c a2 a2l a2c a3 h K := by kernel_rfl
set_option maxRecDepth 100000 in
theorem straitref29_in.calls [DKc] {a1 : Option Addr} {a1l : Nat} {a1c : Nat} {a2 : Option Addr} {a2l : Nat} {a2c : Nat} {a3 : Int} {h : Heap} {K : Bool → Heap → Prop} (hh : straitref29_in a1 a1l a1c a2 a2l a2c a3 h K) (w : World) (hw : w.heap = h) :
    (callFunc 50 #[(.agg #[(.slice a1 a1l a1c), (.slice a2 a2l a2c)]), (.int .i64 a3)]).run Try.prog w = .ok (.enter 50 #[(.agg #[(.slice a1 a1l a1c), (.slice a2 a2l a2c)]), (.int .i64 a3)]) w ∧ Calls Try.prog 50 #[(.agg #[(.slice a1 a1l a1c), (.slice a2 a2l a2c)]), (.int .i64 a3)] w fun e w' => ∃ v, e = .returned v ∧ Out w w' ∧ straitref29_in.ret K v w'.heap := by
  rw [← straitref29_in.eq] at hh
  exact fn_calls (args := [(.agg #[(.slice a1 a1l a1c), (.slice a2 a2l a2c)]), (.int .i64 a3)]) (c := straitref29_in.code) straitref29_in.ok Try.func50 (by kernel_rfl) (by kernel_rfl) (by kernel_rfl) (by kernel_rfl) (loops_ok (l := []) (by kernel_rfl) trivial) hh w hw

/-! ### strait/straitref21.In: function 29 -/
def straitref21_In.b0 (K0 : Bool → Heap → Prop) (K2 : Heap → Prop) (cont : (Option Addr) → Nat → Nat → Int → Int → Heap → Prop) (c0_1001 : Option Addr) (c0_1002 : Nat) (c0_1003 : Nat) (c1_1004 : Int) (v5_1005 : Int) (h1006 : Heap) : Prop :=
  (iteB (decide (v5_1005 < (c0_1002 : Int))) ((chkP c0_1001 fun a1007 => (0 ≤ v5_1005 ∧ v5_1005 < (c0_1002 : Int)) ∧ ∃ (x1008 : Int), cell h1006 (a1007.add (v5_1005.toNat * 1)) = some (.int .i64 x1008) ∧ (iteB (x1008 == c1_1004) (K0 true h1006) (((cont c0_1001 c0_1002 c0_1003 c1_1004 (IntKind.i64.wrap (v5_1005 + 1)) h1006)))))) (K2 h1006))
def straitref21_In.l0 (K0 : Bool → Heap → Prop) (K2 : Heap → Prop) : Nat → (Option Addr) → Nat → Nat → Int → Int → Heap → Prop
  | 0, _, _, _, _, _, _ => False
  | m + 1, c0_1001, c0_1002, c0_1003, c1_1004, v5_1005, h => straitref21_In.b0 K0 K2 (straitref21_In.l0 K0 K2 m) c0_1001 c0_1002 c0_1003 c1_1004 v5_1005 h
def straitref21_In (a1 : Option Addr) (a1l : Nat) (a1c : Nat) (a2 : Int) (h : Heap) (K : Bool → Heap → Prop) : Prop :=
  ((∃ m6, straitref21_In.l0 (fun z3 h4 => K z3 h4) (fun h5 => (K false h5)) m6 a1 a1l a1c a2 0 h))
def straitref21_In.ret (K : Bool → Heap → Prop) (v : Value) (h : Heap) : Prop := match v with
  | (.bool r7) => K r7 h
  | _ => False
theorem straitref21_In.ret_elim {K : Bool → Heap → Prop} {K' : Value → Heap → Prop} {v : Value} {h : Heap} (hk : ∀ r7 h, K r7 h → K' (.bool r7) h) (hh : straitref21_In.ret K v h) : K' v h := by
  unfold straitref21_In.ret at hh
  split at hh
  · exact hk _ _ hh
  · exact hh.elim
def straitref21_In.r0 (K : Nat → List Value → Heap → Prop) (m : Nat) (vs : List Value) (h : Heap) : Prop := match vs with
  | [(.slice c0_1001 c0_1002 c0_1003), (.int .i64 c1_1004), (.int .i64 v5_1005)] => straitref21_In.l0 (fun z8 h' => K 0 [(.bool z8)] h') (fun h' => K 2 [] h') m c0_1001 c0_1002 c0_1003 c1_1004 v5_1005 h
  | _ => False
def straitref21_In.loop (i : Nat) (vs : List Value) (h : Heap) (K : Nat → List Value → Heap → Prop) : Prop := match i with
  | 0 => ∃ m, straitref21_In.r0 K m vs h
  | _ => False
noncomputable def straitref21_In.ctx : Ctx := { P := Try.prog, call := fun _ _ _ _ => False, qcall := fun _ _ _ _ => False, quiet := fun f => Nat.beq f 1000069 || Nat.beq f 1000099, loop := straitref21_In.loop }
theorem straitref21_In.ok [DKc] : straitref21_In.ctx.OK where
  mixed := by kernel_rfl
  mono := fun hh _ => hh.elim
  call := fun hh => hh.elim
  qmono := fun hh _ => hh.elim
  qval := fun hh => hh.elim
  qcall := fun hh => hh.elim
noncomputable def straitref21_In.code : Code := (Try.f29.body).getD .skip
def straitref21_In.ann : Ann := (.two .auto (.two (.two .auto (.two (.loop 0 [0, 1, 5] [(2, []), (0, [4])] .auto) .auto)) .auto))
noncomputable def straitref21_In.c0 : Code := sub straitref21_In.code [1, 0, 1, 0, 0]
def straitref21_In.a0 : Ann := .auto
def straitref21_In.keep0 : List Nat := [0, 1, 5]
def straitref21_In.outs0 : List (Nat × List Nat) := [(2, []), (0, [4])]
set_option maxRecDepth 100000 in
theorem straitref21_In.L0 [DKc] : LoopOK straitref21_In.ctx 18 straitref21_In.c0 0 straitref21_In.keep0 straitref21_In.outs0 := by
  refine loop_ok (n := straitref21_In.a0) straitref21_In.ok (by kernel_rfl) (loops_ok (l := []) (by kernel_rfl) ?_) straitref21_In.r0 ?_ ?_ (fun vs h K hh => hh)
  · exact trivial
  · intro K vs h hh
    unfold straitref21_In.r0 at hh
    split at hh
    · exact hh
    · exact hh
  · intro K m vs h hh
    unfold straitref21_In.r0 at hh
    split at hh
    · exact cast (by kernel_rfl) hh
    · exact hh.elim
set_option maxRecDepth 100000 in
theorem straitref21_In.eq (a1 : Option Addr) (a1l : Nat) (a1c : Nat) (a2 : Int) (h : Heap) (K : Bool → Heap → Prop) : evF straitref21_In.ctx Try.f29 straitref21_In.ann [(.slice a1 a1l a1c), (.int .i64 a2)] h (straitref21_In.ret K) = straitref21_In a1 a1l a1c a2 h K := by kernel_rfl
set_option maxRecDepth 100000 in
theorem straitref21_In.calls [DKc] {a1 : Option Addr} {a1l : Nat} {a1c : Nat} {a2 : Int} {h : Heap} {K : Bool → Heap → Prop} (hh : straitref21_In a1 a1l a1c a2 h K) (w : World) (hw : w.heap = h) :
    (callFunc 29 #[(.slice a1 a1l a1c), (.int .i64 a2)]).run Try.prog w = .ok (.enter 29 #[(.slice a1 a1l a1c), (.int .i64 a2)]) w ∧ Calls Try.prog 29 #[(.slice a1 a1l a1c), (.int .i64 a2)] w fun e w' => ∃ v, e = .returned v ∧ Out w w' ∧ straitref21_In.ret K v w'.heap := by
  rw [← straitref21_In.eq] at hh
  exact fn_calls (args := [(.slice a1 a1l a1c), (.int .i64 a2)]) (c := straitref21_In.code) straitref21_In.ok Try.func29 (by kernel_rfl) (by kernel_rfl) (by kernel_rfl) (by kernel_rfl) (loops_ok (l := [(straitref21_In.c0, none, 0, straitref21_In.keep0, straitref21_In.outs0)]) (by kernel_rfl) ⟨straitref21_In.L0, trivial⟩) hh w hw

end Go.Proofs.Ytfidcekobjmamaa
