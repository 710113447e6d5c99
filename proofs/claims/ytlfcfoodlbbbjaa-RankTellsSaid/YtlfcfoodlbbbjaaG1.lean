/- WRITTEN BY A PROGRAM OF THIS SESSION (gen.py): what each function asks of memory, and that the model's run comes to it. -/
import Derived.Test.YtlfcfoodlbbbjaaProg
import Derived.Test.YtlfcfoodlbbbjaaFw8
import Derived.Test.YtlfcfoodlbbbjaaG0
namespace Go.Proofs.Ytlfcfoodlbbbjaa
open Go.Hp
set_option linter.unusedVariables false
set_option linter.unusedSimpArgs false

/-! ### slices.symMergeCmpFunc[int]: function 50 -/
def slices_symMergeCmpFunc_int_rank_sorted_int64_c1.b4 (K10 : Int → Heap → Prop) (cont : (Option Addr) → Nat → Nat → Int → Int → Int → Addr → Int → Int → Int → Int → Int → Heap → Prop) (c0_5001 : Option Addr) (c0_5002 : Nat) (c0_5003 : Nat) (c1_5004 : Int) (c2_5005 : Int) (c3_5006 : Int) (c4_5007 : Addr) (c18_5008 : Int) (c19_5009 : Int) (v20_5010 : Int) (v21_5011 : Int) (c22_5012 : Int) (h5013 : Heap) : Prop :=
  (iteB (decide (v20_5010 < v21_5011)) ((bindV (IntKind.u64.wrap (IntKind.i64.wrap (v20_5010 + v21_5011))) fun n5014 => 0 ≤ (1 : Int) ∧ (bindV (IntKind.i64.wrap (c22_5012 - (IntKind.i64.wrap (n5014.fdiv (2 ^ 1))))) fun n5015 => chkP c0_5001 fun a5016 => (0 ≤ n5015 ∧ n5015 < (c0_5002 : Int)) ∧ ∃ (x5017 : Int), cell h5013 (a5016.add (n5015.toNat * 1)) = some (.int .i64 x5017) ∧ chkP c0_5001 fun a5018 => (0 ≤ (IntKind.i64.wrap (n5014.fdiv (2 ^ 1))) ∧ (IntKind.i64.wrap (n5014.fdiv (2 ^ 1))) < (c0_5002 : Int)) ∧ ∃ (x5019 : Int), cell h5013 (a5018.add ((IntKind.i64.wrap (n5014.fdiv (2 ^ 1))).toNat * 1)) = some (.int .i64 x5019) ∧ callP1 (rank_sorted_int64_c1 x5017 x5019 c4_5007 h5013) fun x5020 h5021 => (iteB (!(decide (x5020 < (0 : Int)))) (bindV (IntKind.i64.wrap ((IntKind.i64.wrap (n5014.fdiv (2 ^ 1))) + 1)) fun n5022 => cont c0_5001 c0_5002 c0_5003 c1_5004 c2_5005 c3_5006 c4_5007 c18_5008 c19_5009 n5022 v21_5011 c22_5012 h5021) ((cont c0_5001 c0_5002 c0_5003 c1_5004 c2_5005 c3_5006 c4_5007 c18_5008 c19_5009 v20_5010 (IntKind.i64.wrap (n5014.fdiv (2 ^ 1))) c22_5012 h5021)))))) (K10 v20_5010 h5013))
def slices_symMergeCmpFunc_int_rank_sorted_int64_c1.l4 (K10 : Int → Heap → Prop) : Nat → (Option Addr) → Nat → Nat → Int → Int → Int → Addr → Int → Int → Int → Int → Int → Heap → Prop
  | 0, _, _, _, _, _, _, _, _, _, _, _, _, _ => False
  | m + 1, c0_5001, c0_5002, c0_5003, c1_5004, c2_5005, c3_5006, c4_5007, c18_5008, c19_5009, v20_5010, v21_5011, c22_5012, h => slices_symMergeCmpFunc_int_rank_sorted_int64_c1.b4 K10 (slices_symMergeCmpFunc_int_rank_sorted_int64_c1.l4 K10 m) c0_5001 c0_5002 c0_5003 c1_5004 c2_5005 c3_5006 c4_5007 c18_5008 c19_5009 v20_5010 v21_5011 c22_5012 h
def slices_symMergeCmpFunc_int_rank_sorted_int64_c1.b3 (K8 : Heap → Prop) (cont : (Option Addr) → Nat → Nat → Int → Int → Heap → Prop) (c0_4001 : Option Addr) (c0_4002 : Nat) (c0_4003 : Nat) (c14_4004 : Int) (v17_4005 : Int) (h4006 : Heap) : Prop :=
  (iteB (decide (v17_4005 > c14_4004)) ((chkP c0_4001 fun a4007 => (0 ≤ (IntKind.i64.wrap (v17_4005 - 1)) ∧ (IntKind.i64.wrap (v17_4005 - 1)) < (c0_4002 : Int)) ∧ ∃ (x4008 : Int), cell h4006 (a4007.add ((IntKind.i64.wrap (v17_4005 - 1)).toNat * 1)) = some (.int .i64 x4008) ∧ chkP c0_4001 fun a4009 => (0 ≤ v17_4005 ∧ v17_4005 < (c0_4002 : Int)) ∧ ∃ (x4010 : Int), cell h4006 (a4009.add (v17_4005.toNat * 1)) = some (.int .i64 x4010) ∧ chkP c0_4001 fun a4011 => (0 ≤ v17_4005 ∧ v17_4005 < (c0_4002 : Int)) ∧ stC h4006 (a4011.add (v17_4005.toNat * 1)) (.int .i64 x4008) fun h4012 => chkP c0_4001 fun a4013 => (0 ≤ (IntKind.i64.wrap (v17_4005 - 1)) ∧ (IntKind.i64.wrap (v17_4005 - 1)) < (c0_4002 : Int)) ∧ stC h4012 (a4013.add ((IntKind.i64.wrap (v17_4005 - 1)).toNat * 1)) (.int .i64 x4010) fun h4014 => ((cont c0_4001 c0_4002 c0_4003 c14_4004 (IntKind.i64.wrap (v17_4005 - 1)) h4014)))) (K8 h4006))
def slices_symMergeCmpFunc_int_rank_sorted_int64_c1.l3 (K8 : Heap → Prop) : Nat → (Option Addr) → Nat → Nat → Int → Int → Heap → Prop
  | 0, _, _, _, _, _, _ => False
  | m + 1, c0_4001, c0_4002, c0_4003, c14_4004, v17_4005, h => slices_symMergeCmpFunc_int_rank_sorted_int64_c1.b3 K8 (slices_symMergeCmpFunc_int_rank_sorted_int64_c1.l3 K8 m) c0_4001 c0_4002 c0_4003 c14_4004 v17_4005 h
def slices_symMergeCmpFunc_int_rank_sorted_int64_c1.b2 (K6 : Int → Heap → Prop) (cont : (Option Addr) → Nat → Nat → Int → Addr → Int → Int → Heap → Prop) (c0_3001 : Option Addr) (c0_3002 : Nat) (c0_3003 : Nat) (c2_3004 : Int) (c4_3005 : Addr) (v14_3006 : Int) (v15_3007 : Int) (h3008 : Heap) : Prop :=
  (iteB (decide (v14_3006 < v15_3007)) ((bindV (IntKind.u64.wrap (IntKind.i64.wrap (v14_3006 + v15_3007))) fun n3009 => 0 ≤ (1 : Int) ∧ (chkP c0_3001 fun a3010 => (0 ≤ c2_3004 ∧ c2_3004 < (c0_3002 : Int)) ∧ ∃ (x3011 : Int), cell h3008 (a3010.add (c2_3004.toNat * 1)) = some (.int .i64 x3011) ∧ chkP c0_3001 fun a3012 => (0 ≤ (IntKind.i64.wrap (n3009.fdiv (2 ^ 1))) ∧ (IntKind.i64.wrap (n3009.fdiv (2 ^ 1))) < (c0_3002 : Int)) ∧ ∃ (x3013 : Int), cell h3008 (a3012.add ((IntKind.i64.wrap (n3009.fdiv (2 ^ 1))).toNat * 1)) = some (.int .i64 x3013) ∧ callP1 (rank_sorted_int64_c1 x3011 x3013 c4_3005 h3008) fun x3014 h3015 => (iteB (!(decide (x3014 < (0 : Int)))) (bindV (IntKind.i64.wrap ((IntKind.i64.wrap (n3009.fdiv (2 ^ 1))) + 1)) fun n3016 => cont c0_3001 c0_3002 c0_3003 c2_3004 c4_3005 n3016 v15_3007 h3015) ((cont c0_3001 c0_3002 c0_3003 c2_3004 c4_3005 v14_3006 (IntKind.i64.wrap (n3009.fdiv (2 ^ 1))) h3015)))))) (K6 v14_3006 h3008))
def slices_symMergeCmpFunc_int_rank_sorted_int64_c1.l2 (K6 : Int → Heap → Prop) : Nat → (Option Addr) → Nat → Nat → Int → Addr → Int → Int → Heap → Prop
  | 0, _, _, _, _, _, _, _, _ => False
  | m + 1, c0_3001, c0_3002, c0_3003, c2_3004, c4_3005, v14_3006, v15_3007, h => slices_symMergeCmpFunc_int_rank_sorted_int64_c1.b2 K6 (slices_symMergeCmpFunc_int_rank_sorted_int64_c1.l2 K6 m) c0_3001 c0_3002 c0_3003 c2_3004 c4_3005 v14_3006 v15_3007 h
def slices_symMergeCmpFunc_int_rank_sorted_int64_c1.b1 (K4 : Heap → Prop) (cont : (Option Addr) → Nat → Nat → Int → Int → Heap → Prop) (c0_2001 : Option Addr) (c0_2002 : Nat) (c0_2003 : Nat) (c10_2004 : Int) (v13_2005 : Int) (h2006 : Heap) : Prop :=
  (iteB (decide (v13_2005 < (IntKind.i64.wrap (c10_2004 - 1)))) ((chkP c0_2001 fun a2007 => (0 ≤ (IntKind.i64.wrap (v13_2005 + 1)) ∧ (IntKind.i64.wrap (v13_2005 + 1)) < (c0_2002 : Int)) ∧ ∃ (x2008 : Int), cell h2006 (a2007.add ((IntKind.i64.wrap (v13_2005 + 1)).toNat * 1)) = some (.int .i64 x2008) ∧ chkP c0_2001 fun a2009 => (0 ≤ v13_2005 ∧ v13_2005 < (c0_2002 : Int)) ∧ ∃ (x2010 : Int), cell h2006 (a2009.add (v13_2005.toNat * 1)) = some (.int .i64 x2010) ∧ chkP c0_2001 fun a2011 => (0 ≤ v13_2005 ∧ v13_2005 < (c0_2002 : Int)) ∧ stC h2006 (a2011.add (v13_2005.toNat * 1)) (.int .i64 x2008) fun h2012 => chkP c0_2001 fun a2013 => (0 ≤ (IntKind.i64.wrap (v13_2005 + 1)) ∧ (IntKind.i64.wrap (v13_2005 + 1)) < (c0_2002 : Int)) ∧ stC h2012 (a2013.add ((IntKind.i64.wrap (v13_2005 + 1)).toNat * 1)) (.int .i64 x2010) fun h2014 => ((cont c0_2001 c0_2002 c0_2003 c10_2004 (IntKind.i64.wrap (v13_2005 + 1)) h2014)))) (K4 h2006))
def slices_symMergeCmpFunc_int_rank_sorted_int64_c1.l1 (K4 : Heap → Prop) : Nat → (Option Addr) → Nat → Nat → Int → Int → Heap → Prop
  | 0, _, _, _, _, _, _ => False
  | m + 1, c0_2001, c0_2002, c0_2003, c10_2004, v13_2005, h => slices_symMergeCmpFunc_int_rank_sorted_int64_c1.b1 K4 (slices_symMergeCmpFunc_int_rank_sorted_int64_c1.l1 K4 m) c0_2001 c0_2002 c0_2003 c10_2004 v13_2005 h
def slices_symMergeCmpFunc_int_rank_sorted_int64_c1.b0 (K2 : Int → Heap → Prop) (cont : (Option Addr) → Nat → Nat → Int → Addr → Int → Int → Heap → Prop) (c0_1001 : Option Addr) (c0_1002 : Nat) (c0_1003 : Nat) (c1_1004 : Int) (c4_1005 : Addr) (v10_1006 : Int) (v11_1007 : Int) (h1008 : Heap) : Prop :=
  (iteB (decide (v10_1006 < v11_1007)) ((bindV (IntKind.u64.wrap (IntKind.i64.wrap (v10_1006 + v11_1007))) fun n1009 => 0 ≤ (1 : Int) ∧ (chkP c0_1001 fun a1010 => (0 ≤ (IntKind.i64.wrap (n1009.fdiv (2 ^ 1))) ∧ (IntKind.i64.wrap (n1009.fdiv (2 ^ 1))) < (c0_1002 : Int)) ∧ ∃ (x1011 : Int), cell h1008 (a1010.add ((IntKind.i64.wrap (n1009.fdiv (2 ^ 1))).toNat * 1)) = some (.int .i64 x1011) ∧ chkP c0_1001 fun a1012 => (0 ≤ c1_1004 ∧ c1_1004 < (c0_1002 : Int)) ∧ ∃ (x1013 : Int), cell h1008 (a1012.add (c1_1004.toNat * 1)) = some (.int .i64 x1013) ∧ callP1 (rank_sorted_int64_c1 x1011 x1013 c4_1005 h1008) fun x1014 h1015 => (iteB (decide (x1014 < (0 : Int))) (bindV (IntKind.i64.wrap ((IntKind.i64.wrap (n1009.fdiv (2 ^ 1))) + 1)) fun n1016 => cont c0_1001 c0_1002 c0_1003 c1_1004 c4_1005 n1016 v11_1007 h1015) ((cont c0_1001 c0_1002 c0_1003 c1_1004 c4_1005 v10_1006 (IntKind.i64.wrap (n1009.fdiv (2 ^ 1))) h1015)))))) (K2 v10_1006 h1008))
def slices_symMergeCmpFunc_int_rank_sorted_int64_c1.l0 (K2 : Int → Heap → Prop) : Nat → (Option Addr) → Nat → Nat → Int → Addr → Int → Int → Heap → Prop
  | 0, _, _, _, _, _, _, _, _ => False
  | m + 1, c0_1001, c0_1002, c0_1003, c1_1004, c4_1005, v10_1006, v11_1007, h => slices_symMergeCmpFunc_int_rank_sorted_int64_c1.b0 K2 (slices_symMergeCmpFunc_int_rank_sorted_int64_c1.l0 K2 m) c0_1001 c0_1002 c0_1003 c1_1004 c4_1005 v10_1006 v11_1007 h
def slices_symMergeCmpFunc_int_rank_sorted_int64_c1 (a1 : Option Addr) (a1l : Nat) (a1c : Nat) (a2 : Int) (a3 : Int) (a4 : Int) (a5 : Addr) (h : Heap) (K : Heap → Prop) : Prop :=
  (iteB ((IntKind.i64.wrap (a3 - a2)) == (1 : Int)) (((∃ m8, slices_symMergeCmpFunc_int_rank_sorted_int64_c1.l0 (fun z6 h7 => (((∃ m10, slices_symMergeCmpFunc_int_rank_sorted_int64_c1.l1 (fun h9 => (K h9)) m10 a1 a1l a1c z6 a2 h7)))) m8 a1 a1l a1c a2 a5 a3 a4 h))) (((iteB ((IntKind.i64.wrap (a4 - a3)) == (1 : Int)) (((∃ m13, slices_symMergeCmpFunc_int_rank_sorted_int64_c1.l2 (fun z11 h12 => (((∃ m15, slices_symMergeCmpFunc_int_rank_sorted_int64_c1.l3 (fun h14 => (K h14)) m15 a1 a1l a1c z11 a3 h12)))) m13 a1 a1l a1c a3 a5 a2 a3 h))) ((bindV (IntKind.u64.wrap (IntKind.i64.wrap (a2 + a4))) fun n16 => 0 ≤ (1 : Int) ∧ (bindV (IntKind.i64.wrap ((IntKind.i64.wrap (n16.fdiv (2 ^ 1))) + a3)) fun n17 => ((let j39 := (fun (y18 : Int) (y19 : Int) (y20 : Int) => (∃ m23, slices_symMergeCmpFunc_int_rank_sorted_int64_c1.l4 (fun z21 h22 => (((let j38 := (fun (y28 : Int) (h29 : Heap) => let j37 := (fun (h33 : Heap) => iteB (decide (y18 < y28)) ((iteB (decide (y28 < a4)) (callP0 (slices_symMergeCmpFunc_int_rank_sorted_int64_c1_rec a1 a1l a1c y18 y28 a4 a5 h33) fun h36 => K h36) (K h33))) (K h33));
  iteB (decide (a2 < z21)) ((iteB (decide (z21 < y18)) (callP0 (slices_symMergeCmpFunc_int_rank_sorted_int64_c1_rec a1 a1l a1c a2 z21 y18 a5 h29) fun h32 => (j37 h32)) ((j37 h29)))) (((j37 h29))));
  iteB (decide (z21 < a3)) ((iteB (decide (a3 < (IntKind.i64.wrap (n17 - z21)))) (callP0 (slices_rotateCmpFunc_int_rank_sorted_int64_c1 a1 a1l a1c z21 a3 (IntKind.i64.wrap (n17 - z21)) a5 h22) fun h27 => (j38 (IntKind.i64.wrap (n17 - z21)) h27)) ((j38 (IntKind.i64.wrap (n17 - z21)) h22)))) (((j38 (IntKind.i64.wrap (n17 - z21)) h22))))))) m23 a1 a1l a1c a2 a3 a4 a5 y18 n17 y19 y20 (IntKind.i64.wrap (n17 - 1)) h));
  (iteB (decide (a3 > (IntKind.i64.wrap (n16.fdiv (2 ^ 1))))) (((j39 (IntKind.i64.wrap (n16.fdiv (2 ^ 1))) (IntKind.i64.wrap (n17 - a4)) (IntKind.i64.wrap (n16.fdiv (2 ^ 1)))))) (((j39 (IntKind.i64.wrap (n16.fdiv (2 ^ 1))) a2 a3)))))))))))))
def slices_symMergeCmpFunc_int_rank_sorted_int64_c1.ret (K : Heap → Prop) (v : Value) (h : Heap) : Prop := match v with
  | (.tuple ⟨[]⟩) => K h
  | _ => False
theorem slices_symMergeCmpFunc_int_rank_sorted_int64_c1.ret_elim {K : Heap → Prop} {K' : Value → Heap → Prop} {v : Value} {h : Heap} (hk : ∀  h, K h → K' (.tuple #[]) h) (hh : slices_symMergeCmpFunc_int_rank_sorted_int64_c1.ret K v h) : K' v h := by
  unfold slices_symMergeCmpFunc_int_rank_sorted_int64_c1.ret at hh
  split at hh
  · exact hk _ hh
  · exact hh.elim
def slices_symMergeCmpFunc_int_rank_sorted_int64_c1.call (f : FuncId) (vs : List Value) (h : Heap) (K : Value → Heap → Prop) : Prop := match f, vs with
  | 31, [(.int .i64 a1), (.int .i64 a2), (.pointer (some a3))] => callP1 (rank_sorted_int64_c1 a1 a2 a3 h) fun r12 h' => K (.int .i64 r12) h'
  | 50, [(.slice a1 a1l a1c), (.int .i64 a2), (.int .i64 a3), (.int .i64 a4), (.func (.func 31) ⟨[]⟩ ⟨[(.pointer (some a5))]⟩)] => callP0 (slices_symMergeCmpFunc_int_rank_sorted_int64_c1_rec a1 a1l a1c a2 a3 a4 a5 h) fun h' => K (.tuple #[]) h'
  | 56, [(.slice a1 a1l a1c), (.int .i64 a2), (.int .i64 a3), (.int .i64 a4), (.func (.func 31) ⟨[]⟩ ⟨[(.pointer (some a5))]⟩)] => callP0 (slices_rotateCmpFunc_int_rank_sorted_int64_c1 a1 a1l a1c a2 a3 a4 a5 h) fun h' => K (.tuple #[]) h'
  | _, _ => False
def slices_symMergeCmpFunc_int_rank_sorted_int64_c1.r0 (K : Nat → List Value → Heap → Prop) (m : Nat) (vs : List Value) (h : Heap) : Prop := match vs with
  | [(.slice c0_1001 c0_1002 c0_1003), (.int .i64 c1_1004), (.func (.func 31) ⟨[]⟩ ⟨[(.pointer (some c4_1005))]⟩), (.int .i64 v10_1006), (.int .i64 v11_1007)] => slices_symMergeCmpFunc_int_rank_sorted_int64_c1.l0 (fun z40 h' => K 2 [(.slice c0_1001 c0_1002 c0_1003), (.int .i64 c1_1004), (.int .i64 z40)] h') m c0_1001 c0_1002 c0_1003 c1_1004 c4_1005 v10_1006 v11_1007 h
  | _ => False
def slices_symMergeCmpFunc_int_rank_sorted_int64_c1.r1 (K : Nat → List Value → Heap → Prop) (m : Nat) (vs : List Value) (h : Heap) : Prop := match vs with
  | [(.slice c0_2001 c0_2002 c0_2003), (.int .i64 c10_2004), (.int .i64 v13_2005)] => slices_symMergeCmpFunc_int_rank_sorted_int64_c1.l1 (fun h' => K 4 [] h') m c0_2001 c0_2002 c0_2003 c10_2004 v13_2005 h
  | _ => False
def slices_symMergeCmpFunc_int_rank_sorted_int64_c1.r2 (K : Nat → List Value → Heap → Prop) (m : Nat) (vs : List Value) (h : Heap) : Prop := match vs with
  | [(.slice c0_3001 c0_3002 c0_3003), (.int .i64 c2_3004), (.func (.func 31) ⟨[]⟩ ⟨[(.pointer (some c4_3005))]⟩), (.int .i64 v14_3006), (.int .i64 v15_3007)] => slices_symMergeCmpFunc_int_rank_sorted_int64_c1.l2 (fun z41 h' => K 6 [(.slice c0_3001 c0_3002 c0_3003), (.int .i64 c2_3004), (.int .i64 z41)] h') m c0_3001 c0_3002 c0_3003 c2_3004 c4_3005 v14_3006 v15_3007 h
  | _ => False
def slices_symMergeCmpFunc_int_rank_sorted_int64_c1.r3 (K : Nat → List Value → Heap → Prop) (m : Nat) (vs : List Value) (h : Heap) : Prop := match vs with
  | [(.slice c0_4001 c0_4002 c0_4003), (.int .i64 c14_4004), (.int .i64 v17_4005)] => slices_symMergeCmpFunc_int_rank_sorted_int64_c1.l3 (fun h' => K 8 [] h') m c0_4001 c0_4002 c0_4003 c14_4004 v17_4005 h
  | _ => False
def slices_symMergeCmpFunc_int_rank_sorted_int64_c1.r4 (K : Nat → List Value → Heap → Prop) (m : Nat) (vs : List Value) (h : Heap) : Prop := match vs with
  | [(.slice c0_5001 c0_5002 c0_5003), (.int .i64 c1_5004), (.int .i64 c2_5005), (.int .i64 c3_5006), (.func (.func 31) ⟨[]⟩ ⟨[(.pointer (some c4_5007))]⟩), (.int .i64 c18_5008), (.int .i64 c19_5009), (.int .i64 v20_5010), (.int .i64 v21_5011), (.int .i64 c22_5012)] => slices_symMergeCmpFunc_int_rank_sorted_int64_c1.l4 (fun z42 h' => K 10 [(.slice c0_5001 c0_5002 c0_5003), (.int .i64 c1_5004), (.int .i64 c2_5005), (.int .i64 c3_5006), (.func (.func 31) #[] #[(.pointer (some c4_5007))]), (.int .i64 c18_5008), (.int .i64 c19_5009), (.int .i64 z42)] h') m c0_5001 c0_5002 c0_5003 c1_5004 c2_5005 c3_5006 c4_5007 c18_5008 c19_5009 v20_5010 v21_5011 c22_5012 h
  | _ => False
def slices_symMergeCmpFunc_int_rank_sorted_int64_c1.loop (i : Nat) (vs : List Value) (h : Heap) (K : Nat → List Value → Heap → Prop) : Prop := match i with
  | 0 => ∃ m, slices_symMergeCmpFunc_int_rank_sorted_int64_c1.r0 K m vs h
  | 1 => ∃ m, slices_symMergeCmpFunc_int_rank_sorted_int64_c1.r1 K m vs h
  | 2 => ∃ m, slices_symMergeCmpFunc_int_rank_sorted_int64_c1.r2 K m vs h
  | 3 => ∃ m, slices_symMergeCmpFunc_int_rank_sorted_int64_c1.r3 K m vs h
  | 4 => ∃ m, slices_symMergeCmpFunc_int_rank_sorted_int64_c1.r4 K m vs h
  | _ => False
noncomputable def slices_symMergeCmpFunc_int_rank_sorted_int64_c1.ctx : Ctx := { P := Try.prog, hint := fun t => bif Nat.beq t 44 then some 24 else none, call := slices_symMergeCmpFunc_int_rank_sorted_int64_c1.call, qcall := fun _ _ _ _ => False, quiet := fun f => false, loop := slices_symMergeCmpFunc_int_rank_sorted_int64_c1.loop }
theorem slices_symMergeCmpFunc_int_rank_sorted_int64_c1.ok : slices_symMergeCmpFunc_int_rank_sorted_int64_c1.ctx.OK where
  mixed := by kernel_rfl
  mono := by
    intro f args h K K' hh hk
    change slices_symMergeCmpFunc_int_rank_sorted_int64_c1.call f args h K at hh
    change slices_symMergeCmpFunc_int_rank_sorted_int64_c1.call f args h K'
    unfold slices_symMergeCmpFunc_int_rank_sorted_int64_c1.call at hh ⊢
    split at hh
    · obtain ⟨R, h1, h2⟩ := hh
      exact ⟨R, h1, fun _ x hr => hk _ _ (h2 _ x hr)⟩
    · obtain ⟨R, h1, h2⟩ := hh
      exact ⟨R, h1, fun x hr => hk _ _ (h2 x hr)⟩
    · obtain ⟨R, h1, h2⟩ := hh
      exact ⟨R, h1, fun x hr => hk _ _ (h2 x hr)⟩
    · exact hh.elim
  call := by
    intro f args h K hh w hw
    change slices_symMergeCmpFunc_int_rank_sorted_int64_c1.call f args h K at hh
    unfold slices_symMergeCmpFunc_int_rank_sorted_int64_c1.call at hh
    split at hh
    · obtain ⟨R, h1, h2⟩ := hh
      obtain ⟨g1, g2⟩ := rank_sorted_int64_c1.calls h1 w hw
      exact ⟨g1, g2.mono fun e w' ⟨v, he, ho, hr⟩ => ⟨v, he, ho, rank_sorted_int64_c1.ret_elim h2 hr⟩⟩
    · obtain ⟨R, h1, h2⟩ := hh
      obtain ⟨g1, g2⟩ := slices_symMergeCmpFunc_int_rank_sorted_int64_c1_rec.calls h1 w hw
      exact ⟨g1, g2.mono fun e w' ⟨v, he, ho, hr⟩ => ⟨v, he, ho, slices_symMergeCmpFunc_int_rank_sorted_int64_c1_rec.ret_elim h2 hr⟩⟩
    · obtain ⟨R, h1, h2⟩ := hh
      obtain ⟨g1, g2⟩ := slices_rotateCmpFunc_int_rank_sorted_int64_c1.calls h1 w hw
      exact ⟨g1, g2.mono fun e w' ⟨v, he, ho, hr⟩ => ⟨v, he, ho, slices_rotateCmpFunc_int_rank_sorted_int64_c1.ret_elim h2 hr⟩⟩
    · exact hh.elim
  qmono := fun hh _ => hh.elim
  qval := fun hh => hh.elim
  qcall := fun hh => hh.elim
noncomputable def slices_symMergeCmpFunc_int_rank_sorted_int64_c1.code : Code := (Try.f50.body).getD .skip
def slices_symMergeCmpFunc_int_rank_sorted_int64_c1.ann : Ann := (.two (.two .auto (.two (.two .auto (.two .auto (.two (.two (.loop 0 [0, 1, 4, 10, 11] [(2, [0, 1, 10])] (.two .auto (.two (.two .auto (.two (.reg [0, 0, 0, 6, 14, 0, 0, 96, 224, 511, 1023] (.take 0 (.take 1 (.take 2 (.take 3 (.take 4 (.take 5 (.take 6 (.take 7 (.take 8 (.alt 9 (.take 10 .done) .noalt))))))))))) .auto)) .auto))) .auto) (.two (.two .auto (.two (.loop 1 [0, 10, 13] [(4, [])] (.two .auto (.two (.two (.reg [0, 0, 0, 0, 8, 0, 0, 64, 224, 480, 0, 0, 3072, 7168, 16355, 32739, 65535, 131071] (.take 0 (.take 1 (.take 2 (.take 3 (.take 4 (.take 5 (.take 6 (.take 7 (.take 8 (.take 9 (.take 10 (.take 11 (.take 12 (.take 13 (.take 14 (.alt 15 (.take 16 (.alt 17 .done .noalt)) .noalt))))))))))))))))) .auto) .auto))) .auto)) .auto)))) .auto)) (.two (.two .auto (.two (.two .auto (.two .auto (.two (.two (.loop 2 [0, 2, 4, 14, 15] [(6, [0, 2, 14])] (.two .auto (.two (.two .auto (.two (.reg [0, 0, 0, 6, 14, 0, 0, 96, 224, 511, 1023, 2047] (.take 0 (.take 1 (.take 2 (.take 3 (.take 4 (.take 5 (.take 6 (.take 7 (.take 8 (.alt 9 (.take 10 (.take 11 .done)) .noalt))))))))))) .auto)) .auto))) .auto) (.two (.two .auto (.two (.loop 3 [0, 14, 17] [(8, [])] (.two .auto (.two (.two (.reg [0, 0, 0, 0, 8, 0, 0, 64, 224, 480, 0, 0, 3072, 7168, 16355, 32739, 65535, 131071] (.take 0 (.take 1 (.take 2 (.take 3 (.take 4 (.take 5 (.take 6 (.take 7 (.take 8 (.take 9 (.take 10 (.take 11 (.take 12 (.take 13 (.take 14 (.alt 15 (.take 16 (.alt 17 .done .noalt)) .noalt))))))))))))))))) .auto) .auto))) .auto)) .auto)))) .auto)) (.two .auto (.two .auto (.two .auto (.two .auto (.two .auto (.two (.two (.loop 4 [0, 1, 2, 3, 4, 18, 19, 20, 21, 22] [(10, [0, 1, 2, 3, 4, 18, 19, 20])] (.two .auto (.two (.two .auto (.two (.reg [0, 0, 0, 0, 12, 30, 62, 0, 0, 384, 896, 2047, 4095, 8191] (.take 0 (.take 1 (.take 2 (.take 3 (.take 4 (.take 5 (.take 6 (.take 7 (.take 8 (.take 9 (.take 10 (.alt 11 (.take 12 (.take 13 .done)) .noalt))))))))))))) .auto)) .auto))) .auto) .auto))))))))
noncomputable def slices_symMergeCmpFunc_int_rank_sorted_int64_c1.c4 : Code := sub slices_symMergeCmpFunc_int_rank_sorted_int64_c1.code [1, 1, 1, 1, 1, 1, 1, 0, 0, 0]
def slices_symMergeCmpFunc_int_rank_sorted_int64_c1.a4 : Ann := (.two .auto (.two (.two .auto (.two (.reg [0, 0, 0, 0, 12, 30, 62, 0, 0, 384, 896, 2047, 4095, 8191] (.take 0 (.take 1 (.take 2 (.take 3 (.take 4 (.take 5 (.take 6 (.take 7 (.take 8 (.take 9 (.take 10 (.alt 11 (.take 12 (.take 13 .done)) .noalt))))))))))))) .auto)) .auto))
def slices_symMergeCmpFunc_int_rank_sorted_int64_c1.keep4 : List Nat := [0, 1, 2, 3, 4, 18, 19, 20, 21, 22]
def slices_symMergeCmpFunc_int_rank_sorted_int64_c1.outs4 : List (Nat × List Nat) := [(10, [0, 1, 2, 3, 4, 18, 19, 20])]
noncomputable def slices_symMergeCmpFunc_int_rank_sorted_int64_c1.c3 : Code := sub slices_symMergeCmpFunc_int_rank_sorted_int64_c1.code [1, 0, 1, 0, 1, 1, 1, 0, 1, 0, 0]
def slices_symMergeCmpFunc_int_rank_sorted_int64_c1.a3 : Ann := (.two .auto (.two (.two (.reg [0, 0, 0, 0, 8, 0, 0, 64, 224, 480, 0, 0, 3072, 7168, 16355, 32739, 65535, 131071] (.take 0 (.take 1 (.take 2 (.take 3 (.take 4 (.take 5 (.take 6 (.take 7 (.take 8 (.take 9 (.take 10 (.take 11 (.take 12 (.take 13 (.take 14 (.alt 15 (.take 16 (.alt 17 .done .noalt)) .noalt))))))))))))))))) .auto) .auto))
def slices_symMergeCmpFunc_int_rank_sorted_int64_c1.keep3 : List Nat := [0, 14, 17]
def slices_symMergeCmpFunc_int_rank_sorted_int64_c1.outs3 : List (Nat × List Nat) := [(8, [])]
noncomputable def slices_symMergeCmpFunc_int_rank_sorted_int64_c1.c2 : Code := sub slices_symMergeCmpFunc_int_rank_sorted_int64_c1.code [1, 0, 1, 0, 1, 1, 0, 0, 0]
def slices_symMergeCmpFunc_int_rank_sorted_int64_c1.a2 : Ann := (.two .auto (.two (.two .auto (.two (.reg [0, 0, 0, 6, 14, 0, 0, 96, 224, 511, 1023, 2047] (.take 0 (.take 1 (.take 2 (.take 3 (.take 4 (.take 5 (.take 6 (.take 7 (.take 8 (.alt 9 (.take 10 (.take 11 .done)) .noalt))))))))))) .auto)) .auto))
def slices_symMergeCmpFunc_int_rank_sorted_int64_c1.keep2 : List Nat := [0, 2, 4, 14, 15]
def slices_symMergeCmpFunc_int_rank_sorted_int64_c1.outs2 : List (Nat × List Nat) := [(6, [0, 2, 14])]
noncomputable def slices_symMergeCmpFunc_int_rank_sorted_int64_c1.c1 : Code := sub slices_symMergeCmpFunc_int_rank_sorted_int64_c1.code [0, 1, 0, 1, 1, 1, 0, 1, 0, 0]
def slices_symMergeCmpFunc_int_rank_sorted_int64_c1.a1 : Ann := (.two .auto (.two (.two (.reg [0, 0, 0, 0, 8, 0, 0, 64, 224, 480, 0, 0, 3072, 7168, 16355, 32739, 65535, 131071] (.take 0 (.take 1 (.take 2 (.take 3 (.take 4 (.take 5 (.take 6 (.take 7 (.take 8 (.take 9 (.take 10 (.take 11 (.take 12 (.take 13 (.take 14 (.alt 15 (.take 16 (.alt 17 .done .noalt)) .noalt))))))))))))))))) .auto) .auto))
def slices_symMergeCmpFunc_int_rank_sorted_int64_c1.keep1 : List Nat := [0, 10, 13]
def slices_symMergeCmpFunc_int_rank_sorted_int64_c1.outs1 : List (Nat × List Nat) := [(4, [])]
noncomputable def slices_symMergeCmpFunc_int_rank_sorted_int64_c1.c0 : Code := sub slices_symMergeCmpFunc_int_rank_sorted_int64_c1.code [0, 1, 0, 1, 1, 0, 0, 0]
def slices_symMergeCmpFunc_int_rank_sorted_int64_c1.a0 : Ann := (.two .auto (.two (.two .auto (.two (.reg [0, 0, 0, 6, 14, 0, 0, 96, 224, 511, 1023] (.take 0 (.take 1 (.take 2 (.take 3 (.take 4 (.take 5 (.take 6 (.take 7 (.take 8 (.alt 9 (.take 10 .done) .noalt))))))))))) .auto)) .auto))
def slices_symMergeCmpFunc_int_rank_sorted_int64_c1.keep0 : List Nat := [0, 1, 4, 10, 11]
def slices_symMergeCmpFunc_int_rank_sorted_int64_c1.outs0 : List (Nat × List Nat) := [(2, [0, 1, 10])]
set_option maxRecDepth 100000 in
theorem slices_symMergeCmpFunc_int_rank_sorted_int64_c1.L0 : LoopOK slices_symMergeCmpFunc_int_rank_sorted_int64_c1.ctx 220 slices_symMergeCmpFunc_int_rank_sorted_int64_c1.c0 0 slices_symMergeCmpFunc_int_rank_sorted_int64_c1.keep0 slices_symMergeCmpFunc_int_rank_sorted_int64_c1.outs0 := by
  refine loop_ok (n := slices_symMergeCmpFunc_int_rank_sorted_int64_c1.a0) slices_symMergeCmpFunc_int_rank_sorted_int64_c1.ok (by kernel_rfl) (loops_ok (l := []) (by kernel_rfl) ?_) slices_symMergeCmpFunc_int_rank_sorted_int64_c1.r0 ?_ ?_ (fun vs h K hh => hh)
  · exact trivial
  · intro K vs h hh
    unfold slices_symMergeCmpFunc_int_rank_sorted_int64_c1.r0 at hh
    split at hh
    · exact hh
    · exact hh
  · intro K m vs h hh
    unfold slices_symMergeCmpFunc_int_rank_sorted_int64_c1.r0 at hh
    split at hh
    · exact cast (by kernel_rfl) hh
    · exact hh.elim
set_option maxRecDepth 100000 in
theorem slices_symMergeCmpFunc_int_rank_sorted_int64_c1.L1 : LoopOK slices_symMergeCmpFunc_int_rank_sorted_int64_c1.ctx 220 slices_symMergeCmpFunc_int_rank_sorted_int64_c1.c1 1 slices_symMergeCmpFunc_int_rank_sorted_int64_c1.keep1 slices_symMergeCmpFunc_int_rank_sorted_int64_c1.outs1 := by
  refine loop_ok (n := slices_symMergeCmpFunc_int_rank_sorted_int64_c1.a1) slices_symMergeCmpFunc_int_rank_sorted_int64_c1.ok (by kernel_rfl) (loops_ok (l := []) (by kernel_rfl) ?_) slices_symMergeCmpFunc_int_rank_sorted_int64_c1.r1 ?_ ?_ (fun vs h K hh => hh)
  · exact trivial
  · intro K vs h hh
    unfold slices_symMergeCmpFunc_int_rank_sorted_int64_c1.r1 at hh
    split at hh
    · exact hh
    · exact hh
  · intro K m vs h hh
    unfold slices_symMergeCmpFunc_int_rank_sorted_int64_c1.r1 at hh
    split at hh
    · exact cast (by kernel_rfl) hh
    · exact hh.elim
set_option maxRecDepth 100000 in
theorem slices_symMergeCmpFunc_int_rank_sorted_int64_c1.L2 : LoopOK slices_symMergeCmpFunc_int_rank_sorted_int64_c1.ctx 220 slices_symMergeCmpFunc_int_rank_sorted_int64_c1.c2 2 slices_symMergeCmpFunc_int_rank_sorted_int64_c1.keep2 slices_symMergeCmpFunc_int_rank_sorted_int64_c1.outs2 := by
  refine loop_ok (n := slices_symMergeCmpFunc_int_rank_sorted_int64_c1.a2) slices_symMergeCmpFunc_int_rank_sorted_int64_c1.ok (by kernel_rfl) (loops_ok (l := []) (by kernel_rfl) ?_) slices_symMergeCmpFunc_int_rank_sorted_int64_c1.r2 ?_ ?_ (fun vs h K hh => hh)
  · exact trivial
  · intro K vs h hh
    unfold slices_symMergeCmpFunc_int_rank_sorted_int64_c1.r2 at hh
    split at hh
    · exact hh
    · exact hh
  · intro K m vs h hh
    unfold slices_symMergeCmpFunc_int_rank_sorted_int64_c1.r2 at hh
    split at hh
    · exact cast (by kernel_rfl) hh
    · exact hh.elim
set_option maxRecDepth 100000 in
theorem slices_symMergeCmpFunc_int_rank_sorted_int64_c1.L3 : LoopOK slices_symMergeCmpFunc_int_rank_sorted_int64_c1.ctx 220 slices_symMergeCmpFunc_int_rank_sorted_int64_c1.c3 3 slices_symMergeCmpFunc_int_rank_sorted_int64_c1.keep3 slices_symMergeCmpFunc_int_rank_sorted_int64_c1.outs3 := by
  refine loop_ok (n := slices_symMergeCmpFunc_int_rank_sorted_int64_c1.a3) slices_symMergeCmpFunc_int_rank_sorted_int64_c1.ok (by kernel_rfl) (loops_ok (l := []) (by kernel_rfl) ?_) slices_symMergeCmpFunc_int_rank_sorted_int64_c1.r3 ?_ ?_ (fun vs h K hh => hh)
  · exact trivial
  · intro K vs h hh
    unfold slices_symMergeCmpFunc_int_rank_sorted_int64_c1.r3 at hh
    split at hh
    · exact hh
    · exact hh
  · intro K m vs h hh
    unfold slices_symMergeCmpFunc_int_rank_sorted_int64_c1.r3 at hh
    split at hh
    · exact cast (by kernel_rfl) hh
    · exact hh.elim
set_option maxRecDepth 100000 in
theorem slices_symMergeCmpFunc_int_rank_sorted_int64_c1.L4 : LoopOK slices_symMergeCmpFunc_int_rank_sorted_int64_c1.ctx 220 slices_symMergeCmpFunc_int_rank_sorted_int64_c1.c4 4 slices_symMergeCmpFunc_int_rank_sorted_int64_c1.keep4 slices_symMergeCmpFunc_int_rank_sorted_int64_c1.outs4 := by
  refine loop_ok (n := slices_symMergeCmpFunc_int_rank_sorted_int64_c1.a4) slices_symMergeCmpFunc_int_rank_sorted_int64_c1.ok (by kernel_rfl) (loops_ok (l := []) (by kernel_rfl) ?_) slices_symMergeCmpFunc_int_rank_sorted_int64_c1.r4 ?_ ?_ (fun vs h K hh => hh)
  · exact trivial
  · intro K vs h hh
    unfold slices_symMergeCmpFunc_int_rank_sorted_int64_c1.r4 at hh
    split at hh
    · exact hh
    · exact hh
  · intro K m vs h hh
    unfold slices_symMergeCmpFunc_int_rank_sorted_int64_c1.r4 at hh
    split at hh
    · exact cast (by kernel_rfl) hh
    · exact hh.elim
set_option maxRecDepth 100000 in
theorem slices_symMergeCmpFunc_int_rank_sorted_int64_c1.eq (a1 : Option Addr) (a1l : Nat) (a1c : Nat) (a2 : Int) (a3 : Int) (a4 : Int) (a5 : Addr) (h : Heap) (K : Heap → Prop) : evF slices_symMergeCmpFunc_int_rank_sorted_int64_c1.ctx Try.f50 slices_symMergeCmpFunc_int_rank_sorted_int64_c1.ann [(.slice a1 a1l a1c), (.int .i64 a2), (.int .i64 a3), (.int .i64 a4), (.func (.func 31) #[] #[(.pointer (some a5))])] h (slices_symMergeCmpFunc_int_rank_sorted_int64_c1.ret K) = slices_symMergeCmpFunc_int_rank_sorted_int64_c1 a1 a1l a1c a2 a3 a4 a5 h K := by kernel_rfl
set_option maxRecDepth 100000 in
theorem slices_symMergeCmpFunc_int_rank_sorted_int64_c1.calls {a1 : Option Addr} {a1l : Nat} {a1c : Nat} {a2 : Int} {a3 : Int} {a4 : Int} {a5 : Addr} {h : Heap} {K : Heap → Prop} (hh : slices_symMergeCmpFunc_int_rank_sorted_int64_c1 a1 a1l a1c a2 a3 a4 a5 h K) (w : World) (hw : w.heap = h) :
    (callFunc 50 #[(.slice a1 a1l a1c), (.int .i64 a2), (.int .i64 a3), (.int .i64 a4), (.func (.func 31) #[] #[(.pointer (some a5))])]).run Try.prog w = .ok (.enter 50 #[(.slice a1 a1l a1c), (.int .i64 a2), (.int .i64 a3), (.int .i64 a4), (.func (.func 31) #[] #[(.pointer (some a5))])]) w ∧ Calls Try.prog 50 #[(.slice a1 a1l a1c), (.int .i64 a2), (.int .i64 a3), (.int .i64 a4), (.func (.func 31) #[] #[(.pointer (some a5))])] w fun e w' => ∃ v, e = .returned v ∧ Out w w' ∧ slices_symMergeCmpFunc_int_rank_sorted_int64_c1.ret K v w'.heap := by
  rw [← slices_symMergeCmpFunc_int_rank_sorted_int64_c1.eq] at hh
  exact fn_calls (args := [(.slice a1 a1l a1c), (.int .i64 a2), (.int .i64 a3), (.int .i64 a4), (.func (.func 31) #[] #[(.pointer (some a5))])]) (c := slices_symMergeCmpFunc_int_rank_sorted_int64_c1.code) slices_symMergeCmpFunc_int_rank_sorted_int64_c1.ok Try.func50 (by kernel_rfl) (by kernel_rfl) (by kernel_rfl) (by kernel_rfl) (loops_ok (l := [(slices_symMergeCmpFunc_int_rank_sorted_int64_c1.c0, none, 0, slices_symMergeCmpFunc_int_rank_sorted_int64_c1.keep0, slices_symMergeCmpFunc_int_rank_sorted_int64_c1.outs0), (slices_symMergeCmpFunc_int_rank_sorted_int64_c1.c1, none, 1, slices_symMergeCmpFunc_int_rank_sorted_int64_c1.keep1, slices_symMergeCmpFunc_int_rank_sorted_int64_c1.outs1), (slices_symMergeCmpFunc_int_rank_sorted_int64_c1.c2, none, 2, slices_symMergeCmpFunc_int_rank_sorted_int64_c1.keep2, slices_symMergeCmpFunc_int_rank_sorted_int64_c1.outs2), (slices_symMergeCmpFunc_int_rank_sorted_int64_c1.c3, none, 3, slices_symMergeCmpFunc_int_rank_sorted_int64_c1.keep3, slices_symMergeCmpFunc_int_rank_sorted_int64_c1.outs3), (slices_symMergeCmpFunc_int_rank_sorted_int64_c1.c4, none, 4, slices_symMergeCmpFunc_int_rank_sorted_int64_c1.keep4, slices_symMergeCmpFunc_int_rank_sorted_int64_c1.outs4)]) (by kernel_rfl) ⟨slices_symMergeCmpFunc_int_rank_sorted_int64_c1.L0, slices_symMergeCmpFunc_int_rank_sorted_int64_c1.L1, slices_symMergeCmpFunc_int_rank_sorted_int64_c1.L2, slices_symMergeCmpFunc_int_rank_sorted_int64_c1.L3, slices_symMergeCmpFunc_int_rank_sorted_int64_c1.L4, trivial⟩) hh w hw

/-! ### slices.stableCmpFunc[int]: function 36 -/
def slices_stableCmpFunc_int_rank_sorted_int64_c1.b2 (K6 : Int → Heap → Prop) (cont : (Option Addr) → Nat → Nat → Int → Addr → Int → Int → Int → Heap → Prop) (c0_3001 : Option Addr) (c0_3002 : Nat) (c0_3003 : Nat) (c1_3004 : Int) (c2_3005 : Addr) (c6_3006 : Int) (v7_3007 : Int) (v8_3008 : Int) (h3009 : Heap) : Prop :=
  (iteB (decide (v8_3008 ≤ c1_3004)) ((callP0 (slices_symMergeCmpFunc_int_rank_sorted_int64_c1 c0_3001 c0_3002 c0_3003 v7_3007 (IntKind.i64.wrap (v7_3007 + c6_3006)) v8_3008 c2_3005 h3009) fun h3010 => ((bindV (IntKind.i64.wrap (v8_3008 + (IntKind.i64.wrap (2 * c6_3006)))) fun n3011 => cont c0_3001 c0_3002 c0_3003 c1_3004 c2_3005 c6_3006 v8_3008 n3011 h3010)))) (K6 v7_3007 h3009))
def slices_stableCmpFunc_int_rank_sorted_int64_c1.l2 (K6 : Int → Heap → Prop) : Nat → (Option Addr) → Nat → Nat → Int → Addr → Int → Int → Int → Heap → Prop
  | 0, _, _, _, _, _, _, _, _, _ => False
  | m + 1, c0_3001, c0_3002, c0_3003, c1_3004, c2_3005, c6_3006, v7_3007, v8_3008, h => slices_stableCmpFunc_int_rank_sorted_int64_c1.b2 K6 (slices_stableCmpFunc_int_rank_sorted_int64_c1.l2 K6 m) c0_3001 c0_3002 c0_3003 c1_3004 c2_3005 c6_3006 v7_3007 v8_3008 h
def slices_stableCmpFunc_int_rank_sorted_int64_c1.b1 (K4 : Heap → Prop) (cont : (Option Addr) → Nat → Nat → Int → Addr → Int → Heap → Prop) (c0_2001 : Option Addr) (c0_2002 : Nat) (c0_2003 : Nat) (c1_2004 : Int) (c2_2005 : Addr) (v6_2006 : Int) (h2007 : Heap) : Prop :=
  (iteB (decide (v6_2006 < c1_2004)) (((∃ m2010, slices_stableCmpFunc_int_rank_sorted_int64_c1.l2 (fun z2008 h2009 => ((((iteB (decide ((IntKind.i64.wrap (z2008 + v6_2006)) < c1_2004)) (callP0 (slices_symMergeCmpFunc_int_rank_sorted_int64_c1 c0_2001 c0_2002 c0_2003 z2008 (IntKind.i64.wrap (z2008 + v6_2006)) c1_2004 c2_2005 h2009) fun h2011 => ((cont c0_2001 c0_2002 c0_2003 c1_2004 c2_2005 (IntKind.i64.wrap (v6_2006 * 2)) h2011))) (((cont c0_2001 c0_2002 c0_2003 c1_2004 c2_2005 (IntKind.i64.wrap (v6_2006 * 2)) h2009)))))))) m2010 c0_2001 c0_2002 c0_2003 c1_2004 c2_2005 v6_2006 0 (IntKind.i64.wrap (2 * v6_2006)) h2007))) (K4 h2007))
def slices_stableCmpFunc_int_rank_sorted_int64_c1.l1 (K4 : Heap → Prop) : Nat → (Option Addr) → Nat → Nat → Int → Addr → Int → Heap → Prop
  | 0, _, _, _, _, _, _, _ => False
  | m + 1, c0_2001, c0_2002, c0_2003, c1_2004, c2_2005, v6_2006, h => slices_stableCmpFunc_int_rank_sorted_int64_c1.b1 K4 (slices_stableCmpFunc_int_rank_sorted_int64_c1.l1 K4 m) c0_2001 c0_2002 c0_2003 c1_2004 c2_2005 v6_2006 h
def slices_stableCmpFunc_int_rank_sorted_int64_c1.b0 (K2 : Int → Heap → Prop) (cont : (Option Addr) → Nat → Nat → Int → Addr → Int → Int → Heap → Prop) (c0_1001 : Option Addr) (c0_1002 : Nat) (c0_1003 : Nat) (c1_1004 : Int) (c2_1005 : Addr) (v7_1006 : Int) (v8_1007 : Int) (h1008 : Heap) : Prop :=
  (iteB (decide (v8_1007 ≤ c1_1004)) ((callP0 (slices_insertionSortCmpFunc_int_rank_sorted_int64_c1 c0_1001 c0_1002 c0_1003 v7_1006 v8_1007 c2_1005 h1008) fun h1009 => (((cont c0_1001 c0_1002 c0_1003 c1_1004 c2_1005 v8_1007 (IntKind.i64.wrap (v8_1007 + 20)) h1009))))) (K2 v7_1006 h1008))
def slices_stableCmpFunc_int_rank_sorted_int64_c1.l0 (K2 : Int → Heap → Prop) : Nat → (Option Addr) → Nat → Nat → Int → Addr → Int → Int → Heap → Prop
  | 0, _, _, _, _, _, _, _, _ => False
  | m + 1, c0_1001, c0_1002, c0_1003, c1_1004, c2_1005, v7_1006, v8_1007, h => slices_stableCmpFunc_int_rank_sorted_int64_c1.b0 K2 (slices_stableCmpFunc_int_rank_sorted_int64_c1.l0 K2 m) c0_1001 c0_1002 c0_1003 c1_1004 c2_1005 v7_1006 v8_1007 h
def slices_stableCmpFunc_int_rank_sorted_int64_c1 (a1 : Option Addr) (a1l : Nat) (a1c : Nat) (a2 : Int) (a3 : Addr) (h : Heap) (K : Heap → Prop) : Prop :=
  ((∃ m6, slices_stableCmpFunc_int_rank_sorted_int64_c1.l0 (fun z4 h5 => ((callP0 (slices_insertionSortCmpFunc_int_rank_sorted_int64_c1 a1 a1l a1c z4 a2 a3 h5) fun h7 => (∃ m9, slices_stableCmpFunc_int_rank_sorted_int64_c1.l1 (fun h8 => K h8) m9 a1 a1l a1c a2 a3 20 h7)))) m6 a1 a1l a1c a2 a3 0 20 h))
def slices_stableCmpFunc_int_rank_sorted_int64_c1.ret (K : Heap → Prop) (v : Value) (h : Heap) : Prop := match v with
  | (.tuple ⟨[]⟩) => K h
  | _ => False
theorem slices_stableCmpFunc_int_rank_sorted_int64_c1.ret_elim {K : Heap → Prop} {K' : Value → Heap → Prop} {v : Value} {h : Heap} (hk : ∀  h, K h → K' (.tuple #[]) h) (hh : slices_stableCmpFunc_int_rank_sorted_int64_c1.ret K v h) : K' v h := by
  unfold slices_stableCmpFunc_int_rank_sorted_int64_c1.ret at hh
  split at hh
  · exact hk _ hh
  · exact hh.elim
def slices_stableCmpFunc_int_rank_sorted_int64_c1.call (f : FuncId) (vs : List Value) (h : Heap) (K : Value → Heap → Prop) : Prop := match f, vs with
  | 49, [(.slice a1 a1l a1c), (.int .i64 a2), (.int .i64 a3), (.func (.func 31) ⟨[]⟩ ⟨[(.pointer (some a4))]⟩)] => callP0 (slices_insertionSortCmpFunc_int_rank_sorted_int64_c1 a1 a1l a1c a2 a3 a4 h) fun h' => K (.tuple #[]) h'
  | 50, [(.slice a1 a1l a1c), (.int .i64 a2), (.int .i64 a3), (.int .i64 a4), (.func (.func 31) ⟨[]⟩ ⟨[(.pointer (some a5))]⟩)] => callP0 (slices_symMergeCmpFunc_int_rank_sorted_int64_c1 a1 a1l a1c a2 a3 a4 a5 h) fun h' => K (.tuple #[]) h'
  | _, _ => False
def slices_stableCmpFunc_int_rank_sorted_int64_c1.r0 (K : Nat → List Value → Heap → Prop) (m : Nat) (vs : List Value) (h : Heap) : Prop := match vs with
  | [(.slice c0_1001 c0_1002 c0_1003), (.int .i64 c1_1004), (.func (.func 31) ⟨[]⟩ ⟨[(.pointer (some c2_1005))]⟩), (.int .i64 20), (.int .i64 v7_1006), (.int .i64 v8_1007)] => slices_stableCmpFunc_int_rank_sorted_int64_c1.l0 (fun z10 h' => K 2 [(.slice c0_1001 c0_1002 c0_1003), (.int .i64 c1_1004), (.func (.func 31) #[] #[(.pointer (some c2_1005))]), (.int .i64 20), (.int .i64 z10)] h') m c0_1001 c0_1002 c0_1003 c1_1004 c2_1005 v7_1006 v8_1007 h
  | _ => False
def slices_stableCmpFunc_int_rank_sorted_int64_c1.r1 (K : Nat → List Value → Heap → Prop) (m : Nat) (vs : List Value) (h : Heap) : Prop := match vs with
  | [(.slice c0_2001 c0_2002 c0_2003), (.int .i64 c1_2004), (.func (.func 31) ⟨[]⟩ ⟨[(.pointer (some c2_2005))]⟩), (.int .i64 v6_2006)] => slices_stableCmpFunc_int_rank_sorted_int64_c1.l1 (fun h' => K 4 [] h') m c0_2001 c0_2002 c0_2003 c1_2004 c2_2005 v6_2006 h
  | _ => False
def slices_stableCmpFunc_int_rank_sorted_int64_c1.r2 (K : Nat → List Value → Heap → Prop) (m : Nat) (vs : List Value) (h : Heap) : Prop := match vs with
  | [(.slice c0_3001 c0_3002 c0_3003), (.int .i64 c1_3004), (.func (.func 31) ⟨[]⟩ ⟨[(.pointer (some c2_3005))]⟩), (.int .i64 c6_3006), (.int .i64 v7_3007), (.int .i64 v8_3008)] => slices_stableCmpFunc_int_rank_sorted_int64_c1.l2 (fun z11 h' => K 6 [(.slice c0_3001 c0_3002 c0_3003), (.int .i64 c1_3004), (.func (.func 31) #[] #[(.pointer (some c2_3005))]), (.int .i64 c6_3006), (.int .i64 z11)] h') m c0_3001 c0_3002 c0_3003 c1_3004 c2_3005 c6_3006 v7_3007 v8_3008 h
  | _ => False
def slices_stableCmpFunc_int_rank_sorted_int64_c1.loop (i : Nat) (vs : List Value) (h : Heap) (K : Nat → List Value → Heap → Prop) : Prop := match i with
  | 0 => ∃ m, slices_stableCmpFunc_int_rank_sorted_int64_c1.r0 K m vs h
  | 1 => ∃ m, slices_stableCmpFunc_int_rank_sorted_int64_c1.r1 K m vs h
  | 2 => ∃ m, slices_stableCmpFunc_int_rank_sorted_int64_c1.r2 K m vs h
  | _ => False
noncomputable def slices_stableCmpFunc_int_rank_sorted_int64_c1.ctx : Ctx := { P := Try.prog, hint := fun t => bif Nat.beq t 44 then some 24 else none, call := slices_stableCmpFunc_int_rank_sorted_int64_c1.call, qcall := fun _ _ _ _ => False, quiet := fun f => false, loop := slices_stableCmpFunc_int_rank_sorted_int64_c1.loop }
theorem slices_stableCmpFunc_int_rank_sorted_int64_c1.ok : slices_stableCmpFunc_int_rank_sorted_int64_c1.ctx.OK where
  mixed := by kernel_rfl
  mono := by
    intro f args h K K' hh hk
    change slices_stableCmpFunc_int_rank_sorted_int64_c1.call f args h K at hh
    change slices_stableCmpFunc_int_rank_sorted_int64_c1.call f args h K'
    unfold slices_stableCmpFunc_int_rank_sorted_int64_c1.call at hh ⊢
    split at hh
    · obtain ⟨R, h1, h2⟩ := hh
      exact ⟨R, h1, fun x hr => hk _ _ (h2 x hr)⟩
    · obtain ⟨R, h1, h2⟩ := hh
      exact ⟨R, h1, fun x hr => hk _ _ (h2 x hr)⟩
    · exact hh.elim
  call := by
    intro f args h K hh w hw
    change slices_stableCmpFunc_int_rank_sorted_int64_c1.call f args h K at hh
    unfold slices_stableCmpFunc_int_rank_sorted_int64_c1.call at hh
    split at hh
    · obtain ⟨R, h1, h2⟩ := hh
      obtain ⟨g1, g2⟩ := slices_insertionSortCmpFunc_int_rank_sorted_int64_c1.calls h1 w hw
      exact ⟨g1, g2.mono fun e w' ⟨v, he, ho, hr⟩ => ⟨v, he, ho, slices_insertionSortCmpFunc_int_rank_sorted_int64_c1.ret_elim h2 hr⟩⟩
    · obtain ⟨R, h1, h2⟩ := hh
      obtain ⟨g1, g2⟩ := slices_symMergeCmpFunc_int_rank_sorted_int64_c1.calls h1 w hw
      exact ⟨g1, g2.mono fun e w' ⟨v, he, ho, hr⟩ => ⟨v, he, ho, slices_symMergeCmpFunc_int_rank_sorted_int64_c1.ret_elim h2 hr⟩⟩
    · exact hh.elim
  qmono := fun hh _ => hh.elim
  qval := fun hh => hh.elim
  qcall := fun hh => hh.elim
noncomputable def slices_stableCmpFunc_int_rank_sorted_int64_c1.code : Code := (Try.f36.body).getD .skip
def slices_stableCmpFunc_int_rank_sorted_int64_c1.ann : Ann := (.two .auto (.two .auto (.two (.two (.loop 0 [0, 1, 2, 6, 7, 8] [(2, [0, 1, 2, 6, 7])] .auto) .auto) (.two .auto (.two (.loop 1 [0, 1, 2, 6] [(4, [])] (.two .auto (.two (.two .auto (.two (.two (.loop 2 [0, 1, 2, 6, 7, 8] [(6, [0, 1, 2, 6, 7])] .auto) .auto) .auto)) .auto))) .auto)))))
noncomputable def slices_stableCmpFunc_int_rank_sorted_int64_c1.c2 : Code := sub slices_stableCmpFunc_int_rank_sorted_int64_c1.code [1, 1, 1, 1, 0, 0, 1, 0, 1, 0, 0, 0]
def slices_stableCmpFunc_int_rank_sorted_int64_c1.a2 : Ann := .auto
def slices_stableCmpFunc_int_rank_sorted_int64_c1.keep2 : List Nat := [0, 1, 2, 6, 7, 8]
def slices_stableCmpFunc_int_rank_sorted_int64_c1.outs2 : List (Nat × List Nat) := [(6, [0, 1, 2, 6, 7])]
noncomputable def slices_stableCmpFunc_int_rank_sorted_int64_c1.c1 : Code := sub slices_stableCmpFunc_int_rank_sorted_int64_c1.code [1, 1, 1, 1, 0, 0]
def slices_stableCmpFunc_int_rank_sorted_int64_c1.a1 : Ann := (.two .auto (.two (.two .auto (.two (.two (.loop 2 [0, 1, 2, 6, 7, 8] [(6, [0, 1, 2, 6, 7])] .auto) .auto) .auto)) .auto))
def slices_stableCmpFunc_int_rank_sorted_int64_c1.keep1 : List Nat := [0, 1, 2, 6]
def slices_stableCmpFunc_int_rank_sorted_int64_c1.outs1 : List (Nat × List Nat) := [(4, [])]
noncomputable def slices_stableCmpFunc_int_rank_sorted_int64_c1.c0 : Code := sub slices_stableCmpFunc_int_rank_sorted_int64_c1.code [1, 1, 0, 0, 0]
def slices_stableCmpFunc_int_rank_sorted_int64_c1.a0 : Ann := .auto
def slices_stableCmpFunc_int_rank_sorted_int64_c1.keep0 : List Nat := [0, 1, 2, 6, 7, 8]
def slices_stableCmpFunc_int_rank_sorted_int64_c1.outs0 : List (Nat × List Nat) := [(2, [0, 1, 2, 6, 7])]
set_option maxRecDepth 100000 in
theorem slices_stableCmpFunc_int_rank_sorted_int64_c1.L0 : LoopOK slices_stableCmpFunc_int_rank_sorted_int64_c1.ctx 63 slices_stableCmpFunc_int_rank_sorted_int64_c1.c0 0 slices_stableCmpFunc_int_rank_sorted_int64_c1.keep0 slices_stableCmpFunc_int_rank_sorted_int64_c1.outs0 := by
  refine loop_ok (n := slices_stableCmpFunc_int_rank_sorted_int64_c1.a0) slices_stableCmpFunc_int_rank_sorted_int64_c1.ok (by kernel_rfl) (loops_ok (l := []) (by kernel_rfl) ?_) slices_stableCmpFunc_int_rank_sorted_int64_c1.r0 ?_ ?_ (fun vs h K hh => hh)
  · exact trivial
  · intro K vs h hh
    unfold slices_stableCmpFunc_int_rank_sorted_int64_c1.r0 at hh
    split at hh
    · exact hh
    · exact hh
  · intro K m vs h hh
    unfold slices_stableCmpFunc_int_rank_sorted_int64_c1.r0 at hh
    split at hh
    · exact cast (by kernel_rfl) hh
    · exact hh.elim
set_option maxRecDepth 100000 in
theorem slices_stableCmpFunc_int_rank_sorted_int64_c1.L2 : LoopOK slices_stableCmpFunc_int_rank_sorted_int64_c1.ctx 63 slices_stableCmpFunc_int_rank_sorted_int64_c1.c2 2 slices_stableCmpFunc_int_rank_sorted_int64_c1.keep2 slices_stableCmpFunc_int_rank_sorted_int64_c1.outs2 := by
  refine loop_ok (n := slices_stableCmpFunc_int_rank_sorted_int64_c1.a2) slices_stableCmpFunc_int_rank_sorted_int64_c1.ok (by kernel_rfl) (loops_ok (l := []) (by kernel_rfl) ?_) slices_stableCmpFunc_int_rank_sorted_int64_c1.r2 ?_ ?_ (fun vs h K hh => hh)
  · exact trivial
  · intro K vs h hh
    unfold slices_stableCmpFunc_int_rank_sorted_int64_c1.r2 at hh
    split at hh
    · exact hh
    · exact hh
  · intro K m vs h hh
    unfold slices_stableCmpFunc_int_rank_sorted_int64_c1.r2 at hh
    split at hh
    · exact cast (by kernel_rfl) hh
    · exact hh.elim
set_option maxRecDepth 100000 in
theorem slices_stableCmpFunc_int_rank_sorted_int64_c1.L1 : LoopOK slices_stableCmpFunc_int_rank_sorted_int64_c1.ctx 63 slices_stableCmpFunc_int_rank_sorted_int64_c1.c1 1 slices_stableCmpFunc_int_rank_sorted_int64_c1.keep1 slices_stableCmpFunc_int_rank_sorted_int64_c1.outs1 := by
  refine loop_ok (n := slices_stableCmpFunc_int_rank_sorted_int64_c1.a1) slices_stableCmpFunc_int_rank_sorted_int64_c1.ok (by kernel_rfl) (loops_ok (l := [(slices_stableCmpFunc_int_rank_sorted_int64_c1.c2, none, 2, slices_stableCmpFunc_int_rank_sorted_int64_c1.keep2, slices_stableCmpFunc_int_rank_sorted_int64_c1.outs2)]) (by kernel_rfl) ?_) slices_stableCmpFunc_int_rank_sorted_int64_c1.r1 ?_ ?_ (fun vs h K hh => hh)
  · exact ⟨slices_stableCmpFunc_int_rank_sorted_int64_c1.L2, trivial⟩
  · intro K vs h hh
    unfold slices_stableCmpFunc_int_rank_sorted_int64_c1.r1 at hh
    split at hh
    · exact hh
    · exact hh
  · intro K m vs h hh
    unfold slices_stableCmpFunc_int_rank_sorted_int64_c1.r1 at hh
    split at hh
    · exact cast (by kernel_rfl) hh
    · exact hh.elim
set_option maxRecDepth 100000 in
theorem slices_stableCmpFunc_int_rank_sorted_int64_c1.eq (a1 : Option Addr) (a1l : Nat) (a1c : Nat) (a2 : Int) (a3 : Addr) (h : Heap) (K : Heap → Prop) : evF slices_stableCmpFunc_int_rank_sorted_int64_c1.ctx Try.f36 slices_stableCmpFunc_int_rank_sorted_int64_c1.ann [(.slice a1 a1l a1c), (.int .i64 a2), (.func (.func 31) #[] #[(.pointer (some a3))])] h (slices_stableCmpFunc_int_rank_sorted_int64_c1.ret K) = slices_stableCmpFunc_int_rank_sorted_int64_c1 a1 a1l a1c a2 a3 h K := by kernel_rfl
set_option maxRecDepth 100000 in
theorem slices_stableCmpFunc_int_rank_sorted_int64_c1.calls {a1 : Option Addr} {a1l : Nat} {a1c : Nat} {a2 : Int} {a3 : Addr} {h : Heap} {K : Heap → Prop} (hh : slices_stableCmpFunc_int_rank_sorted_int64_c1 a1 a1l a1c a2 a3 h K) (w : World) (hw : w.heap = h) :
    (callFunc 36 #[(.slice a1 a1l a1c), (.int .i64 a2), (.func (.func 31) #[] #[(.pointer (some a3))])]).run Try.prog w = .ok (.enter 36 #[(.slice a1 a1l a1c), (.int .i64 a2), (.func (.func 31) #[] #[(.pointer (some a3))])]) w ∧ Calls Try.prog 36 #[(.slice a1 a1l a1c), (.int .i64 a2), (.func (.func 31) #[] #[(.pointer (some a3))])] w fun e w' => ∃ v, e = .returned v ∧ Out w w' ∧ slices_stableCmpFunc_int_rank_sorted_int64_c1.ret K v w'.heap := by
  rw [← slices_stableCmpFunc_int_rank_sorted_int64_c1.eq] at hh
  exact fn_calls (args := [(.slice a1 a1l a1c), (.int .i64 a2), (.func (.func 31) #[] #[(.pointer (some a3))])]) (c := slices_stableCmpFunc_int_rank_sorted_int64_c1.code) slices_stableCmpFunc_int_rank_sorted_int64_c1.ok Try.func36 (by kernel_rfl) (by kernel_rfl) (by kernel_rfl) (by kernel_rfl) (loops_ok (l := [(slices_stableCmpFunc_int_rank_sorted_int64_c1.c0, none, 0, slices_stableCmpFunc_int_rank_sorted_int64_c1.keep0, slices_stableCmpFunc_int_rank_sorted_int64_c1.outs0), (slices_stableCmpFunc_int_rank_sorted_int64_c1.c1, none, 1, slices_stableCmpFunc_int_rank_sorted_int64_c1.keep1, slices_stableCmpFunc_int_rank_sorted_int64_c1.outs1)]) (by kernel_rfl) ⟨slices_stableCmpFunc_int_rank_sorted_int64_c1.L0, slices_stableCmpFunc_int_rank_sorted_int64_c1.L1, trivial⟩) hh w hw

/-! ### slices.SortStableFunc[[]int,int]: function 30 -/
def slices_SortStableFunc_Lint_int_rank_sorted_int64_c1 (a1 : Option Addr) (a1l : Nat) (a1c : Nat) (a2 : Addr) (h : Heap) (K : Heap → Prop) : Prop :=
  callP0 (slices_stableCmpFunc_int_rank_sorted_int64_c1 a1 a1l a1c (a1l : Int) a2 h) fun h3 => K h3
def slices_SortStableFunc_Lint_int_rank_sorted_int64_c1.ret (K : Heap → Prop) (v : Value) (h : Heap) : Prop := match v with
  | (.tuple ⟨[]⟩) => K h
  | _ => False
theorem slices_SortStableFunc_Lint_int_rank_sorted_int64_c1.ret_elim {K : Heap → Prop} {K' : Value → Heap → Prop} {v : Value} {h : Heap} (hk : ∀  h, K h → K' (.tuple #[]) h) (hh : slices_SortStableFunc_Lint_int_rank_sorted_int64_c1.ret K v h) : K' v h := by
  unfold slices_SortStableFunc_Lint_int_rank_sorted_int64_c1.ret at hh
  split at hh
  · exact hk _ hh
  · exact hh.elim
def slices_SortStableFunc_Lint_int_rank_sorted_int64_c1.call (f : FuncId) (vs : List Value) (h : Heap) (K : Value → Heap → Prop) : Prop := match f, vs with
  | 36, [(.slice a1 a1l a1c), (.int .i64 a2), (.func (.func 31) ⟨[]⟩ ⟨[(.pointer (some a3))]⟩)] => callP0 (slices_stableCmpFunc_int_rank_sorted_int64_c1 a1 a1l a1c a2 a3 h) fun h' => K (.tuple #[]) h'
  | _, _ => False
noncomputable def slices_SortStableFunc_Lint_int_rank_sorted_int64_c1.ctx : Ctx := { P := Try.prog, hint := fun t => bif Nat.beq t 44 then some 24 else none, call := slices_SortStableFunc_Lint_int_rank_sorted_int64_c1.call, qcall := fun _ _ _ _ => False, quiet := fun f => false, loop := fun _ _ _ _ => False }
theorem slices_SortStableFunc_Lint_int_rank_sorted_int64_c1.ok : slices_SortStableFunc_Lint_int_rank_sorted_int64_c1.ctx.OK where
  mixed := by kernel_rfl
  mono := by
    intro f args h K K' hh hk
    change slices_SortStableFunc_Lint_int_rank_sorted_int64_c1.call f args h K at hh
    change slices_SortStableFunc_Lint_int_rank_sorted_int64_c1.call f args h K'
    unfold slices_SortStableFunc_Lint_int_rank_sorted_int64_c1.call at hh ⊢
    split at hh
    · obtain ⟨R, h1, h2⟩ := hh
      exact ⟨R, h1, fun x hr => hk _ _ (h2 x hr)⟩
    · exact hh.elim
  call := by
    intro f args h K hh w hw
    change slices_SortStableFunc_Lint_int_rank_sorted_int64_c1.call f args h K at hh
    unfold slices_SortStableFunc_Lint_int_rank_sorted_int64_c1.call at hh
    split at hh
    · obtain ⟨R, h1, h2⟩ := hh
      obtain ⟨g1, g2⟩ := slices_stableCmpFunc_int_rank_sorted_int64_c1.calls h1 w hw
      exact ⟨g1, g2.mono fun e w' ⟨v, he, ho, hr⟩ => ⟨v, he, ho, slices_stableCmpFunc_int_rank_sorted_int64_c1.ret_elim h2 hr⟩⟩
    · exact hh.elim
  qmono := fun hh _ => hh.elim
  qval := fun hh => hh.elim
  qcall := fun hh => hh.elim
noncomputable def slices_SortStableFunc_Lint_int_rank_sorted_int64_c1.code : Code := (Try.f30.body).getD .skip
def slices_SortStableFunc_Lint_int_rank_sorted_int64_c1.ann : Ann := .auto
set_option maxRecDepth 100000 in
theorem slices_SortStableFunc_Lint_int_rank_sorted_int64_c1.eq (a1 : Option Addr) (a1l : Nat) (a1c : Nat) (a2 : Addr) (h : Heap) (K : Heap → Prop) : evF slices_SortStableFunc_Lint_int_rank_sorted_int64_c1.ctx Try.f30 slices_SortStableFunc_Lint_int_rank_sorted_int64_c1.ann [(.slice a1 a1l a1c), (.func (.func 31) #[] #[(.pointer (some a2))])] h (slices_SortStableFunc_Lint_int_rank_sorted_int64_c1.ret K) = slices_SortStableFunc_Lint_int_rank_sorted_int64_c1 a1 a1l a1c a2 h K := by kernel_rfl
set_option maxRecDepth 100000 in
theorem slices_SortStableFunc_Lint_int_rank_sorted_int64_c1.calls {a1 : Option Addr} {a1l : Nat} {a1c : Nat} {a2 : Addr} {h : Heap} {K : Heap → Prop} (hh : slices_SortStableFunc_Lint_int_rank_sorted_int64_c1 a1 a1l a1c a2 h K) (w : World) (hw : w.heap = h) :
    (callFunc 30 #[(.slice a1 a1l a1c), (.func (.func 31) #[] #[(.pointer (some a2))])]).run Try.prog w = .ok (.enter 30 #[(.slice a1 a1l a1c), (.func (.func 31) #[] #[(.pointer (some a2))])]) w ∧ Calls Try.prog 30 #[(.slice a1 a1l a1c), (.func (.func 31) #[] #[(.pointer (some a2))])] w fun e w' => ∃ v, e = .returned v ∧ Out w w' ∧ slices_SortStableFunc_Lint_int_rank_sorted_int64_c1.ret K v w'.heap := by
  rw [← slices_SortStableFunc_Lint_int_rank_sorted_int64_c1.eq] at hh
  exact fn_calls (args := [(.slice a1 a1l a1c), (.func (.func 31) #[] #[(.pointer (some a2))])]) (c := slices_SortStableFunc_Lint_int_rank_sorted_int64_c1.code) slices_SortStableFunc_Lint_int_rank_sorted_int64_c1.ok Try.func30 (by kernel_rfl) (by kernel_rfl) (by kernel_rfl) (by kernel_rfl) (loops_ok (l := []) (by kernel_rfl) trivial) hh w hw

/-! ### strait/rank.sorted[int64]: function 23 -/
def rank_sorted_int64_rank_By_c1 (a1 : Int) (a2 : Addr) (h : Heap) (K : (Option Addr) → Nat → Nat → Heap → Prop) : Prop :=
  newP h (.cells #[(.func (.func 24) #[] #[(.pointer (some a2))])] 44) fun a3 h4 => (callP3 (rank_places a1 h4) fun x5 x5l x5c h6 => (callP0 (slices_SortStableFunc_Lint_int_rank_sorted_int64_c1 x5 x5l x5c a3 h6) fun h7 => K x5 x5l x5c h7))
def rank_sorted_int64_rank_By_c1.ret (K : (Option Addr) → Nat → Nat → Heap → Prop) (v : Value) (h : Heap) : Prop := match v with
  | (.slice r8 r8l r8c) => K r8 r8l r8c h
  | _ => False
theorem rank_sorted_int64_rank_By_c1.ret_elim {K : (Option Addr) → Nat → Nat → Heap → Prop} {K' : Value → Heap → Prop} {v : Value} {h : Heap} (hk : ∀ r8 r8l r8c h, K r8 r8l r8c h → K' (.slice r8 r8l r8c) h) (hh : rank_sorted_int64_rank_By_c1.ret K v h) : K' v h := by
  unfold rank_sorted_int64_rank_By_c1.ret at hh
  split at hh
  · exact hk _ _ _ _ hh
  · exact hh.elim
def rank_sorted_int64_rank_By_c1.call (f : FuncId) (vs : List Value) (h : Heap) (K : Value → Heap → Prop) : Prop := match f, vs with
  | 29, [(.int .i64 a1)] => callP3 (rank_places a1 h) fun r6 r6l r6c h' => K (.slice r6 r6l r6c) h'
  | 30, [(.slice a1 a1l a1c), (.func (.func 31) ⟨[]⟩ ⟨[(.pointer (some a2))]⟩)] => callP0 (slices_SortStableFunc_Lint_int_rank_sorted_int64_c1 a1 a1l a1c a2 h) fun h' => K (.tuple #[]) h'
  | _, _ => False
noncomputable def rank_sorted_int64_rank_By_c1.ctx : Ctx := { P := Try.prog, hint := fun t => bif Nat.beq t 44 then some 24 else none, call := rank_sorted_int64_rank_By_c1.call, qcall := fun _ _ _ _ => False, quiet := fun f => false, loop := fun _ _ _ _ => False }
theorem rank_sorted_int64_rank_By_c1.ok : rank_sorted_int64_rank_By_c1.ctx.OK where
  mixed := by kernel_rfl
  mono := by
    intro f args h K K' hh hk
    change rank_sorted_int64_rank_By_c1.call f args h K at hh
    change rank_sorted_int64_rank_By_c1.call f args h K'
    unfold rank_sorted_int64_rank_By_c1.call at hh ⊢
    split at hh
    · obtain ⟨R, h1, h2⟩ := hh
      exact ⟨R, h1, fun _ _ _ x hr => hk _ _ (h2 _ _ _ x hr)⟩
    · obtain ⟨R, h1, h2⟩ := hh
      exact ⟨R, h1, fun x hr => hk _ _ (h2 x hr)⟩
    · exact hh.elim
  call := by
    intro f args h K hh w hw
    change rank_sorted_int64_rank_By_c1.call f args h K at hh
    unfold rank_sorted_int64_rank_By_c1.call at hh
    split at hh
    · obtain ⟨R, h1, h2⟩ := hh
      obtain ⟨g1, g2⟩ := rank_places.calls h1 w hw
      exact ⟨g1, g2.mono fun e w' ⟨v, he, ho, hr⟩ => ⟨v, he, ho, rank_places.ret_elim h2 hr⟩⟩
    · obtain ⟨R, h1, h2⟩ := hh
      obtain ⟨g1, g2⟩ := slices_SortStableFunc_Lint_int_rank_sorted_int64_c1.calls h1 w hw
      exact ⟨g1, g2.mono fun e w' ⟨v, he, ho, hr⟩ => ⟨v, he, ho, slices_SortStableFunc_Lint_int_rank_sorted_int64_c1.ret_elim h2 hr⟩⟩
    · exact hh.elim
  qmono := fun hh _ => hh.elim
  qval := fun hh => hh.elim
  qcall := fun hh => hh.elim
noncomputable def rank_sorted_int64_rank_By_c1.code : Code := (Try.f23.body).getD .skip
def rank_sorted_int64_rank_By_c1.ann : Ann := .auto
set_option maxRecDepth 100000 in
theorem rank_sorted_int64_rank_By_c1.eq (a1 : Int) (a2 : Addr) (h : Heap) (K : (Option Addr) → Nat → Nat → Heap → Prop) : evF rank_sorted_int64_rank_By_c1.ctx Try.f23 rank_sorted_int64_rank_By_c1.ann [(.int .i64 a1), (.func (.func 24) #[] #[(.pointer (some a2))])] h (rank_sorted_int64_rank_By_c1.ret K) = rank_sorted_int64_rank_By_c1 a1 a2 h K := by kernel_rfl
set_option maxRecDepth 100000 in
theorem rank_sorted_int64_rank_By_c1.calls {a1 : Int} {a2 : Addr} {h : Heap} {K : (Option Addr) → Nat → Nat → Heap → Prop} (hh : rank_sorted_int64_rank_By_c1 a1 a2 h K) (w : World) (hw : w.heap = h) :
    (callFunc 23 #[(.int .i64 a1), (.func (.func 24) #[] #[(.pointer (some a2))])]).run Try.prog w = .ok (.enter 23 #[(.int .i64 a1), (.func (.func 24) #[] #[(.pointer (some a2))])]) w ∧ Calls Try.prog 23 #[(.int .i64 a1), (.func (.func 24) #[] #[(.pointer (some a2))])] w fun e w' => ∃ v, e = .returned v ∧ Out w w' ∧ rank_sorted_int64_rank_By_c1.ret K v w'.heap := by
  rw [← rank_sorted_int64_rank_By_c1.eq] at hh
  exact fn_calls (args := [(.int .i64 a1), (.func (.func 24) #[] #[(.pointer (some a2))])]) (c := rank_sorted_int64_rank_By_c1.code) rank_sorted_int64_rank_By_c1.ok Try.func23 (by kernel_rfl) (by kernel_rfl) (by kernel_rfl) (by kernel_rfl) (loops_ok (l := []) (by kernel_rfl) trivial) hh w hw

/-! ### strait/rank.By: function 10 -/
def rank_By (a1 : Option Addr) (a1l : Nat) (a1c : Nat) (h : Heap) (K : (Option Addr) → Nat → Nat → Heap → Prop) : Prop :=
  newP h (.cells #[(.slice a1 a1l a1c)] 22) fun a2 h3 => (∃ (x4 : Option Addr) (x4l : Nat) (x4c : Nat), cell h3 a2 = some (.slice x4 x4l x4c) ∧ callP3 (rank_sorted_int64_rank_By_c1 (x4l : Int) a2 h3) fun x5 x5l x5c h6 => K x5 x5l x5c h6)
def rank_By.ret (K : (Option Addr) → Nat → Nat → Heap → Prop) (v : Value) (h : Heap) : Prop := match v with
  | (.slice r7 r7l r7c) => K r7 r7l r7c h
  | _ => False
theorem rank_By.ret_elim {K : (Option Addr) → Nat → Nat → Heap → Prop} {K' : Value → Heap → Prop} {v : Value} {h : Heap} (hk : ∀ r7 r7l r7c h, K r7 r7l r7c h → K' (.slice r7 r7l r7c) h) (hh : rank_By.ret K v h) : K' v h := by
  unfold rank_By.ret at hh
  split at hh
  · exact hk _ _ _ _ hh
  · exact hh.elim
def rank_By.call (f : FuncId) (vs : List Value) (h : Heap) (K : Value → Heap → Prop) : Prop := match f, vs with
  | 23, [(.int .i64 a1), (.func (.func 24) ⟨[]⟩ ⟨[(.pointer (some a2))]⟩)] => callP3 (rank_sorted_int64_rank_By_c1 a1 a2 h) fun r8 r8l r8c h' => K (.slice r8 r8l r8c) h'
  | _, _ => False
noncomputable def rank_By.ctx : Ctx := { P := Try.prog, hint := fun t => bif Nat.beq t 44 then some 24 else none, call := rank_By.call, qcall := fun _ _ _ _ => False, quiet := fun f => false, loop := fun _ _ _ _ => False }
theorem rank_By.ok : rank_By.ctx.OK where
  mixed := by kernel_rfl
  mono := by
    intro f args h K K' hh hk
    change rank_By.call f args h K at hh
    change rank_By.call f args h K'
    unfold rank_By.call at hh ⊢
    split at hh
    · obtain ⟨R, h1, h2⟩ := hh
      exact ⟨R, h1, fun _ _ _ x hr => hk _ _ (h2 _ _ _ x hr)⟩
    · exact hh.elim
  call := by
    intro f args h K hh w hw
    change rank_By.call f args h K at hh
    unfold rank_By.call at hh
    split at hh
    · obtain ⟨R, h1, h2⟩ := hh
      obtain ⟨g1, g2⟩ := rank_sorted_int64_rank_By_c1.calls h1 w hw
      exact ⟨g1, g2.mono fun e w' ⟨v, he, ho, hr⟩ => ⟨v, he, ho, rank_sorted_int64_rank_By_c1.ret_elim h2 hr⟩⟩
    · exact hh.elim
  qmono := fun hh _ => hh.elim
  qval := fun hh => hh.elim
  qcall := fun hh => hh.elim
noncomputable def rank_By.code : Code := (Try.f10.body).getD .skip
def rank_By.ann : Ann := .auto
set_option maxRecDepth 100000 in
theorem rank_By.eq (a1 : Option Addr) (a1l : Nat) (a1c : Nat) (h : Heap) (K : (Option Addr) → Nat → Nat → Heap → Prop) : evF rank_By.ctx Try.f10 rank_By.ann [(.slice a1 a1l a1c)] h (rank_By.ret K) = rank_By a1 a1l a1c h K := by kernel_rfl
set_option maxRecDepth 100000 in
theorem rank_By.calls {a1 : Option Addr} {a1l : Nat} {a1c : Nat} {h : Heap} {K : (Option Addr) → Nat → Nat → Heap → Prop} (hh : rank_By a1 a1l a1c h K) (w : World) (hw : w.heap = h) :
    (callFunc 10 #[(.slice a1 a1l a1c)]).run Try.prog w = .ok (.enter 10 #[(.slice a1 a1l a1c)]) w ∧ Calls Try.prog 10 #[(.slice a1 a1l a1c)] w fun e w' => ∃ v, e = .returned v ∧ Out w w' ∧ rank_By.ret K v w'.heap := by
  rw [← rank_By.eq] at hh
  exact fn_calls (args := [(.slice a1 a1l a1c)]) (c := rank_By.code) rank_By.ok Try.func10 (by kernel_rfl) (by kernel_rfl) (by kernel_rfl) (by kernel_rfl) (loops_ok (l := []) (by kernel_rfl) trivial) hh w hw

/-! ### strait/straitref09.Ints: function 9 -/
def straitref09_Ints.b0 (K0 : Bool → Heap → Prop) (K2 : Heap → Prop) (cont : (Option Addr) → Nat → Nat → (Option Addr) → Nat → Nat → Int → Heap → Prop) (c0_1001 : Option Addr) (c0_1002 : Nat) (c0_1003 : Nat) (c1_1004 : Option Addr) (c1_1005 : Nat) (c1_1006 : Nat) (v5_1007 : Int) (h1008 : Heap) : Prop :=
  (iteB (decide (v5_1007 < (c0_1002 : Int))) ((chkP c0_1001 fun a1009 => (0 ≤ v5_1007 ∧ v5_1007 < (c0_1002 : Int)) ∧ ∃ (x1010 : Int), cell h1008 (a1009.add (v5_1007.toNat * 1)) = some (.int .i64 x1010) ∧ chkP c1_1004 fun a1011 => (0 ≤ v5_1007 ∧ v5_1007 < (c1_1005 : Int)) ∧ ∃ (x1012 : Int), cell h1008 (a1011.add (v5_1007.toNat * 1)) = some (.int .i64 x1012) ∧ (iteB (x1010 != x1012) (K0 false h1008) (((cont c0_1001 c0_1002 c0_1003 c1_1004 c1_1005 c1_1006 (IntKind.i64.wrap (v5_1007 + 1)) h1008)))))) (K2 h1008))
def straitref09_Ints.l0 (K0 : Bool → Heap → Prop) (K2 : Heap → Prop) : Nat → (Option Addr) → Nat → Nat → (Option Addr) → Nat → Nat → Int → Heap → Prop
  | 0, _, _, _, _, _, _, _, _ => False
  | m + 1, c0_1001, c0_1002, c0_1003, c1_1004, c1_1005, c1_1006, v5_1007, h => straitref09_Ints.b0 K0 K2 (straitref09_Ints.l0 K0 K2 m) c0_1001 c0_1002 c0_1003 c1_1004 c1_1005 c1_1006 v5_1007 h
def straitref09_Ints (a1 : Option Addr) (a1l : Nat) (a1c : Nat) (a2 : Option Addr) (a2l : Nat) (a2c : Nat) (h : Heap) (K : Bool → Heap → Prop) : Prop :=
  ((iteB ((a1l : Int) != (a2l : Int)) (K false h) (((∃ m6, straitref09_Ints.l0 (fun z3 h4 => K z3 h4) (fun h5 => (K true h5)) m6 a1 a1l a1c a2 a2l a2c 0 h)))))
def straitref09_Ints.ret (K : Bool → Heap → Prop) (v : Value) (h : Heap) : Prop := match v with
  | (.bool r7) => K r7 h
  | _ => False
theorem straitref09_Ints.ret_elim {K : Bool → Heap → Prop} {K' : Value → Heap → Prop} {v : Value} {h : Heap} (hk : ∀ r7 h, K r7 h → K' (.bool r7) h) (hh : straitref09_Ints.ret K v h) : K' v h := by
  unfold straitref09_Ints.ret at hh
  split at hh
  · exact hk _ _ hh
  · exact hh.elim
def straitref09_Ints.r0 (K : Nat → List Value → Heap → Prop) (m : Nat) (vs : List Value) (h : Heap) : Prop := match vs with
  | [(.slice c0_1001 c0_1002 c0_1003), (.slice c1_1004 c1_1005 c1_1006), (.int .i64 v5_1007)] => straitref09_Ints.l0 (fun z8 h' => K 0 [(.bool z8)] h') (fun h' => K 2 [] h') m c0_1001 c0_1002 c0_1003 c1_1004 c1_1005 c1_1006 v5_1007 h
  | _ => False
def straitref09_Ints.loop (i : Nat) (vs : List Value) (h : Heap) (K : Nat → List Value → Heap → Prop) : Prop := match i with
  | 0 => ∃ m, straitref09_Ints.r0 K m vs h
  | _ => False
noncomputable def straitref09_Ints.ctx : Ctx := { P := Try.prog, hint := fun t => bif Nat.beq t 44 then some 24 else none, call := fun _ _ _ _ => False, qcall := fun _ _ _ _ => False, quiet := fun f => false, loop := straitref09_Ints.loop }
theorem straitref09_Ints.ok : straitref09_Ints.ctx.OK where
  mixed := by kernel_rfl
  mono := fun hh _ => hh.elim
  call := fun hh => hh.elim
  qmono := fun hh _ => hh.elim
  qval := fun hh => hh.elim
  qcall := fun hh => hh.elim
noncomputable def straitref09_Ints.code : Code := (Try.f9.body).getD .skip
def straitref09_Ints.ann : Ann := (.two .auto (.two .auto (.two (.two .auto (.two (.loop 0 [0, 1, 5] [(2, []), (0, [4])] (.two .auto (.two (.two (.two (.reg [0, 0, 3, 7, 0, 0, 48, 112, 255] (.take 0 (.take 1 (.take 2 (.take 3 (.take 4 (.take 5 (.take 6 (.take 7 (.take 8 .done)))))))))) .auto) .auto) .auto))) .auto)) .auto)))
noncomputable def straitref09_Ints.c0 : Code := sub straitref09_Ints.code [1, 1, 0, 1, 0, 0]
def straitref09_Ints.a0 : Ann := (.two .auto (.two (.two (.two (.reg [0, 0, 3, 7, 0, 0, 48, 112, 255] (.take 0 (.take 1 (.take 2 (.take 3 (.take 4 (.take 5 (.take 6 (.take 7 (.take 8 .done)))))))))) .auto) .auto) .auto))
def straitref09_Ints.keep0 : List Nat := [0, 1, 5]
def straitref09_Ints.outs0 : List (Nat × List Nat) := [(2, []), (0, [4])]
set_option maxRecDepth 100000 in
theorem straitref09_Ints.L0 : LoopOK straitref09_Ints.ctx 26 straitref09_Ints.c0 0 straitref09_Ints.keep0 straitref09_Ints.outs0 := by
  refine loop_ok (n := straitref09_Ints.a0) straitref09_Ints.ok (by kernel_rfl) (loops_ok (l := []) (by kernel_rfl) ?_) straitref09_Ints.r0 ?_ ?_ (fun vs h K hh => hh)
  · exact trivial
  · intro K vs h hh
    unfold straitref09_Ints.r0 at hh
    split at hh
    · exact hh
    · exact hh
  · intro K m vs h hh
    unfold straitref09_Ints.r0 at hh
    split at hh
    · exact cast (by kernel_rfl) hh
    · exact hh.elim
set_option maxRecDepth 100000 in
theorem straitref09_Ints.eq (a1 : Option Addr) (a1l : Nat) (a1c : Nat) (a2 : Option Addr) (a2l : Nat) (a2c : Nat) (h : Heap) (K : Bool → Heap → Prop) : evF straitref09_Ints.ctx Try.f9 straitref09_Ints.ann [(.slice a1 a1l a1c), (.slice a2 a2l a2c)] h (straitref09_Ints.ret K) = straitref09_Ints a1 a1l a1c a2 a2l a2c h K := by kernel_rfl
set_option maxRecDepth 100000 in
theorem straitref09_Ints.calls {a1 : Option Addr} {a1l : Nat} {a1c : Nat} {a2 : Option Addr} {a2l : Nat} {a2c : Nat} {h : Heap} {K : Bool → Heap → Prop} (hh : straitref09_Ints a1 a1l a1c a2 a2l a2c h K) (w : World) (hw : w.heap = h) :
    (callFunc 9 #[(.slice a1 a1l a1c), (.slice a2 a2l a2c)]).run Try.prog w = .ok (.enter 9 #[(.slice a1 a1l a1c), (.slice a2 a2l a2c)]) w ∧ Calls Try.prog 9 #[(.slice a1 a1l a1c), (.slice a2 a2l a2c)] w fun e w' => ∃ v, e = .returned v ∧ Out w w' ∧ straitref09_Ints.ret K v w'.heap := by
  rw [← straitref09_Ints.eq] at hh
  exact fn_calls (args := [(.slice a1 a1l a1c), (.slice a2 a2l a2c)]) (c := straitref09_Ints.code) straitref09_Ints.ok Try.func9 (by kernel_rfl) (by kernel_rfl) (by kernel_rfl) (by kernel_rfl) (loops_ok (l := [(straitref09_Ints.c0, none, 0, straitref09_Ints.keep0, straitref09_Ints.outs0)]) (by kernel_rfl) ⟨straitref09_Ints.L0, trivial⟩) hh w hw

/-! ### slices.Compact[[]int64,int64]: function 25 -/
def slices_Compact_Lint64_int64.b1 (K4 : Int → Heap → Prop) (cont : (Option Addr) → Nat → Nat → Int → (Option Addr) → Nat → Nat → Int → Heap → Prop) (c0_2001 : Option Addr) (c0_2002 : Nat) (c0_2003 : Nat) (v3_2004 : Int) (c4_2005 : Option Addr) (c4_2006 : Nat) (c4_2007 : Nat) (v5_2008 : Int) (h2009 : Heap) : Prop :=
  (iteB (decide (v5_2008 < (c4_2006 : Int))) ((chkP c4_2005 fun a2010 => (0 ≤ v5_2008 ∧ v5_2008 < (c4_2006 : Int)) ∧ ∃ (x2011 : Int), cell h2009 (a2010.add (v5_2008.toNat * 1)) = some (.int .i64 x2011) ∧ chkP c4_2005 fun a2012 => (0 ≤ (IntKind.i64.wrap (v5_2008 - 1)) ∧ (IntKind.i64.wrap (v5_2008 - 1)) < (c4_2006 : Int)) ∧ ∃ (x2013 : Int), cell h2009 (a2012.add ((IntKind.i64.wrap (v5_2008 - 1)).toNat * 1)) = some (.int .i64 x2013) ∧ (iteB (x2011 != x2013) (chkP c4_2005 fun a2014 => (0 ≤ v5_2008 ∧ v5_2008 < (c4_2006 : Int)) ∧ ∃ (x2015 : Int), cell h2009 (a2014.add (v5_2008.toNat * 1)) = some (.int .i64 x2015) ∧ chkP c0_2001 fun a2016 => (0 ≤ v3_2004 ∧ v3_2004 < (c0_2002 : Int)) ∧ stC h2009 (a2016.add (v3_2004.toNat * 1)) (.int .i64 x2015) fun h2017 => (((cont c0_2001 c0_2002 c0_2003 (IntKind.i64.wrap (v3_2004 + 1)) c4_2005 c4_2006 c4_2007 (IntKind.i64.wrap (v5_2008 + 1)) h2017)))) (((cont c0_2001 c0_2002 c0_2003 v3_2004 c4_2005 c4_2006 c4_2007 (IntKind.i64.wrap (v5_2008 + 1)) h2009)))))) (K4 v3_2004 h2009))
def slices_Compact_Lint64_int64.l1 (K4 : Int → Heap → Prop) : Nat → (Option Addr) → Nat → Nat → Int → (Option Addr) → Nat → Nat → Int → Heap → Prop
  | 0, _, _, _, _, _, _, _, _, _ => False
  | m + 1, c0_2001, c0_2002, c0_2003, v3_2004, c4_2005, c4_2006, c4_2007, v5_2008, h => slices_Compact_Lint64_int64.b1 K4 (slices_Compact_Lint64_int64.l1 K4 m) c0_2001 c0_2002 c0_2003 v3_2004 c4_2005 c4_2006 c4_2007 v5_2008 h
def slices_Compact_Lint64_int64.b0 (K0 : (Option Addr) → Nat → Nat → Heap → Prop) (K2 : Heap → Prop) (cont : (Option Addr) → Nat → Nat → Int → Heap → Prop) (c0_1001 : Option Addr) (c0_1002 : Nat) (c0_1003 : Nat) (v3_1004 : Int) (h1005 : Heap) : Prop :=
  (iteB (decide (v3_1004 < (c0_1002 : Int))) ((chkP c0_1001 fun a1006 => (0 ≤ v3_1004 ∧ v3_1004 < (c0_1002 : Int)) ∧ ∃ (x1007 : Int), cell h1005 (a1006.add (v3_1004.toNat * 1)) = some (.int .i64 x1007) ∧ chkP c0_1001 fun a1008 => (0 ≤ (IntKind.i64.wrap (v3_1004 - 1)) ∧ (IntKind.i64.wrap (v3_1004 - 1)) < (c0_1002 : Int)) ∧ ∃ (x1009 : Int), cell h1005 (a1008.add ((IntKind.i64.wrap (v3_1004 - 1)).toNat * 1)) = some (.int .i64 x1009) ∧ (iteB (x1007 == x1009) ((0 ≤ v3_1004 ∧ v3_1004 ≤ (c0_1002 : Int)) ∧ ((∃ m1012, slices_Compact_Lint64_int64.l1 (fun z1010 h1011 => (((0 ≤ z1010 ∧ z1010 ≤ (c0_1002 : Int)) ∧ clearP [(.int .i64 0)] (if c0_1003 = z1010.toNat then c0_1001 else c0_1001.map (·.add (z1010.toNat * 1))) (c0_1002 - z1010.toNat) h1011 fun h1013 => ((0 ≤ z1010 ∧ z1010 ≤ (c0_1003 : Int)) ∧ (K0 (if c0_1003 = 0 then c0_1001 else c0_1001.map (·.add (0 * 1))) z1010.toNat c0_1003 h1013))))) m1012 c0_1001 c0_1002 c0_1003 v3_1004 (if c0_1003 = v3_1004.toNat then c0_1001 else c0_1001.map (·.add (v3_1004.toNat * 1))) (c0_1002 - v3_1004.toNat) (c0_1003 - v3_1004.toNat) 1 h1005))) (((cont c0_1001 c0_1002 c0_1003 (IntKind.i64.wrap (v3_1004 + 1)) h1005)))))) (K2 h1005))
def slices_Compact_Lint64_int64.l0 (K0 : (Option Addr) → Nat → Nat → Heap → Prop) (K2 : Heap → Prop) : Nat → (Option Addr) → Nat → Nat → Int → Heap → Prop
  | 0, _, _, _, _, _ => False
  | m + 1, c0_1001, c0_1002, c0_1003, v3_1004, h => slices_Compact_Lint64_int64.b0 K0 K2 (slices_Compact_Lint64_int64.l0 K0 K2 m) c0_1001 c0_1002 c0_1003 v3_1004 h
def slices_Compact_Lint64_int64 (a1 : Option Addr) (a1l : Nat) (a1c : Nat) (h : Heap) (K : (Option Addr) → Nat → Nat → Heap → Prop) : Prop :=
  ((iteB (decide ((a1l : Int) < (2 : Int))) (K a1 a1l a1c h) (((∃ m5, slices_Compact_Lint64_int64.l0 (fun z2 z2l z2c h3 => K z2 z2l z2c h3) (fun h4 => (K a1 a1l a1c h4)) m5 a1 a1l a1c 1 h)))))
def slices_Compact_Lint64_int64.ret (K : (Option Addr) → Nat → Nat → Heap → Prop) (v : Value) (h : Heap) : Prop := match v with
  | (.slice r6 r6l r6c) => K r6 r6l r6c h
  | _ => False
theorem slices_Compact_Lint64_int64.ret_elim {K : (Option Addr) → Nat → Nat → Heap → Prop} {K' : Value → Heap → Prop} {v : Value} {h : Heap} (hk : ∀ r6 r6l r6c h, K r6 r6l r6c h → K' (.slice r6 r6l r6c) h) (hh : slices_Compact_Lint64_int64.ret K v h) : K' v h := by
  unfold slices_Compact_Lint64_int64.ret at hh
  split at hh
  · exact hk _ _ _ _ hh
  · exact hh.elim
def slices_Compact_Lint64_int64.r0 (K : Nat → List Value → Heap → Prop) (m : Nat) (vs : List Value) (h : Heap) : Prop := match vs with
  | [(.slice c0_1001 c0_1002 c0_1003), (.int .i64 v3_1004)] => slices_Compact_Lint64_int64.l0 (fun z7 z7l z7c h' => K 0 [(.slice z7 z7l z7c)] h') (fun h' => K 2 [(.slice c0_1001 c0_1002 c0_1003)] h') m c0_1001 c0_1002 c0_1003 v3_1004 h
  | _ => False
def slices_Compact_Lint64_int64.r1 (K : Nat → List Value → Heap → Prop) (m : Nat) (vs : List Value) (h : Heap) : Prop := match vs with
  | [(.slice c0_2001 c0_2002 c0_2003), (.int .i64 v3_2004), (.slice c4_2005 c4_2006 c4_2007), (.int .i64 v5_2008)] => slices_Compact_Lint64_int64.l1 (fun z8 h' => K 4 [(.slice c0_2001 c0_2002 c0_2003), (.int .i64 z8)] h') m c0_2001 c0_2002 c0_2003 v3_2004 c4_2005 c4_2006 c4_2007 v5_2008 h
  | _ => False
def slices_Compact_Lint64_int64.loop (i : Nat) (vs : List Value) (h : Heap) (K : Nat → List Value → Heap → Prop) : Prop := match i with
  | 0 => ∃ m, slices_Compact_Lint64_int64.r0 K m vs h
  | 1 => ∃ m, slices_Compact_Lint64_int64.r1 K m vs h
  | _ => False
noncomputable def slices_Compact_Lint64_int64.ctx : Ctx := { P := Try.prog, hint := fun t => bif Nat.beq t 44 then some 24 else none, call := fun _ _ _ _ => False, qcall := fun _ _ _ _ => False, quiet := fun f => false, loop := slices_Compact_Lint64_int64.loop }
theorem slices_Compact_Lint64_int64.ok : slices_Compact_Lint64_int64.ctx.OK where
  mixed := by kernel_rfl
  mono := fun hh _ => hh.elim
  call := fun hh => hh.elim
  qmono := fun hh _ => hh.elim
  qval := fun hh => hh.elim
  qcall := fun hh => hh.elim
noncomputable def slices_Compact_Lint64_int64.code : Code := (Try.f25.body).getD .skip
def slices_Compact_Lint64_int64.ann : Ann := (.two .auto (.two .auto (.two (.two .auto (.two (.loop 0 [0, 3] [(2, [0]), (0, [2])] (.two .auto (.two (.two (.two (.reg [0, 0, 3, 7, 0, 0, 32, 112, 240, 511] (.take 0 (.take 1 (.take 2 (.take 3 (.take 4 (.take 5 (.take 6 (.take 7 (.take 8 (.take 9 .done))))))))))) (.two (.two .auto (.two (.two .auto (.two (.loop 1 [0, 3, 4, 5] [(4, [0, 3])] (.two .auto (.two (.two (.two (.reg [0, 0, 3, 7, 0, 0, 32, 112, 240, 511] (.take 0 (.take 1 (.take 2 (.take 3 (.take 4 (.take 5 (.take 6 (.take 7 (.take 8 (.take 9 .done))))))))))) .auto) .auto) .auto))) .auto)) .auto)) .auto)) .auto) .auto))) .auto)) .auto)))
noncomputable def slices_Compact_Lint64_int64.c1 : Code := sub slices_Compact_Lint64_int64.code [1, 1, 0, 1, 0, 0, 1, 0, 0, 1, 0, 1, 0, 1, 0, 0]
def slices_Compact_Lint64_int64.a1 : Ann := (.two .auto (.two (.two (.two (.reg [0, 0, 3, 7, 0, 0, 32, 112, 240, 511] (.take 0 (.take 1 (.take 2 (.take 3 (.take 4 (.take 5 (.take 6 (.take 7 (.take 8 (.take 9 .done))))))))))) .auto) .auto) .auto))
def slices_Compact_Lint64_int64.keep1 : List Nat := [0, 3, 4, 5]
def slices_Compact_Lint64_int64.outs1 : List (Nat × List Nat) := [(4, [0, 3])]
noncomputable def slices_Compact_Lint64_int64.c0 : Code := sub slices_Compact_Lint64_int64.code [1, 1, 0, 1, 0, 0]
def slices_Compact_Lint64_int64.a0 : Ann := (.two .auto (.two (.two (.two (.reg [0, 0, 3, 7, 0, 0, 32, 112, 240, 511] (.take 0 (.take 1 (.take 2 (.take 3 (.take 4 (.take 5 (.take 6 (.take 7 (.take 8 (.take 9 .done))))))))))) (.two (.two .auto (.two (.two .auto (.two (.loop 1 [0, 3, 4, 5] [(4, [0, 3])] (.two .auto (.two (.two (.two (.reg [0, 0, 3, 7, 0, 0, 32, 112, 240, 511] (.take 0 (.take 1 (.take 2 (.take 3 (.take 4 (.take 5 (.take 6 (.take 7 (.take 8 (.take 9 .done))))))))))) .auto) .auto) .auto))) .auto)) .auto)) .auto)) .auto) .auto))
def slices_Compact_Lint64_int64.keep0 : List Nat := [0, 3]
def slices_Compact_Lint64_int64.outs0 : List (Nat × List Nat) := [(2, [0]), (0, [2])]
set_option maxRecDepth 100000 in
theorem slices_Compact_Lint64_int64.L1 : LoopOK slices_Compact_Lint64_int64.ctx 61 slices_Compact_Lint64_int64.c1 1 slices_Compact_Lint64_int64.keep1 slices_Compact_Lint64_int64.outs1 := by
  refine loop_ok (n := slices_Compact_Lint64_int64.a1) slices_Compact_Lint64_int64.ok (by kernel_rfl) (loops_ok (l := []) (by kernel_rfl) ?_) slices_Compact_Lint64_int64.r1 ?_ ?_ (fun vs h K hh => hh)
  · exact trivial
  · intro K vs h hh
    unfold slices_Compact_Lint64_int64.r1 at hh
    split at hh
    · exact hh
    · exact hh
  · intro K m vs h hh
    unfold slices_Compact_Lint64_int64.r1 at hh
    split at hh
    · exact cast (by kernel_rfl) hh
    · exact hh.elim
set_option maxRecDepth 100000 in
theorem slices_Compact_Lint64_int64.L0 : LoopOK slices_Compact_Lint64_int64.ctx 61 slices_Compact_Lint64_int64.c0 0 slices_Compact_Lint64_int64.keep0 slices_Compact_Lint64_int64.outs0 := by
  refine loop_ok (n := slices_Compact_Lint64_int64.a0) slices_Compact_Lint64_int64.ok (by kernel_rfl) (loops_ok (l := [(slices_Compact_Lint64_int64.c1, none, 1, slices_Compact_Lint64_int64.keep1, slices_Compact_Lint64_int64.outs1)]) (by kernel_rfl) ?_) slices_Compact_Lint64_int64.r0 ?_ ?_ (fun vs h K hh => hh)
  · exact ⟨slices_Compact_Lint64_int64.L1, trivial⟩
  · intro K vs h hh
    unfold slices_Compact_Lint64_int64.r0 at hh
    split at hh
    · exact hh
    · exact hh
  · intro K m vs h hh
    unfold slices_Compact_Lint64_int64.r0 at hh
    split at hh
    · exact cast (by kernel_rfl) hh
    · exact hh.elim
set_option maxRecDepth 100000 in
theorem slices_Compact_Lint64_int64.eq (a1 : Option Addr) (a1l : Nat) (a1c : Nat) (h : Heap) (K : (Option Addr) → Nat → Nat → Heap → Prop) : evF slices_Compact_Lint64_int64.ctx Try.f25 slices_Compact_Lint64_int64.ann [(.slice a1 a1l a1c)] h (slices_Compact_Lint64_int64.ret K) = slices_Compact_Lint64_int64 a1 a1l a1c h K := by kernel_rfl
set_option maxRecDepth 100000 in
theorem slices_Compact_Lint64_int64.calls {a1 : Option Addr} {a1l : Nat} {a1c : Nat} {h : Heap} {K : (Option Addr) → Nat → Nat → Heap → Prop} (hh : slices_Compact_Lint64_int64 a1 a1l a1c h K) (w : World) (hw : w.heap = h) :
    (callFunc 25 #[(.slice a1 a1l a1c)]).run Try.prog w = .ok (.enter 25 #[(.slice a1 a1l a1c)]) w ∧ Calls Try.prog 25 #[(.slice a1 a1l a1c)] w fun e w' => ∃ v, e = .returned v ∧ Out w w' ∧ slices_Compact_Lint64_int64.ret K v w'.heap := by
  rw [← slices_Compact_Lint64_int64.eq] at hh
  exact fn_calls (args := [(.slice a1 a1l a1c)]) (c := slices_Compact_Lint64_int64.code) slices_Compact_Lint64_int64.ok Try.func25 (by kernel_rfl) (by kernel_rfl) (by kernel_rfl) (by kernel_rfl) (loops_ok (l := [(slices_Compact_Lint64_int64.c0, none, 0, slices_Compact_Lint64_int64.keep0, slices_Compact_Lint64_int64.outs0)]) (by kernel_rfl) ⟨slices_Compact_Lint64_int64.L0, trivial⟩) hh w hw

/-! ### strait/rank.Distinct: function 14 -/
def rank_Distinct (a1 : Option Addr) (a1l : Nat) (a1c : Nat) (h : Heap) (K : (Option Addr) → Nat → Nat → Heap → Prop) : Prop :=
  (callP1 (slices_Values_Lint64_int64 a1 a1l a1c h) fun x2 h3 => callP3 (slices_Sorted_int64 x2 h3) fun x4 x4l x4c h5 => callP3 (slices_Compact_Lint64_int64 x4 x4l x4c h5) fun x6 x6l x6c h7 => K x6 x6l x6c h7)
def rank_Distinct.ret (K : (Option Addr) → Nat → Nat → Heap → Prop) (v : Value) (h : Heap) : Prop := match v with
  | (.slice r8 r8l r8c) => K r8 r8l r8c h
  | _ => False
theorem rank_Distinct.ret_elim {K : (Option Addr) → Nat → Nat → Heap → Prop} {K' : Value → Heap → Prop} {v : Value} {h : Heap} (hk : ∀ r8 r8l r8c h, K r8 r8l r8c h → K' (.slice r8 r8l r8c) h) (hh : rank_Distinct.ret K v h) : K' v h := by
  unfold rank_Distinct.ret at hh
  split at hh
  · exact hk _ _ _ _ hh
  · exact hh.elim
def rank_Distinct.call (f : FuncId) (vs : List Value) (h : Heap) (K : Value → Heap → Prop) : Prop := match f, vs with
  | 21, [a1] => callP3 (slices_Sorted_int64 a1 h) fun r5 r5l r5c h' => K (.slice r5 r5l r5c) h'
  | 22, [(.slice a1 a1l a1c)] => callP1 (slices_Values_Lint64_int64 a1 a1l a1c h) fun r4 h' => K r4 h'
  | 25, [(.slice a1 a1l a1c)] => callP3 (slices_Compact_Lint64_int64 a1 a1l a1c h) fun r6 r6l r6c h' => K (.slice r6 r6l r6c) h'
  | _, _ => False
noncomputable def rank_Distinct.ctx : Ctx := { P := Try.prog, hint := fun t => bif Nat.beq t 44 then some 24 else none, call := rank_Distinct.call, qcall := fun _ _ _ _ => False, quiet := fun f => false, loop := fun _ _ _ _ => False }
theorem rank_Distinct.ok : rank_Distinct.ctx.OK where
  mixed := by kernel_rfl
  mono := by
    intro f args h K K' hh hk
    change rank_Distinct.call f args h K at hh
    change rank_Distinct.call f args h K'
    unfold rank_Distinct.call at hh ⊢
    split at hh
    · obtain ⟨R, h1, h2⟩ := hh
      exact ⟨R, h1, fun _ _ _ x hr => hk _ _ (h2 _ _ _ x hr)⟩
    · obtain ⟨R, h1, h2⟩ := hh
      exact ⟨R, h1, fun _ x hr => hk _ _ (h2 _ x hr)⟩
    · obtain ⟨R, h1, h2⟩ := hh
      exact ⟨R, h1, fun _ _ _ x hr => hk _ _ (h2 _ _ _ x hr)⟩
    · exact hh.elim
  call := by
    intro f args h K hh w hw
    change rank_Distinct.call f args h K at hh
    unfold rank_Distinct.call at hh
    split at hh
    · obtain ⟨R, h1, h2⟩ := hh
      obtain ⟨g1, g2⟩ := slices_Sorted_int64.calls h1 w hw
      exact ⟨g1, g2.mono fun e w' ⟨v, he, ho, hr⟩ => ⟨v, he, ho, slices_Sorted_int64.ret_elim h2 hr⟩⟩
    · obtain ⟨R, h1, h2⟩ := hh
      obtain ⟨g1, g2⟩ := slices_Values_Lint64_int64.calls h1 w hw
      exact ⟨g1, g2.mono fun e w' ⟨v, he, ho, hr⟩ => ⟨v, he, ho, slices_Values_Lint64_int64.ret_elim h2 hr⟩⟩
    · obtain ⟨R, h1, h2⟩ := hh
      obtain ⟨g1, g2⟩ := slices_Compact_Lint64_int64.calls h1 w hw
      exact ⟨g1, g2.mono fun e w' ⟨v, he, ho, hr⟩ => ⟨v, he, ho, slices_Compact_Lint64_int64.ret_elim h2 hr⟩⟩
    · exact hh.elim
  qmono := fun hh _ => hh.elim
  qval := fun hh => hh.elim
  qcall := fun hh => hh.elim
noncomputable def rank_Distinct.code : Code := (Try.f14.body).getD .skip
def rank_Distinct.ann : Ann := .auto
set_option maxRecDepth 100000 in
theorem rank_Distinct.eq (a1 : Option Addr) (a1l : Nat) (a1c : Nat) (h : Heap) (K : (Option Addr) → Nat → Nat → Heap → Prop) : evF rank_Distinct.ctx Try.f14 rank_Distinct.ann [(.slice a1 a1l a1c)] h (rank_Distinct.ret K) = rank_Distinct a1 a1l a1c h K := by kernel_rfl
set_option maxRecDepth 100000 in
theorem rank_Distinct.calls {a1 : Option Addr} {a1l : Nat} {a1c : Nat} {h : Heap} {K : (Option Addr) → Nat → Nat → Heap → Prop} (hh : rank_Distinct a1 a1l a1c h K) (w : World) (hw : w.heap = h) :
    (callFunc 14 #[(.slice a1 a1l a1c)]).run Try.prog w = .ok (.enter 14 #[(.slice a1 a1l a1c)]) w ∧ Calls Try.prog 14 #[(.slice a1 a1l a1c)] w fun e w' => ∃ v, e = .returned v ∧ Out w w' ∧ rank_Distinct.ret K v w'.heap := by
  rw [← rank_Distinct.eq] at hh
  exact fn_calls (args := [(.slice a1 a1l a1c)]) (c := rank_Distinct.code) rank_Distinct.ok Try.func14 (by kernel_rfl) (by kernel_rfl) (by kernel_rfl) (by kernel_rfl) (loops_ok (l := []) (by kernel_rfl) trivial) hh w hw

/-! ### strait/straitlaw14.awake: function 6 -/
def straitlaw14_awake (h : Heap) (K : Bool → Heap → Prop) : Prop :=
  (newP h (.cells #[(.int .i64 5), (.int .i64 2), (.int .i64 5)] 2) fun a1 h2 => (callP2 (rank_Median (some a1) 3 3 h2) fun x3 x4 h5 => (newP h5 (.cells #[(.int .i64 0), (.int .i64 0)] 3) fun a6 h7 => callP4 (rank_Inverse (some a6) 2 2 h7) fun x8 x8l x8c x9 h10 => (callP3 (rank_By (some a1) 3 3 h10) fun x11 x11l x11c h12 => newP h12 (.cells #[(.int .i64 1), (.int .i64 0), (.int .i64 2)] 3) fun a13 h14 => qcallP1 h14 (straitref09_Ints x11 x11l x11c (some a13) 3 3 h14) fun x15 => iteB x15 (iteB (x3 == (5 : Int)) (iteB x4 (iteB (!x9) (callP3 (rank_Distinct (some a1) 3 3 h14) fun x16 x16l x16c h17 => (K ((x16l : Int) == (2 : Int)) h17)) (K false h14)) (K false h14)) (K false h14)) (K false h14)))))
def straitlaw14_awake.ret (K : Bool → Heap → Prop) (v : Value) (h : Heap) : Prop := match v with
  | (.bool r20) => K r20 h
  | _ => False
theorem straitlaw14_awake.ret_elim {K : Bool → Heap → Prop} {K' : Value → Heap → Prop} {v : Value} {h : Heap} (hk : ∀ r20 h, K r20 h → K' (.bool r20) h) (hh : straitlaw14_awake.ret K v h) : K' v h := by
  unfold straitlaw14_awake.ret at hh
  split at hh
  · exact hk _ _ hh
  · exact hh.elim
def straitlaw14_awake.call (f : FuncId) (vs : List Value) (h : Heap) (K : Value → Heap → Prop) : Prop := match f, vs with
  | 7, [(.slice a1 a1l a1c)] => callP2 (rank_Median a1 a1l a1c h) fun r9 r10 h' => K (.tuple #[(.int .i64 r9), (.bool r10)]) h'
  | 10, [(.slice a1 a1l a1c)] => callP3 (rank_By a1 a1l a1c h) fun r7 r7l r7c h' => K (.slice r7 r7l r7c) h'
  | 14, [(.slice a1 a1l a1c)] => callP3 (rank_Distinct a1 a1l a1c h) fun r8 r8l r8c h' => K (.slice r8 r8l r8c) h'
  | 16, [(.slice a1 a1l a1c)] => callP4 (rank_Inverse a1 a1l a1c h) fun r11 r11l r11c r12 h' => K (.tuple #[(.slice r11 r11l r11c), (.bool r12)]) h'
  | _, _ => False
def straitlaw14_awake.qcall (f : FuncId) (vs : List Value) (h : Heap) (K : Value → Prop) : Prop := match f, vs with
  | 9, [(.slice a1 a1l a1c), (.slice a2 a2l a2c)] => qcallP1 h (straitref09_Ints a1 a1l a1c a2 a2l a2c h) fun r7 => K (.bool r7)
  | _, _ => False
noncomputable def straitlaw14_awake.ctx : Ctx := { P := Try.prog, hint := fun t => bif Nat.beq t 44 then some 24 else none, call := straitlaw14_awake.call, qcall := straitlaw14_awake.qcall, quiet := fun f => Nat.beq f 9, loop := fun _ _ _ _ => False }
theorem straitlaw14_awake.ok : straitlaw14_awake.ctx.OK where
  mixed := by kernel_rfl
  mono := by
    intro f args h K K' hh hk
    change straitlaw14_awake.call f args h K at hh
    change straitlaw14_awake.call f args h K'
    unfold straitlaw14_awake.call at hh ⊢
    split at hh
    · obtain ⟨R, h1, h2⟩ := hh
      exact ⟨R, h1, fun _ _ x hr => hk _ _ (h2 _ _ x hr)⟩
    · obtain ⟨R, h1, h2⟩ := hh
      exact ⟨R, h1, fun _ _ _ x hr => hk _ _ (h2 _ _ _ x hr)⟩
    · obtain ⟨R, h1, h2⟩ := hh
      exact ⟨R, h1, fun _ _ _ x hr => hk _ _ (h2 _ _ _ x hr)⟩
    · obtain ⟨R, h1, h2⟩ := hh
      exact ⟨R, h1, fun _ _ _ _ x hr => hk _ _ (h2 _ _ _ _ x hr)⟩
    · exact hh.elim
  call := by
    intro f args h K hh w hw
    change straitlaw14_awake.call f args h K at hh
    unfold straitlaw14_awake.call at hh
    split at hh
    · obtain ⟨R, h1, h2⟩ := hh
      obtain ⟨g1, g2⟩ := rank_Median.calls h1 w hw
      exact ⟨g1, g2.mono fun e w' ⟨v, he, ho, hr⟩ => ⟨v, he, ho, rank_Median.ret_elim h2 hr⟩⟩
    · obtain ⟨R, h1, h2⟩ := hh
      obtain ⟨g1, g2⟩ := rank_By.calls h1 w hw
      exact ⟨g1, g2.mono fun e w' ⟨v, he, ho, hr⟩ => ⟨v, he, ho, rank_By.ret_elim h2 hr⟩⟩
    · obtain ⟨R, h1, h2⟩ := hh
      obtain ⟨g1, g2⟩ := rank_Distinct.calls h1 w hw
      exact ⟨g1, g2.mono fun e w' ⟨v, he, ho, hr⟩ => ⟨v, he, ho, rank_Distinct.ret_elim h2 hr⟩⟩
    · obtain ⟨R, h1, h2⟩ := hh
      obtain ⟨g1, g2⟩ := rank_Inverse.calls h1 w hw
      exact ⟨g1, g2.mono fun e w' ⟨v, he, ho, hr⟩ => ⟨v, he, ho, rank_Inverse.ret_elim h2 hr⟩⟩
    · exact hh.elim
  qmono := by
    intro f args h K K' hh hk
    change straitlaw14_awake.qcall f args h K at hh
    change straitlaw14_awake.qcall f args h K'
    unfold straitlaw14_awake.qcall at hh ⊢
    split at hh
    · obtain ⟨x0, h1, h2⟩ := hh
      exact ⟨x0, h1, hk _ h2⟩
    · exact hh.elim
  qval := by
    intro f args h K hh
    change straitlaw14_awake.qcall f args h K at hh
    suffices H : ∃ v, K v ∧ straitlaw14_awake.qcall f args h (· = v) from H
    unfold straitlaw14_awake.qcall at hh ⊢
    split at hh
    · obtain ⟨x0, h1, h2⟩ := hh
      exact ⟨_, h2, x0, h1, rfl⟩
    · exact hh.elim
  qcall := by
    intro f args h v hh w hw
    change straitlaw14_awake.qcall f args h (· = v) at hh
    unfold straitlaw14_awake.qcall at hh
    split at hh
    · obtain ⟨x0, h1, h2⟩ := hh
      obtain ⟨g1, g2⟩ := straitref09_Ints.calls h1 w hw
      refine .inl ⟨g1, g2.mono fun e w' ⟨u, he, ho, hr⟩ => ?_⟩
      have hq := straitref09_Ints.ret_elim (K' := fun u h' => u = v ∧ h' = h) (fun _ h' hr => by obtain ⟨rfl, rfl⟩ := hr; exact ⟨h2, rfl⟩) hr
      exact ⟨hq.1 ▸ he, ho, hq.2⟩
    · exact hh.elim
noncomputable def straitlaw14_awake.code : Code := (Try.f6.body).getD .skip
def straitlaw14_awake.ann : Ann := .auto
set_option maxRecDepth 100000 in
theorem straitlaw14_awake.eq (h : Heap) (K : Bool → Heap → Prop) : evF straitlaw14_awake.ctx Try.f6 straitlaw14_awake.ann [] h (straitlaw14_awake.ret K) = straitlaw14_awake h K := by kernel_rfl
set_option maxRecDepth 100000 in
theorem straitlaw14_awake.calls {h : Heap} {K : Bool → Heap → Prop} (hh : straitlaw14_awake h K) (w : World) (hw : w.heap = h) :
    (callFunc 6 #[]).run Try.prog w = .ok (.enter 6 #[]) w ∧ Calls Try.prog 6 #[] w fun e w' => ∃ v, e = .returned v ∧ Out w w' ∧ straitlaw14_awake.ret K v w'.heap := by
  rw [← straitlaw14_awake.eq] at hh
  exact fn_calls (args := []) (c := straitlaw14_awake.code) straitlaw14_awake.ok Try.func6 (by kernel_rfl) (by kernel_rfl) (by kernel_rfl) (by kernel_rfl) (loops_ok (l := []) (by kernel_rfl) trivial) hh w hw

end Go.Proofs.Ytlfcfoodlbbbjaa
