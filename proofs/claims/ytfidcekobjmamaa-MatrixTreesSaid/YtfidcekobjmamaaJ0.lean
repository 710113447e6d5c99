/- WRITTEN BY A PROGRAM OF THIS SESSION (gen.py): what each function asks of memory, and that the model's run comes to it. -/
import Derived.Test.YtfidcekobjmamaaProg
import Derived.Test.YtfidcekobjmamaaFw8
import Derived.Test.YtfidcekobjmamaaG3
namespace Go.Proofs.Ytfidcekobjmamaa
open Go.Hp
set_option linter.unusedVariables false
set_option linter.unusedSimpArgs false
set_option linter.unusedSectionVars false

/-! ### strait/matrix.Tree: function 39 -/
def matrix_Tree.b2 (K7 : Int → Heap → Prop) (cont : (Option Addr) → Nat → Nat → Addr → Int → Addr → Addr → Nat → Nat → Int → Int → Int → Int → Heap → Prop) (c0_3001 : Option Addr) (c0_3002 : Nat) (c0_3003 : Nat) (c2_3004 : Addr) (c4_3005 : Int) (c5_3006 : Addr) (c6_3007 : Addr) (c6_3008 : Nat) (c6_3009 : Nat) (c9_3010 : Int) (v10_3011 : Int) (c50_3012 : Int) (v51_3013 : Int) (h3014 : Heap) : Prop :=
  (iteB (decide (v51_3013 < c50_3012)) ((let j3057 := (fun (y3055 : Int) (h3056 : Heap) => cont c0_3001 c0_3002 c0_3003 c2_3004 c4_3005 c5_3006 c6_3007 c6_3008 c6_3009 c9_3010 y3055 c50_3012 (IntKind.i64.wrap (v51_3013 + 1)) h3056);
  ((0 ≤ v51_3013 ∧ v51_3013 < (c6_3008 : Int)) ∧ ∃ (x3015 : Bool), cell h3014 (c6_3007.add (v51_3013.toNat * 1)) = some (.bool x3015) ∧ (iteB x3015 (((j3057 v10_3011 h3014))) ((let j3054 := (fun (h3046 : Heap) => iteB (decide (v10_3011 < (0 : Int))) ((((j3057 v51_3013 h3046)))) (∃ (x3047 : Option Addr) (x3047l : Nat) (x3047c : Nat), cell h3046 (c5_3006.add 1) = some (.slice x3047 x3047l x3047c) ∧ chkP x3047 fun a3048 => (0 ≤ v51_3013 ∧ v51_3013 < (x3047l : Int)) ∧ ∃ (x3049 : Int), cell h3046 (a3048.add (v51_3013.toNat * 1)) = some (.int .i64 x3049) ∧ ∃ (x3050 : Option Addr) (x3050l : Nat) (x3050c : Nat), cell h3046 (c5_3006.add 1) = some (.slice x3050 x3050l x3050c) ∧ chkP x3050 fun a3051 => (0 ≤ v10_3011 ∧ v10_3011 < (x3050l : Int)) ∧ ∃ (x3052 : Int), cell h3046 (a3051.add (v10_3011.toNat * 1)) = some (.int .i64 x3052) ∧ (iteB (decide (x3049 > x3052)) (((j3057 v51_3013 h3046))) (((j3057 v10_3011 h3046))))));
  ∃ (x3016 : Option Addr) (x3016l : Nat) (x3016c : Nat), cell h3014 c5_3006 = some (.slice x3016 x3016l x3016c) ∧ chkP x3016 fun a3017 => (0 ≤ v51_3013 ∧ v51_3013 < (x3016l : Int)) ∧ ∃ (x3018 : Int), cell h3014 (a3017.add (v51_3013.toNat * 1)) = some (.int .i64 x3018) ∧ (let j3045 := (fun (y3033 : Bool) => iteB y3033 (∃ (x3034 : Option Addr) (x3034l : Nat) (x3034c : Nat), cell h3014 c5_3006 = some (.slice x3034 x3034l x3034c) ∧ chkP c0_3001 fun a3035 => (0 ≤ c9_3010 ∧ c9_3010 < (c0_3002 : Int)) ∧ ∃ (x3036 : Option Addr) (x3036l : Nat) (x3036c : Nat), cell h3014 (a3035.add (c9_3010.toNat * 1)) = some (.slice x3036 x3036l x3036c) ∧ chkP x3036 fun a3037 => (0 ≤ v51_3013 ∧ v51_3013 < (x3036l : Int)) ∧ ∃ (x3038 : Int), cell h3014 (a3037.add (v51_3013.toNat * 1)) = some (.int .i64 x3038) ∧ chkP x3034 fun a3039 => (0 ≤ v51_3013 ∧ v51_3013 < (x3034l : Int)) ∧ ∃ (x3040 : Option Addr) (x3040l : Nat) (x3040c : Nat), cell h3014 (c5_3006.add 1) = some (.slice x3040 x3040l x3040c) ∧ stC h3014 (a3039.add (v51_3013.toNat * 1)) (.int .i64 c9_3010) fun h3041 => (∃ (x3042 : Option Addr) (x3042l : Nat) (x3042c : Nat), cell h3041 (c5_3006.add 1) = some (.slice x3042 x3042l x3042c) ∧ ((.slice x3042 x3042l x3042c) : Value) = (.slice x3040 x3040l x3040c)) ∧ chkP x3040 fun a3043 => (0 ≤ v51_3013 ∧ v51_3013 < (x3040l : Int)) ∧ stC h3041 (a3043.add (v51_3013.toNat * 1)) (.int .i64 x3038) fun h3044 => (j3054 h3044)) ((j3054 h3014)));
  iteB (decide (x3018 < (0 : Int))) ((j3045 true)) (chkP c0_3001 fun a3019 => (0 ≤ c9_3010 ∧ c9_3010 < (c0_3002 : Int)) ∧ ∃ (x3020 : Option Addr) (x3020l : Nat) (x3020c : Nat), cell h3014 (a3019.add (c9_3010.toNat * 1)) = some (.slice x3020 x3020l x3020c) ∧ chkP x3020 fun a3021 => (0 ≤ v51_3013 ∧ v51_3013 < (x3020l : Int)) ∧ ∃ (x3022 : Int), cell h3014 (a3021.add (v51_3013.toNat * 1)) = some (.int .i64 x3022) ∧ ∃ (x3023 : Option Addr) (x3023l : Nat) (x3023c : Nat), cell h3014 (c5_3006.add 1) = some (.slice x3023 x3023l x3023c) ∧ chkP x3023 fun a3024 => (0 ≤ v51_3013 ∧ v51_3013 < (x3023l : Int)) ∧ ∃ (x3025 : Int), cell h3014 (a3024.add (v51_3013.toNat * 1)) = some (.int .i64 x3025) ∧ iteB (decide (x3022 > x3025)) ((j3045 true)) (chkP c0_3001 fun a3026 => (0 ≤ c9_3010 ∧ c9_3010 < (c0_3002 : Int)) ∧ ∃ (x3027 : Option Addr) (x3027l : Nat) (x3027c : Nat), cell h3014 (a3026.add (c9_3010.toNat * 1)) = some (.slice x3027 x3027l x3027c) ∧ chkP x3027 fun a3028 => (0 ≤ v51_3013 ∧ v51_3013 < (x3027l : Int)) ∧ ∃ (x3029 : Int), cell h3014 (a3028.add (v51_3013.toNat * 1)) = some (.int .i64 x3029) ∧ ∃ (x3030 : Option Addr) (x3030l : Nat) (x3030c : Nat), cell h3014 (c5_3006.add 1) = some (.slice x3030 x3030l x3030c) ∧ chkP x3030 fun a3031 => (0 ≤ v51_3013 ∧ v51_3013 < (x3030l : Int)) ∧ ∃ (x3032 : Int), cell h3014 (a3031.add (v51_3013.toNat * 1)) = some (.int .i64 x3032) ∧ iteB (x3029 == x3032) ((j3045 (decide (c9_3010 < x3018)))) ((j3045 false))))))))))) (K7 v10_3011 h3014))
def matrix_Tree.l2 (K7 : Int → Heap → Prop) : Nat → (Option Addr) → Nat → Nat → Addr → Int → Addr → Addr → Nat → Nat → Int → Int → Int → Int → Heap → Prop
  | 0, _, _, _, _, _, _, _, _, _, _, _, _, _, _ => False
  | m + 1, c0_3001, c0_3002, c0_3003, c2_3004, c4_3005, c5_3006, c6_3007, c6_3008, c6_3009, c9_3010, v10_3011, c50_3012, v51_3013, h => matrix_Tree.b2 K7 (matrix_Tree.l2 K7 m) c0_3001 c0_3002 c0_3003 c2_3004 c4_3005 c5_3006 c6_3007 c6_3008 c6_3009 c9_3010 v10_3011 c50_3012 v51_3013 h
def matrix_Tree.b1 (K5 : Heap → Prop) (cont : (Option Addr) → Nat → Nat → Addr → Int → Addr → Addr → Nat → Nat → Int → Heap → Prop) (c0_2001 : Option Addr) (c0_2002 : Nat) (c0_2003 : Nat) (c2_2004 : Addr) (c4_2005 : Int) (c5_2006 : Addr) (c6_2007 : Addr) (c6_2008 : Nat) (c6_2009 : Nat) (v8_2010 : Int) (h2011 : Heap) : Prop :=
  let j2017 : Prop := ((0 ≤ v8_2010 ∧ v8_2010 < (c6_2008 : Int)) ∧ stC h2011 (c6_2007.add (v8_2010.toNat * 1)) (.bool true) fun h2013 => (((∃ m2016, matrix_Tree.l2 (fun z2014 h2015 => ((cont c0_2001 c0_2002 c0_2003 c2_2004 c4_2005 c5_2006 c6_2007 c6_2008 c6_2009 z2014 h2015))) m2016 c0_2001 c0_2002 c0_2003 c2_2004 c4_2005 c5_2006 c6_2007 c6_2008 c6_2009 v8_2010 (-1) c4_2005 0 h2013))));
  iteB (decide (v8_2010 ≥ (0 : Int))) ((iteB (decide (c4_2005 > (0 : Int))) ((j2017)) (K5 h2011))) (K5 h2011)
def matrix_Tree.l1 (K5 : Heap → Prop) : Nat → (Option Addr) → Nat → Nat → Addr → Int → Addr → Addr → Nat → Nat → Int → Heap → Prop
  | 0, _, _, _, _, _, _, _, _, _, _, _ => False
  | m + 1, c0_2001, c0_2002, c0_2003, c2_2004, c4_2005, c5_2006, c6_2007, c6_2008, c6_2009, v8_2010, h => matrix_Tree.b1 K5 (matrix_Tree.l1 K5 m) c0_2001 c0_2002 c0_2003 c2_2004 c4_2005 c5_2006 c6_2007 c6_2008 c6_2009 v8_2010 h
def matrix_Tree.b0 (K3 : Heap → Prop) (cont : (Option Addr) → Nat → Nat → Addr → Int → Addr → Addr → Nat → Nat → Int → Int → Heap → Prop) (c0_1001 : Option Addr) (c0_1002 : Nat) (c0_1003 : Nat) (c2_1004 : Addr) (c4_1005 : Int) (c5_1006 : Addr) (c6_1007 : Addr) (c6_1008 : Nat) (c6_1009 : Nat) (c31_1010 : Int) (v32_1011 : Int) (h1012 : Heap) : Prop :=
  (iteB (decide (v32_1011 < c31_1010)) (((∃ (x1013 : Option Addr) (x1013l : Nat) (x1013c : Nat), cell h1012 c5_1006 = some (.slice x1013 x1013l x1013c) ∧ chkP x1013 fun a1014 => (0 ≤ v32_1011 ∧ v32_1011 < (x1013l : Int)) ∧ stC h1012 (a1014.add (v32_1011.toNat * 1)) (.int .i64 (-1)) fun h1015 => ((cont c0_1001 c0_1002 c0_1003 c2_1004 c4_1005 c5_1006 c6_1007 c6_1008 c6_1009 c31_1010 (IntKind.i64.wrap (v32_1011 + 1)) h1015))))) (K3 h1012))
def matrix_Tree.l0 (K3 : Heap → Prop) : Nat → (Option Addr) → Nat → Nat → Addr → Int → Addr → Addr → Nat → Nat → Int → Int → Heap → Prop
  | 0, _, _, _, _, _, _, _, _, _, _, _, _ => False
  | m + 1, c0_1001, c0_1002, c0_1003, c2_1004, c4_1005, c5_1006, c6_1007, c6_1008, c6_1009, c31_1010, v32_1011, h => matrix_Tree.b0 K3 (matrix_Tree.l0 K3 m) c0_1001 c0_1002 c0_1003 c2_1004 c4_1005 c5_1006 c6_1007 c6_1008 c6_1009 c31_1010 v32_1011 h
def matrix_Tree (a1 : Option Addr) (a1l : Nat) (a1c : Nat) (h : Heap) (K : (Option Addr) → Nat → Nat → (Option Addr) → Nat → Nat → Int → Heap → Prop) : Prop :=
  newP h (.cells #[(.slice none 0 0), (.slice none 0 0)] 25) fun a2 h3 => (((iteB (decide ((a1l : Int) > (256 : Int))) (stC h3 a2 (.slice none 0 0) fun h4 => stC h4 (a2.add 1) (.slice none 0 0) fun h5 => (∃ (x6 : Option Addr) (x6l : Nat) (x6c : Nat), cell h5 a2 = some (.slice x6 x6l x6c) ∧ ∃ (x7 : Option Addr) (x7l : Nat) (x7c : Nat), cell h5 (a2.add 1) = some (.slice x7 x7l x7c) ∧ K x6 x6l x6c x7 x7l x7c 3 h5)) (qcallP1 h3 (matrix_Ultra a1 a1l a1c h3) fun x8 => (iteB (!x8) (stC h3 a2 (.slice none 0 0) fun h9 => stC h9 (a2.add 1) (.slice none 0 0) fun h10 => (∃ (x11 : Option Addr) (x11l : Nat) (x11c : Nat), cell h10 a2 = some (.slice x11 x11l x11c) ∧ ∃ (x12 : Option Addr) (x12l : Nat) (x12c : Nat), cell h10 (a2.add 1) = some (.slice x12 x12l x12c) ∧ K x11 x11l x11c x12 x12l x12c 1 h10)) (((let j69 := (fun (y55 : Addr) (h56 : Heap) => (0 ≤ (a1l : Int) ∧ (a1l : Int) ≤ (a1l : Int) ∧ (a1l : Int) * (1 : Nat) ≤ 2 ^ 47 ∧ (a1l : Int) ≤ 2 ^ 47) ∧ newP h56 (.cells (zeroRow [(.bool false)] (a1l : Int).toNat).toArray 4) fun a57 h58 => ((∃ m60, matrix_Tree.l0 (fun h59 => (((∃ m62, matrix_Tree.l1 (fun h61 => ((∃ (x63 : Option Addr) (x63l : Nat) (x63c : Nat), cell h61 y55 = some (.slice x63 x63l x63c) ∧ ∃ (x64 : Option Addr) (x64l : Nat) (x64c : Nat), cell h61 (y55.add 1) = some (.slice x64 x64l x64c) ∧ stC h61 a2 (.slice x63 x63l x63c) fun h65 => stC h65 (a2.add 1) (.slice x64 x64l x64c) fun h66 => (∃ (x67 : Option Addr) (x67l : Nat) (x67c : Nat), cell h66 a2 = some (.slice x67 x67l x67c) ∧ ∃ (x68 : Option Addr) (x68l : Nat) (x68c : Nat), cell h66 (a2.add 1) = some (.slice x68 x68l x68c) ∧ K x67 x67l x67c x68 x68l x68c 0 h66)))) m62 a1 a1l a1c a2 (a1l : Int) y55 a57 ((a1l : Int).toNat) ((a1l : Int).toNat) 0 h59)))) m60 a1 a1l a1c a2 (a1l : Int) y55 a57 ((a1l : Int).toNat) ((a1l : Int).toNat) (a1l : Int) 0 h58)));
  ((0 ≤ (a1l : Int) ∧ (a1l : Int) ≤ (a1l : Int) ∧ (a1l : Int) * (8 : Nat) ≤ 2 ^ 47 ∧ (a1l : Int) ≤ 2 ^ 47) ∧ newP h3 (.cells (zeroRow [(.int .i64 0)] (a1l : Int).toNat).toArray 3) fun a13 h14 => ((0 ≤ (a1l : Int) ∧ (a1l : Int) ≤ (a1l : Int) ∧ (a1l : Int) * (8 : Nat) ≤ 2 ^ 47 ∧ (a1l : Int) ≤ 2 ^ 47) ∧ newP h14 (.cells (zeroRow [(.int .i64 0)] (a1l : Int).toNat).toArray 2) fun a15 h16 => newP h16 (.cells #[(.slice none 0 0), (.slice none 0 0)] 25) fun a17 h18 => stC h18 a17 (.slice (some a13) ((a1l : Int).toNat) ((a1l : Int).toNat)) fun h19 => stC h19 (a17.add 1) (.slice (some a15) ((a1l : Int).toNat) ((a1l : Int).toNat)) fun h20 => (j69 a17 h20)) ∧ (newP h14 (.cells #[(.slice none 0 0), (.slice none 0 0)] 25) fun a21 h22 => (0 ≤ (a1l : Int) ∧ (a1l : Int) ≤ (a1l : Int) ∧ (a1l : Int) * (8 : Nat) ≤ 2 ^ 47 ∧ (a1l : Int) ≤ 2 ^ 47) ∧ newP h22 (.cells (zeroRow [(.int .i64 0)] (a1l : Int).toNat).toArray 2) fun a23 h24 => stC h24 a21 (.slice (some a13) ((a1l : Int).toNat) ((a1l : Int).toNat)) fun h25 => stC h25 (a21.add 1) (.slice (some a23) ((a1l : Int).toNat) ((a1l : Int).toNat)) fun h26 => (j69 a21 h26))) ∧ (((0 ≤ (a1l : Int) ∧ (a1l : Int) ≤ (a1l : Int) ∧ (a1l : Int) * (8 : Nat) ≤ 2 ^ 47 ∧ (a1l : Int) ≤ 2 ^ 47) ∧ newP h3 (.cells (zeroRow [(.int .i64 0)] (a1l : Int).toNat).toArray 2) fun a27 h28 => ((0 ≤ (a1l : Int) ∧ (a1l : Int) ≤ (a1l : Int) ∧ (a1l : Int) * (8 : Nat) ≤ 2 ^ 47 ∧ (a1l : Int) ≤ 2 ^ 47) ∧ newP h28 (.cells (zeroRow [(.int .i64 0)] (a1l : Int).toNat).toArray 3) fun a29 h30 => newP h30 (.cells #[(.slice none 0 0), (.slice none 0 0)] 25) fun a31 h32 => stC h32 a31 (.slice (some a29) ((a1l : Int).toNat) ((a1l : Int).toNat)) fun h33 => stC h33 (a31.add 1) (.slice (some a27) ((a1l : Int).toNat) ((a1l : Int).toNat)) fun h34 => (j69 a31 h34)) ∧ (newP h28 (.cells #[(.slice none 0 0), (.slice none 0 0)] 25) fun a35 h36 => (0 ≤ (a1l : Int) ∧ (a1l : Int) ≤ (a1l : Int) ∧ (a1l : Int) * (8 : Nat) ≤ 2 ^ 47 ∧ (a1l : Int) ≤ 2 ^ 47) ∧ newP h36 (.cells (zeroRow [(.int .i64 0)] (a1l : Int).toNat).toArray 3) fun a37 h38 => stC h38 a35 (.slice (some a37) ((a1l : Int).toNat) ((a1l : Int).toNat)) fun h39 => stC h39 (a35.add 1) (.slice (some a27) ((a1l : Int).toNat) ((a1l : Int).toNat)) fun h40 => (j69 a35 h40))) ∧ (newP h3 (.cells #[(.slice none 0 0), (.slice none 0 0)] 25) fun a41 h42 => ((0 ≤ (a1l : Int) ∧ (a1l : Int) ≤ (a1l : Int) ∧ (a1l : Int) * (8 : Nat) ≤ 2 ^ 47 ∧ (a1l : Int) ≤ 2 ^ 47) ∧ newP h42 (.cells (zeroRow [(.int .i64 0)] (a1l : Int).toNat).toArray 3) fun a43 h44 => (0 ≤ (a1l : Int) ∧ (a1l : Int) ≤ (a1l : Int) ∧ (a1l : Int) * (8 : Nat) ≤ 2 ^ 47 ∧ (a1l : Int) ≤ 2 ^ 47) ∧ newP h44 (.cells (zeroRow [(.int .i64 0)] (a1l : Int).toNat).toArray 2) fun a45 h46 => stC h46 a41 (.slice (some a43) ((a1l : Int).toNat) ((a1l : Int).toNat)) fun h47 => stC h47 (a41.add 1) (.slice (some a45) ((a1l : Int).toNat) ((a1l : Int).toNat)) fun h48 => (j69 a41 h48)) ∧ ((0 ≤ (a1l : Int) ∧ (a1l : Int) ≤ (a1l : Int) ∧ (a1l : Int) * (8 : Nat) ≤ 2 ^ 47 ∧ (a1l : Int) ≤ 2 ^ 47) ∧ newP h42 (.cells (zeroRow [(.int .i64 0)] (a1l : Int).toNat).toArray 2) fun a49 h50 => (0 ≤ (a1l : Int) ∧ (a1l : Int) ≤ (a1l : Int) ∧ (a1l : Int) * (8 : Nat) ≤ 2 ^ 47 ∧ (a1l : Int) ≤ 2 ^ 47) ∧ newP h50 (.cells (zeroRow [(.int .i64 0)] (a1l : Int).toNat).toArray 3) fun a51 h52 => stC h52 a41 (.slice (some a51) ((a1l : Int).toNat) ((a1l : Int).toNat)) fun h53 => stC h53 (a41.add 1) (.slice (some a49) ((a1l : Int).toNat) ((a1l : Int).toNat)) fun h54 => (j69 a41 h54))))))))))))
def matrix_Tree.ret (K : (Option Addr) → Nat → Nat → (Option Addr) → Nat → Nat → Int → Heap → Prop) (v : Value) (h : Heap) : Prop := match v with
  | (.tuple ⟨[(.agg ⟨[(.slice r70 r70l r70c), (.slice r71 r71l r71c)]⟩), (.int .i64 r72)]⟩) => K r70 r70l r70c r71 r71l r71c r72 h
  | _ => False
theorem matrix_Tree.ret_elim {K : (Option Addr) → Nat → Nat → (Option Addr) → Nat → Nat → Int → Heap → Prop} {K' : Value → Heap → Prop} {v : Value} {h : Heap} (hk : ∀ r70 r70l r70c r71 r71l r71c r72 h, K r70 r70l r70c r71 r71l r71c r72 h → K' (.tuple #[(.agg #[(.slice r70 r70l r70c), (.slice r71 r71l r71c)]), (.int .i64 r72)]) h) (hh : matrix_Tree.ret K v h) : K' v h := by
  unfold matrix_Tree.ret at hh
  split at hh
  · exact hk _ _ _ _ _ _ _ _ hh
  · exact hh.elim
def matrix_Tree.qcall (f : FuncId) (vs : List Value) (h : Heap) (K : Value → Prop) : Prop := match f, vs with
  | 35, [(.slice a1 a1l a1c)] => qcallP1 h (matrix_Ultra a1 a1l a1c h) fun r16 => K (.bool r16)
  | _, _ => False
def matrix_Tree.r0 (K : Nat → List Value → Heap → Prop) (m : Nat) (vs : List Value) (h : Heap) : Prop := match vs with
  | [(.slice c0_1001 c0_1002 c0_1003), (.pointer (some c2_1004)), (.int .i64 c4_1005), (.pointer (some c5_1006)), (.slice (some c6_1007) c6_1008 c6_1009), (.int .i64 c31_1010), (.int .i64 v32_1011)] => matrix_Tree.l0 (fun h' => K 3 [(.slice c0_1001 c0_1002 c0_1003), (.pointer (some c2_1004)), (.int .i64 c4_1005), (.pointer (some c5_1006)), (.slice (some c6_1007) c6_1008 c6_1009)] h') m c0_1001 c0_1002 c0_1003 c2_1004 c4_1005 c5_1006 c6_1007 c6_1008 c6_1009 c31_1010 v32_1011 h
  | _ => False
def matrix_Tree.r1 (K : Nat → List Value → Heap → Prop) (m : Nat) (vs : List Value) (h : Heap) : Prop := match vs with
  | [(.slice c0_2001 c0_2002 c0_2003), (.pointer (some c2_2004)), (.int .i64 c4_2005), (.pointer (some c5_2006)), (.slice (some c6_2007) c6_2008 c6_2009), (.int .i64 v8_2010)] => matrix_Tree.l1 (fun h' => K 5 [(.pointer (some c2_2004)), (.pointer (some c5_2006))] h') m c0_2001 c0_2002 c0_2003 c2_2004 c4_2005 c5_2006 c6_2007 c6_2008 c6_2009 v8_2010 h
  | _ => False
def matrix_Tree.r2 (K : Nat → List Value → Heap → Prop) (m : Nat) (vs : List Value) (h : Heap) : Prop := match vs with
  | [(.slice c0_3001 c0_3002 c0_3003), (.pointer (some c2_3004)), (.int .i64 c4_3005), (.pointer (some c5_3006)), (.slice (some c6_3007) c6_3008 c6_3009), (.int .i64 c9_3010), (.int .i64 v10_3011), (.int .i64 c50_3012), (.int .i64 v51_3013)] => matrix_Tree.l2 (fun z73 h' => K 7 [(.slice c0_3001 c0_3002 c0_3003), (.pointer (some c2_3004)), (.int .i64 c4_3005), (.pointer (some c5_3006)), (.slice (some c6_3007) c6_3008 c6_3009), (.int .i64 z73)] h') m c0_3001 c0_3002 c0_3003 c2_3004 c4_3005 c5_3006 c6_3007 c6_3008 c6_3009 c9_3010 v10_3011 c50_3012 v51_3013 h
  | _ => False
def matrix_Tree.loop (i : Nat) (vs : List Value) (h : Heap) (K : Nat → List Value → Heap → Prop) : Prop := match i with
  | 0 => ∃ m, matrix_Tree.r0 K m vs h
  | 1 => ∃ m, matrix_Tree.r1 K m vs h
  | 2 => ∃ m, matrix_Tree.r2 K m vs h
  | _ => False
noncomputable def matrix_Tree.ctx : Ctx := { P := Try.prog, call := fun _ _ _ _ => False, qcall := matrix_Tree.qcall, quiet := fun f => Nat.beq f 35 || Nat.beq f 1000069 || Nat.beq f 1000099, loop := matrix_Tree.loop }
theorem matrix_Tree.ok [DKc] : matrix_Tree.ctx.OK where
  mixed := by kernel_rfl
  mono := fun hh _ => hh.elim
  call := fun hh => hh.elim
  qmono := by
    intro f args h K K' hh hk
    change matrix_Tree.qcall f args h K at hh
    change matrix_Tree.qcall f args h K'
    unfold matrix_Tree.qcall at hh ⊢
    split at hh
    · obtain ⟨x0, h1, h2⟩ := hh
      exact ⟨x0, h1, hk _ h2⟩
    · exact hh.elim
  qval := by
    intro f args h K hh
    change matrix_Tree.qcall f args h K at hh
    suffices H : ∃ v, K v ∧ matrix_Tree.qcall f args h (· = v) from H
    unfold matrix_Tree.qcall at hh ⊢
    split at hh
    · obtain ⟨x0, h1, h2⟩ := hh
      exact ⟨_, h2, x0, h1, rfl⟩
    · exact hh.elim
  qcall := by
    intro f args h v hh w hw
    change matrix_Tree.qcall f args h (· = v) at hh
    unfold matrix_Tree.qcall at hh
    split at hh
    · obtain ⟨x0, h1, h2⟩ := hh
      obtain ⟨g1, g2⟩ := matrix_Ultra.calls h1 w hw
      refine .inl ⟨g1, g2.mono fun e w' ⟨u, he, ho, hr⟩ => ?_⟩
      have hq := matrix_Ultra.ret_elim (K' := fun u h' => u = v ∧ h' = h) (fun _ h' hr => by obtain ⟨rfl, rfl⟩ := hr; exact ⟨h2, rfl⟩) hr
      exact ⟨hq.1 ▸ he, ho, hq.2⟩
    · exact hh.elim
noncomputable def matrix_Tree.code : Code := (Try.f39.body).getD .skip
def matrix_Tree.ann : Ann := (.two .auto (.two .auto (.two .auto (.two (.reg [0, 1, 0, 4, 15, 0, 63] (.take 0 (.take 2 (.alt 1 (.alt 3 (.take 4 (.alt 5 (.alt 6 .done .noalt) .noalt)) (.alt 5 (.alt 3 (.take 4 (.alt 6 .done .noalt)) .noalt) .noalt)) (.alt 3 (.alt 1 (.take 4 (.alt 5 (.alt 6 .done .noalt) .noalt)) (.alt 5 (.alt 1 (.take 4 (.alt 6 .done .noalt)) .noalt) .noalt)) (.alt 5 (.alt 1 (.alt 3 (.take 4 (.alt 6 .done .noalt)) .noalt) (.alt 3 (.alt 1 (.take 4 (.alt 6 .done .noalt)) .noalt) .noalt)) .noalt)))))) (.two .auto (.two (.two .auto (.two (.loop 0 [0, 2, 4, 5, 6, 31, 32] [(3, [0, 2, 4, 5, 6])] .auto) .auto)) (.two (.two .auto (.two (.loop 1 [0, 2, 4, 5, 6, 8] [(5, [2, 5])] (.two .auto (.two (.two .auto (.two .auto (.two (.two .auto (.two (.loop 2 [0, 2, 4, 5, 6, 9, 10, 50, 51] [(7, [0, 2, 4, 5, 6, 10])] (.two .auto (.two .auto (.two (.two (.two .auto (.two .auto (.two (.two .auto (.two (.reg [0, 1, 3, 7, 7, 31, 63, 7, 255, 511, 7, 1031, 7, 7175, 15367, 32767, 65535, 131071, 262143, 262143, 1048575, 2097151, 262143, 8388607, 16777215, 262143, 33816575, 262143, 235143167, 503578623, 1073741823, 2147483647, 4294967295, 4294967295, 17179869183, 34359738367, 68719476735] (.take 0 (.take 1 (.take 2 (.take 3 (.take 4 (.take 5 (.take 6 (.take 7 (.take 8 (.take 9 (.take 10 (.take 11 (.take 12 (.take 13 (.take 14 (.take 15 (.take 16 (.take 17 (.take 18 (.take 19 (.take 20 (.take 21 (.take 22 (.take 23 (.take 24 (.take 25 (.take 26 (.take 27 (.take 28 (.take 29 (.take 30 (.take 31 (.take 32 (.take 33 (.take 34 (.take 35 (.take 36 .done)))))))))))))))))))))))))))))))))))))) (.two (.reg [0, 1, 0, 0, 8, 0, 0, 0, 0, 384, 896, 0, 3968, 8064, 16327, 32711, 65535, 131071] (.take 0 (.take 1 (.take 2 (.take 3 (.take 5 (.take 6 (.take 7 (.take 8 (.take 9 (.take 10 (.take 11 (.take 12 (.take 13 (.take 14 (.early 4 (.alt 15 (.take 16 (.alt 17 .done .noalt)) .noalt))))))))))))))))) .auto))) (.two (.reg [0, 1, 3, 7, 15, 7, 63, 127, 7, 263, 7, 1799, 3847, 8191, 16383] (.take 0 (.take 1 (.take 2 (.take 3 (.take 4 (.take 5 (.take 6 (.take 7 (.take 8 (.take 9 (.take 10 (.take 11 (.take 12 (.take 13 (.take 14 .done)))))))))))))))) .auto)))) .auto) .auto)))) .auto)) .auto))) .auto))) .auto)) .auto)))))))
noncomputable def matrix_Tree.c2 : Code := sub matrix_Tree.code [1, 1, 1, 1, 1, 1, 0, 1, 0, 0, 1, 0, 1, 1, 0, 1, 0, 0]
def matrix_Tree.a2 : Ann := (.two .auto (.two .auto (.two (.two (.two .auto (.two .auto (.two (.two .auto (.two (.reg [0, 1, 3, 7, 7, 31, 63, 7, 255, 511, 7, 1031, 7, 7175, 15367, 32767, 65535, 131071, 262143, 262143, 1048575, 2097151, 262143, 8388607, 16777215, 262143, 33816575, 262143, 235143167, 503578623, 1073741823, 2147483647, 4294967295, 4294967295, 17179869183, 34359738367, 68719476735] (.take 0 (.take 1 (.take 2 (.take 3 (.take 4 (.take 5 (.take 6 (.take 7 (.take 8 (.take 9 (.take 10 (.take 11 (.take 12 (.take 13 (.take 14 (.take 15 (.take 16 (.take 17 (.take 18 (.take 19 (.take 20 (.take 21 (.take 22 (.take 23 (.take 24 (.take 25 (.take 26 (.take 27 (.take 28 (.take 29 (.take 30 (.take 31 (.take 32 (.take 33 (.take 34 (.take 35 (.take 36 .done)))))))))))))))))))))))))))))))))))))) (.two (.reg [0, 1, 0, 0, 8, 0, 0, 0, 0, 384, 896, 0, 3968, 8064, 16327, 32711, 65535, 131071] (.take 0 (.take 1 (.take 2 (.take 3 (.take 5 (.take 6 (.take 7 (.take 8 (.take 9 (.take 10 (.take 11 (.take 12 (.take 13 (.take 14 (.early 4 (.alt 15 (.take 16 (.alt 17 .done .noalt)) .noalt))))))))))))))))) .auto))) (.two (.reg [0, 1, 3, 7, 15, 7, 63, 127, 7, 263, 7, 1799, 3847, 8191, 16383] (.take 0 (.take 1 (.take 2 (.take 3 (.take 4 (.take 5 (.take 6 (.take 7 (.take 8 (.take 9 (.take 10 (.take 11 (.take 12 (.take 13 (.take 14 .done)))))))))))))))) .auto)))) .auto) .auto)))
def matrix_Tree.keep2 : List Nat := [0, 2, 4, 5, 6, 9, 10, 50, 51]
def matrix_Tree.outs2 : List (Nat × List Nat) := [(7, [0, 2, 4, 5, 6, 10])]
noncomputable def matrix_Tree.c1 : Code := sub matrix_Tree.code [1, 1, 1, 1, 1, 1, 0, 1, 0, 0]
def matrix_Tree.a1 : Ann := (.two .auto (.two (.two .auto (.two .auto (.two (.two .auto (.two (.loop 2 [0, 2, 4, 5, 6, 9, 10, 50, 51] [(7, [0, 2, 4, 5, 6, 10])] (.two .auto (.two .auto (.two (.two (.two .auto (.two .auto (.two (.two .auto (.two (.reg [0, 1, 3, 7, 7, 31, 63, 7, 255, 511, 7, 1031, 7, 7175, 15367, 32767, 65535, 131071, 262143, 262143, 1048575, 2097151, 262143, 8388607, 16777215, 262143, 33816575, 262143, 235143167, 503578623, 1073741823, 2147483647, 4294967295, 4294967295, 17179869183, 34359738367, 68719476735] (.take 0 (.take 1 (.take 2 (.take 3 (.take 4 (.take 5 (.take 6 (.take 7 (.take 8 (.take 9 (.take 10 (.take 11 (.take 12 (.take 13 (.take 14 (.take 15 (.take 16 (.take 17 (.take 18 (.take 19 (.take 20 (.take 21 (.take 22 (.take 23 (.take 24 (.take 25 (.take 26 (.take 27 (.take 28 (.take 29 (.take 30 (.take 31 (.take 32 (.take 33 (.take 34 (.take 35 (.take 36 .done)))))))))))))))))))))))))))))))))))))) (.two (.reg [0, 1, 0, 0, 8, 0, 0, 0, 0, 384, 896, 0, 3968, 8064, 16327, 32711, 65535, 131071] (.take 0 (.take 1 (.take 2 (.take 3 (.take 5 (.take 6 (.take 7 (.take 8 (.take 9 (.take 10 (.take 11 (.take 12 (.take 13 (.take 14 (.early 4 (.alt 15 (.take 16 (.alt 17 .done .noalt)) .noalt))))))))))))))))) .auto))) (.two (.reg [0, 1, 3, 7, 15, 7, 63, 127, 7, 263, 7, 1799, 3847, 8191, 16383] (.take 0 (.take 1 (.take 2 (.take 3 (.take 4 (.take 5 (.take 6 (.take 7 (.take 8 (.take 9 (.take 10 (.take 11 (.take 12 (.take 13 (.take 14 .done)))))))))))))))) .auto)))) .auto) .auto)))) .auto)) .auto))) .auto))
def matrix_Tree.keep1 : List Nat := [0, 2, 4, 5, 6, 8]
def matrix_Tree.outs1 : List (Nat × List Nat) := [(5, [2, 5])]
noncomputable def matrix_Tree.c0 : Code := sub matrix_Tree.code [1, 1, 1, 1, 1, 0, 1, 0, 0]
def matrix_Tree.a0 : Ann := .auto
def matrix_Tree.keep0 : List Nat := [0, 2, 4, 5, 6, 31, 32]
def matrix_Tree.outs0 : List (Nat × List Nat) := [(3, [0, 2, 4, 5, 6])]
set_option maxRecDepth 100000 in
theorem matrix_Tree.L0 [DKc] : LoopOK matrix_Tree.ctx 135 matrix_Tree.c0 0 matrix_Tree.keep0 matrix_Tree.outs0 := by
  refine loop_ok (n := matrix_Tree.a0) matrix_Tree.ok (by kernel_rfl) (loops_ok (l := []) (by kernel_rfl) ?_) matrix_Tree.r0 ?_ ?_ (fun vs h K hh => hh)
  · exact trivial
  · intro K vs h hh
    unfold matrix_Tree.r0 at hh
    split at hh
    · exact hh
    · exact hh
  · intro K m vs h hh
    unfold matrix_Tree.r0 at hh
    split at hh
    · exact cast (by kernel_rfl) hh
    · exact hh.elim
set_option maxRecDepth 100000 in
theorem matrix_Tree.L2 [DKc] : LoopOK matrix_Tree.ctx 135 matrix_Tree.c2 2 matrix_Tree.keep2 matrix_Tree.outs2 := by
  refine loop_ok (n := matrix_Tree.a2) matrix_Tree.ok (by kernel_rfl) (loops_ok (l := []) (by kernel_rfl) ?_) matrix_Tree.r2 ?_ ?_ (fun vs h K hh => hh)
  · exact trivial
  · intro K vs h hh
    unfold matrix_Tree.r2 at hh
    split at hh
    · exact hh
    · exact hh
  · intro K m vs h hh
    unfold matrix_Tree.r2 at hh
    split at hh
    · exact cast (by kernel_rfl) hh
    · exact hh.elim
set_option maxRecDepth 100000 in
theorem matrix_Tree.L1 [DKc] : LoopOK matrix_Tree.ctx 135 matrix_Tree.c1 1 matrix_Tree.keep1 matrix_Tree.outs1 := by
  refine loop_ok (n := matrix_Tree.a1) matrix_Tree.ok (by kernel_rfl) (loops_ok (l := [(matrix_Tree.c2, none, 2, matrix_Tree.keep2, matrix_Tree.outs2)]) (by kernel_rfl) ?_) matrix_Tree.r1 ?_ ?_ (fun vs h K hh => hh)
  · exact ⟨matrix_Tree.L2, trivial⟩
  · intro K vs h hh
    unfold matrix_Tree.r1 at hh
    split at hh
    · exact hh
    · exact hh
  · intro K m vs h hh
    unfold matrix_Tree.r1 at hh
    split at hh
    · exact cast (by kernel_rfl) hh
    · exact hh.elim
set_option maxRecDepth 100000 in
theorem matrix_Tree.eq (a1 : Option Addr) (a1l : Nat) (a1c : Nat) (h : Heap) (K : (Option Addr) → Nat → Nat → (Option Addr) → Nat → Nat → Int → Heap → Prop) : evF matrix_Tree.ctx Try.f39 matrix_Tree.ann [(.slice a1 a1l a1c)] h (matrix_Tree.ret K) = matrix_Tree a1 a1l a1c h K := by kernel_rfl
set_option maxRecDepth 100000 in
theorem matrix_Tree.calls [DKc] {a1 : Option Addr} {a1l : Nat} {a1c : Nat} {h : Heap} {K : (Option Addr) → Nat → Nat → (Option Addr) → Nat → Nat → Int → Heap → Prop} (hh : matrix_Tree a1 a1l a1c h K) (w : World) (hw : w.heap = h) :
    (callFunc 39 #[(.slice a1 a1l a1c)]).run Try.prog w = .ok (.enter 39 #[(.slice a1 a1l a1c)]) w ∧ Calls Try.prog 39 #[(.slice a1 a1l a1c)] w fun e w' => ∃ v, e = .returned v ∧ Out w w' ∧ matrix_Tree.ret K v w'.heap := by
  rw [← matrix_Tree.eq] at hh
  exact fn_calls (args := [(.slice a1 a1l a1c)]) (c := matrix_Tree.code) matrix_Tree.ok Try.func39 (by kernel_rfl) (by kernel_rfl) (by kernel_rfl) (by kernel_rfl) (loops_ok (l := [(matrix_Tree.c0, none, 0, matrix_Tree.keep0, matrix_Tree.outs0), (matrix_Tree.c1, none, 1, matrix_Tree.keep1, matrix_Tree.outs1)]) (by kernel_rfl) ⟨matrix_Tree.L0, matrix_Tree.L1, trivial⟩) hh w hw

/-! ### strait/straitlaw35.MatrixWide: function 9 -/
section
variable [DKc]
def straitlaw35_MatrixWide.b0 (K2 : (Option Addr) → Nat → Nat → Heap → Prop) (cont : Int → (Option Addr) → Nat → Nat → Addr → Int → Heap → Prop) (c3_1001 : Int) (v4_1002 : Option Addr) (v4_1002l : Nat) (v4_1002c : Nat) (c5_1003 : Addr) (v6_1004 : Int) (h1005 : Heap) : Prop :=
  (iteB (decide (v6_1004 < c3_1001)) (((0 ≤ c3_1001 ∧ c3_1001 ≤ c3_1001 ∧ c3_1001 * (8 : Nat) ≤ 2 ^ 47 ∧ c3_1001 ≤ 2 ^ 47) ∧ newP h1005 (.cells (zeroRow [(.int .i64 0)] c3_1001.toNat).toArray 2) fun a1006 h1007 => newP h1007 (.cells #[(.slice (some a1006) c3_1001.toNat c3_1001.toNat)] 23) fun a1008 h1009 => ∃ n1014, cellsAt h1009 (some a1008) (1 * 1) n1014 ∧ appP 23 1 24 [(.slice none 0 0)] v4_1002 v4_1002l v4_1002c 1 n1014 h1009 fun q1010 l1011 c1012 h1013 => (∃ (x1015 : Option Addr) (x1015l : Nat) (x1015c : Nat), cell h1013 c5_1003 = some (.slice x1015 x1015l x1015c) ∧ chkP x1015 fun a1016 => (0 ≤ v6_1004 ∧ v6_1004 < (x1015l : Int)) ∧ stC h1013 (a1016.add (v6_1004.toNat * 1)) (.int .i64 (IntKind.i64.wrap (v6_1004 - 1))) fun h1017 => ((cont c3_1001 q1010 l1011 c1012 c5_1003 (IntKind.i64.wrap (v6_1004 + 1)) h1017))))) (K2 v4_1002 v4_1002l v4_1002c h1005))
def straitlaw35_MatrixWide.l0 (K2 : (Option Addr) → Nat → Nat → Heap → Prop) : Nat → Int → (Option Addr) → Nat → Nat → Addr → Int → Heap → Prop
  | 0, _, _, _, _, _, _, _ => False
  | m + 1, c3_1001, v4_1002, v4_1002l, v4_1002c, c5_1003, v6_1004, h => straitlaw35_MatrixWide.b0 K2 (straitlaw35_MatrixWide.l0 K2 m) c3_1001 v4_1002 v4_1002l v4_1002c c5_1003 v6_1004 h
def straitlaw35_MatrixWide (a1 : Int) (h : Heap) (K : Bool → Heap → Prop) : Prop :=
  ((12 : Int) ≠ 0 ∧ bindV (IntKind.i64.wrap (250 + ((IntKind.i64.wrap a1).tmod 12))) fun n2 => ((let j76 := (fun (y45 : Addr) (h46 : Heap) => (∃ m49, straitlaw35_MatrixWide.l0 (fun z47 z47l z47c h48 => ((callP7 (matrix_Tree z47 z47l z47c h48) fun x50 x50l x50c x51 x51l x51c x52 h53 => newP h53 (.cells #[(.slice none 0 0), (.slice none 0 0)] 25) fun a54 h55 => stC h55 a54 (.slice x50 x50l x50c) fun h56 => stC h56 (a54.add 1) (.slice x51 x51l x51c) fun h57 => (∃ (x58 : Option Addr) (x58l : Nat) (x58c : Nat), cell h57 y45 = some (.slice x58 x58l x58c) ∧ ∃ (x59 : Option Addr) (x59l : Nat) (x59c : Nat), cell h57 (y45.add 1) = some (.slice x59 x59l x59c) ∧ callP4 (matrix_Of x58 x58l x58c x59 x59l x59c h57) fun x60 x60l x60c x61 h62 => ((iteB (decide (n2 > (256 : Int))) (iteB (x52 == (3 : Int)) (iteB (x61 == (3 : Int)) (∃ (x63 : Option Addr) (x63l : Nat) (x63c : Nat), cell h62 a54 = some (.slice x63 x63l x63c) ∧ iteB ((x63l : Int) == (0 : Int)) (iteB ((x60l : Int) == (0 : Int)) (qcallP1 h62 (matrix_Ultra z47 z47l z47c h62) fun x64 => iteB (!x64) (callP1 (straitlaw35_awake h62) fun x65 h66 => K x65 h66) (K false h62)) (K false h62)) (K false h62)) (K false h62)) (K false h62)) ((iteB (x52 == (0 : Int)) (iteB (x61 == (0 : Int)) (∃ (x69 : Option Addr) (x69l : Nat) (x69c : Nat), cell h62 a54 = some (.slice x69 x69l x69c) ∧ iteB ((x69l : Int) == n2) (callP1 (matrix_Same z47 z47l z47c x60 x60l x60c h62) fun x70 h71 => iteB x70 (callP1 (straitlaw35_awake h71) fun x72 h73 => K x72 h73) (K false h71)) (K false h62)) (K false h62)) (K false h62))))))))) m49 n2 none 0 0 y45 0 h46));
  ((0 ≤ n2 ∧ n2 ≤ n2 ∧ n2 * (8 : Nat) ≤ 2 ^ 47 ∧ n2 ≤ 2 ^ 47) ∧ newP h (.cells (zeroRow [(.int .i64 0)] n2.toNat).toArray 3) fun a3 h4 => ((0 ≤ n2 ∧ n2 ≤ n2 ∧ n2 * (8 : Nat) ≤ 2 ^ 47 ∧ n2 ≤ 2 ^ 47) ∧ newP h4 (.cells (zeroRow [(.int .i64 0)] n2.toNat).toArray 2) fun a5 h6 => newP h6 (.cells #[(.slice none 0 0), (.slice none 0 0)] 25) fun a7 h8 => stC h8 a7 (.slice (some a3) n2.toNat n2.toNat) fun h9 => stC h9 (a7.add 1) (.slice (some a5) n2.toNat n2.toNat) fun h10 => (j76 a7 h10)) ∧ (newP h4 (.cells #[(.slice none 0 0), (.slice none 0 0)] 25) fun a11 h12 => (0 ≤ n2 ∧ n2 ≤ n2 ∧ n2 * (8 : Nat) ≤ 2 ^ 47 ∧ n2 ≤ 2 ^ 47) ∧ newP h12 (.cells (zeroRow [(.int .i64 0)] n2.toNat).toArray 2) fun a13 h14 => stC h14 a11 (.slice (some a3) n2.toNat n2.toNat) fun h15 => stC h15 (a11.add 1) (.slice (some a13) n2.toNat n2.toNat) fun h16 => (j76 a11 h16))) ∧ (((0 ≤ n2 ∧ n2 ≤ n2 ∧ n2 * (8 : Nat) ≤ 2 ^ 47 ∧ n2 ≤ 2 ^ 47) ∧ newP h (.cells (zeroRow [(.int .i64 0)] n2.toNat).toArray 2) fun a17 h18 => ((0 ≤ n2 ∧ n2 ≤ n2 ∧ n2 * (8 : Nat) ≤ 2 ^ 47 ∧ n2 ≤ 2 ^ 47) ∧ newP h18 (.cells (zeroRow [(.int .i64 0)] n2.toNat).toArray 3) fun a19 h20 => newP h20 (.cells #[(.slice none 0 0), (.slice none 0 0)] 25) fun a21 h22 => stC h22 a21 (.slice (some a19) n2.toNat n2.toNat) fun h23 => stC h23 (a21.add 1) (.slice (some a17) n2.toNat n2.toNat) fun h24 => (j76 a21 h24)) ∧ (newP h18 (.cells #[(.slice none 0 0), (.slice none 0 0)] 25) fun a25 h26 => (0 ≤ n2 ∧ n2 ≤ n2 ∧ n2 * (8 : Nat) ≤ 2 ^ 47 ∧ n2 ≤ 2 ^ 47) ∧ newP h26 (.cells (zeroRow [(.int .i64 0)] n2.toNat).toArray 3) fun a27 h28 => stC h28 a25 (.slice (some a27) n2.toNat n2.toNat) fun h29 => stC h29 (a25.add 1) (.slice (some a17) n2.toNat n2.toNat) fun h30 => (j76 a25 h30))) ∧ (newP h (.cells #[(.slice none 0 0), (.slice none 0 0)] 25) fun a31 h32 => ((0 ≤ n2 ∧ n2 ≤ n2 ∧ n2 * (8 : Nat) ≤ 2 ^ 47 ∧ n2 ≤ 2 ^ 47) ∧ newP h32 (.cells (zeroRow [(.int .i64 0)] n2.toNat).toArray 3) fun a33 h34 => (0 ≤ n2 ∧ n2 ≤ n2 ∧ n2 * (8 : Nat) ≤ 2 ^ 47 ∧ n2 ≤ 2 ^ 47) ∧ newP h34 (.cells (zeroRow [(.int .i64 0)] n2.toNat).toArray 2) fun a35 h36 => stC h36 a31 (.slice (some a33) n2.toNat n2.toNat) fun h37 => stC h37 (a31.add 1) (.slice (some a35) n2.toNat n2.toNat) fun h38 => (j76 a31 h38)) ∧ ((0 ≤ n2 ∧ n2 ≤ n2 ∧ n2 * (8 : Nat) ≤ 2 ^ 47 ∧ n2 ≤ 2 ^ 47) ∧ newP h32 (.cells (zeroRow [(.int .i64 0)] n2.toNat).toArray 2) fun a39 h40 => (0 ≤ n2 ∧ n2 ≤ n2 ∧ n2 * (8 : Nat) ≤ 2 ^ 47 ∧ n2 ≤ 2 ^ 47) ∧ newP h40 (.cells (zeroRow [(.int .i64 0)] n2.toNat).toArray 3) fun a41 h42 => stC h42 a31 (.slice (some a41) n2.toNat n2.toNat) fun h43 => stC h43 (a31.add 1) (.slice (some a39) n2.toNat n2.toNat) fun h44 => (j76 a31 h44)))))))
def straitlaw35_MatrixWide.ret (K : Bool → Heap → Prop) (v : Value) (h : Heap) : Prop := match v with
  | (.bool r77) => K r77 h
  | _ => False
theorem straitlaw35_MatrixWide.ret_elim {K : Bool → Heap → Prop} {K' : Value → Heap → Prop} {v : Value} {h : Heap} (hk : ∀ r77 h, K r77 h → K' (.bool r77) h) (hh : straitlaw35_MatrixWide.ret K v h) : K' v h := by
  unfold straitlaw35_MatrixWide.ret at hh
  split at hh
  · exact hk _ _ hh
  · exact hh.elim
def straitlaw35_MatrixWide.call (f : FuncId) (vs : List Value) (h : Heap) (K : Value → Heap → Prop) : Prop := match f, vs with
  | 30, [] => callP1 (straitlaw35_awake h) fun r21 h' => K (.bool r21) h'
  | 31, [(.agg ⟨[(.slice a1 a1l a1c), (.slice a2 a2l a2c)]⟩)] => callP4 (matrix_Of a1 a1l a1c a2 a2l a2c h) fun r18 r18l r18c r19 h' => K (.tuple #[(.slice r18 r18l r18c), (.int .i64 r19)]) h'
  | 33, [(.slice a1 a1l a1c), (.slice a2 a2l a2c)] => callP1 (matrix_Same a1 a1l a1c a2 a2l a2c h) fun r5 h' => K (.bool r5) h'
  | 39, [(.slice a1 a1l a1c)] => callP7 (matrix_Tree a1 a1l a1c h) fun r70 r70l r70c r71 r71l r71c r72 h' => K (.tuple #[(.agg #[(.slice r70 r70l r70c), (.slice r71 r71l r71c)]), (.int .i64 r72)]) h'
  | _, _ => False
def straitlaw35_MatrixWide.qcall (f : FuncId) (vs : List Value) (h : Heap) (K : Value → Prop) : Prop := match f, vs with
  | 35, [(.slice a1 a1l a1c)] => qcallP1 h (matrix_Ultra a1 a1l a1c h) fun r16 => K (.bool r16)
  | _, _ => False
def straitlaw35_MatrixWide.r0 (K : Nat → List Value → Heap → Prop) (m : Nat) (vs : List Value) (h : Heap) : Prop := match vs with
  | [(.int .i64 c3_1001), (.slice v4_1002 v4_1002l v4_1002c), (.pointer (some c5_1003)), (.int .i64 v6_1004)] => straitlaw35_MatrixWide.l0 (fun z78 z78l z78c h' => K 2 [(.int .i64 c3_1001), (.slice z78 z78l z78c), (.pointer (some c5_1003))] h') m c3_1001 v4_1002 v4_1002l v4_1002c c5_1003 v6_1004 h
  | _ => False
def straitlaw35_MatrixWide.loop (i : Nat) (vs : List Value) (h : Heap) (K : Nat → List Value → Heap → Prop) : Prop := match i with
  | 0 => ∃ m, straitlaw35_MatrixWide.r0 K m vs h
  | _ => False
noncomputable def straitlaw35_MatrixWide.ctx : Ctx := { P := Try.prog, call := straitlaw35_MatrixWide.call, qcall := straitlaw35_MatrixWide.qcall, quiet := fun f => Nat.beq f 35 || Nat.beq f 1000069 || Nat.beq f 1000099, loop := straitlaw35_MatrixWide.loop }
theorem straitlaw35_MatrixWide.ok : straitlaw35_MatrixWide.ctx.OK where
  mixed := by kernel_rfl
  mono := by
    intro f args h K K' hh hk
    change straitlaw35_MatrixWide.call f args h K at hh
    change straitlaw35_MatrixWide.call f args h K'
    unfold straitlaw35_MatrixWide.call at hh ⊢
    split at hh
    · obtain ⟨R, h1, h2⟩ := hh
      exact ⟨R, h1, fun _ x hr => hk _ _ (h2 _ x hr)⟩
    · obtain ⟨R, h1, h2⟩ := hh
      exact ⟨R, h1, fun _ _ _ _ x hr => hk _ _ (h2 _ _ _ _ x hr)⟩
    · obtain ⟨R, h1, h2⟩ := hh
      exact ⟨R, h1, fun _ x hr => hk _ _ (h2 _ x hr)⟩
    · obtain ⟨R, h1, h2⟩ := hh
      exact ⟨R, h1, fun _ _ _ _ _ _ _ x hr => hk _ _ (h2 _ _ _ _ _ _ _ x hr)⟩
    · exact hh.elim
  call := by
    intro f args h K hh w hw
    change straitlaw35_MatrixWide.call f args h K at hh
    unfold straitlaw35_MatrixWide.call at hh
    split at hh
    · obtain ⟨R, h1, h2⟩ := hh
      obtain ⟨g1, g2⟩ := straitlaw35_awake.calls h1 w hw
      exact ⟨g1, g2.mono fun e w' ⟨v, he, ho, hr⟩ => ⟨v, he, ho, straitlaw35_awake.ret_elim h2 hr⟩⟩
    · obtain ⟨R, h1, h2⟩ := hh
      obtain ⟨g1, g2⟩ := matrix_Of.calls h1 w hw
      exact ⟨g1, g2.mono fun e w' ⟨v, he, ho, hr⟩ => ⟨v, he, ho, matrix_Of.ret_elim h2 hr⟩⟩
    · obtain ⟨R, h1, h2⟩ := hh
      obtain ⟨g1, g2⟩ := matrix_Same.calls h1 w hw
      exact ⟨g1, g2.mono fun e w' ⟨v, he, ho, hr⟩ => ⟨v, he, ho, matrix_Same.ret_elim h2 hr⟩⟩
    · obtain ⟨R, h1, h2⟩ := hh
      obtain ⟨g1, g2⟩ := matrix_Tree.calls h1 w hw
      exact ⟨g1, g2.mono fun e w' ⟨v, he, ho, hr⟩ => ⟨v, he, ho, matrix_Tree.ret_elim h2 hr⟩⟩
    · exact hh.elim
  qmono := by
    intro f args h K K' hh hk
    change straitlaw35_MatrixWide.qcall f args h K at hh
    change straitlaw35_MatrixWide.qcall f args h K'
    unfold straitlaw35_MatrixWide.qcall at hh ⊢
    split at hh
    · obtain ⟨x0, h1, h2⟩ := hh
      exact ⟨x0, h1, hk _ h2⟩
    · exact hh.elim
  qval := by
    intro f args h K hh
    change straitlaw35_MatrixWide.qcall f args h K at hh
    suffices H : ∃ v, K v ∧ straitlaw35_MatrixWide.qcall f args h (· = v) from H
    unfold straitlaw35_MatrixWide.qcall at hh ⊢
    split at hh
    · obtain ⟨x0, h1, h2⟩ := hh
      exact ⟨_, h2, x0, h1, rfl⟩
    · exact hh.elim
  qcall := by
    intro f args h v hh w hw
    change straitlaw35_MatrixWide.qcall f args h (· = v) at hh
    unfold straitlaw35_MatrixWide.qcall at hh
    split at hh
    · obtain ⟨x0, h1, h2⟩ := hh
      obtain ⟨g1, g2⟩ := matrix_Ultra.calls h1 w hw
      refine .inl ⟨g1, g2.mono fun e w' ⟨u, he, ho, hr⟩ => ?_⟩
      have hq := matrix_Ultra.ret_elim (K' := fun u h' => u = v ∧ h' = h) (fun _ h' hr => by obtain ⟨rfl, rfl⟩ := hr; exact ⟨h2, rfl⟩) hr
      exact ⟨hq.1 ▸ he, ho, hq.2⟩
    · exact hh.elim
noncomputable def straitlaw35_MatrixWide.code : Code := (Try.f9.body).getD .skip
def straitlaw35_MatrixWide.ann : Ann := (.two .auto (.two .auto (.two .auto (.two (.reg [0, 1, 0, 4, 15, 0, 63] (.take 0 (.take 2 (.alt 1 (.alt 3 (.take 4 (.alt 5 (.alt 6 .done .noalt) .noalt)) (.alt 5 (.alt 3 (.take 4 (.alt 6 .done .noalt)) .noalt) .noalt)) (.alt 3 (.alt 1 (.take 4 (.alt 5 (.alt 6 .done .noalt) .noalt)) (.alt 5 (.alt 1 (.take 4 (.alt 6 .done .noalt)) .noalt) .noalt)) (.alt 5 (.alt 1 (.alt 3 (.take 4 (.alt 6 .done .noalt)) .noalt) (.alt 3 (.alt 1 (.take 4 (.alt 6 .done .noalt)) .noalt) .noalt)) .noalt)))))) (.two (.two .auto (.two (.loop 0 [3, 4, 5, 6] [(2, [3, 4, 5])] .auto) .auto)) .auto)))))
noncomputable def straitlaw35_MatrixWide.c0 : Code := sub straitlaw35_MatrixWide.code [1, 1, 1, 1, 0, 1, 0, 0]
def straitlaw35_MatrixWide.a0 : Ann := .auto
def straitlaw35_MatrixWide.keep0 : List Nat := [3, 4, 5, 6]
def straitlaw35_MatrixWide.outs0 : List (Nat × List Nat) := [(2, [3, 4, 5])]
set_option maxRecDepth 100000 in
theorem straitlaw35_MatrixWide.L0 : LoopOK straitlaw35_MatrixWide.ctx 94 straitlaw35_MatrixWide.c0 0 straitlaw35_MatrixWide.keep0 straitlaw35_MatrixWide.outs0 := by
  refine loop_ok (n := straitlaw35_MatrixWide.a0) straitlaw35_MatrixWide.ok (by kernel_rfl) (loops_ok (l := []) (by kernel_rfl) ?_) straitlaw35_MatrixWide.r0 ?_ ?_ (fun vs h K hh => hh)
  · exact trivial
  · intro K vs h hh
    unfold straitlaw35_MatrixWide.r0 at hh
    split at hh
    · exact hh
    · exact hh
  · intro K m vs h hh
    unfold straitlaw35_MatrixWide.r0 at hh
    split at hh
    · exact cast (by kernel_rfl) hh
    · exact hh.elim
set_option maxRecDepth 100000 in
theorem straitlaw35_MatrixWide.eq (a1 : Int) (h : Heap) (K : Bool → Heap → Prop) : evF straitlaw35_MatrixWide.ctx Try.f9 straitlaw35_MatrixWide.ann [(.int .u8 a1)] h (straitlaw35_MatrixWide.ret K) = straitlaw35_MatrixWide a1 h K := by kernel_rfl
set_option maxRecDepth 100000 in
theorem straitlaw35_MatrixWide.calls {a1 : Int} {h : Heap} {K : Bool → Heap → Prop} (hh : straitlaw35_MatrixWide a1 h K) (w : World) (hw : w.heap = h) :
    (callFunc 9 #[(.int .u8 a1)]).run Try.prog w = .ok (.enter 9 #[(.int .u8 a1)]) w ∧ Calls Try.prog 9 #[(.int .u8 a1)] w fun e w' => ∃ v, e = .returned v ∧ Out w w' ∧ straitlaw35_MatrixWide.ret K v w'.heap := by
  rw [← straitlaw35_MatrixWide.eq] at hh
  exact fn_calls (args := [(.int .u8 a1)]) (c := straitlaw35_MatrixWide.code) straitlaw35_MatrixWide.ok Try.func9 (by kernel_rfl) (by kernel_rfl) (by kernel_rfl) (by kernel_rfl) (loops_ok (l := [(straitlaw35_MatrixWide.c0, none, 0, straitlaw35_MatrixWide.keep0, straitlaw35_MatrixWide.outs0)]) (by kernel_rfl) ⟨straitlaw35_MatrixWide.L0, trivial⟩) hh w hw
end

end Go.Proofs.Ytfidcekobjmamaa
