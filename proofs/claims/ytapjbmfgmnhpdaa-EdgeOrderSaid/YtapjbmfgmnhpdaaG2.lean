/- WRITTEN BY A PROGRAM OF THIS SESSION (gen.py): what each function asks of memory, and that the model's run comes to it. -/
import Derived.Test.YtapjbmfgmnhpdaaProg
import Derived.Test.YtapjbmfgmnhpdaaFw8
import Derived.Test.YtapjbmfgmnhpdaaG1
namespace Go.Proofs.Ytapjbmfgmnhpdaa
open Go.Hp
set_option linter.unusedVariables false
set_option linter.unusedSimpArgs false

/-! ### strait/straitref15.add: function 36 -/
def straitref15_add.b0 (K0 : Heap → Prop) (K2 : (Option Addr) → Nat → Nat → Bool → Heap → Prop) (cont : (Option Addr) → Nat → Nat → Addr → Addr → (Option Addr) → Nat → Nat → Bool → Int → Heap → Prop) (c0_1001 : Option Addr) (c0_1002 : Nat) (c0_1003 : Nat) (c3_1004 : Addr) (c4_1005 : Addr) (v5_1006 : Option Addr) (v5_1006l : Nat) (v5_1006c : Nat) (v6_1007 : Bool) (v7_1008 : Int) (h1009 : Heap) : Prop :=
  (iteB (decide (v7_1008 < (c0_1002 : Int))) ((chkP c0_1001 fun a1010 => (0 ≤ v7_1008 ∧ v7_1008 < (c0_1002 : Int)) ∧ ∃ (x1011 : Int), cell h1009 (a1010.add (v7_1008.toNat * 3)) = some (.int .i64 x1011) ∧ ∃ (x1012 : Int), cell h1009 ((a1010.add (v7_1008.toNat * 3)).add 1) = some (.int .i64 x1012) ∧ ∃ (x1013 : Int), cell h1009 ((a1010.add (v7_1008.toNat * 3)).add 2) = some (.int .i64 x1013) ∧ newP h1009 (.cells #[(.int .i64 0), (.int .i64 0), (.int .i64 0)] 24) fun a1014 h1015 => stC h1015 a1014 (.int .i64 x1011) fun h1016 => stC h1016 (a1014.add 1) (.int .i64 x1012) fun h1017 => stC h1017 (a1014.add 2) (.int .i64 x1013) fun h1018 => (let j1070 := (fun (y1057 : Option Addr) (y1057l : Nat) (y1057c : Nat) (y1058 : Bool) (h1059 : Heap) => ∃ (x1060 : Int), cell h1059 a1014 = some (.int .i64 x1060) ∧ ∃ (x1061 : Int), cell h1059 (a1014.add 1) = some (.int .i64 x1061) ∧ ∃ (x1062 : Int), cell h1059 (a1014.add 2) = some (.int .i64 x1062) ∧ newP h1059 (.cells #[(.int .i64 x1060), (.int .i64 x1061), (.int .i64 x1062)] 24) fun a1063 h1064 => ∃ n1069, cellsAt h1064 (some a1063) (1 * 3) n1069 ∧ appP 24 3 24 [(.int .i64 0), (.int .i64 0), (.int .i64 0)] y1057 y1057l y1057c 1 n1069 h1064 fun q1065 l1066 c1067 h1068 => ((cont c0_1001 c0_1002 c0_1003 c3_1004 c4_1005 q1065 l1066 c1067 y1058 (IntKind.i64.wrap (v7_1008 + 1)) h1068)));
  let j1056 := (fun (y1023 : Bool) => iteB y1023 (∃ (x1024 : Int), cell h1018 (a1014.add 2) = some (.int .i64 x1024) ∧ ∃ (x1025 : Int), cell h1018 (c3_1004.add 2) = some (.int .i64 x1025) ∧ callP2 (straitref01_Add x1024 x1025 h1018) fun x1026 x1027 h1028 => newP h1028 (.cells #[(.int .i64 0), (.bool false)] 39) fun a1029 h1030 => stC h1030 a1029 (.int .i64 x1026) fun h1031 => stC h1031 (a1029.add 1) (.bool x1027) fun h1032 => (∃ (x1033 : Bool), cell h1032 (a1029.add 1) = some (.bool x1033) ∧ (iteB (!x1033) (stC h1032 c4_1005 (.slice none 0 0) fun h1034 => stC h1034 (c4_1005.add 1) (.bool false) fun h1035 => K0 h1035) ((∃ (x1036 : Int), cell h1032 a1029 = some (.int .i64 x1036) ∧ stC h1032 (a1014.add 2) (.int .i64 x1036) fun h1037 => ((j1070 v5_1006 v5_1006l v5_1006c true h1037))))))) (let j1055 := (fun (y1044 : Bool) => iteB y1044 (∃ (x1045 : Int), cell h1018 c3_1004 = some (.int .i64 x1045) ∧ ∃ (x1046 : Int), cell h1018 (c3_1004.add 1) = some (.int .i64 x1046) ∧ ∃ (x1047 : Int), cell h1018 (c3_1004.add 2) = some (.int .i64 x1047) ∧ newP h1018 (.cells #[(.int .i64 x1045), (.int .i64 x1046), (.int .i64 x1047)] 24) fun a1048 h1049 => ∃ n1054, cellsAt h1049 (some a1048) (1 * 3) n1054 ∧ appP 24 3 24 [(.int .i64 0), (.int .i64 0), (.int .i64 0)] v5_1006 v5_1006l v5_1006c 1 n1054 h1049 fun q1050 l1051 c1052 h1053 => ((j1070 q1050 l1051 c1052 true h1053))) ((j1070 v5_1006 v5_1006l v5_1006c v6_1007 h1018)));
  iteB (!v6_1007) (∃ (x1038 : Int), cell h1018 a1014 = some (.int .i64 x1038) ∧ ∃ (x1039 : Int), cell h1018 c3_1004 = some (.int .i64 x1039) ∧ iteB (decide (x1038 > x1039)) ((j1055 true)) (∃ (x1040 : Int), cell h1018 a1014 = some (.int .i64 x1040) ∧ ∃ (x1041 : Int), cell h1018 c3_1004 = some (.int .i64 x1041) ∧ iteB (x1040 == x1041) (∃ (x1042 : Int), cell h1018 (a1014.add 1) = some (.int .i64 x1042) ∧ ∃ (x1043 : Int), cell h1018 (c3_1004.add 1) = some (.int .i64 x1043) ∧ (j1055 (decide (x1042 > x1043)))) ((j1055 false)))) ((j1055 false))));
  ∃ (x1019 : Int), cell h1018 a1014 = some (.int .i64 x1019) ∧ ∃ (x1020 : Int), cell h1018 c3_1004 = some (.int .i64 x1020) ∧ iteB (x1019 == x1020) (∃ (x1021 : Int), cell h1018 (a1014.add 1) = some (.int .i64 x1021) ∧ ∃ (x1022 : Int), cell h1018 (c3_1004.add 1) = some (.int .i64 x1022) ∧ (j1056 (x1021 == x1022))) ((j1056 false))))) (K2 v5_1006 v5_1006l v5_1006c v6_1007 h1009))
def straitref15_add.l0 (K0 : Heap → Prop) (K2 : (Option Addr) → Nat → Nat → Bool → Heap → Prop) : Nat → (Option Addr) → Nat → Nat → Addr → Addr → (Option Addr) → Nat → Nat → Bool → Int → Heap → Prop
  | 0, _, _, _, _, _, _, _, _, _, _, _ => False
  | m + 1, c0_1001, c0_1002, c0_1003, c3_1004, c4_1005, v5_1006, v5_1006l, v5_1006c, v6_1007, v7_1008, h => straitref15_add.b0 K0 K2 (straitref15_add.l0 K0 K2 m) c0_1001 c0_1002 c0_1003 c3_1004 c4_1005 v5_1006 v5_1006l v5_1006c v6_1007 v7_1008 h
def straitref15_add (a1 : Option Addr) (a1l : Nat) (a1c : Nat) (a2 : Int) (a3 : Int) (a4 : Int) (h : Heap) (K : (Option Addr) → Nat → Nat → Bool → Heap → Prop) : Prop :=
  newP h (.cells #[(.int .i64 a2), (.int .i64 a3), (.int .i64 a4)] 24) fun a5 h6 => newP h6 (.cells #[(.slice none 0 0), (.bool false)] 45) fun a7 h8 => ((((∃ m15, straitref15_add.l0 (fun h9 => ∃ (x10 : Option Addr) (x10l : Nat) (x10c : Nat), cell h9 a7 = some (.slice x10 x10l x10c) ∧ ∃ (x11 : Bool), cell h9 (a7.add 1) = some (.bool x11) ∧ K x10 x10l x10c x11 h9) (fun z12 z12l z12c z13 h14 => (((iteB (!z13) (∃ (x16 : Int), cell h14 a5 = some (.int .i64 x16) ∧ ∃ (x17 : Int), cell h14 (a5.add 1) = some (.int .i64 x17) ∧ ∃ (x18 : Int), cell h14 (a5.add 2) = some (.int .i64 x18) ∧ newP h14 (.cells #[(.int .i64 x16), (.int .i64 x17), (.int .i64 x18)] 24) fun a19 h20 => ∃ n25, cellsAt h20 (some a19) (1 * 3) n25 ∧ appP 24 3 24 [(.int .i64 0), (.int .i64 0), (.int .i64 0)] z12 z12l z12c 1 n25 h20 fun q21 l22 c23 h24 => (stC h24 a7 (.slice q21 l22 c23) fun h32 => stC h32 (a7.add 1) (.bool true) fun h33 => (∃ (x34 : Option Addr) (x34l : Nat) (x34c : Nat), cell h33 a7 = some (.slice x34 x34l x34c) ∧ ∃ (x35 : Bool), cell h33 (a7.add 1) = some (.bool x35) ∧ K x34 x34l x34c x35 h33))) ((stC h14 a7 (.slice z12 z12l z12c) fun h36 => stC h36 (a7.add 1) (.bool true) fun h37 => (∃ (x38 : Option Addr) (x38l : Nat) (x38c : Nat), cell h37 a7 = some (.slice x38 x38l x38c) ∧ ∃ (x39 : Bool), cell h37 (a7.add 1) = some (.bool x39) ∧ K x38 x38l x38c x39 h37))))))) m15 a1 a1l a1c a5 a7 none 0 0 false 0 h8))))
def straitref15_add.ret (K : (Option Addr) → Nat → Nat → Bool → Heap → Prop) (v : Value) (h : Heap) : Prop := match v with
  | (.agg ⟨[(.slice r40 r40l r40c), (.bool r41)]⟩) => K r40 r40l r40c r41 h
  | _ => False
theorem straitref15_add.ret_elim {K : (Option Addr) → Nat → Nat → Bool → Heap → Prop} {K' : Value → Heap → Prop} {v : Value} {h : Heap} (hk : ∀ r40 r40l r40c r41 h, K r40 r40l r40c r41 h → K' (.agg #[(.slice r40 r40l r40c), (.bool r41)]) h) (hh : straitref15_add.ret K v h) : K' v h := by
  unfold straitref15_add.ret at hh
  split at hh
  · exact hk _ _ _ _ _ hh
  · exact hh.elim
def straitref15_add.call (f : FuncId) (vs : List Value) (h : Heap) (K : Value → Heap → Prop) : Prop := match f, vs with
  | 40, [(.int .i64 a1), (.int .i64 a2)] => callP2 (straitref01_Add a1 a2 h) fun r16 r17 h' => K (.agg #[(.int .i64 r16), (.bool r17)]) h'
  | _, _ => False
def straitref15_add.r0 (K : Nat → List Value → Heap → Prop) (m : Nat) (vs : List Value) (h : Heap) : Prop := match vs with
  | [(.slice c0_1001 c0_1002 c0_1003), (.pointer (some c3_1004)), (.pointer (some c4_1005)), (.slice v5_1006 v5_1006l v5_1006c), (.bool v6_1007), (.int .i64 v7_1008)] => straitref15_add.l0 (fun h' => K 0 [(.pointer (some c4_1005))] h') (fun z42 z42l z42c z43 h' => K 2 [(.pointer (some c3_1004)), (.pointer (some c4_1005)), (.slice z42 z42l z42c), (.bool z43)] h') m c0_1001 c0_1002 c0_1003 c3_1004 c4_1005 v5_1006 v5_1006l v5_1006c v6_1007 v7_1008 h
  | _ => False
def straitref15_add.loop (i : Nat) (vs : List Value) (h : Heap) (K : Nat → List Value → Heap → Prop) : Prop := match i with
  | 0 => ∃ m, straitref15_add.r0 K m vs h
  | _ => False
noncomputable def straitref15_add.ctx : Ctx := { P := Try.prog, call := straitref15_add.call, qcall := fun _ _ _ _ => False, quiet := fun f => Nat.beq f 1000062, loop := straitref15_add.loop }
theorem straitref15_add.ok : straitref15_add.ctx.OK where
  mixed := by kernel_rfl
  mono := by
    intro f args h K K' hh hk
    change straitref15_add.call f args h K at hh
    change straitref15_add.call f args h K'
    unfold straitref15_add.call at hh ⊢
    split at hh
    · obtain ⟨R, h1, h2⟩ := hh
      exact ⟨R, h1, fun _ _ x hr => hk _ _ (h2 _ _ x hr)⟩
    · exact hh.elim
  call := by
    intro f args h K hh w hw
    change straitref15_add.call f args h K at hh
    unfold straitref15_add.call at hh
    split at hh
    · obtain ⟨R, h1, h2⟩ := hh
      obtain ⟨g1, g2⟩ := straitref01_Add.calls h1 w hw
      exact ⟨g1, g2.mono fun e w' ⟨v, he, ho, hr⟩ => ⟨v, he, ho, straitref01_Add.ret_elim h2 hr⟩⟩
    · exact hh.elim
  qmono := fun hh _ => hh.elim
  qval := fun hh => hh.elim
  qcall := fun hh => hh.elim
noncomputable def straitref15_add.code : Code := (Try.f36.body).getD .skip
def straitref15_add.ann : Ann := (.two .auto (.two .auto (.two .auto (.two (.two .auto (.two (.loop 0 [0, 3, 4, 5, 6, 7] [(2, [3, 4, 5, 6]), (0, [4])] .auto) .auto)) .auto))))
noncomputable def straitref15_add.c0 : Code := sub straitref15_add.code [1, 1, 1, 0, 1, 0, 0]
def straitref15_add.a0 : Ann := .auto
def straitref15_add.keep0 : List Nat := [0, 3, 4, 5, 6, 7]
def straitref15_add.outs0 : List (Nat × List Nat) := [(2, [3, 4, 5, 6]), (0, [4])]
set_option maxRecDepth 100000 in
theorem straitref15_add.L0 : LoopOK straitref15_add.ctx 83 straitref15_add.c0 0 straitref15_add.keep0 straitref15_add.outs0 := by
  refine loop_ok (n := straitref15_add.a0) straitref15_add.ok (by kernel_rfl) (loops_ok (l := []) (by kernel_rfl) ?_) straitref15_add.r0 ?_ ?_ (fun vs h K hh => hh)
  · exact trivial
  · intro K vs h hh
    unfold straitref15_add.r0 at hh
    split at hh
    · exact hh
    · exact hh
  · intro K m vs h hh
    unfold straitref15_add.r0 at hh
    split at hh
    · exact cast (by kernel_rfl) hh
    · exact hh.elim
set_option maxRecDepth 100000 in
theorem straitref15_add.eq (a1 : Option Addr) (a1l : Nat) (a1c : Nat) (a2 : Int) (a3 : Int) (a4 : Int) (h : Heap) (K : (Option Addr) → Nat → Nat → Bool → Heap → Prop) : evF straitref15_add.ctx Try.f36 straitref15_add.ann [(.slice a1 a1l a1c), (.agg #[(.int .i64 a2), (.int .i64 a3), (.int .i64 a4)])] h (straitref15_add.ret K) = straitref15_add a1 a1l a1c a2 a3 a4 h K := by kernel_rfl
set_option maxRecDepth 100000 in
theorem straitref15_add.calls {a1 : Option Addr} {a1l : Nat} {a1c : Nat} {a2 : Int} {a3 : Int} {a4 : Int} {h : Heap} {K : (Option Addr) → Nat → Nat → Bool → Heap → Prop} (hh : straitref15_add a1 a1l a1c a2 a3 a4 h K) (w : World) (hw : w.heap = h) :
    (callFunc 36 #[(.slice a1 a1l a1c), (.agg #[(.int .i64 a2), (.int .i64 a3), (.int .i64 a4)])]).run Try.prog w = .ok (.enter 36 #[(.slice a1 a1l a1c), (.agg #[(.int .i64 a2), (.int .i64 a3), (.int .i64 a4)])]) w ∧ Calls Try.prog 36 #[(.slice a1 a1l a1c), (.agg #[(.int .i64 a2), (.int .i64 a3), (.int .i64 a4)])] w fun e w' => ∃ v, e = .returned v ∧ Out w w' ∧ straitref15_add.ret K v w'.heap := by
  rw [← straitref15_add.eq] at hh
  exact fn_calls (args := [(.slice a1 a1l a1c), (.agg #[(.int .i64 a2), (.int .i64 a3), (.int .i64 a4)])]) (c := straitref15_add.code) straitref15_add.ok Try.func36 (by kernel_rfl) (by kernel_rfl) (by kernel_rfl) (by kernel_rfl) (loops_ok (l := [(straitref15_add.c0, none, 0, straitref15_add.keep0, straitref15_add.outs0)]) (by kernel_rfl) ⟨straitref15_add.L0, trivial⟩) hh w hw

/-! ### strait/straitref15.Merge: function 20 -/
def straitref15_Merge.b1 (K4 : (Option Addr) → Nat → Nat → Heap → Prop) (cont : Addr → (Option Addr) → Nat → Nat → (Option Addr) → Nat → Nat → Int → Heap → Prop) (c2_2001 : Addr) (c3_2002 : Option Addr) (c3_2003 : Nat) (c3_2004 : Nat) (v6_2005 : Option Addr) (v6_2005l : Nat) (v6_2005c : Nat) (v7_2006 : Int) (h2007 : Heap) : Prop :=
  (iteB (decide (v7_2006 < (c3_2003 : Int))) ((chkP c3_2002 fun a2008 => (0 ≤ v7_2006 ∧ v7_2006 < (c3_2003 : Int)) ∧ ∃ (x2009 : Int), cell h2007 ((a2008.add (v7_2006.toNat * 3)).add 2) = some (.int .i64 x2009) ∧ (iteB (x2009 != (0 : Int)) (chkP c3_2002 fun a2010 => (0 ≤ v7_2006 ∧ v7_2006 < (c3_2003 : Int)) ∧ ∃ (x2011 : Int), cell h2007 (a2010.add (v7_2006.toNat * 3)) = some (.int .i64 x2011) ∧ ∃ (x2012 : Int), cell h2007 ((a2010.add (v7_2006.toNat * 3)).add 1) = some (.int .i64 x2012) ∧ ∃ (x2013 : Int), cell h2007 ((a2010.add (v7_2006.toNat * 3)).add 2) = some (.int .i64 x2013) ∧ newP h2007 (.cells #[(.int .i64 x2011), (.int .i64 x2012), (.int .i64 x2013)] 24) fun a2014 h2015 => ∃ n2020, cellsAt h2015 (some a2014) (1 * 3) n2020 ∧ appP 24 3 24 [(.int .i64 0), (.int .i64 0), (.int .i64 0)] v6_2005 v6_2005l v6_2005c 1 n2020 h2015 fun q2016 l2017 c2018 h2019 => ((cont c2_2001 c3_2002 c3_2003 c3_2004 q2016 l2017 c2018 (IntKind.i64.wrap (v7_2006 + 1)) h2019))) (((cont c2_2001 c3_2002 c3_2003 c3_2004 v6_2005 v6_2005l v6_2005c (IntKind.i64.wrap (v7_2006 + 1)) h2007)))))) (K4 v6_2005 v6_2005l v6_2005c h2007))
def straitref15_Merge.l1 (K4 : (Option Addr) → Nat → Nat → Heap → Prop) : Nat → Addr → (Option Addr) → Nat → Nat → (Option Addr) → Nat → Nat → Int → Heap → Prop
  | 0, _, _, _, _, _, _, _, _, _ => False
  | m + 1, c2_2001, c3_2002, c3_2003, c3_2004, v6_2005, v6_2005l, v6_2005c, v7_2006, h => straitref15_Merge.b1 K4 (straitref15_Merge.l1 K4 m) c2_2001 c3_2002 c3_2003 c3_2004 v6_2005 v6_2005l v6_2005c v7_2006 h
def straitref15_Merge.b0 (K0 : Heap → Prop) (K2 : (Option Addr) → Nat → Nat → Heap → Prop) (cont : (Option Addr) → Nat → Nat → Addr → (Option Addr) → Nat → Nat → Int → Heap → Prop) (c0_1001 : Option Addr) (c0_1002 : Nat) (c0_1003 : Nat) (c2_1004 : Addr) (v3_1005 : Option Addr) (v3_1005l : Nat) (v3_1005c : Nat) (v4_1006 : Int) (h1007 : Heap) : Prop :=
  (iteB (decide (v4_1006 < (c0_1002 : Int))) ((chkP c0_1001 fun a1008 => (0 ≤ v4_1006 ∧ v4_1006 < (c0_1002 : Int)) ∧ ∃ (x1009 : Int), cell h1007 (a1008.add (v4_1006.toNat * 3)) = some (.int .i64 x1009) ∧ chkP c0_1001 fun a1010 => (0 ≤ v4_1006 ∧ v4_1006 < (c0_1002 : Int)) ∧ ∃ (x1011 : Int), cell h1007 ((a1010.add (v4_1006.toNat * 3)).add 1) = some (.int .i64 x1011) ∧ (iteB (x1009 != x1011) (chkP c0_1001 fun a1012 => (0 ≤ v4_1006 ∧ v4_1006 < (c0_1002 : Int)) ∧ ∃ (x1013 : Int), cell h1007 (a1012.add (v4_1006.toNat * 3)) = some (.int .i64 x1013) ∧ ∃ (x1014 : Int), cell h1007 ((a1012.add (v4_1006.toNat * 3)).add 1) = some (.int .i64 x1014) ∧ ∃ (x1015 : Int), cell h1007 ((a1012.add (v4_1006.toNat * 3)).add 2) = some (.int .i64 x1015) ∧ callP3 (straitref15_Normal x1013 x1014 x1015 h1007) fun x1016 x1017 x1018 h1019 => callP4 (straitref15_add v3_1005 v3_1005l v3_1005c x1016 x1017 x1018 h1019) fun x1020 x1020l x1020c x1021 h1022 => newP h1022 (.cells #[(.slice none 0 0), (.bool false)] 45) fun a1023 h1024 => stC h1024 a1023 (.slice x1020 x1020l x1020c) fun h1025 => stC h1025 (a1023.add 1) (.bool x1021) fun h1026 => (∃ (x1027 : Bool), cell h1026 (a1023.add 1) = some (.bool x1027) ∧ (iteB (!x1027) (stC h1026 c2_1004 (.slice none 0 0) fun h1028 => stC h1028 (c2_1004.add 1) (.bool false) fun h1029 => K0 h1029) ((∃ (x1030 : Option Addr) (x1030l : Nat) (x1030c : Nat), cell h1026 a1023 = some (.slice x1030 x1030l x1030c) ∧ ((cont c0_1001 c0_1002 c0_1003 c2_1004 x1030 x1030l x1030c (IntKind.i64.wrap (v4_1006 + 1)) h1026))))))) (((cont c0_1001 c0_1002 c0_1003 c2_1004 v3_1005 v3_1005l v3_1005c (IntKind.i64.wrap (v4_1006 + 1)) h1007)))))) (K2 v3_1005 v3_1005l v3_1005c h1007))
def straitref15_Merge.l0 (K0 : Heap → Prop) (K2 : (Option Addr) → Nat → Nat → Heap → Prop) : Nat → (Option Addr) → Nat → Nat → Addr → (Option Addr) → Nat → Nat → Int → Heap → Prop
  | 0, _, _, _, _, _, _, _, _, _ => False
  | m + 1, c0_1001, c0_1002, c0_1003, c2_1004, v3_1005, v3_1005l, v3_1005c, v4_1006, h => straitref15_Merge.b0 K0 K2 (straitref15_Merge.l0 K0 K2 m) c0_1001 c0_1002 c0_1003 c2_1004 v3_1005 v3_1005l v3_1005c v4_1006 h
def straitref15_Merge (a1 : Option Addr) (a1l : Nat) (a1c : Nat) (h : Heap) (K : (Option Addr) → Nat → Nat → Bool → Heap → Prop) : Prop :=
  newP h (.cells #[(.slice none 0 0), (.bool false)] 45) fun a2 h3 => (((∃ m9, straitref15_Merge.l0 (fun h4 => ∃ (x5 : Option Addr) (x5l : Nat) (x5c : Nat), cell h4 a2 = some (.slice x5 x5l x5c) ∧ ∃ (x6 : Bool), cell h4 (a2.add 1) = some (.bool x6) ∧ K x5 x5l x5c x6 h4) (fun z7 z7l z7c h8 => ((((∃ m12, straitref15_Merge.l1 (fun z10 z10l z10c h11 => ((stC h11 a2 (.slice z10 z10l z10c) fun h13 => stC h13 (a2.add 1) (.bool true) fun h14 => (∃ (x15 : Option Addr) (x15l : Nat) (x15c : Nat), cell h14 a2 = some (.slice x15 x15l x15c) ∧ ∃ (x16 : Bool), cell h14 (a2.add 1) = some (.bool x16) ∧ K x15 x15l x15c x16 h14)))) m12 a2 z7 z7l z7c none 0 0 0 h8))))) m9 a1 a1l a1c a2 none 0 0 0 h3)))
def straitref15_Merge.ret (K : (Option Addr) → Nat → Nat → Bool → Heap → Prop) (v : Value) (h : Heap) : Prop := match v with
  | (.agg ⟨[(.slice r17 r17l r17c), (.bool r18)]⟩) => K r17 r17l r17c r18 h
  | _ => False
theorem straitref15_Merge.ret_elim {K : (Option Addr) → Nat → Nat → Bool → Heap → Prop} {K' : Value → Heap → Prop} {v : Value} {h : Heap} (hk : ∀ r17 r17l r17c r18 h, K r17 r17l r17c r18 h → K' (.agg #[(.slice r17 r17l r17c), (.bool r18)]) h) (hh : straitref15_Merge.ret K v h) : K' v h := by
  unfold straitref15_Merge.ret at hh
  split at hh
  · exact hk _ _ _ _ _ hh
  · exact hh.elim
def straitref15_Merge.call (f : FuncId) (vs : List Value) (h : Heap) (K : Value → Heap → Prop) : Prop := match f, vs with
  | 12, [(.agg ⟨[(.int .i64 a1), (.int .i64 a2), (.int .i64 a3)]⟩)] => callP3 (straitref15_Normal a1 a2 a3 h) fun r28 r29 r30 h' => K (.agg #[(.int .i64 r28), (.int .i64 r29), (.int .i64 r30)]) h'
  | 36, [(.slice a1 a1l a1c), (.agg ⟨[(.int .i64 a2), (.int .i64 a3), (.int .i64 a4)]⟩)] => callP4 (straitref15_add a1 a1l a1c a2 a3 a4 h) fun r40 r40l r40c r41 h' => K (.agg #[(.slice r40 r40l r40c), (.bool r41)]) h'
  | _, _ => False
def straitref15_Merge.r0 (K : Nat → List Value → Heap → Prop) (m : Nat) (vs : List Value) (h : Heap) : Prop := match vs with
  | [(.slice c0_1001 c0_1002 c0_1003), (.pointer (some c2_1004)), (.slice v3_1005 v3_1005l v3_1005c), (.int .i64 v4_1006)] => straitref15_Merge.l0 (fun h' => K 0 [(.pointer (some c2_1004))] h') (fun z19 z19l z19c h' => K 2 [(.pointer (some c2_1004)), (.slice z19 z19l z19c)] h') m c0_1001 c0_1002 c0_1003 c2_1004 v3_1005 v3_1005l v3_1005c v4_1006 h
  | _ => False
def straitref15_Merge.r1 (K : Nat → List Value → Heap → Prop) (m : Nat) (vs : List Value) (h : Heap) : Prop := match vs with
  | [(.pointer (some c2_2001)), (.slice c3_2002 c3_2003 c3_2004), (.slice v6_2005 v6_2005l v6_2005c), (.int .i64 v7_2006)] => straitref15_Merge.l1 (fun z20 z20l z20c h' => K 4 [(.pointer (some c2_2001)), (.slice z20 z20l z20c)] h') m c2_2001 c3_2002 c3_2003 c3_2004 v6_2005 v6_2005l v6_2005c v7_2006 h
  | _ => False
def straitref15_Merge.loop (i : Nat) (vs : List Value) (h : Heap) (K : Nat → List Value → Heap → Prop) : Prop := match i with
  | 0 => ∃ m, straitref15_Merge.r0 K m vs h
  | 1 => ∃ m, straitref15_Merge.r1 K m vs h
  | _ => False
noncomputable def straitref15_Merge.ctx : Ctx := { P := Try.prog, call := straitref15_Merge.call, qcall := fun _ _ _ _ => False, quiet := fun f => Nat.beq f 1000062, loop := straitref15_Merge.loop }
theorem straitref15_Merge.ok : straitref15_Merge.ctx.OK where
  mixed := by kernel_rfl
  mono := by
    intro f args h K K' hh hk
    change straitref15_Merge.call f args h K at hh
    change straitref15_Merge.call f args h K'
    unfold straitref15_Merge.call at hh ⊢
    split at hh
    · obtain ⟨R, h1, h2⟩ := hh
      exact ⟨R, h1, fun _ _ _ x hr => hk _ _ (h2 _ _ _ x hr)⟩
    · obtain ⟨R, h1, h2⟩ := hh
      exact ⟨R, h1, fun _ _ _ _ x hr => hk _ _ (h2 _ _ _ _ x hr)⟩
    · exact hh.elim
  call := by
    intro f args h K hh w hw
    change straitref15_Merge.call f args h K at hh
    unfold straitref15_Merge.call at hh
    split at hh
    · obtain ⟨R, h1, h2⟩ := hh
      obtain ⟨g1, g2⟩ := straitref15_Normal.calls h1 w hw
      exact ⟨g1, g2.mono fun e w' ⟨v, he, ho, hr⟩ => ⟨v, he, ho, straitref15_Normal.ret_elim h2 hr⟩⟩
    · obtain ⟨R, h1, h2⟩ := hh
      obtain ⟨g1, g2⟩ := straitref15_add.calls h1 w hw
      exact ⟨g1, g2.mono fun e w' ⟨v, he, ho, hr⟩ => ⟨v, he, ho, straitref15_add.ret_elim h2 hr⟩⟩
    · exact hh.elim
  qmono := fun hh _ => hh.elim
  qval := fun hh => hh.elim
  qcall := fun hh => hh.elim
noncomputable def straitref15_Merge.code : Code := (Try.f20.body).getD .skip
def straitref15_Merge.ann : Ann := (.two .auto (.two .auto (.two (.two .auto (.two (.loop 0 [0, 2, 3, 4] [(2, [2, 3]), (0, [2])] (.two .auto (.two (.two (.two (.reg [0, 0, 3, 7, 15, 0, 0, 96, 224, 480, 1023] (.take 0 (.take 1 (.take 2 (.take 3 (.take 4 (.take 5 (.take 6 (.take 7 (.take 8 (.take 9 (.take 10 .done)))))))))))) .auto) .auto) .auto))) .auto)) (.two .auto (.two (.two .auto (.two (.loop 1 [2, 3, 6, 7] [(4, [2, 6])] .auto) .auto)) .auto)))))
noncomputable def straitref15_Merge.c1 : Code := sub straitref15_Merge.code [1, 1, 1, 1, 0, 1, 0, 0]
def straitref15_Merge.a1 : Ann := .auto
def straitref15_Merge.keep1 : List Nat := [2, 3, 6, 7]
def straitref15_Merge.outs1 : List (Nat × List Nat) := [(4, [2, 6])]
noncomputable def straitref15_Merge.c0 : Code := sub straitref15_Merge.code [1, 1, 0, 1, 0, 0]
def straitref15_Merge.a0 : Ann := (.two .auto (.two (.two (.two (.reg [0, 0, 3, 7, 15, 0, 0, 96, 224, 480, 1023] (.take 0 (.take 1 (.take 2 (.take 3 (.take 4 (.take 5 (.take 6 (.take 7 (.take 8 (.take 9 (.take 10 .done)))))))))))) .auto) .auto) .auto))
def straitref15_Merge.keep0 : List Nat := [0, 2, 3, 4]
def straitref15_Merge.outs0 : List (Nat × List Nat) := [(2, [2, 3]), (0, [2])]
set_option maxRecDepth 100000 in
theorem straitref15_Merge.L0 : LoopOK straitref15_Merge.ctx 59 straitref15_Merge.c0 0 straitref15_Merge.keep0 straitref15_Merge.outs0 := by
  refine loop_ok (n := straitref15_Merge.a0) straitref15_Merge.ok (by kernel_rfl) (loops_ok (l := []) (by kernel_rfl) ?_) straitref15_Merge.r0 ?_ ?_ (fun vs h K hh => hh)
  · exact trivial
  · intro K vs h hh
    unfold straitref15_Merge.r0 at hh
    split at hh
    · exact hh
    · exact hh
  · intro K m vs h hh
    unfold straitref15_Merge.r0 at hh
    split at hh
    · exact cast (by kernel_rfl) hh
    · exact hh.elim
set_option maxRecDepth 100000 in
theorem straitref15_Merge.L1 : LoopOK straitref15_Merge.ctx 59 straitref15_Merge.c1 1 straitref15_Merge.keep1 straitref15_Merge.outs1 := by
  refine loop_ok (n := straitref15_Merge.a1) straitref15_Merge.ok (by kernel_rfl) (loops_ok (l := []) (by kernel_rfl) ?_) straitref15_Merge.r1 ?_ ?_ (fun vs h K hh => hh)
  · exact trivial
  · intro K vs h hh
    unfold straitref15_Merge.r1 at hh
    split at hh
    · exact hh
    · exact hh
  · intro K m vs h hh
    unfold straitref15_Merge.r1 at hh
    split at hh
    · exact cast (by kernel_rfl) hh
    · exact hh.elim
set_option maxRecDepth 100000 in
theorem straitref15_Merge.eq (a1 : Option Addr) (a1l : Nat) (a1c : Nat) (h : Heap) (K : (Option Addr) → Nat → Nat → Bool → Heap → Prop) : evF straitref15_Merge.ctx Try.f20 straitref15_Merge.ann [(.slice a1 a1l a1c)] h (straitref15_Merge.ret K) = straitref15_Merge a1 a1l a1c h K := by kernel_rfl
set_option maxRecDepth 100000 in
theorem straitref15_Merge.calls {a1 : Option Addr} {a1l : Nat} {a1c : Nat} {h : Heap} {K : (Option Addr) → Nat → Nat → Bool → Heap → Prop} (hh : straitref15_Merge a1 a1l a1c h K) (w : World) (hw : w.heap = h) :
    (callFunc 20 #[(.slice a1 a1l a1c)]).run Try.prog w = .ok (.enter 20 #[(.slice a1 a1l a1c)]) w ∧ Calls Try.prog 20 #[(.slice a1 a1l a1c)] w fun e w' => ∃ v, e = .returned v ∧ Out w w' ∧ straitref15_Merge.ret K v w'.heap := by
  rw [← straitref15_Merge.eq] at hh
  exact fn_calls (args := [(.slice a1 a1l a1c)]) (c := straitref15_Merge.code) straitref15_Merge.ok Try.func20 (by kernel_rfl) (by kernel_rfl) (by kernel_rfl) (by kernel_rfl) (loops_ok (l := [(straitref15_Merge.c0, none, 0, straitref15_Merge.keep0, straitref15_Merge.outs0), (straitref15_Merge.c1, none, 1, straitref15_Merge.keep1, straitref15_Merge.outs1)]) (by kernel_rfl) ⟨straitref15_Merge.L0, straitref15_Merge.L1, trivial⟩) hh w hw

/-! ### strait/edge.pieces: function 37 -/
def edge_pieces (a1 : Int) (a2 : Int) (a3 : Int) (h : Heap) (K : Int → Heap → Prop) : Prop :=
  newP h (.cells #[(.int .i64 a1), (.int .i64 a2), (.int .i64 a3)] 24) fun a4 h5 => (∃ (x6 : Int), cell h5 (a4.add 2) = some (.int .i64 x6) ∧ (2147483648 : Int) ≠ 0 ∧ bindV (IntKind.i64.wrap ((IntKind.i64.wrap (x6 - 1)).tdiv 2147483648)) fun n7 => bindV (if (IntKind.i64.wrap (n7 + 1)) > 1 then (IntKind.i64.wrap (n7 + 1)) else 1) fun n8 => K n8 h5)
def edge_pieces.ret (K : Int → Heap → Prop) (v : Value) (h : Heap) : Prop := match v with
  | (.int .i64 r9) => K r9 h
  | _ => False
theorem edge_pieces.ret_elim {K : Int → Heap → Prop} {K' : Value → Heap → Prop} {v : Value} {h : Heap} (hk : ∀ r9 h, K r9 h → K' (.int .i64 r9) h) (hh : edge_pieces.ret K v h) : K' v h := by
  unfold edge_pieces.ret at hh
  split at hh
  · exact hk _ _ hh
  · exact hh.elim
noncomputable def edge_pieces.ctx : Ctx := { P := Try.prog, call := fun _ _ _ _ => False, qcall := fun _ _ _ _ => False, quiet := fun f => Nat.beq f 1000062, loop := fun _ _ _ _ => False }
theorem edge_pieces.ok : edge_pieces.ctx.OK where
  mixed := by kernel_rfl
  mono := fun hh _ => hh.elim
  call := fun hh => hh.elim
  qmono := fun hh _ => hh.elim
  qval := fun hh => hh.elim
  qcall := fun hh => hh.elim
noncomputable def edge_pieces.code : Code := (Try.f37.body).getD .skip
def edge_pieces.ann : Ann := .auto
set_option maxRecDepth 100000 in
theorem edge_pieces.eq (a1 : Int) (a2 : Int) (a3 : Int) (h : Heap) (K : Int → Heap → Prop) : evF edge_pieces.ctx Try.f37 edge_pieces.ann [(.agg #[(.int .i64 a1), (.int .i64 a2), (.int .i64 a3)])] h (edge_pieces.ret K) = edge_pieces a1 a2 a3 h K := by kernel_rfl
set_option maxRecDepth 100000 in
theorem edge_pieces.calls {a1 : Int} {a2 : Int} {a3 : Int} {h : Heap} {K : Int → Heap → Prop} (hh : edge_pieces a1 a2 a3 h K) (w : World) (hw : w.heap = h) :
    (callFunc 37 #[(.agg #[(.int .i64 a1), (.int .i64 a2), (.int .i64 a3)])]).run Try.prog w = .ok (.enter 37 #[(.agg #[(.int .i64 a1), (.int .i64 a2), (.int .i64 a3)])]) w ∧ Calls Try.prog 37 #[(.agg #[(.int .i64 a1), (.int .i64 a2), (.int .i64 a3)])] w fun e w' => ∃ v, e = .returned v ∧ Out w w' ∧ edge_pieces.ret K v w'.heap := by
  rw [← edge_pieces.eq] at hh
  exact fn_calls (args := [(.agg #[(.int .i64 a1), (.int .i64 a2), (.int .i64 a3)])]) (c := edge_pieces.code) edge_pieces.ok Try.func37 (by kernel_rfl) (by kernel_rfl) (by kernel_rfl) (by kernel_rfl) (loops_ok (l := []) (by kernel_rfl) trivial) hh w hw

/-! ### strait/edge.Split: function 21 -/
def edge_Split.b2 (K6 : (Option Addr) → Nat → Nat → Heap → Prop) (cont : (Option Addr) → Nat → Nat → Addr → (Option Addr) → Nat → Nat → Int → Int → Int → Int → Heap → Prop) (v9_3001 : Option Addr) (v9_3001l : Nat) (v9_3001c : Nat) (c11_3002 : Addr) (c35_3003 : Option Addr) (c35_3004 : Nat) (c35_3005 : Nat) (c36_3006 : Int) (c37_3007 : Int) (c43_3008 : Int) (v44_3009 : Int) (h3010 : Heap) : Prop :=
  (iteB (decide (v44_3009 < c43_3008)) ((∃ (x3011 : Int), cell h3010 c11_3002 = some (.int .i64 x3011) ∧ ∃ (x3012 : Int), cell h3010 (c11_3002.add 1) = some (.int .i64 x3012) ∧ newP h3010 (.cells #[(.int .i64 x3011), (.int .i64 x3012), (.int .i64 2147483648)] 24) fun a3013 h3014 => ∃ n3019, cellsAt h3014 (some a3013) (1 * 3) n3019 ∧ appP 24 3 24 [(.int .i64 0), (.int .i64 0), (.int .i64 0)] v9_3001 v9_3001l v9_3001c 1 n3019 h3014 fun q3015 l3016 c3017 h3018 => (∃ (x3020 : Int), cell h3018 (c11_3002.add 2) = some (.int .i64 x3020) ∧ stC h3018 (c11_3002.add 2) (.int .i64 (IntKind.i64.wrap (x3020 - 2147483648))) fun h3021 => ((cont q3015 l3016 c3017 c11_3002 c35_3003 c35_3004 c35_3005 c36_3006 c37_3007 c43_3008 (IntKind.i64.wrap (v44_3009 + 1)) h3021))))) (K6 v9_3001 v9_3001l v9_3001c h3010))
def edge_Split.l2 (K6 : (Option Addr) → Nat → Nat → Heap → Prop) : Nat → (Option Addr) → Nat → Nat → Addr → (Option Addr) → Nat → Nat → Int → Int → Int → Int → Heap → Prop
  | 0, _, _, _, _, _, _, _, _, _, _, _, _ => False
  | m + 1, v9_3001, v9_3001l, v9_3001c, c11_3002, c35_3003, c35_3004, c35_3005, c36_3006, c37_3007, c43_3008, v44_3009, h => edge_Split.b2 K6 (edge_Split.l2 K6 m) v9_3001 v9_3001l v9_3001c c11_3002 c35_3003 c35_3004 c35_3005 c36_3006 c37_3007 c43_3008 v44_3009 h
def edge_Split.b1 (K4 : (Option Addr) → Nat → Nat → Heap → Prop) (cont : (Option Addr) → Nat → Nat → (Option Addr) → Nat → Nat → Int → Int → Heap → Prop) (v9_2001 : Option Addr) (v9_2001l : Nat) (v9_2001c : Nat) (c35_2002 : Option Addr) (c35_2003 : Nat) (c35_2004 : Nat) (c36_2005 : Int) (v37_2006 : Int) (h2007 : Heap) : Prop :=
  (iteB (decide (v37_2006 < c36_2005)) ((chkP c35_2002 fun a2008 => (0 ≤ v37_2006 ∧ v37_2006 < (c35_2003 : Int)) ∧ ∃ (x2009 : Int), cell h2007 (a2008.add (v37_2006.toNat * 3)) = some (.int .i64 x2009) ∧ ∃ (x2010 : Int), cell h2007 ((a2008.add (v37_2006.toNat * 3)).add 1) = some (.int .i64 x2010) ∧ ∃ (x2011 : Int), cell h2007 ((a2008.add (v37_2006.toNat * 3)).add 2) = some (.int .i64 x2011) ∧ newP h2007 (.cells #[(.int .i64 0), (.int .i64 0), (.int .i64 0)] 24) fun a2012 h2013 => stC h2013 a2012 (.int .i64 x2009) fun h2014 => stC h2014 (a2012.add 1) (.int .i64 x2010) fun h2015 => stC h2015 (a2012.add 2) (.int .i64 x2011) fun h2016 => (∃ (x2017 : Int), cell h2016 a2012 = some (.int .i64 x2017) ∧ ∃ (x2018 : Int), cell h2016 (a2012.add 1) = some (.int .i64 x2018) ∧ ∃ (x2019 : Int), cell h2016 (a2012.add 2) = some (.int .i64 x2019) ∧ callP1 (edge_pieces x2017 x2018 x2019 h2016) fun x2020 h2021 => (∃ m2024, edge_Split.l2 (fun z2022 z2022l z2022c h2023 => ((∃ (x2025 : Int), cell h2023 a2012 = some (.int .i64 x2025) ∧ ∃ (x2026 : Int), cell h2023 (a2012.add 1) = some (.int .i64 x2026) ∧ ∃ (x2027 : Int), cell h2023 (a2012.add 2) = some (.int .i64 x2027) ∧ newP h2023 (.cells #[(.int .i64 x2025), (.int .i64 x2026), (.int .i64 x2027)] 24) fun a2028 h2029 => ∃ n2034, cellsAt h2029 (some a2028) (1 * 3) n2034 ∧ appP 24 3 24 [(.int .i64 0), (.int .i64 0), (.int .i64 0)] z2022 z2022l z2022c 1 n2034 h2029 fun q2030 l2031 c2032 h2033 => ((cont q2030 l2031 c2032 c35_2002 c35_2003 c35_2004 c36_2005 (IntKind.i64.wrap (v37_2006 + 1)) h2033))))) m2024 v9_2001 v9_2001l v9_2001c a2012 c35_2002 c35_2003 c35_2004 c36_2005 v37_2006 (IntKind.i64.wrap (x2020 - 1)) 0 h2021)))) (K4 v9_2001 v9_2001l v9_2001c h2007))
def edge_Split.l1 (K4 : (Option Addr) → Nat → Nat → Heap → Prop) : Nat → (Option Addr) → Nat → Nat → (Option Addr) → Nat → Nat → Int → Int → Heap → Prop
  | 0, _, _, _, _, _, _, _, _, _ => False
  | m + 1, v9_2001, v9_2001l, v9_2001c, c35_2002, c35_2003, c35_2004, c36_2005, v37_2006, h => edge_Split.b1 K4 (edge_Split.l1 K4 m) v9_2001 v9_2001l v9_2001c c35_2002 c35_2003 c35_2004 c36_2005 v37_2006 h
def edge_Split.b0 (K0 : (Option Addr) → Nat → Nat → Bool → Heap → Prop) (K2 : Heap → Prop) (cont : (Option Addr) → Nat → Nat → Addr → (Option Addr) → Nat → Nat → Int → Int → Heap → Prop) (c0_1001 : Option Addr) (c0_1002 : Nat) (c0_1003 : Nat) (c4_1004 : Addr) (c12_1005 : Option Addr) (c12_1006 : Nat) (c12_1007 : Nat) (c13_1008 : Int) (v14_1009 : Int) (h1010 : Heap) : Prop :=
  (iteB (decide (v14_1009 < c13_1008)) ((chkP c12_1005 fun a1011 => (0 ≤ v14_1009 ∧ v14_1009 < (c12_1006 : Int)) ∧ ∃ (x1012 : Int), cell h1010 (a1011.add (v14_1009.toNat * 3)) = some (.int .i64 x1012) ∧ ∃ (x1013 : Int), cell h1010 ((a1011.add (v14_1009.toNat * 3)).add 1) = some (.int .i64 x1013) ∧ ∃ (x1014 : Int), cell h1010 ((a1011.add (v14_1009.toNat * 3)).add 2) = some (.int .i64 x1014) ∧ newP h1010 (.cells #[(.int .i64 0), (.int .i64 0), (.int .i64 0)] 24) fun a1015 h1016 => stC h1016 a1015 (.int .i64 x1012) fun h1017 => stC h1017 (a1015.add 1) (.int .i64 x1013) fun h1018 => stC h1018 (a1015.add 2) (.int .i64 x1014) fun h1019 => (∃ (x1020 : Int), cell h1019 (a1015.add 2) = some (.int .i64 x1020) ∧ (iteB (decide (x1020 < (0 : Int))) (K0 none 0 0 false h1019) ((∃ (x1021 : Int), cell h1019 a1015 = some (.int .i64 x1021) ∧ ∃ (x1022 : Int), cell h1019 (a1015.add 1) = some (.int .i64 x1022) ∧ ∃ (x1023 : Int), cell h1019 (a1015.add 2) = some (.int .i64 x1023) ∧ callP1 (edge_pieces x1021 x1022 x1023 h1019) fun x1024 h1025 => callP1 (num_Acc_Put (some c4_1004) x1024 h1025) fun x1026 h1027 => ((cont c0_1001 c0_1002 c0_1003 c4_1004 c12_1005 c12_1006 c12_1007 c13_1008 (IntKind.i64.wrap (v14_1009 + 1)) h1027)))))))) (K2 h1010))
def edge_Split.l0 (K0 : (Option Addr) → Nat → Nat → Bool → Heap → Prop) (K2 : Heap → Prop) : Nat → (Option Addr) → Nat → Nat → Addr → (Option Addr) → Nat → Nat → Int → Int → Heap → Prop
  | 0, _, _, _, _, _, _, _, _, _, _ => False
  | m + 1, c0_1001, c0_1002, c0_1003, c4_1004, c12_1005, c12_1006, c12_1007, c13_1008, v14_1009, h => edge_Split.b0 K0 K2 (edge_Split.l0 K0 K2 m) c0_1001 c0_1002 c0_1003 c4_1004 c12_1005 c12_1006 c12_1007 c13_1008 v14_1009 h
def edge_Split (a1 : Option Addr) (a1l : Nat) (a1c : Nat) (h : Heap) (K : (Option Addr) → Nat → Nat → Bool → Heap → Prop) : Prop :=
  (newP h (.cells #[(.int .i64 0), (.bool false)] 55) fun a2 h3 => ((∃ m8, edge_Split.l0 (fun z4 z4l z4c z5 h6 => K z4 z4l z4c z5 h6) (fun h7 => ((qcallP2 h7 (num_Acc_Value (some a2) h7) fun x9 x10 => (iteB (!x10) (K none 0 0 false h7) ((iteB (decide (x9 > (1048576 : Int))) (K none 0 0 false h7) ((((∃ m20, edge_Split.l1 (fun z18 z18l z18c h19 => (K z18 z18l z18c true h19)) m20 none 0 0 a1 a1l a1c (a1l : Int) 0 h7)))))))))) m8 a1 a1l a1c a2 a1 a1l a1c (a1l : Int) 0 h3)))
def edge_Split.ret (K : (Option Addr) → Nat → Nat → Bool → Heap → Prop) (v : Value) (h : Heap) : Prop := match v with
  | (.tuple ⟨[(.slice r21 r21l r21c), (.bool r22)]⟩) => K r21 r21l r21c r22 h
  | _ => False
theorem edge_Split.ret_elim {K : (Option Addr) → Nat → Nat → Bool → Heap → Prop} {K' : Value → Heap → Prop} {v : Value} {h : Heap} (hk : ∀ r21 r21l r21c r22 h, K r21 r21l r21c r22 h → K' (.tuple #[(.slice r21 r21l r21c), (.bool r22)]) h) (hh : edge_Split.ret K v h) : K' v h := by
  unfold edge_Split.ret at hh
  split at hh
  · exact hk _ _ _ _ _ hh
  · exact hh.elim
def edge_Split.call (f : FuncId) (vs : List Value) (h : Heap) (K : Value → Heap → Prop) : Prop := match f, vs with
  | 27, [(.pointer a1), (.int .i64 a2)] => callP1 (num_Acc_Put a1 a2 h) fun r30 h' => K (.bool r30) h'
  | 37, [(.agg ⟨[(.int .i64 a1), (.int .i64 a2), (.int .i64 a3)]⟩)] => callP1 (edge_pieces a1 a2 a3 h) fun r9 h' => K (.int .i64 r9) h'
  | _, _ => False
def edge_Split.qcall (f : FuncId) (vs : List Value) (h : Heap) (K : Value → Prop) : Prop := match f, vs with
  | 28, [(.pointer a1)] => qcallP2 h (num_Acc_Value a1 h) fun r11 r12 => K (.tuple #[(.int .i64 r11), (.bool r12)])
  | _, _ => False
def edge_Split.r0 (K : Nat → List Value → Heap → Prop) (m : Nat) (vs : List Value) (h : Heap) : Prop := match vs with
  | [(.slice c0_1001 c0_1002 c0_1003), (.pointer (some c4_1004)), (.slice c12_1005 c12_1006 c12_1007), (.int .i64 c13_1008), (.int .i64 v14_1009)] => edge_Split.l0 (fun z23 z23l z23c z24 h' => K 0 [(.slice z23 z23l z23c), (.bool z24)] h') (fun h' => K 2 [(.slice c0_1001 c0_1002 c0_1003), (.pointer (some c4_1004))] h') m c0_1001 c0_1002 c0_1003 c4_1004 c12_1005 c12_1006 c12_1007 c13_1008 v14_1009 h
  | _ => False
def edge_Split.r1 (K : Nat → List Value → Heap → Prop) (m : Nat) (vs : List Value) (h : Heap) : Prop := match vs with
  | [(.slice v9_2001 v9_2001l v9_2001c), (.slice c35_2002 c35_2003 c35_2004), (.int .i64 c36_2005), (.int .i64 v37_2006)] => edge_Split.l1 (fun z25 z25l z25c h' => K 4 [(.slice z25 z25l z25c)] h') m v9_2001 v9_2001l v9_2001c c35_2002 c35_2003 c35_2004 c36_2005 v37_2006 h
  | _ => False
def edge_Split.r2 (K : Nat → List Value → Heap → Prop) (m : Nat) (vs : List Value) (h : Heap) : Prop := match vs with
  | [(.slice v9_3001 v9_3001l v9_3001c), (.pointer (some c11_3002)), (.slice c35_3003 c35_3004 c35_3005), (.int .i64 c36_3006), (.int .i64 c37_3007), (.int .i64 c43_3008), (.int .i64 v44_3009)] => edge_Split.l2 (fun z26 z26l z26c h' => K 6 [(.slice z26 z26l z26c), (.pointer (some c11_3002)), (.slice c35_3003 c35_3004 c35_3005), (.int .i64 c36_3006), (.int .i64 c37_3007)] h') m v9_3001 v9_3001l v9_3001c c11_3002 c35_3003 c35_3004 c35_3005 c36_3006 c37_3007 c43_3008 v44_3009 h
  | _ => False
def edge_Split.loop (i : Nat) (vs : List Value) (h : Heap) (K : Nat → List Value → Heap → Prop) : Prop := match i with
  | 0 => ∃ m, edge_Split.r0 K m vs h
  | 1 => ∃ m, edge_Split.r1 K m vs h
  | 2 => ∃ m, edge_Split.r2 K m vs h
  | _ => False
noncomputable def edge_Split.ctx : Ctx := { P := Try.prog, call := edge_Split.call, qcall := edge_Split.qcall, quiet := fun f => Nat.beq f 28 || Nat.beq f 1000062, loop := edge_Split.loop }
theorem edge_Split.ok : edge_Split.ctx.OK where
  mixed := by kernel_rfl
  mono := by
    intro f args h K K' hh hk
    change edge_Split.call f args h K at hh
    change edge_Split.call f args h K'
    unfold edge_Split.call at hh ⊢
    split at hh
    · obtain ⟨R, h1, h2⟩ := hh
      exact ⟨R, h1, fun _ x hr => hk _ _ (h2 _ x hr)⟩
    · obtain ⟨R, h1, h2⟩ := hh
      exact ⟨R, h1, fun _ x hr => hk _ _ (h2 _ x hr)⟩
    · exact hh.elim
  call := by
    intro f args h K hh w hw
    change edge_Split.call f args h K at hh
    unfold edge_Split.call at hh
    split at hh
    · obtain ⟨R, h1, h2⟩ := hh
      obtain ⟨g1, g2⟩ := num_Acc_Put.calls h1 w hw
      exact ⟨g1, g2.mono fun e w' ⟨v, he, ho, hr⟩ => ⟨v, he, ho, num_Acc_Put.ret_elim h2 hr⟩⟩
    · obtain ⟨R, h1, h2⟩ := hh
      obtain ⟨g1, g2⟩ := edge_pieces.calls h1 w hw
      exact ⟨g1, g2.mono fun e w' ⟨v, he, ho, hr⟩ => ⟨v, he, ho, edge_pieces.ret_elim h2 hr⟩⟩
    · exact hh.elim
  qmono := by
    intro f args h K K' hh hk
    change edge_Split.qcall f args h K at hh
    change edge_Split.qcall f args h K'
    unfold edge_Split.qcall at hh ⊢
    split at hh
    · obtain ⟨x0, x1, h1, h2⟩ := hh
      exact ⟨x0, x1, h1, hk _ h2⟩
    · exact hh.elim
  qval := by
    intro f args h K hh
    change edge_Split.qcall f args h K at hh
    suffices H : ∃ v, K v ∧ edge_Split.qcall f args h (· = v) from H
    unfold edge_Split.qcall at hh ⊢
    split at hh
    · obtain ⟨x0, x1, h1, h2⟩ := hh
      exact ⟨_, h2, x0, x1, h1, rfl⟩
    · exact hh.elim
  qcall := by
    intro f args h v hh w hw
    change edge_Split.qcall f args h (· = v) at hh
    unfold edge_Split.qcall at hh
    split at hh
    · obtain ⟨x0, x1, h1, h2⟩ := hh
      obtain ⟨g1, g2⟩ := num_Acc_Value.calls h1 w hw
      refine .inl ⟨g1, g2.mono fun e w' ⟨u, he, ho, hr⟩ => ?_⟩
      have hq := num_Acc_Value.ret_elim (K' := fun u h' => u = v ∧ h' = h) (fun _ _ h' hr => by obtain ⟨rfl, rfl, rfl⟩ := hr; exact ⟨h2, rfl⟩) hr
      exact ⟨hq.1 ▸ he, ho, hq.2⟩
    · exact hh.elim
noncomputable def edge_Split.code : Code := (Try.f21.body).getD .skip
def edge_Split.ann : Ann := (.two .auto (.two .auto (.two (.two .auto (.two (.loop 0 [0, 4, 12, 13, 14] [(2, [0, 4]), (0, [2, 3])] .auto) .auto)) (.two .auto (.two .auto (.two (.two .auto (.two (.loop 1 [9, 35, 36, 37] [(4, [9])] (.two .auto (.two .auto (.two (.two (.two .auto (.two (.two .auto (.two (.loop 2 [9, 11, 35, 36, 37, 43, 44] [(6, [9, 11, 35, 36, 37])] .auto) .auto)) .auto)) .auto) .auto)))) .auto)) .auto))))))
noncomputable def edge_Split.c2 : Code := sub edge_Split.code [1, 1, 1, 1, 1, 0, 1, 0, 0, 1, 1, 0, 0, 1, 0, 1, 0, 0]
def edge_Split.a2 : Ann := .auto
def edge_Split.keep2 : List Nat := [9, 11, 35, 36, 37, 43, 44]
def edge_Split.outs2 : List (Nat × List Nat) := [(6, [9, 11, 35, 36, 37])]
noncomputable def edge_Split.c1 : Code := sub edge_Split.code [1, 1, 1, 1, 1, 0, 1, 0, 0]
def edge_Split.a1 : Ann := (.two .auto (.two .auto (.two (.two (.two .auto (.two (.two .auto (.two (.loop 2 [9, 11, 35, 36, 37, 43, 44] [(6, [9, 11, 35, 36, 37])] .auto) .auto)) .auto)) .auto) .auto)))
def edge_Split.keep1 : List Nat := [9, 35, 36, 37]
def edge_Split.outs1 : List (Nat × List Nat) := [(4, [9])]
noncomputable def edge_Split.c0 : Code := sub edge_Split.code [1, 1, 0, 1, 0, 0]
def edge_Split.a0 : Ann := .auto
def edge_Split.keep0 : List Nat := [0, 4, 12, 13, 14]
def edge_Split.outs0 : List (Nat × List Nat) := [(2, [0, 4]), (0, [2, 3])]
set_option maxRecDepth 100000 in
theorem edge_Split.L0 : LoopOK edge_Split.ctx 65 edge_Split.c0 0 edge_Split.keep0 edge_Split.outs0 := by
  refine loop_ok (n := edge_Split.a0) edge_Split.ok (by kernel_rfl) (loops_ok (l := []) (by kernel_rfl) ?_) edge_Split.r0 ?_ ?_ (fun vs h K hh => hh)
  · exact trivial
  · intro K vs h hh
    unfold edge_Split.r0 at hh
    split at hh
    · exact hh
    · exact hh
  · intro K m vs h hh
    unfold edge_Split.r0 at hh
    split at hh
    · exact cast (by kernel_rfl) hh
    · exact hh.elim
set_option maxRecDepth 100000 in
theorem edge_Split.L2 : LoopOK edge_Split.ctx 65 edge_Split.c2 2 edge_Split.keep2 edge_Split.outs2 := by
  refine loop_ok (n := edge_Split.a2) edge_Split.ok (by kernel_rfl) (loops_ok (l := []) (by kernel_rfl) ?_) edge_Split.r2 ?_ ?_ (fun vs h K hh => hh)
  · exact trivial
  · intro K vs h hh
    unfold edge_Split.r2 at hh
    split at hh
    · exact hh
    · exact hh
  · intro K m vs h hh
    unfold edge_Split.r2 at hh
    split at hh
    · exact cast (by kernel_rfl) hh
    · exact hh.elim
set_option maxRecDepth 100000 in
theorem edge_Split.L1 : LoopOK edge_Split.ctx 65 edge_Split.c1 1 edge_Split.keep1 edge_Split.outs1 := by
  refine loop_ok (n := edge_Split.a1) edge_Split.ok (by kernel_rfl) (loops_ok (l := [(edge_Split.c2, none, 2, edge_Split.keep2, edge_Split.outs2)]) (by kernel_rfl) ?_) edge_Split.r1 ?_ ?_ (fun vs h K hh => hh)
  · exact ⟨edge_Split.L2, trivial⟩
  · intro K vs h hh
    unfold edge_Split.r1 at hh
    split at hh
    · exact hh
    · exact hh
  · intro K m vs h hh
    unfold edge_Split.r1 at hh
    split at hh
    · exact cast (by kernel_rfl) hh
    · exact hh.elim
set_option maxRecDepth 100000 in
theorem edge_Split.eq (a1 : Option Addr) (a1l : Nat) (a1c : Nat) (h : Heap) (K : (Option Addr) → Nat → Nat → Bool → Heap → Prop) : evF edge_Split.ctx Try.f21 edge_Split.ann [(.slice a1 a1l a1c)] h (edge_Split.ret K) = edge_Split a1 a1l a1c h K := by kernel_rfl
set_option maxRecDepth 100000 in
theorem edge_Split.calls {a1 : Option Addr} {a1l : Nat} {a1c : Nat} {h : Heap} {K : (Option Addr) → Nat → Nat → Bool → Heap → Prop} (hh : edge_Split a1 a1l a1c h K) (w : World) (hw : w.heap = h) :
    (callFunc 21 #[(.slice a1 a1l a1c)]).run Try.prog w = .ok (.enter 21 #[(.slice a1 a1l a1c)]) w ∧ Calls Try.prog 21 #[(.slice a1 a1l a1c)] w fun e w' => ∃ v, e = .returned v ∧ Out w w' ∧ edge_Split.ret K v w'.heap := by
  rw [← edge_Split.eq] at hh
  exact fn_calls (args := [(.slice a1 a1l a1c)]) (c := edge_Split.code) edge_Split.ok Try.func21 (by kernel_rfl) (by kernel_rfl) (by kernel_rfl) (by kernel_rfl) (loops_ok (l := [(edge_Split.c0, none, 0, edge_Split.keep0, edge_Split.outs0), (edge_Split.c1, none, 1, edge_Split.keep1, edge_Split.outs1)]) (by kernel_rfl) ⟨edge_Split.L0, edge_Split.L1, trivial⟩) hh w hw

/-! ### strait/straitref15.Split: function 22 -/
def straitref15_Split.b2 (K6 : (Option Addr) → Nat → Nat → Int → Heap → Prop) (cont : (Option Addr) → Nat → Nat → Addr → (Option Addr) → Nat → Nat → Int → Int → Heap → Prop) (c0_3001 : Option Addr) (c0_3002 : Nat) (c0_3003 : Nat) (c2_3004 : Addr) (v5_3005 : Option Addr) (v5_3005l : Nat) (v5_3005c : Nat) (c6_3006 : Int) (v7_3007 : Int) (h3008 : Heap) : Prop :=
  (iteB (decide (v7_3007 > (2147483648 : Int))) ((chkP c0_3001 fun a3009 => (0 ≤ c6_3006 ∧ c6_3006 < (c0_3002 : Int)) ∧ ∃ (x3010 : Int), cell h3008 (a3009.add (c6_3006.toNat * 3)) = some (.int .i64 x3010) ∧ chkP c0_3001 fun a3011 => (0 ≤ c6_3006 ∧ c6_3006 < (c0_3002 : Int)) ∧ ∃ (x3012 : Int), cell h3008 ((a3011.add (c6_3006.toNat * 3)).add 1) = some (.int .i64 x3012) ∧ newP h3008 (.cells #[(.int .i64 x3010), (.int .i64 x3012), (.int .i64 2147483648)] 24) fun a3013 h3014 => ∃ n3019, cellsAt h3014 (some a3013) (1 * 3) n3019 ∧ appP 24 3 24 [(.int .i64 0), (.int .i64 0), (.int .i64 0)] v5_3005 v5_3005l v5_3005c 1 n3019 h3014 fun q3015 l3016 c3017 h3018 => ((cont c0_3001 c0_3002 c0_3003 c2_3004 q3015 l3016 c3017 c6_3006 (IntKind.i64.wrap (v7_3007 - 2147483648)) h3018)))) (K6 v5_3005 v5_3005l v5_3005c v7_3007 h3008))
def straitref15_Split.l2 (K6 : (Option Addr) → Nat → Nat → Int → Heap → Prop) : Nat → (Option Addr) → Nat → Nat → Addr → (Option Addr) → Nat → Nat → Int → Int → Heap → Prop
  | 0, _, _, _, _, _, _, _, _, _, _ => False
  | m + 1, c0_3001, c0_3002, c0_3003, c2_3004, v5_3005, v5_3005l, v5_3005c, c6_3006, v7_3007, h => straitref15_Split.b2 K6 (straitref15_Split.l2 K6 m) c0_3001 c0_3002 c0_3003 c2_3004 v5_3005 v5_3005l v5_3005c c6_3006 v7_3007 h
def straitref15_Split.b1 (K4 : (Option Addr) → Nat → Nat → Heap → Prop) (cont : (Option Addr) → Nat → Nat → Addr → (Option Addr) → Nat → Nat → Int → Heap → Prop) (c0_2001 : Option Addr) (c0_2002 : Nat) (c0_2003 : Nat) (c2_2004 : Addr) (v5_2005 : Option Addr) (v5_2005l : Nat) (v5_2005c : Nat) (v6_2006 : Int) (h2007 : Heap) : Prop :=
  (iteB (decide (v6_2006 < (c0_2002 : Int))) ((chkP c0_2001 fun a2008 => (0 ≤ v6_2006 ∧ v6_2006 < (c0_2002 : Int)) ∧ ∃ (x2009 : Int), cell h2007 ((a2008.add (v6_2006.toNat * 3)).add 2) = some (.int .i64 x2009) ∧ (∃ m2013, straitref15_Split.l2 (fun z2010 z2010l z2010c z2011 h2012 => ((chkP c0_2001 fun a2014 => (0 ≤ v6_2006 ∧ v6_2006 < (c0_2002 : Int)) ∧ ∃ (x2015 : Int), cell h2012 (a2014.add (v6_2006.toNat * 3)) = some (.int .i64 x2015) ∧ chkP c0_2001 fun a2016 => (0 ≤ v6_2006 ∧ v6_2006 < (c0_2002 : Int)) ∧ ∃ (x2017 : Int), cell h2012 ((a2016.add (v6_2006.toNat * 3)).add 1) = some (.int .i64 x2017) ∧ newP h2012 (.cells #[(.int .i64 x2015), (.int .i64 x2017), (.int .i64 z2011)] 24) fun a2018 h2019 => ∃ n2024, cellsAt h2019 (some a2018) (1 * 3) n2024 ∧ appP 24 3 24 [(.int .i64 0), (.int .i64 0), (.int .i64 0)] z2010 z2010l z2010c 1 n2024 h2019 fun q2020 l2021 c2022 h2023 => ((cont c0_2001 c0_2002 c0_2003 c2_2004 q2020 l2021 c2022 (IntKind.i64.wrap (v6_2006 + 1)) h2023))))) m2013 c0_2001 c0_2002 c0_2003 c2_2004 v5_2005 v5_2005l v5_2005c v6_2006 x2009 h2007))) (K4 v5_2005 v5_2005l v5_2005c h2007))
def straitref15_Split.l1 (K4 : (Option Addr) → Nat → Nat → Heap → Prop) : Nat → (Option Addr) → Nat → Nat → Addr → (Option Addr) → Nat → Nat → Int → Heap → Prop
  | 0, _, _, _, _, _, _, _, _, _ => False
  | m + 1, c0_2001, c0_2002, c0_2003, c2_2004, v5_2005, v5_2005l, v5_2005c, v6_2006, h => straitref15_Split.b1 K4 (straitref15_Split.l1 K4 m) c0_2001 c0_2002 c0_2003 c2_2004 v5_2005 v5_2005l v5_2005c v6_2006 h
def straitref15_Split.b0 (K0 : Heap → Prop) (K2 : Heap → Prop) (cont : (Option Addr) → Nat → Nat → Addr → Int → Int → Heap → Prop) (c0_1001 : Option Addr) (c0_1002 : Nat) (c0_1003 : Nat) (c2_1004 : Addr) (v3_1005 : Int) (v4_1006 : Int) (h1007 : Heap) : Prop :=
  (iteB (decide (v4_1006 < (c0_1002 : Int))) ((let j1031 : Prop := (chkP c0_1001 fun a1019 => (0 ≤ v4_1006 ∧ v4_1006 < (c0_1002 : Int)) ∧ ∃ (x1020 : Int), cell h1007 ((a1019.add (v4_1006.toNat * 3)).add 2) = some (.int .i64 x1020) ∧ 0 ≤ (31 : Int) ∧ bindV (IntKind.i64.wrap (v3_1005 + (x1020.fdiv (2 ^ 31)))) fun n1021 => (let j1030 := (fun (y1027 : Int) => (iteB (decide (y1027 > (1048576 : Int))) (stC h1007 c2_1004 (.slice none 0 0) fun h1028 => stC h1028 (c2_1004.add 1) (.bool false) fun h1029 => K0 h1029) (((cont c0_1001 c0_1002 c0_1003 c2_1004 y1027 (IntKind.i64.wrap (v4_1006 + 1)) h1007)))));
  chkP c0_1001 fun a1022 => (0 ≤ v4_1006 ∧ v4_1006 < (c0_1002 : Int)) ∧ ∃ (x1023 : Int), cell h1007 ((a1022.add (v4_1006.toNat * 3)).add 2) = some (.int .i64 x1023) ∧ iteB (x1023 == (0 : Int)) (((j1030 (IntKind.i64.wrap (n1021 + 1))))) (chkP c0_1001 fun a1024 => (0 ≤ v4_1006 ∧ v4_1006 < (c0_1002 : Int)) ∧ ∃ (x1025 : Int), cell h1007 ((a1024.add (v4_1006.toNat * 3)).add 2) = some (.int .i64 x1025) ∧ (2147483648 : Int) ≠ 0 ∧ (iteB ((x1025.tmod 2147483648) != (0 : Int)) ((j1030 (IntKind.i64.wrap (n1021 + 1)))) ((j1030 n1021))))));
  chkP c0_1001 fun a1008 => (0 ≤ v4_1006 ∧ v4_1006 < (c0_1002 : Int)) ∧ ∃ (x1009 : Int), cell h1007 ((a1008.add (v4_1006.toNat * 3)).add 2) = some (.int .i64 x1009) ∧ iteB (decide (x1009 < (0 : Int))) ((stC h1007 c2_1004 (.slice none 0 0) fun h1015 => stC h1015 (c2_1004.add 1) (.bool false) fun h1016 => K0 h1016)) (chkP c0_1001 fun a1010 => (0 ≤ v4_1006 ∧ v4_1006 < (c0_1002 : Int)) ∧ ∃ (x1011 : Int), cell h1007 ((a1010.add (v4_1006.toNat * 3)).add 2) = some (.int .i64 x1011) ∧ 0 ≤ (31 : Int) ∧ (iteB (decide ((x1011.fdiv (2 ^ 31)) > (1048576 : Int))) (stC h1007 c2_1004 (.slice none 0 0) fun h1017 => stC h1017 (c2_1004.add 1) (.bool false) fun h1018 => K0 h1018) ((j1031)))))) (K2 h1007))
def straitref15_Split.l0 (K0 : Heap → Prop) (K2 : Heap → Prop) : Nat → (Option Addr) → Nat → Nat → Addr → Int → Int → Heap → Prop
  | 0, _, _, _, _, _, _, _ => False
  | m + 1, c0_1001, c0_1002, c0_1003, c2_1004, v3_1005, v4_1006, h => straitref15_Split.b0 K0 K2 (straitref15_Split.l0 K0 K2 m) c0_1001 c0_1002 c0_1003 c2_1004 v3_1005 v4_1006 h
def straitref15_Split (a1 : Option Addr) (a1l : Nat) (a1c : Nat) (h : Heap) (K : (Option Addr) → Nat → Nat → Bool → Heap → Prop) : Prop :=
  newP h (.cells #[(.slice none 0 0), (.bool false)] 45) fun a2 h3 => (((∃ m8, straitref15_Split.l0 (fun h4 => ∃ (x5 : Option Addr) (x5l : Nat) (x5c : Nat), cell h4 a2 = some (.slice x5 x5l x5c) ∧ ∃ (x6 : Bool), cell h4 (a2.add 1) = some (.bool x6) ∧ K x5 x5l x5c x6 h4) (fun h7 => ((((∃ m11, straitref15_Split.l1 (fun z9 z9l z9c h10 => ((stC h10 a2 (.slice z9 z9l z9c) fun h12 => stC h12 (a2.add 1) (.bool true) fun h13 => (∃ (x14 : Option Addr) (x14l : Nat) (x14c : Nat), cell h13 a2 = some (.slice x14 x14l x14c) ∧ ∃ (x15 : Bool), cell h13 (a2.add 1) = some (.bool x15) ∧ K x14 x14l x14c x15 h13)))) m11 a1 a1l a1c a2 none 0 0 0 h7))))) m8 a1 a1l a1c a2 0 0 h3)))
def straitref15_Split.ret (K : (Option Addr) → Nat → Nat → Bool → Heap → Prop) (v : Value) (h : Heap) : Prop := match v with
  | (.agg ⟨[(.slice r16 r16l r16c), (.bool r17)]⟩) => K r16 r16l r16c r17 h
  | _ => False
theorem straitref15_Split.ret_elim {K : (Option Addr) → Nat → Nat → Bool → Heap → Prop} {K' : Value → Heap → Prop} {v : Value} {h : Heap} (hk : ∀ r16 r16l r16c r17 h, K r16 r16l r16c r17 h → K' (.agg #[(.slice r16 r16l r16c), (.bool r17)]) h) (hh : straitref15_Split.ret K v h) : K' v h := by
  unfold straitref15_Split.ret at hh
  split at hh
  · exact hk _ _ _ _ _ hh
  · exact hh.elim
def straitref15_Split.r0 (K : Nat → List Value → Heap → Prop) (m : Nat) (vs : List Value) (h : Heap) : Prop := match vs with
  | [(.slice c0_1001 c0_1002 c0_1003), (.pointer (some c2_1004)), (.int .i64 v3_1005), (.int .i64 v4_1006)] => straitref15_Split.l0 (fun h' => K 0 [(.pointer (some c2_1004))] h') (fun h' => K 2 [(.slice c0_1001 c0_1002 c0_1003), (.pointer (some c2_1004))] h') m c0_1001 c0_1002 c0_1003 c2_1004 v3_1005 v4_1006 h
  | _ => False
def straitref15_Split.r1 (K : Nat → List Value → Heap → Prop) (m : Nat) (vs : List Value) (h : Heap) : Prop := match vs with
  | [(.slice c0_2001 c0_2002 c0_2003), (.pointer (some c2_2004)), (.slice v5_2005 v5_2005l v5_2005c), (.int .i64 v6_2006)] => straitref15_Split.l1 (fun z18 z18l z18c h' => K 4 [(.pointer (some c2_2004)), (.slice z18 z18l z18c)] h') m c0_2001 c0_2002 c0_2003 c2_2004 v5_2005 v5_2005l v5_2005c v6_2006 h
  | _ => False
def straitref15_Split.r2 (K : Nat → List Value → Heap → Prop) (m : Nat) (vs : List Value) (h : Heap) : Prop := match vs with
  | [(.slice c0_3001 c0_3002 c0_3003), (.pointer (some c2_3004)), (.slice v5_3005 v5_3005l v5_3005c), (.int .i64 c6_3006), (.int .i64 v7_3007)] => straitref15_Split.l2 (fun z19 z19l z19c z20 h' => K 6 [(.slice c0_3001 c0_3002 c0_3003), (.pointer (some c2_3004)), (.slice z19 z19l z19c), (.int .i64 c6_3006), (.int .i64 z20)] h') m c0_3001 c0_3002 c0_3003 c2_3004 v5_3005 v5_3005l v5_3005c c6_3006 v7_3007 h
  | _ => False
def straitref15_Split.loop (i : Nat) (vs : List Value) (h : Heap) (K : Nat → List Value → Heap → Prop) : Prop := match i with
  | 0 => ∃ m, straitref15_Split.r0 K m vs h
  | 1 => ∃ m, straitref15_Split.r1 K m vs h
  | 2 => ∃ m, straitref15_Split.r2 K m vs h
  | _ => False
noncomputable def straitref15_Split.ctx : Ctx := { P := Try.prog, call := fun _ _ _ _ => False, qcall := fun _ _ _ _ => False, quiet := fun f => Nat.beq f 1000062, loop := straitref15_Split.loop }
theorem straitref15_Split.ok : straitref15_Split.ctx.OK where
  mixed := by kernel_rfl
  mono := fun hh _ => hh.elim
  call := fun hh => hh.elim
  qmono := fun hh _ => hh.elim
  qval := fun hh => hh.elim
  qcall := fun hh => hh.elim
noncomputable def straitref15_Split.code : Code := (Try.f22.body).getD .skip
def straitref15_Split.ann : Ann := (.two .auto (.two .auto (.two (.two .auto (.two (.loop 0 [0, 2, 3, 4] [(2, [0, 2]), (0, [2])] .auto) .auto)) (.two .auto (.two (.two .auto (.two (.loop 1 [0, 2, 5, 6] [(4, [2, 5])] (.two .auto (.two (.two (.two .auto (.two (.two (.loop 2 [0, 2, 5, 6, 7] [(6, [0, 2, 5, 6, 7])] (.two .auto (.two (.two (.reg [0, 0, 0, 6, 14, 30, 0, 0, 192, 448, 960, 2046, 4094, 8191, 16383] (.take 0 (.take 1 (.take 2 (.take 3 (.take 4 (.take 5 (.take 6 (.take 7 (.take 8 (.take 9 (.take 10 (.take 11 (.alt 12 (.alt 13 (.take 14 .done) .noalt) .noalt)))))))))))))) .auto) .auto))) .auto) (.reg [0, 0, 0, 6, 14, 30, 0, 0, 192, 448, 960, 0, 4094, 8190, 16383, 32767] (.take 0 (.take 1 (.take 2 (.take 3 (.take 4 (.take 5 (.take 6 (.take 7 (.take 8 (.take 9 (.take 10 (.take 11 (.take 12 (.alt 13 (.alt 14 (.take 15 .done) .noalt) .noalt))))))))))))))))) .auto) .auto))) .auto)) .auto)))))
noncomputable def straitref15_Split.c2 : Code := sub straitref15_Split.code [1, 1, 1, 1, 0, 1, 0, 0, 1, 0, 0, 1, 0, 0, 0]
def straitref15_Split.a2 : Ann := (.two .auto (.two (.two (.reg [0, 0, 0, 6, 14, 30, 0, 0, 192, 448, 960, 2046, 4094, 8191, 16383] (.take 0 (.take 1 (.take 2 (.take 3 (.take 4 (.take 5 (.take 6 (.take 7 (.take 8 (.take 9 (.take 10 (.take 11 (.alt 12 (.alt 13 (.take 14 .done) .noalt) .noalt)))))))))))))) .auto) .auto))
def straitref15_Split.keep2 : List Nat := [0, 2, 5, 6, 7]
def straitref15_Split.outs2 : List (Nat × List Nat) := [(6, [0, 2, 5, 6, 7])]
noncomputable def straitref15_Split.c1 : Code := sub straitref15_Split.code [1, 1, 1, 1, 0, 1, 0, 0]
def straitref15_Split.a1 : Ann := (.two .auto (.two (.two (.two .auto (.two (.two (.loop 2 [0, 2, 5, 6, 7] [(6, [0, 2, 5, 6, 7])] (.two .auto (.two (.two (.reg [0, 0, 0, 6, 14, 30, 0, 0, 192, 448, 960, 2046, 4094, 8191, 16383] (.take 0 (.take 1 (.take 2 (.take 3 (.take 4 (.take 5 (.take 6 (.take 7 (.take 8 (.take 9 (.take 10 (.take 11 (.alt 12 (.alt 13 (.take 14 .done) .noalt) .noalt)))))))))))))) .auto) .auto))) .auto) (.reg [0, 0, 0, 6, 14, 30, 0, 0, 192, 448, 960, 0, 4094, 8190, 16383, 32767] (.take 0 (.take 1 (.take 2 (.take 3 (.take 4 (.take 5 (.take 6 (.take 7 (.take 8 (.take 9 (.take 10 (.take 11 (.take 12 (.alt 13 (.alt 14 (.take 15 .done) .noalt) .noalt))))))))))))))))) .auto) .auto))
def straitref15_Split.keep1 : List Nat := [0, 2, 5, 6]
def straitref15_Split.outs1 : List (Nat × List Nat) := [(4, [2, 5])]
noncomputable def straitref15_Split.c0 : Code := sub straitref15_Split.code [1, 1, 0, 1, 0, 0]
def straitref15_Split.a0 : Ann := .auto
def straitref15_Split.keep0 : List Nat := [0, 2, 3, 4]
def straitref15_Split.outs0 : List (Nat × List Nat) := [(2, [0, 2]), (0, [2])]
set_option maxRecDepth 100000 in
theorem straitref15_Split.L0 : LoopOK straitref15_Split.ctx 104 straitref15_Split.c0 0 straitref15_Split.keep0 straitref15_Split.outs0 := by
  refine loop_ok (n := straitref15_Split.a0) straitref15_Split.ok (by kernel_rfl) (loops_ok (l := []) (by kernel_rfl) ?_) straitref15_Split.r0 ?_ ?_ (fun vs h K hh => hh)
  · exact trivial
  · intro K vs h hh
    unfold straitref15_Split.r0 at hh
    split at hh
    · exact hh
    · exact hh
  · intro K m vs h hh
    unfold straitref15_Split.r0 at hh
    split at hh
    · exact cast (by kernel_rfl) hh
    · exact hh.elim
set_option maxRecDepth 100000 in
theorem straitref15_Split.L2 : LoopOK straitref15_Split.ctx 104 straitref15_Split.c2 2 straitref15_Split.keep2 straitref15_Split.outs2 := by
  refine loop_ok (n := straitref15_Split.a2) straitref15_Split.ok (by kernel_rfl) (loops_ok (l := []) (by kernel_rfl) ?_) straitref15_Split.r2 ?_ ?_ (fun vs h K hh => hh)
  · exact trivial
  · intro K vs h hh
    unfold straitref15_Split.r2 at hh
    split at hh
    · exact hh
    · exact hh
  · intro K m vs h hh
    unfold straitref15_Split.r2 at hh
    split at hh
    · exact cast (by kernel_rfl) hh
    · exact hh.elim
set_option maxRecDepth 100000 in
theorem straitref15_Split.L1 : LoopOK straitref15_Split.ctx 104 straitref15_Split.c1 1 straitref15_Split.keep1 straitref15_Split.outs1 := by
  refine loop_ok (n := straitref15_Split.a1) straitref15_Split.ok (by kernel_rfl) (loops_ok (l := [(straitref15_Split.c2, none, 2, straitref15_Split.keep2, straitref15_Split.outs2)]) (by kernel_rfl) ?_) straitref15_Split.r1 ?_ ?_ (fun vs h K hh => hh)
  · exact ⟨straitref15_Split.L2, trivial⟩
  · intro K vs h hh
    unfold straitref15_Split.r1 at hh
    split at hh
    · exact hh
    · exact hh
  · intro K m vs h hh
    unfold straitref15_Split.r1 at hh
    split at hh
    · exact cast (by kernel_rfl) hh
    · exact hh.elim
set_option maxRecDepth 100000 in
theorem straitref15_Split.eq (a1 : Option Addr) (a1l : Nat) (a1c : Nat) (h : Heap) (K : (Option Addr) → Nat → Nat → Bool → Heap → Prop) : evF straitref15_Split.ctx Try.f22 straitref15_Split.ann [(.slice a1 a1l a1c)] h (straitref15_Split.ret K) = straitref15_Split a1 a1l a1c h K := by kernel_rfl
set_option maxRecDepth 100000 in
theorem straitref15_Split.calls {a1 : Option Addr} {a1l : Nat} {a1c : Nat} {h : Heap} {K : (Option Addr) → Nat → Nat → Bool → Heap → Prop} (hh : straitref15_Split a1 a1l a1c h K) (w : World) (hw : w.heap = h) :
    (callFunc 22 #[(.slice a1 a1l a1c)]).run Try.prog w = .ok (.enter 22 #[(.slice a1 a1l a1c)]) w ∧ Calls Try.prog 22 #[(.slice a1 a1l a1c)] w fun e w' => ∃ v, e = .returned v ∧ Out w w' ∧ straitref15_Split.ret K v w'.heap := by
  rw [← straitref15_Split.eq] at hh
  exact fn_calls (args := [(.slice a1 a1l a1c)]) (c := straitref15_Split.code) straitref15_Split.ok Try.func22 (by kernel_rfl) (by kernel_rfl) (by kernel_rfl) (by kernel_rfl) (loops_ok (l := [(straitref15_Split.c0, none, 0, straitref15_Split.keep0, straitref15_Split.outs0), (straitref15_Split.c1, none, 1, straitref15_Split.keep1, straitref15_Split.outs1)]) (by kernel_rfl) ⟨straitref15_Split.L0, straitref15_Split.L1, trivial⟩) hh w hw

/-! ### strait/straitref15.Same: function 23 -/
def straitref15_Same.b0 (K0 : Bool → Heap → Prop) (K2 : Heap → Prop) (cont : (Option Addr) → Nat → Nat → (Option Addr) → Nat → Nat → Int → Heap → Prop) (c0_1001 : Option Addr) (c0_1002 : Nat) (c0_1003 : Nat) (c1_1004 : Option Addr) (c1_1005 : Nat) (c1_1006 : Nat) (v5_1007 : Int) (h1008 : Heap) : Prop :=
  (iteB (decide (v5_1007 < (c0_1002 : Int))) ((chkP c0_1001 fun a1009 => (0 ≤ v5_1007 ∧ v5_1007 < (c0_1002 : Int)) ∧ ∃ (x1010 : Int), cell h1008 (a1009.add (v5_1007.toNat * 3)) = some (.int .i64 x1010) ∧ ∃ (x1011 : Int), cell h1008 ((a1009.add (v5_1007.toNat * 3)).add 1) = some (.int .i64 x1011) ∧ ∃ (x1012 : Int), cell h1008 ((a1009.add (v5_1007.toNat * 3)).add 2) = some (.int .i64 x1012) ∧ chkP c1_1004 fun a1013 => (0 ≤ v5_1007 ∧ v5_1007 < (c1_1005 : Int)) ∧ ∃ (x1014 : Int), cell h1008 (a1013.add (v5_1007.toNat * 3)) = some (.int .i64 x1014) ∧ ∃ (x1015 : Int), cell h1008 ((a1013.add (v5_1007.toNat * 3)).add 1) = some (.int .i64 x1015) ∧ ∃ (x1016 : Int), cell h1008 ((a1013.add (v5_1007.toNat * 3)).add 2) = some (.int .i64 x1016) ∧ (iteB (!(eqAll [(x1010 == x1014), (x1011 == x1015), (x1012 == x1016)])) (K0 false h1008) (((cont c0_1001 c0_1002 c0_1003 c1_1004 c1_1005 c1_1006 (IntKind.i64.wrap (v5_1007 + 1)) h1008)))))) (K2 h1008))
def straitref15_Same.l0 (K0 : Bool → Heap → Prop) (K2 : Heap → Prop) : Nat → (Option Addr) → Nat → Nat → (Option Addr) → Nat → Nat → Int → Heap → Prop
  | 0, _, _, _, _, _, _, _, _ => False
  | m + 1, c0_1001, c0_1002, c0_1003, c1_1004, c1_1005, c1_1006, v5_1007, h => straitref15_Same.b0 K0 K2 (straitref15_Same.l0 K0 K2 m) c0_1001 c0_1002 c0_1003 c1_1004 c1_1005 c1_1006 v5_1007 h
def straitref15_Same (a1 : Option Addr) (a1l : Nat) (a1c : Nat) (a2 : Option Addr) (a2l : Nat) (a2c : Nat) (h : Heap) (K : Bool → Heap → Prop) : Prop :=
  ((iteB ((a1l : Int) != (a2l : Int)) (K false h) (((∃ m6, straitref15_Same.l0 (fun z3 h4 => K z3 h4) (fun h5 => (K true h5)) m6 a1 a1l a1c a2 a2l a2c 0 h)))))
def straitref15_Same.ret (K : Bool → Heap → Prop) (v : Value) (h : Heap) : Prop := match v with
  | (.bool r7) => K r7 h
  | _ => False
theorem straitref15_Same.ret_elim {K : Bool → Heap → Prop} {K' : Value → Heap → Prop} {v : Value} {h : Heap} (hk : ∀ r7 h, K r7 h → K' (.bool r7) h) (hh : straitref15_Same.ret K v h) : K' v h := by
  unfold straitref15_Same.ret at hh
  split at hh
  · exact hk _ _ hh
  · exact hh.elim
def straitref15_Same.r0 (K : Nat → List Value → Heap → Prop) (m : Nat) (vs : List Value) (h : Heap) : Prop := match vs with
  | [(.slice c0_1001 c0_1002 c0_1003), (.slice c1_1004 c1_1005 c1_1006), (.int .i64 v5_1007)] => straitref15_Same.l0 (fun z8 h' => K 0 [(.bool z8)] h') (fun h' => K 2 [] h') m c0_1001 c0_1002 c0_1003 c1_1004 c1_1005 c1_1006 v5_1007 h
  | _ => False
def straitref15_Same.loop (i : Nat) (vs : List Value) (h : Heap) (K : Nat → List Value → Heap → Prop) : Prop := match i with
  | 0 => ∃ m, straitref15_Same.r0 K m vs h
  | _ => False
noncomputable def straitref15_Same.ctx : Ctx := { P := Try.prog, call := fun _ _ _ _ => False, qcall := fun _ _ _ _ => False, quiet := fun f => Nat.beq f 1000062, loop := straitref15_Same.loop }
theorem straitref15_Same.ok : straitref15_Same.ctx.OK where
  mixed := by kernel_rfl
  mono := fun hh _ => hh.elim
  call := fun hh => hh.elim
  qmono := fun hh _ => hh.elim
  qval := fun hh => hh.elim
  qcall := fun hh => hh.elim
noncomputable def straitref15_Same.code : Code := (Try.f23.body).getD .skip
def straitref15_Same.ann : Ann := (.two .auto (.two .auto (.two (.two .auto (.two (.loop 0 [0, 1, 5] [(2, []), (0, [4])] (.two .auto (.two (.two (.two (.reg [0, 0, 3, 7, 0, 0, 48, 112, 255] (.take 0 (.take 1 (.take 2 (.take 3 (.take 4 (.take 5 (.take 6 (.take 7 (.take 8 .done)))))))))) .auto) .auto) .auto))) .auto)) .auto)))
noncomputable def straitref15_Same.c0 : Code := sub straitref15_Same.code [1, 1, 0, 1, 0, 0]
def straitref15_Same.a0 : Ann := (.two .auto (.two (.two (.two (.reg [0, 0, 3, 7, 0, 0, 48, 112, 255] (.take 0 (.take 1 (.take 2 (.take 3 (.take 4 (.take 5 (.take 6 (.take 7 (.take 8 .done)))))))))) .auto) .auto) .auto))
def straitref15_Same.keep0 : List Nat := [0, 1, 5]
def straitref15_Same.outs0 : List (Nat × List Nat) := [(2, []), (0, [4])]
set_option maxRecDepth 100000 in
theorem straitref15_Same.L0 : LoopOK straitref15_Same.ctx 26 straitref15_Same.c0 0 straitref15_Same.keep0 straitref15_Same.outs0 := by
  refine loop_ok (n := straitref15_Same.a0) straitref15_Same.ok (by kernel_rfl) (loops_ok (l := []) (by kernel_rfl) ?_) straitref15_Same.r0 ?_ ?_ (fun vs h K hh => hh)
  · exact trivial
  · intro K vs h hh
    unfold straitref15_Same.r0 at hh
    split at hh
    · exact hh
    · exact hh
  · intro K m vs h hh
    unfold straitref15_Same.r0 at hh
    split at hh
    · exact cast (by kernel_rfl) hh
    · exact hh.elim
set_option maxRecDepth 100000 in
theorem straitref15_Same.eq (a1 : Option Addr) (a1l : Nat) (a1c : Nat) (a2 : Option Addr) (a2l : Nat) (a2c : Nat) (h : Heap) (K : Bool → Heap → Prop) : evF straitref15_Same.ctx Try.f23 straitref15_Same.ann [(.slice a1 a1l a1c), (.slice a2 a2l a2c)] h (straitref15_Same.ret K) = straitref15_Same a1 a1l a1c a2 a2l a2c h K := by kernel_rfl
set_option maxRecDepth 100000 in
theorem straitref15_Same.calls {a1 : Option Addr} {a1l : Nat} {a1c : Nat} {a2 : Option Addr} {a2l : Nat} {a2c : Nat} {h : Heap} {K : Bool → Heap → Prop} (hh : straitref15_Same a1 a1l a1c a2 a2l a2c h K) (w : World) (hw : w.heap = h) :
    (callFunc 23 #[(.slice a1 a1l a1c), (.slice a2 a2l a2c)]).run Try.prog w = .ok (.enter 23 #[(.slice a1 a1l a1c), (.slice a2 a2l a2c)]) w ∧ Calls Try.prog 23 #[(.slice a1 a1l a1c), (.slice a2 a2l a2c)] w fun e w' => ∃ v, e = .returned v ∧ Out w w' ∧ straitref15_Same.ret K v w'.heap := by
  rw [← straitref15_Same.eq] at hh
  exact fn_calls (args := [(.slice a1 a1l a1c), (.slice a2 a2l a2c)]) (c := straitref15_Same.code) straitref15_Same.ok Try.func23 (by kernel_rfl) (by kernel_rfl) (by kernel_rfl) (by kernel_rfl) (loops_ok (l := [(straitref15_Same.c0, none, 0, straitref15_Same.keep0, straitref15_Same.outs0)]) (by kernel_rfl) ⟨straitref15_Same.L0, trivial⟩) hh w hw

/-! ### strait/straitlaw15.EdgeMerges: function 4 -/
def straitlaw15_EdgeMerges (a1 : Option Addr) (a1l : Nat) (a1c : Nat) (h : Heap) (K : Bool → Heap → Prop) : Prop :=
  ((iteB (decide ((a1l : Int) > (100 : Int))) (callP1 (straitlaw15_awake h) fun x2 h3 => K x2 h3) ((callP4 (edge_Merge a1 a1l a1c h) fun x4 x4l x4c x5 h6 => (callP4 (straitref15_Merge a1 a1l a1c h6) fun x7 x7l x7c x8 h9 => newP h9 (.cells #[(.slice none 0 0), (.bool false)] 45) fun a10 h11 => stC h11 a10 (.slice x7 x7l x7c) fun h12 => stC h12 (a10.add 1) (.bool x8) fun h13 => (callP4 (edge_Split a1 a1l a1c h13) fun x14 x14l x14c x15 h16 => (callP4 (straitref15_Split a1 a1l a1c h16) fun x17 x17l x17c x18 h19 => newP h19 (.cells #[(.slice none 0 0), (.bool false)] 45) fun a20 h21 => stC h21 a20 (.slice x17 x17l x17c) fun h22 => stC h22 (a20.add 1) (.bool x18) fun h23 => (∃ (x24 : Bool), cell h23 (a10.add 1) = some (.bool x24) ∧ iteB (x5 == x24) (∃ (x25 : Option Addr) (x25l : Nat) (x25c : Nat), cell h23 a10 = some (.slice x25 x25l x25c) ∧ qcallP1 h23 (straitref15_Same x4 x4l x4c x25 x25l x25c h23) fun x26 => iteB x26 (∃ (x27 : Bool), cell h23 (a20.add 1) = some (.bool x27) ∧ iteB (x15 == x27) (∃ (x28 : Option Addr) (x28l : Nat) (x28c : Nat), cell h23 a20 = some (.slice x28 x28l x28c) ∧ qcallP1 h23 (straitref15_Same x14 x14l x14c x28 x28l x28c h23) fun x29 => iteB x29 (callP1 (straitlaw15_awake h23) fun x30 h31 => K x30 h31) (K false h23)) (K false h23)) (K false h23)) (K false h23)))))))))
def straitlaw15_EdgeMerges.ret (K : Bool → Heap → Prop) (v : Value) (h : Heap) : Prop := match v with
  | (.bool r34) => K r34 h
  | _ => False
theorem straitlaw15_EdgeMerges.ret_elim {K : Bool → Heap → Prop} {K' : Value → Heap → Prop} {v : Value} {h : Heap} (hk : ∀ r34 h, K r34 h → K' (.bool r34) h) (hh : straitlaw15_EdgeMerges.ret K v h) : K' v h := by
  unfold straitlaw15_EdgeMerges.ret at hh
  split at hh
  · exact hk _ _ hh
  · exact hh.elim
def straitlaw15_EdgeMerges.call (f : FuncId) (vs : List Value) (h : Heap) (K : Value → Heap → Prop) : Prop := match f, vs with
  | 6, [] => callP1 (straitlaw15_awake h) fun r26 h' => K (.bool r26) h'
  | 19, [(.slice a1 a1l a1c)] => callP4 (edge_Merge a1 a1l a1c h) fun r13 r13l r13c r14 h' => K (.tuple #[(.slice r13 r13l r13c), (.bool r14)]) h'
  | 20, [(.slice a1 a1l a1c)] => callP4 (straitref15_Merge a1 a1l a1c h) fun r17 r17l r17c r18 h' => K (.agg #[(.slice r17 r17l r17c), (.bool r18)]) h'
  | 21, [(.slice a1 a1l a1c)] => callP4 (edge_Split a1 a1l a1c h) fun r21 r21l r21c r22 h' => K (.tuple #[(.slice r21 r21l r21c), (.bool r22)]) h'
  | 22, [(.slice a1 a1l a1c)] => callP4 (straitref15_Split a1 a1l a1c h) fun r16 r16l r16c r17 h' => K (.agg #[(.slice r16 r16l r16c), (.bool r17)]) h'
  | _, _ => False
def straitlaw15_EdgeMerges.qcall (f : FuncId) (vs : List Value) (h : Heap) (K : Value → Prop) : Prop := match f, vs with
  | 23, [(.slice a1 a1l a1c), (.slice a2 a2l a2c)] => qcallP1 h (straitref15_Same a1 a1l a1c a2 a2l a2c h) fun r7 => K (.bool r7)
  | _, _ => False
noncomputable def straitlaw15_EdgeMerges.ctx : Ctx := { P := Try.prog, call := straitlaw15_EdgeMerges.call, qcall := straitlaw15_EdgeMerges.qcall, quiet := fun f => Nat.beq f 23 || Nat.beq f 1000062, loop := fun _ _ _ _ => False }
theorem straitlaw15_EdgeMerges.ok : straitlaw15_EdgeMerges.ctx.OK where
  mixed := by kernel_rfl
  mono := by
    intro f args h K K' hh hk
    change straitlaw15_EdgeMerges.call f args h K at hh
    change straitlaw15_EdgeMerges.call f args h K'
    unfold straitlaw15_EdgeMerges.call at hh ⊢
    split at hh
    · obtain ⟨R, h1, h2⟩ := hh
      exact ⟨R, h1, fun _ x hr => hk _ _ (h2 _ x hr)⟩
    · obtain ⟨R, h1, h2⟩ := hh
      exact ⟨R, h1, fun _ _ _ _ x hr => hk _ _ (h2 _ _ _ _ x hr)⟩
    · obtain ⟨R, h1, h2⟩ := hh
      exact ⟨R, h1, fun _ _ _ _ x hr => hk _ _ (h2 _ _ _ _ x hr)⟩
    · obtain ⟨R, h1, h2⟩ := hh
      exact ⟨R, h1, fun _ _ _ _ x hr => hk _ _ (h2 _ _ _ _ x hr)⟩
    · obtain ⟨R, h1, h2⟩ := hh
      exact ⟨R, h1, fun _ _ _ _ x hr => hk _ _ (h2 _ _ _ _ x hr)⟩
    · exact hh.elim
  call := by
    intro f args h K hh w hw
    change straitlaw15_EdgeMerges.call f args h K at hh
    unfold straitlaw15_EdgeMerges.call at hh
    split at hh
    · obtain ⟨R, h1, h2⟩ := hh
      obtain ⟨g1, g2⟩ := straitlaw15_awake.calls h1 w hw
      exact ⟨g1, g2.mono fun e w' ⟨v, he, ho, hr⟩ => ⟨v, he, ho, straitlaw15_awake.ret_elim h2 hr⟩⟩
    · obtain ⟨R, h1, h2⟩ := hh
      obtain ⟨g1, g2⟩ := edge_Merge.calls h1 w hw
      exact ⟨g1, g2.mono fun e w' ⟨v, he, ho, hr⟩ => ⟨v, he, ho, edge_Merge.ret_elim h2 hr⟩⟩
    · obtain ⟨R, h1, h2⟩ := hh
      obtain ⟨g1, g2⟩ := straitref15_Merge.calls h1 w hw
      exact ⟨g1, g2.mono fun e w' ⟨v, he, ho, hr⟩ => ⟨v, he, ho, straitref15_Merge.ret_elim h2 hr⟩⟩
    · obtain ⟨R, h1, h2⟩ := hh
      obtain ⟨g1, g2⟩ := edge_Split.calls h1 w hw
      exact ⟨g1, g2.mono fun e w' ⟨v, he, ho, hr⟩ => ⟨v, he, ho, edge_Split.ret_elim h2 hr⟩⟩
    · obtain ⟨R, h1, h2⟩ := hh
      obtain ⟨g1, g2⟩ := straitref15_Split.calls h1 w hw
      exact ⟨g1, g2.mono fun e w' ⟨v, he, ho, hr⟩ => ⟨v, he, ho, straitref15_Split.ret_elim h2 hr⟩⟩
    · exact hh.elim
  qmono := by
    intro f args h K K' hh hk
    change straitlaw15_EdgeMerges.qcall f args h K at hh
    change straitlaw15_EdgeMerges.qcall f args h K'
    unfold straitlaw15_EdgeMerges.qcall at hh ⊢
    split at hh
    · obtain ⟨x0, h1, h2⟩ := hh
      exact ⟨x0, h1, hk _ h2⟩
    · exact hh.elim
  qval := by
    intro f args h K hh
    change straitlaw15_EdgeMerges.qcall f args h K at hh
    suffices H : ∃ v, K v ∧ straitlaw15_EdgeMerges.qcall f args h (· = v) from H
    unfold straitlaw15_EdgeMerges.qcall at hh ⊢
    split at hh
    · obtain ⟨x0, h1, h2⟩ := hh
      exact ⟨_, h2, x0, h1, rfl⟩
    · exact hh.elim
  qcall := by
    intro f args h v hh w hw
    change straitlaw15_EdgeMerges.qcall f args h (· = v) at hh
    unfold straitlaw15_EdgeMerges.qcall at hh
    split at hh
    · obtain ⟨x0, h1, h2⟩ := hh
      obtain ⟨g1, g2⟩ := straitref15_Same.calls h1 w hw
      refine .inl ⟨g1, g2.mono fun e w' ⟨u, he, ho, hr⟩ => ?_⟩
      have hq := straitref15_Same.ret_elim (K' := fun u h' => u = v ∧ h' = h) (fun _ h' hr => by obtain ⟨rfl, rfl⟩ := hr; exact ⟨h2, rfl⟩) hr
      exact ⟨hq.1 ▸ he, ho, hq.2⟩
    · exact hh.elim
noncomputable def straitlaw15_EdgeMerges.code : Code := (Try.f4.body).getD .skip
def straitlaw15_EdgeMerges.ann : Ann := .auto
set_option maxRecDepth 100000 in
theorem straitlaw15_EdgeMerges.eq (a1 : Option Addr) (a1l : Nat) (a1c : Nat) (h : Heap) (K : Bool → Heap → Prop) : evF straitlaw15_EdgeMerges.ctx Try.f4 straitlaw15_EdgeMerges.ann [(.slice a1 a1l a1c)] h (straitlaw15_EdgeMerges.ret K) = straitlaw15_EdgeMerges a1 a1l a1c h K := by kernel_rfl
set_option maxRecDepth 100000 in
theorem straitlaw15_EdgeMerges.calls {a1 : Option Addr} {a1l : Nat} {a1c : Nat} {h : Heap} {K : Bool → Heap → Prop} (hh : straitlaw15_EdgeMerges a1 a1l a1c h K) (w : World) (hw : w.heap = h) :
    (callFunc 4 #[(.slice a1 a1l a1c)]).run Try.prog w = .ok (.enter 4 #[(.slice a1 a1l a1c)]) w ∧ Calls Try.prog 4 #[(.slice a1 a1l a1c)] w fun e w' => ∃ v, e = .returned v ∧ Out w w' ∧ straitlaw15_EdgeMerges.ret K v w'.heap := by
  rw [← straitlaw15_EdgeMerges.eq] at hh
  exact fn_calls (args := [(.slice a1 a1l a1c)]) (c := straitlaw15_EdgeMerges.code) straitlaw15_EdgeMerges.ok Try.func4 (by kernel_rfl) (by kernel_rfl) (by kernel_rfl) (by kernel_rfl) (loops_ok (l := []) (by kernel_rfl) trivial) hh w hw

end Go.Proofs.Ytapjbmfgmnhpdaa
