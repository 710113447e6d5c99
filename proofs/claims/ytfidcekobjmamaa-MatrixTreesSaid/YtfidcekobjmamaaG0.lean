/- WRITTEN BY A PROGRAM OF THIS SESSION (gen.py): what each function asks of memory, and that the model's run comes to it. -/
import Derived.Test.YtfidcekobjmamaaProg
import Derived.Test.YtfidcekobjmamaaFw8

namespace Go.Proofs.Ytfidcekobjmamaa
open Go.Hp
set_option linter.unusedVariables false
set_option linter.unusedSimpArgs false
set_option linter.unusedSectionVars false

/-! ### strait/tree.deepen: function 69 -/
def tree_deepen.b2 (K2 : Heap → Prop) (cont : (Option Addr) → Nat → Nat → Int → Int → Heap → Prop) (c1_3001 : Option Addr) (c1_3002 : Nat) (c1_3003 : Nat) (v8_3004 : Int) (v9_3005 : Int) (h3006 : Heap) : Prop :=
  (iteB (decide (v9_3005 ≥ (0 : Int))) (False) (K2 h3006))
def tree_deepen.l2 (K2 : Heap → Prop) : Nat → (Option Addr) → Nat → Nat → Int → Int → Heap → Prop
  | 0, _, _, _, _, _, _ => False
  | m + 1, c1_3001, c1_3002, c1_3003, v8_3004, v9_3005, h => tree_deepen.b2 K2 (tree_deepen.l2 K2 m) c1_3001 c1_3002 c1_3003 v8_3004 v9_3005 h
def tree_deepen.b1 (K2 : Heap → Prop) (cont : (Option Addr) → Nat → Nat → (Option Addr) → Nat → Nat → Int → Int → Heap → Prop) (c1_2001 : Option Addr) (c1_2002 : Nat) (c1_2003 : Nat) (c7_2004 : Option Addr) (c7_2005 : Nat) (c7_2006 : Nat) (v8_2007 : Int) (v9_2008 : Int) (h2009 : Heap) : Prop :=
  (iteB (decide (v9_2008 ≥ (0 : Int))) (((chkP c7_2004 fun a2010 => (0 ≤ v9_2008 ∧ v9_2008 < (c7_2005 : Int)) ∧ ∃ (x2011 : Int), cell h2009 (a2010.add (v9_2008.toNat * 1)) = some (.int .i64 x2011) ∧ chkP c1_2001 fun a2012 => (0 ≤ x2011 ∧ x2011 < (c1_2002 : Int)) ∧ stC h2009 (a2012.add (x2011.toNat * 1)) (.int .i64 (IntKind.i64.wrap (v8_2007 + 1))) fun h2013 => ((cont c1_2001 c1_2002 c1_2003 c7_2004 c7_2005 c7_2006 (IntKind.i64.wrap (v8_2007 + 1)) (IntKind.i64.wrap (v9_2008 - 1)) h2013))))) (K2 h2009))
def tree_deepen.l1 (K2 : Heap → Prop) : Nat → (Option Addr) → Nat → Nat → (Option Addr) → Nat → Nat → Int → Int → Heap → Prop
  | 0, _, _, _, _, _, _, _, _, _ => False
  | m + 1, c1_2001, c1_2002, c1_2003, c7_2004, c7_2005, c7_2006, v8_2007, v9_2008, h => tree_deepen.b1 K2 (tree_deepen.l1 K2 m) c1_2001 c1_2002 c1_2003 c7_2004 c7_2005 c7_2006 v8_2007 v9_2008 h
def tree_deepen.b0 (K0 : Bool → Heap → Prop) (cont : (Option Addr) → Nat → Nat → Int → Addr → (Option Addr) → Nat → Nat → Heap → Prop) (c1_1001 : Option Addr) (c1_1002 : Nat) (c1_1003 : Nat) (v2_1004 : Int) (c3_1005 : Addr) (v7_1006 : Option Addr) (v7_1006l : Nat) (v7_1006c : Nat) (h1007 : Heap) : Prop :=
  (let j1022 := (fun (y1011 : Bool) => iteB y1011 (newP h1007 (.cells #[(.int .i64 v2_1004)] 3) fun a1012 h1013 => ∃ n1018, cellsAt h1013 (some a1012) (1 * 1) n1018 ∧ appP 3 1 8 [(.int .i64 0)] v7_1006 v7_1006l v7_1006c 1 n1018 h1013 fun q1014 l1015 c1016 h1017 => (∃ (x1019 : Option Addr) (x1019l : Nat) (x1019c : Nat), cell h1017 c3_1005 = some (.slice x1019 x1019l x1019c) ∧ chkP x1019 fun a1020 => (0 ≤ v2_1004 ∧ v2_1004 < (x1019l : Int)) ∧ ∃ (x1021 : Int), cell h1017 (a1020.add (v2_1004.toNat * 1)) = some (.int .i64 x1021) ∧ cont c1_1001 c1_1002 c1_1003 x1021 c3_1005 q1014 l1015 c1016 h1017)) ((chkP c1_1001 fun a1023 => (0 ≤ v2_1004 ∧ v2_1004 < (c1_1002 : Int)) ∧ ∃ (x1024 : Int), cell h1007 (a1023.add (v2_1004.toNat * 1)) = some (.int .i64 x1024) ∧ (iteB (decide (x1024 < (0 : Int))) (K0 false h1007) ((chkP c1_1001 fun a1025 => (0 ≤ v2_1004 ∧ v2_1004 < (c1_1002 : Int)) ∧ ∃ (x1026 : Int), cell h1007 (a1025.add (v2_1004.toNat * 1)) = some (.int .i64 x1026) ∧ ((∃ m1028, tree_deepen.l1 (fun h1027 => (K0 true h1027)) m1028 c1_1001 c1_1002 c1_1003 v7_1006 v7_1006l v7_1006c x1026 (IntKind.i64.wrap ((v7_1006l : Int) - 1)) h1007))))))));
  chkP c1_1001 fun a1008 => (0 ≤ v2_1004 ∧ v2_1004 < (c1_1002 : Int)) ∧ ∃ (x1009 : Int), cell h1007 (a1008.add (v2_1004.toNat * 1)) = some (.int .i64 x1009) ∧ iteB (decide (x1009 < (0 : Int))) (∃ (x1010 : Option Addr) (x1010l : Nat) (x1010c : Nat), cell h1007 c3_1005 = some (.slice x1010 x1010l x1010c) ∧ (j1022 (decide ((v7_1006l : Int) ≤ (x1010l : Int))))) ((j1022 false)))
def tree_deepen.l0 (K0 : Bool → Heap → Prop) : Nat → (Option Addr) → Nat → Nat → Int → Addr → (Option Addr) → Nat → Nat → Heap → Prop
  | 0, _, _, _, _, _, _, _, _, _ => False
  | m + 1, c1_1001, c1_1002, c1_1003, v2_1004, c3_1005, v7_1006, v7_1006l, v7_1006c, h => tree_deepen.b0 K0 (tree_deepen.l0 K0 m) c1_1001 c1_1002 c1_1003 v2_1004 c3_1005 v7_1006 v7_1006l v7_1006c h
def tree_deepen (a1 : Option Addr) (a1l : Nat) (a1c : Nat) (a2 : Option Addr) (a2l : Nat) (a2c : Nat) (a3 : Option Addr) (a3l : Nat) (a3c : Nat) (a4 : Int) (h : Heap) (K : Bool → Heap → Prop) : Prop :=
  newP h (.cells #[(.slice a1 a1l a1c), (.slice a2 a2l a2c)] 25) fun a5 h6 => (((let j24 := (fun (y10 : Bool) => iteB y10 (newP h6 (.cells #[(.int .i64 a4)] 3) fun a11 h12 => ∃ n17, cellsAt h12 (some a11) (1 * 1) n17 ∧ appP 3 1 8 [(.int .i64 0)] none 0 0 1 n17 h12 fun q13 l14 c15 h16 => (∃ (x18 : Option Addr) (x18l : Nat) (x18c : Nat), cell h16 a5 = some (.slice x18 x18l x18c) ∧ chkP x18 fun a19 => (0 ≤ a4 ∧ a4 < (x18l : Int)) ∧ ∃ (x20 : Int), cell h16 (a19.add (a4.toNat * 1)) = some (.int .i64 x20) ∧ (∃ m23, tree_deepen.l0 (fun z21 h22 => K z21 h22) m23 a3 a3l a3c x20 a5 q13 l14 c15 h16))) ((chkP a3 fun a25 => (0 ≤ a4 ∧ a4 < (a3l : Int)) ∧ ∃ (x26 : Int), cell h6 (a25.add (a4.toNat * 1)) = some (.int .i64 x26) ∧ (iteB (decide (x26 < (0 : Int))) (K false h6) ((chkP a3 fun a27 => (0 ≤ a4 ∧ a4 < (a3l : Int)) ∧ ∃ (x28 : Int), cell h6 (a27.add (a4.toNat * 1)) = some (.int .i64 x28) ∧ ((∃ m30, tree_deepen.l2 (fun h29 => (K true h29)) m30 a3 a3l a3c x28 (IntKind.i64.wrap (0 - 1)) h6))))))));
  chkP a3 fun a7 => (0 ≤ a4 ∧ a4 < (a3l : Int)) ∧ ∃ (x8 : Int), cell h6 (a7.add (a4.toNat * 1)) = some (.int .i64 x8) ∧ iteB (decide (x8 < (0 : Int))) (∃ (x9 : Option Addr) (x9l : Nat) (x9c : Nat), cell h6 a5 = some (.slice x9 x9l x9c) ∧ (j24 (decide ((0 : Int) ≤ (x9l : Int))))) ((j24 false)))))
def tree_deepen.ret (K : Bool → Heap → Prop) (v : Value) (h : Heap) : Prop := match v with
  | (.bool r31) => K r31 h
  | _ => False
theorem tree_deepen.ret_elim {K : Bool → Heap → Prop} {K' : Value → Heap → Prop} {v : Value} {h : Heap} (hk : ∀ r31 h, K r31 h → K' (.bool r31) h) (hh : tree_deepen.ret K v h) : K' v h := by
  unfold tree_deepen.ret at hh
  split at hh
  · exact hk _ _ hh
  · exact hh.elim
def tree_deepen.r0 (K : Nat → List Value → Heap → Prop) (m : Nat) (vs : List Value) (h : Heap) : Prop := match vs with
  | [(.slice c1_1001 c1_1002 c1_1003), (.int .i64 v2_1004), (.pointer (some c3_1005)), (.slice v7_1006 v7_1006l v7_1006c)] => tree_deepen.l0 (fun z32 h' => K 0 [(.bool z32)] h') m c1_1001 c1_1002 c1_1003 v2_1004 c3_1005 v7_1006 v7_1006l v7_1006c h
  | _ => False
def tree_deepen.r1 (K : Nat → List Value → Heap → Prop) (m : Nat) (vs : List Value) (h : Heap) : Prop := match vs with
  | [(.slice c1_2001 c1_2002 c1_2003), (.slice c7_2004 c7_2005 c7_2006), (.int .i64 v8_2007), (.int .i64 v9_2008)] => tree_deepen.l1 (fun h' => K 2 [] h') m c1_2001 c1_2002 c1_2003 c7_2004 c7_2005 c7_2006 v8_2007 v9_2008 h
  | _ => False
def tree_deepen.r2 (K : Nat → List Value → Heap → Prop) (m : Nat) (vs : List Value) (h : Heap) : Prop := match vs with
  | [(.slice c1_3001 c1_3002 c1_3003), (.slice none 0 0), (.int .i64 v8_3004), (.int .i64 v9_3005)] => tree_deepen.l2 (fun h' => K 2 [] h') m c1_3001 c1_3002 c1_3003 v8_3004 v9_3005 h
  | _ => False
def tree_deepen.loop (i : Nat) (vs : List Value) (h : Heap) (K : Nat → List Value → Heap → Prop) : Prop := match i with
  | 0 => ∃ m, tree_deepen.r0 K m vs h
  | 1 => ∃ m, tree_deepen.r1 K m vs h
  | 2 => ∃ m, tree_deepen.r2 K m vs h
  | _ => False
noncomputable def tree_deepen.ctx : Ctx := { P := Try.prog, call := fun _ _ _ _ => False, qcall := fun _ _ _ _ => False, quiet := fun f => Nat.beq f 1000069 || Nat.beq f 1000099, loop := tree_deepen.loop }
theorem tree_deepen.ok [DKc] : tree_deepen.ctx.OK where
  mixed := by kernel_rfl
  mono := fun hh _ => hh.elim
  call := fun hh => hh.elim
  qmono := fun hh _ => hh.elim
  qval := fun hh => hh.elim
  qcall := fun hh => hh.elim
noncomputable def tree_deepen.code : Code := (Try.f69.body).getD .skip
def tree_deepen.ann : Ann := (.two .auto (.jump 0 0 [1, 2, 3, 7] [(0, [6])] (.two .auto (.two .auto (.two .auto (.two .auto (.two .auto (.two (.two .auto (.two (.loop 2 [1, 7, 8, 9] [(2, [])] .auto) .auto)) .auto)))))) (.two .auto (.two .auto (.two .auto (.two .auto (.two (.two .auto (.two (.loop 1 [1, 7, 8, 9] [(2, [])] .auto) .auto)) .auto)))))))
noncomputable def tree_deepen.c2 : Code := sub tree_deepen.code [1, 0, 1, 1, 1, 1, 1, 0, 1, 0, 0]
def tree_deepen.a2 : Ann := .auto
def tree_deepen.keep2 : List Nat := [1, 7, 8, 9]
def tree_deepen.outs2 : List (Nat × List Nat) := [(2, [])]
noncomputable def tree_deepen.c1 : Code := sub tree_deepen.code [1, 1, 1, 1, 1, 1, 0, 1, 0, 0]
def tree_deepen.a1 : Ann := .auto
def tree_deepen.keep1 : List Nat := [1, 7, 8, 9]
def tree_deepen.outs1 : List (Nat × List Nat) := [(2, [])]
noncomputable def tree_deepen.c0 : Code := sub tree_deepen.code [1, 1]
def tree_deepen.a0 : Ann := (.two .auto (.two .auto (.two .auto (.two .auto (.two (.two .auto (.two (.loop 1 [1, 7, 8, 9] [(2, [])] .auto) .auto)) .auto)))))
def tree_deepen.keep0 : List Nat := [1, 2, 3, 7]
def tree_deepen.outs0 : List (Nat × List Nat) := [(0, [6])]
set_option maxRecDepth 100000 in
theorem tree_deepen.L1 [DKc] : LoopOK tree_deepen.ctx 57 tree_deepen.c1 1 tree_deepen.keep1 tree_deepen.outs1 := by
  refine loop_ok (n := tree_deepen.a1) tree_deepen.ok (by kernel_rfl) (loops_ok (l := []) (by kernel_rfl) ?_) tree_deepen.r1 ?_ ?_ (fun vs h K hh => hh)
  · exact trivial
  · intro K vs h hh
    unfold tree_deepen.r1 at hh
    split at hh
    · exact hh
    · exact hh
  · intro K m vs h hh
    unfold tree_deepen.r1 at hh
    split at hh
    · exact cast (by kernel_rfl) hh
    · exact hh.elim
set_option maxRecDepth 100000 in
theorem tree_deepen.L0 [DKc] : JumpOK tree_deepen.ctx 57 tree_deepen.c0 0 0 tree_deepen.keep0 tree_deepen.outs0 := by
  refine jump_ok (n := tree_deepen.a0) tree_deepen.ok (by kernel_rfl) (loops_ok (l := [(tree_deepen.c1, none, 1, tree_deepen.keep1, tree_deepen.outs1)]) (by kernel_rfl) ?_) tree_deepen.r0 ?_ ?_ (fun vs h K hh => hh)
  · exact ⟨tree_deepen.L1, trivial⟩
  · intro K vs h hh
    unfold tree_deepen.r0 at hh
    split at hh
    · exact hh
    · exact hh
  · intro K m vs h hh
    unfold tree_deepen.r0 at hh
    split at hh
    · exact cast (by kernel_rfl) hh
    · exact hh.elim
set_option maxRecDepth 100000 in
theorem tree_deepen.L2 [DKc] : LoopOK tree_deepen.ctx 57 tree_deepen.c2 2 tree_deepen.keep2 tree_deepen.outs2 := by
  refine loop_ok (n := tree_deepen.a2) tree_deepen.ok (by kernel_rfl) (loops_ok (l := []) (by kernel_rfl) ?_) tree_deepen.r2 ?_ ?_ (fun vs h K hh => hh)
  · exact trivial
  · intro K vs h hh
    unfold tree_deepen.r2 at hh
    split at hh
    · exact hh
    · exact hh
  · intro K m vs h hh
    unfold tree_deepen.r2 at hh
    split at hh
    · exact cast (by kernel_rfl) hh
    · exact hh.elim
set_option maxRecDepth 100000 in
theorem tree_deepen.eq (a1 : Option Addr) (a1l : Nat) (a1c : Nat) (a2 : Option Addr) (a2l : Nat) (a2c : Nat) (a3 : Option Addr) (a3l : Nat) (a3c : Nat) (a4 : Int) (h : Heap) (K : Bool → Heap → Prop) : evF tree_deepen.ctx Try.f69 tree_deepen.ann [(.agg #[(.slice a1 a1l a1c), (.slice a2 a2l a2c)]), (.slice a3 a3l a3c), (.int .i64 a4)] h (tree_deepen.ret K) = tree_deepen a1 a1l a1c a2 a2l a2c a3 a3l a3c a4 h K := by kernel_rfl
set_option maxRecDepth 100000 in
theorem tree_deepen.calls [DKc] {a1 : Option Addr} {a1l : Nat} {a1c : Nat} {a2 : Option Addr} {a2l : Nat} {a2c : Nat} {a3 : Option Addr} {a3l : Nat} {a3c : Nat} {a4 : Int} {h : Heap} {K : Bool → Heap → Prop} (hh : tree_deepen a1 a1l a1c a2 a2l a2c a3 a3l a3c a4 h K) (w : World) (hw : w.heap = h) :
    (callFunc 69 #[(.agg #[(.slice a1 a1l a1c), (.slice a2 a2l a2c)]), (.slice a3 a3l a3c), (.int .i64 a4)]).run Try.prog w = .ok (.enter 69 #[(.agg #[(.slice a1 a1l a1c), (.slice a2 a2l a2c)]), (.slice a3 a3l a3c), (.int .i64 a4)]) w ∧ Calls Try.prog 69 #[(.agg #[(.slice a1 a1l a1c), (.slice a2 a2l a2c)]), (.slice a3 a3l a3c), (.int .i64 a4)] w fun e w' => ∃ v, e = .returned v ∧ Out w w' ∧ tree_deepen.ret K v w'.heap := by
  rw [← tree_deepen.eq] at hh
  exact fn_calls (args := [(.agg #[(.slice a1 a1l a1c), (.slice a2 a2l a2c)]), (.slice a3 a3l a3c), (.int .i64 a4)]) (c := tree_deepen.code) tree_deepen.ok Try.func69 (by kernel_rfl) (by kernel_rfl) (by kernel_rfl) (by kernel_rfl) (loops_ok (l := [(tree_deepen.c2, none, 2, tree_deepen.keep2, tree_deepen.outs2), (tree_deepen.c0, some 0, 0, tree_deepen.keep0, tree_deepen.outs0)]) (by kernel_rfl) ⟨tree_deepen.L2, tree_deepen.L0, trivial⟩) hh w hw

/-! ### strait/tree.depths: function 47 -/
def tree_depths.b1 (K0 : (Option Addr) → Nat → Nat → Bool → Heap → Prop) (K5 : Heap → Prop) (cont : Addr → Addr → Nat → Nat → Int → Int → Heap → Prop) (c1_2001 : Addr) (c5_2002 : Addr) (c5_2003 : Nat) (c5_2004 : Nat) (c66_2005 : Int) (v67_2006 : Int) (h2007 : Heap) : Prop :=
  (iteB (decide (v67_2006 < c66_2005)) (((∃ (x2008 : Option Addr) (x2008l : Nat) (x2008c : Nat), cell h2007 c1_2001 = some (.slice x2008 x2008l x2008c) ∧ ∃ (x2009 : Option Addr) (x2009l : Nat) (x2009c : Nat), cell h2007 (c1_2001.add 1) = some (.slice x2009 x2009l x2009c) ∧ callP1 (tree_deepen x2008 x2008l x2008c x2009 x2009l x2009c (some c5_2002) c5_2003 c5_2004 v67_2006 h2007) fun x2010 h2011 => (iteB (!x2010) (K0 none 0 0 false h2011) (((cont c1_2001 c5_2002 c5_2003 c5_2004 c66_2005 (IntKind.i64.wrap (v67_2006 + 1)) h2011))))))) (K5 h2007))
def tree_depths.l1 (K0 : (Option Addr) → Nat → Nat → Bool → Heap → Prop) (K5 : Heap → Prop) : Nat → Addr → Addr → Nat → Nat → Int → Int → Heap → Prop
  | 0, _, _, _, _, _, _, _ => False
  | m + 1, c1_2001, c5_2002, c5_2003, c5_2004, c66_2005, v67_2006, h => tree_depths.b1 K0 K5 (tree_depths.l1 K0 K5 m) c1_2001 c5_2002 c5_2003 c5_2004 c66_2005 v67_2006 h
def tree_depths.b0 (K0 : (Option Addr) → Nat → Nat → Bool → Heap → Prop) (K2 : Int → Heap → Prop) (cont : Addr → Int → Addr → Nat → Nat → Int → (Option Addr) → Nat → Nat → Int → Int → Heap → Prop) (c1_1001 : Addr) (c4_1002 : Int) (c5_1003 : Addr) (c5_1004 : Nat) (c5_1005 : Nat) (v6_1006 : Int) (c25_1007 : Option Addr) (c25_1008 : Nat) (c25_1009 : Nat) (c26_1010 : Int) (v27_1011 : Int) (h1012 : Heap) : Prop :=
  (iteB (decide (v27_1011 < c26_1010)) ((chkP c25_1007 fun a1013 => (0 ≤ v27_1011 ∧ v27_1011 < (c25_1008 : Int)) ∧ ∃ (x1014 : Int), cell h1012 (a1013.add (v27_1011.toNat * 1)) = some (.int .i64 x1014) ∧ ((0 ≤ v27_1011 ∧ v27_1011 < (c5_1004 : Int)) ∧ stC h1012 (c5_1003.add (v27_1011.toNat * 1)) (.int .i64 (-1)) fun h1015 => (let j1024 := (fun (y1019 : Bool) => iteB y1019 (K0 none 0 0 false h1015) ((iteB (x1014 == ((-1) : Int)) (((0 ≤ v27_1011 ∧ v27_1011 < (c5_1004 : Int)) ∧ stC h1015 (c5_1003.add (v27_1011.toNat * 1)) (.int .i64 0) fun h1020 => (∃ (x1021 : Option Addr) (x1021l : Nat) (x1021c : Nat), cell h1020 (c1_1001.add 1) = some (.slice x1021 x1021l x1021c) ∧ chkP x1021 fun a1022 => (0 ≤ v27_1011 ∧ v27_1011 < (x1021l : Int)) ∧ ∃ (x1023 : Int), cell h1020 (a1022.add (v27_1011.toNat * 1)) = some (.int .i64 x1023) ∧ (iteB (x1023 != (0 : Int)) (K0 none 0 0 false h1020) ((((cont c1_1001 c4_1002 c5_1003 c5_1004 c5_1005 (IntKind.i64.wrap (v6_1006 + 1)) c25_1007 c25_1008 c25_1009 c26_1010 (IntKind.i64.wrap (v27_1011 + 1)) h1020)))))))) ((((cont c1_1001 c4_1002 c5_1003 c5_1004 c5_1005 v6_1006 c25_1007 c25_1008 c25_1009 c26_1010 (IntKind.i64.wrap (v27_1011 + 1)) h1015)))))));
  (iteB (decide (x1014 < ((-1) : Int))) ((j1024 (decide (x1014 < ((-1) : Int))))) ((iteB (decide (x1014 ≥ c4_1002)) ((j1024 (decide (x1014 ≥ c4_1002)))) (∃ (x1016 : Option Addr) (x1016l : Nat) (x1016c : Nat), cell h1015 (c1_1001.add 1) = some (.slice x1016 x1016l x1016c) ∧ chkP x1016 fun a1017 => (0 ≤ v27_1011 ∧ v27_1011 < (x1016l : Int)) ∧ ∃ (x1018 : Int), cell h1015 (a1017.add (v27_1011.toNat * 1)) = some (.int .i64 x1018) ∧ (j1024 (decide (x1018 < (0 : Int)))))))))))) (K2 v6_1006 h1012))
def tree_depths.l0 (K0 : (Option Addr) → Nat → Nat → Bool → Heap → Prop) (K2 : Int → Heap → Prop) : Nat → Addr → Int → Addr → Nat → Nat → Int → (Option Addr) → Nat → Nat → Int → Int → Heap → Prop
  | 0, _, _, _, _, _, _, _, _, _, _, _, _ => False
  | m + 1, c1_1001, c4_1002, c5_1003, c5_1004, c5_1005, v6_1006, c25_1007, c25_1008, c25_1009, c26_1010, v27_1011, h => tree_depths.b0 K0 K2 (tree_depths.l0 K0 K2 m) c1_1001 c4_1002 c5_1003 c5_1004 c5_1005 v6_1006 c25_1007 c25_1008 c25_1009 c26_1010 v27_1011 h
def tree_depths (a1 : Option Addr) (a1l : Nat) (a1c : Nat) (a2 : Option Addr) (a2l : Nat) (a2c : Nat) (h : Heap) (K : (Option Addr) → Nat → Nat → Bool → Heap → Prop) : Prop :=
  newP h (.cells #[(.slice a1 a1l a1c), (.slice a2 a2l a2c)] 25) fun a3 h4 => (∃ (x5 : Option Addr) (x5l : Nat) (x5c : Nat), cell h4 a3 = some (.slice x5 x5l x5c) ∧ (let j22 : Prop := ((0 ≤ (x5l : Int) ∧ (x5l : Int) ≤ (x5l : Int) ∧ (x5l : Int) * (8 : Nat) ≤ 2 ^ 47 ∧ (x5l : Int) ≤ 2 ^ 47) ∧ newP h4 (.cells (zeroRow [(.int .i64 0)] (x5l : Int).toNat).toArray 3) fun a8 h9 => ((∃ (x10 : Option Addr) (x10l : Nat) (x10c : Nat), cell h9 a3 = some (.slice x10 x10l x10c) ∧ (∃ m16, tree_depths.l0 (fun z11 z11l z11c z12 h13 => K z11 z11l z11c z12 h13) (fun z14 h15 => (((iteB (z14 != (if 1 < (x5l : Int) then 1 else (x5l : Int))) (K none 0 0 false h15) (((∃ m21, tree_depths.l1 (fun z17 z17l z17c z18 h19 => K z17 z17l z17c z18 h19) (fun h20 => (((K (some a8) ((x5l : Int).toNat) ((x5l : Int).toNat) true h20)))) m21 a3 a8 ((x5l : Int).toNat) ((x5l : Int).toNat) (x5l : Int) 0 h15))))))) m16 a3 (x5l : Int) a8 ((x5l : Int).toNat) ((x5l : Int).toNat) 0 x10 x10l x10c (x10l : Int) 0 h9))));
  ∃ (x6 : Option Addr) (x6l : Nat) (x6c : Nat), cell h4 (a3.add 1) = some (.slice x6 x6l x6c) ∧ iteB ((x6l : Int) != (x5l : Int)) (K none 0 0 false h4) ((iteB (decide ((x5l : Int) > (4096 : Int))) (K none 0 0 false h4) ((j22))))))
def tree_depths.ret (K : (Option Addr) → Nat → Nat → Bool → Heap → Prop) (v : Value) (h : Heap) : Prop := match v with
  | (.tuple ⟨[(.slice r23 r23l r23c), (.bool r24)]⟩) => K r23 r23l r23c r24 h
  | _ => False
theorem tree_depths.ret_elim {K : (Option Addr) → Nat → Nat → Bool → Heap → Prop} {K' : Value → Heap → Prop} {v : Value} {h : Heap} (hk : ∀ r23 r23l r23c r24 h, K r23 r23l r23c r24 h → K' (.tuple #[(.slice r23 r23l r23c), (.bool r24)]) h) (hh : tree_depths.ret K v h) : K' v h := by
  unfold tree_depths.ret at hh
  split at hh
  · exact hk _ _ _ _ _ hh
  · exact hh.elim
def tree_depths.call (f : FuncId) (vs : List Value) (h : Heap) (K : Value → Heap → Prop) : Prop := match f, vs with
  | 69, [(.agg ⟨[(.slice a1 a1l a1c), (.slice a2 a2l a2c)]⟩), (.slice a3 a3l a3c), (.int .i64 a4)] => callP1 (tree_deepen a1 a1l a1c a2 a2l a2c a3 a3l a3c a4 h) fun r31 h' => K (.bool r31) h'
  | _, _ => False
def tree_depths.r0 (K : Nat → List Value → Heap → Prop) (m : Nat) (vs : List Value) (h : Heap) : Prop := match vs with
  | [(.pointer (some c1_1001)), (.int .i64 c4_1002), (.slice (some c5_1003) c5_1004 c5_1005), (.int .i64 v6_1006), (.slice c25_1007 c25_1008 c25_1009), (.int .i64 c26_1010), (.int .i64 v27_1011)] => tree_depths.l0 (fun z25 z25l z25c z26 h' => K 0 [(.slice z25 z25l z25c), (.bool z26)] h') (fun z27 h' => K 2 [(.pointer (some c1_1001)), (.int .i64 c4_1002), (.slice (some c5_1003) c5_1004 c5_1005), (.int .i64 z27)] h') m c1_1001 c4_1002 c5_1003 c5_1004 c5_1005 v6_1006 c25_1007 c25_1008 c25_1009 c26_1010 v27_1011 h
  | _ => False
def tree_depths.r1 (K : Nat → List Value → Heap → Prop) (m : Nat) (vs : List Value) (h : Heap) : Prop := match vs with
  | [(.pointer (some c1_2001)), (.slice (some c5_2002) c5_2003 c5_2004), (.int .i64 c66_2005), (.int .i64 v67_2006)] => tree_depths.l1 (fun z28 z28l z28c z29 h' => K 0 [(.slice z28 z28l z28c), (.bool z29)] h') (fun h' => K 5 [(.slice (some c5_2002) c5_2003 c5_2004)] h') m c1_2001 c5_2002 c5_2003 c5_2004 c66_2005 v67_2006 h
  | _ => False
def tree_depths.loop (i : Nat) (vs : List Value) (h : Heap) (K : Nat → List Value → Heap → Prop) : Prop := match i with
  | 0 => ∃ m, tree_depths.r0 K m vs h
  | 1 => ∃ m, tree_depths.r1 K m vs h
  | _ => False
noncomputable def tree_depths.ctx : Ctx := { P := Try.prog, call := tree_depths.call, qcall := fun _ _ _ _ => False, quiet := fun f => Nat.beq f 1000069 || Nat.beq f 1000099, loop := tree_depths.loop }
theorem tree_depths.ok [DKc] : tree_depths.ctx.OK where
  mixed := by kernel_rfl
  mono := by
    intro f args h K K' hh hk
    change tree_depths.call f args h K at hh
    change tree_depths.call f args h K'
    unfold tree_depths.call at hh ⊢
    split at hh
    · obtain ⟨R, h1, h2⟩ := hh
      exact ⟨R, h1, fun _ x hr => hk _ _ (h2 _ x hr)⟩
    · exact hh.elim
  call := by
    intro f args h K hh w hw
    change tree_depths.call f args h K at hh
    unfold tree_depths.call at hh
    split at hh
    · obtain ⟨R, h1, h2⟩ := hh
      obtain ⟨g1, g2⟩ := tree_deepen.calls h1 w hw
      exact ⟨g1, g2.mono fun e w' ⟨v, he, ho, hr⟩ => ⟨v, he, ho, tree_deepen.ret_elim h2 hr⟩⟩
    · exact hh.elim
  qmono := fun hh _ => hh.elim
  qval := fun hh => hh.elim
  qcall := fun hh => hh.elim
noncomputable def tree_depths.code : Code := (Try.f47.body).getD .skip
def tree_depths.ann : Ann := (.two .auto (.two .auto (.two .auto (.two .auto (.two .auto (.two (.two .auto (.two (.loop 0 [1, 4, 5, 6, 25, 26, 27] [(2, [1, 4, 5, 6]), (0, [2, 3])] .auto) .auto)) (.two .auto (.two (.two .auto (.two (.loop 1 [1, 5, 66, 67] [(5, [5]), (0, [2, 3])] .auto) .auto)) .auto))))))))
noncomputable def tree_depths.c1 : Code := sub tree_depths.code [1, 1, 1, 1, 1, 1, 1, 0, 1, 0, 0]
def tree_depths.a1 : Ann := .auto
def tree_depths.keep1 : List Nat := [1, 5, 66, 67]
def tree_depths.outs1 : List (Nat × List Nat) := [(5, [5]), (0, [2, 3])]
noncomputable def tree_depths.c0 : Code := sub tree_depths.code [1, 1, 1, 1, 1, 0, 1, 0, 0]
def tree_depths.a0 : Ann := .auto
def tree_depths.keep0 : List Nat := [1, 4, 5, 6, 25, 26, 27]
def tree_depths.outs0 : List (Nat × List Nat) := [(2, [1, 4, 5, 6]), (0, [2, 3])]
set_option maxRecDepth 100000 in
theorem tree_depths.L0 [DKc] : LoopOK tree_depths.ctx 77 tree_depths.c0 0 tree_depths.keep0 tree_depths.outs0 := by
  refine loop_ok (n := tree_depths.a0) tree_depths.ok (by kernel_rfl) (loops_ok (l := []) (by kernel_rfl) ?_) tree_depths.r0 ?_ ?_ (fun vs h K hh => hh)
  · exact trivial
  · intro K vs h hh
    unfold tree_depths.r0 at hh
    split at hh
    · exact hh
    · exact hh
  · intro K m vs h hh
    unfold tree_depths.r0 at hh
    split at hh
    · exact cast (by kernel_rfl) hh
    · exact hh.elim
set_option maxRecDepth 100000 in
theorem tree_depths.L1 [DKc] : LoopOK tree_depths.ctx 77 tree_depths.c1 1 tree_depths.keep1 tree_depths.outs1 := by
  refine loop_ok (n := tree_depths.a1) tree_depths.ok (by kernel_rfl) (loops_ok (l := []) (by kernel_rfl) ?_) tree_depths.r1 ?_ ?_ (fun vs h K hh => hh)
  · exact trivial
  · intro K vs h hh
    unfold tree_depths.r1 at hh
    split at hh
    · exact hh
    · exact hh
  · intro K m vs h hh
    unfold tree_depths.r1 at hh
    split at hh
    · exact cast (by kernel_rfl) hh
    · exact hh.elim
set_option maxRecDepth 100000 in
theorem tree_depths.eq (a1 : Option Addr) (a1l : Nat) (a1c : Nat) (a2 : Option Addr) (a2l : Nat) (a2c : Nat) (h : Heap) (K : (Option Addr) → Nat → Nat → Bool → Heap → Prop) : evF tree_depths.ctx Try.f47 tree_depths.ann [(.agg #[(.slice a1 a1l a1c), (.slice a2 a2l a2c)])] h (tree_depths.ret K) = tree_depths a1 a1l a1c a2 a2l a2c h K := by kernel_rfl
set_option maxRecDepth 100000 in
theorem tree_depths.calls [DKc] {a1 : Option Addr} {a1l : Nat} {a1c : Nat} {a2 : Option Addr} {a2l : Nat} {a2c : Nat} {h : Heap} {K : (Option Addr) → Nat → Nat → Bool → Heap → Prop} (hh : tree_depths a1 a1l a1c a2 a2l a2c h K) (w : World) (hw : w.heap = h) :
    (callFunc 47 #[(.agg #[(.slice a1 a1l a1c), (.slice a2 a2l a2c)])]).run Try.prog w = .ok (.enter 47 #[(.agg #[(.slice a1 a1l a1c), (.slice a2 a2l a2c)])]) w ∧ Calls Try.prog 47 #[(.agg #[(.slice a1 a1l a1c), (.slice a2 a2l a2c)])] w fun e w' => ∃ v, e = .returned v ∧ Out w w' ∧ tree_depths.ret K v w'.heap := by
  rw [← tree_depths.eq] at hh
  exact fn_calls (args := [(.agg #[(.slice a1 a1l a1c), (.slice a2 a2l a2c)])]) (c := tree_depths.code) tree_depths.ok Try.func47 (by kernel_rfl) (by kernel_rfl) (by kernel_rfl) (by kernel_rfl) (loops_ok (l := [(tree_depths.c0, none, 0, tree_depths.keep0, tree_depths.outs0), (tree_depths.c1, none, 1, tree_depths.keep1, tree_depths.outs1)]) (by kernel_rfl) ⟨tree_depths.L0, tree_depths.L1, trivial⟩) hh w hw

/-! ### strait/tree.Check: function 14 -/
def tree_Check (a1 : Option Addr) (a1l : Nat) (a1c : Nat) (a2 : Option Addr) (a2l : Nat) (a2c : Nat) (h : Heap) (K : Int → Heap → Prop) : Prop :=
  newP h (.cells #[(.slice a1 a1l a1c), (.slice a2 a2l a2c)] 25) fun a3 h4 => (∃ (x5 : Option Addr) (x5l : Nat) (x5c : Nat), cell h4 a3 = some (.slice x5 x5l x5c) ∧ ∃ (x6 : Option Addr) (x6l : Nat) (x6c : Nat), cell h4 (a3.add 1) = some (.slice x6 x6l x6c) ∧ callP4 (tree_depths x5 x5l x5c x6 x6l x6c h4) fun x7 x7l x7c x8 h9 => ((iteB (!x8) (K 15 h9) (K 0 h9))))
def tree_Check.ret (K : Int → Heap → Prop) (v : Value) (h : Heap) : Prop := match v with
  | (.int .i64 r10) => K r10 h
  | _ => False
theorem tree_Check.ret_elim {K : Int → Heap → Prop} {K' : Value → Heap → Prop} {v : Value} {h : Heap} (hk : ∀ r10 h, K r10 h → K' (.int .i64 r10) h) (hh : tree_Check.ret K v h) : K' v h := by
  unfold tree_Check.ret at hh
  split at hh
  · exact hk _ _ hh
  · exact hh.elim
def tree_Check.call (f : FuncId) (vs : List Value) (h : Heap) (K : Value → Heap → Prop) : Prop := match f, vs with
  | 47, [(.agg ⟨[(.slice a1 a1l a1c), (.slice a2 a2l a2c)]⟩)] => callP4 (tree_depths a1 a1l a1c a2 a2l a2c h) fun r23 r23l r23c r24 h' => K (.tuple #[(.slice r23 r23l r23c), (.bool r24)]) h'
  | _, _ => False
noncomputable def tree_Check.ctx : Ctx := { P := Try.prog, call := tree_Check.call, qcall := fun _ _ _ _ => False, quiet := fun f => Nat.beq f 1000069 || Nat.beq f 1000099, loop := fun _ _ _ _ => False }
theorem tree_Check.ok [DKc] : tree_Check.ctx.OK where
  mixed := by kernel_rfl
  mono := by
    intro f args h K K' hh hk
    change tree_Check.call f args h K at hh
    change tree_Check.call f args h K'
    unfold tree_Check.call at hh ⊢
    split at hh
    · obtain ⟨R, h1, h2⟩ := hh
      exact ⟨R, h1, fun _ _ _ _ x hr => hk _ _ (h2 _ _ _ _ x hr)⟩
    · exact hh.elim
  call := by
    intro f args h K hh w hw
    change tree_Check.call f args h K at hh
    unfold tree_Check.call at hh
    split at hh
    · obtain ⟨R, h1, h2⟩ := hh
      obtain ⟨g1, g2⟩ := tree_depths.calls h1 w hw
      exact ⟨g1, g2.mono fun e w' ⟨v, he, ho, hr⟩ => ⟨v, he, ho, tree_depths.ret_elim h2 hr⟩⟩
    · exact hh.elim
  qmono := fun hh _ => hh.elim
  qval := fun hh => hh.elim
  qcall := fun hh => hh.elim
noncomputable def tree_Check.code : Code := (Try.f14.body).getD .skip
def tree_Check.ann : Ann := .auto
set_option maxRecDepth 100000 in
theorem tree_Check.eq (a1 : Option Addr) (a1l : Nat) (a1c : Nat) (a2 : Option Addr) (a2l : Nat) (a2c : Nat) (h : Heap) (K : Int → Heap → Prop) : evF tree_Check.ctx Try.f14 tree_Check.ann [(.agg #[(.slice a1 a1l a1c), (.slice a2 a2l a2c)])] h (tree_Check.ret K) = tree_Check a1 a1l a1c a2 a2l a2c h K := by kernel_rfl
set_option maxRecDepth 100000 in
theorem tree_Check.calls [DKc] {a1 : Option Addr} {a1l : Nat} {a1c : Nat} {a2 : Option Addr} {a2l : Nat} {a2c : Nat} {h : Heap} {K : Int → Heap → Prop} (hh : tree_Check a1 a1l a1c a2 a2l a2c h K) (w : World) (hw : w.heap = h) :
    (callFunc 14 #[(.agg #[(.slice a1 a1l a1c), (.slice a2 a2l a2c)])]).run Try.prog w = .ok (.enter 14 #[(.agg #[(.slice a1 a1l a1c), (.slice a2 a2l a2c)])]) w ∧ Calls Try.prog 14 #[(.agg #[(.slice a1 a1l a1c), (.slice a2 a2l a2c)])] w fun e w' => ∃ v, e = .returned v ∧ Out w w' ∧ tree_Check.ret K v w'.heap := by
  rw [← tree_Check.eq] at hh
  exact fn_calls (args := [(.agg #[(.slice a1 a1l a1c), (.slice a2 a2l a2c)])]) (c := tree_Check.code) tree_Check.ok Try.func14 (by kernel_rfl) (by kernel_rfl) (by kernel_rfl) (by kernel_rfl) (loops_ok (l := []) (by kernel_rfl) trivial) hh w hw

/-! ### strait/tree.Depths: function 19 -/
def tree_Depths (a1 : Option Addr) (a1l : Nat) (a1c : Nat) (a2 : Option Addr) (a2l : Nat) (a2c : Nat) (h : Heap) (K : (Option Addr) → Nat → Nat → Heap → Prop) : Prop :=
  newP h (.cells #[(.slice a1 a1l a1c), (.slice a2 a2l a2c)] 25) fun a3 h4 => (∃ (x5 : Option Addr) (x5l : Nat) (x5c : Nat), cell h4 a3 = some (.slice x5 x5l x5c) ∧ ∃ (x6 : Option Addr) (x6l : Nat) (x6c : Nat), cell h4 (a3.add 1) = some (.slice x6 x6l x6c) ∧ callP4 (tree_depths x5 x5l x5c x6 x6l x6c h4) fun x7 x7l x7c x8 h9 => K x7 x7l x7c h9)
def tree_Depths.ret (K : (Option Addr) → Nat → Nat → Heap → Prop) (v : Value) (h : Heap) : Prop := match v with
  | (.slice r10 r10l r10c) => K r10 r10l r10c h
  | _ => False
theorem tree_Depths.ret_elim {K : (Option Addr) → Nat → Nat → Heap → Prop} {K' : Value → Heap → Prop} {v : Value} {h : Heap} (hk : ∀ r10 r10l r10c h, K r10 r10l r10c h → K' (.slice r10 r10l r10c) h) (hh : tree_Depths.ret K v h) : K' v h := by
  unfold tree_Depths.ret at hh
  split at hh
  · exact hk _ _ _ _ hh
  · exact hh.elim
def tree_Depths.call (f : FuncId) (vs : List Value) (h : Heap) (K : Value → Heap → Prop) : Prop := match f, vs with
  | 47, [(.agg ⟨[(.slice a1 a1l a1c), (.slice a2 a2l a2c)]⟩)] => callP4 (tree_depths a1 a1l a1c a2 a2l a2c h) fun r23 r23l r23c r24 h' => K (.tuple #[(.slice r23 r23l r23c), (.bool r24)]) h'
  | _, _ => False
noncomputable def tree_Depths.ctx : Ctx := { P := Try.prog, call := tree_Depths.call, qcall := fun _ _ _ _ => False, quiet := fun f => Nat.beq f 1000069 || Nat.beq f 1000099, loop := fun _ _ _ _ => False }
theorem tree_Depths.ok [DKc] : tree_Depths.ctx.OK where
  mixed := by kernel_rfl
  mono := by
    intro f args h K K' hh hk
    change tree_Depths.call f args h K at hh
    change tree_Depths.call f args h K'
    unfold tree_Depths.call at hh ⊢
    split at hh
    · obtain ⟨R, h1, h2⟩ := hh
      exact ⟨R, h1, fun _ _ _ _ x hr => hk _ _ (h2 _ _ _ _ x hr)⟩
    · exact hh.elim
  call := by
    intro f args h K hh w hw
    change tree_Depths.call f args h K at hh
    unfold tree_Depths.call at hh
    split at hh
    · obtain ⟨R, h1, h2⟩ := hh
      obtain ⟨g1, g2⟩ := tree_depths.calls h1 w hw
      exact ⟨g1, g2.mono fun e w' ⟨v, he, ho, hr⟩ => ⟨v, he, ho, tree_depths.ret_elim h2 hr⟩⟩
    · exact hh.elim
  qmono := fun hh _ => hh.elim
  qval := fun hh => hh.elim
  qcall := fun hh => hh.elim
noncomputable def tree_Depths.code : Code := (Try.f19.body).getD .skip
def tree_Depths.ann : Ann := .auto
set_option maxRecDepth 100000 in
theorem tree_Depths.eq (a1 : Option Addr) (a1l : Nat) (a1c : Nat) (a2 : Option Addr) (a2l : Nat) (a2c : Nat) (h : Heap) (K : (Option Addr) → Nat → Nat → Heap → Prop) : evF tree_Depths.ctx Try.f19 tree_Depths.ann [(.agg #[(.slice a1 a1l a1c), (.slice a2 a2l a2c)])] h (tree_Depths.ret K) = tree_Depths a1 a1l a1c a2 a2l a2c h K := by kernel_rfl
set_option maxRecDepth 100000 in
theorem tree_Depths.calls [DKc] {a1 : Option Addr} {a1l : Nat} {a1c : Nat} {a2 : Option Addr} {a2l : Nat} {a2c : Nat} {h : Heap} {K : (Option Addr) → Nat → Nat → Heap → Prop} (hh : tree_Depths a1 a1l a1c a2 a2l a2c h K) (w : World) (hw : w.heap = h) :
    (callFunc 19 #[(.agg #[(.slice a1 a1l a1c), (.slice a2 a2l a2c)])]).run Try.prog w = .ok (.enter 19 #[(.agg #[(.slice a1 a1l a1c), (.slice a2 a2l a2c)])]) w ∧ Calls Try.prog 19 #[(.agg #[(.slice a1 a1l a1c), (.slice a2 a2l a2c)])] w fun e w' => ∃ v, e = .returned v ∧ Out w w' ∧ tree_Depths.ret K v w'.heap := by
  rw [← tree_Depths.eq] at hh
  exact fn_calls (args := [(.agg #[(.slice a1 a1l a1c), (.slice a2 a2l a2c)])]) (c := tree_Depths.code) tree_Depths.ok Try.func19 (by kernel_rfl) (by kernel_rfl) (by kernel_rfl) (by kernel_rfl) (loops_ok (l := []) (by kernel_rfl) trivial) hh w hw

/-! ### cmp.isNaN[int]: function 71 -/
def cmp_isNaN_int (a1 : Int) (h : Heap) (K : Bool → Heap → Prop) : Prop :=
  ((K (a1 != a1) h))
def cmp_isNaN_int.ret (K : Bool → Heap → Prop) (v : Value) (h : Heap) : Prop := match v with
  | (.bool r2) => K r2 h
  | _ => False
theorem cmp_isNaN_int.ret_elim {K : Bool → Heap → Prop} {K' : Value → Heap → Prop} {v : Value} {h : Heap} (hk : ∀ r2 h, K r2 h → K' (.bool r2) h) (hh : cmp_isNaN_int.ret K v h) : K' v h := by
  unfold cmp_isNaN_int.ret at hh
  split at hh
  · exact hk _ _ hh
  · exact hh.elim
noncomputable def cmp_isNaN_int.ctx : Ctx := { P := Try.prog, call := fun _ _ _ _ => False, qcall := fun _ _ _ _ => False, quiet := fun f => Nat.beq f 1000069 || Nat.beq f 1000099, loop := fun _ _ _ _ => False }
theorem cmp_isNaN_int.ok [DKc] : cmp_isNaN_int.ctx.OK where
  mixed := by kernel_rfl
  mono := fun hh _ => hh.elim
  call := fun hh => hh.elim
  qmono := fun hh _ => hh.elim
  qval := fun hh => hh.elim
  qcall := fun hh => hh.elim
noncomputable def cmp_isNaN_int.code : Code := (Try.f71.body).getD .skip
def cmp_isNaN_int.ann : Ann := .auto
set_option maxRecDepth 100000 in
theorem cmp_isNaN_int.eq (a1 : Int) (h : Heap) (K : Bool → Heap → Prop) : evF cmp_isNaN_int.ctx Try.f71 cmp_isNaN_int.ann [(.int .i64 a1)] h (cmp_isNaN_int.ret K) = cmp_isNaN_int a1 h K := by kernel_rfl
set_option maxRecDepth 100000 in
theorem cmp_isNaN_int.calls [DKc] {a1 : Int} {h : Heap} {K : Bool → Heap → Prop} (hh : cmp_isNaN_int a1 h K) (w : World) (hw : w.heap = h) :
    (callFunc 71 #[(.int .i64 a1)]).run Try.prog w = .ok (.enter 71 #[(.int .i64 a1)]) w ∧ Calls Try.prog 71 #[(.int .i64 a1)] w fun e w' => ∃ v, e = .returned v ∧ Out w w' ∧ cmp_isNaN_int.ret K v w'.heap := by
  rw [← cmp_isNaN_int.eq] at hh
  exact fn_calls (args := [(.int .i64 a1)]) (c := cmp_isNaN_int.code) cmp_isNaN_int.ok Try.func71 (by kernel_rfl) (by kernel_rfl) (by kernel_rfl) (by kernel_rfl) (loops_ok (l := []) (by kernel_rfl) trivial) hh w hw

/-! ### cmp.Compare[int]: function 53 -/
def cmp_Compare_int (a1 : Int) (a2 : Int) (h : Heap) (K : Int → Heap → Prop) : Prop :=
  (qcallP1 h (cmp_isNaN_int a1 h) fun x3 => (qcallP1 h (cmp_isNaN_int a2 h) fun x4 => ((iteB x3 ((iteB x4 (K 0 h) (((K (-1) h))))) (((iteB x4 (K 1 h) (((iteB (decide (a1 < a2)) ((K (-1) h)) (((iteB (decide (a1 > a2)) (K 1 h) (K 0 h))))))))))))))
def cmp_Compare_int.ret (K : Int → Heap → Prop) (v : Value) (h : Heap) : Prop := match v with
  | (.int .i64 r5) => K r5 h
  | _ => False
theorem cmp_Compare_int.ret_elim {K : Int → Heap → Prop} {K' : Value → Heap → Prop} {v : Value} {h : Heap} (hk : ∀ r5 h, K r5 h → K' (.int .i64 r5) h) (hh : cmp_Compare_int.ret K v h) : K' v h := by
  unfold cmp_Compare_int.ret at hh
  split at hh
  · exact hk _ _ hh
  · exact hh.elim
def cmp_Compare_int.qcall (f : FuncId) (vs : List Value) (h : Heap) (K : Value → Prop) : Prop := match f, vs with
  | 71, [(.int .i64 a1)] => qcallP1 h (cmp_isNaN_int a1 h) fun r2 => K (.bool r2)
  | _, _ => False
noncomputable def cmp_Compare_int.ctx : Ctx := { P := Try.prog, call := fun _ _ _ _ => False, qcall := cmp_Compare_int.qcall, quiet := fun f => Nat.beq f 71 || Nat.beq f 1000069 || Nat.beq f 1000099, loop := fun _ _ _ _ => False }
theorem cmp_Compare_int.ok [DKc] : cmp_Compare_int.ctx.OK where
  mixed := by kernel_rfl
  mono := fun hh _ => hh.elim
  call := fun hh => hh.elim
  qmono := by
    intro f args h K K' hh hk
    change cmp_Compare_int.qcall f args h K at hh
    change cmp_Compare_int.qcall f args h K'
    unfold cmp_Compare_int.qcall at hh ⊢
    split at hh
    · obtain ⟨x0, h1, h2⟩ := hh
      exact ⟨x0, h1, hk _ h2⟩
    · exact hh.elim
  qval := by
    intro f args h K hh
    change cmp_Compare_int.qcall f args h K at hh
    suffices H : ∃ v, K v ∧ cmp_Compare_int.qcall f args h (· = v) from H
    unfold cmp_Compare_int.qcall at hh ⊢
    split at hh
    · obtain ⟨x0, h1, h2⟩ := hh
      exact ⟨_, h2, x0, h1, rfl⟩
    · exact hh.elim
  qcall := by
    intro f args h v hh w hw
    change cmp_Compare_int.qcall f args h (· = v) at hh
    unfold cmp_Compare_int.qcall at hh
    split at hh
    · obtain ⟨x0, h1, h2⟩ := hh
      obtain ⟨g1, g2⟩ := cmp_isNaN_int.calls h1 w hw
      refine .inl ⟨g1, g2.mono fun e w' ⟨u, he, ho, hr⟩ => ?_⟩
      have hq := cmp_isNaN_int.ret_elim (K' := fun u h' => u = v ∧ h' = h) (fun _ h' hr => by obtain ⟨rfl, rfl⟩ := hr; exact ⟨h2, rfl⟩) hr
      exact ⟨hq.1 ▸ he, ho, hq.2⟩
    · exact hh.elim
noncomputable def cmp_Compare_int.code : Code := (Try.f53.body).getD .skip
def cmp_Compare_int.ann : Ann := .auto
set_option maxRecDepth 100000 in
theorem cmp_Compare_int.eq (a1 : Int) (a2 : Int) (h : Heap) (K : Int → Heap → Prop) : evF cmp_Compare_int.ctx Try.f53 cmp_Compare_int.ann [(.int .i64 a1), (.int .i64 a2)] h (cmp_Compare_int.ret K) = cmp_Compare_int a1 a2 h K := by kernel_rfl
set_option maxRecDepth 100000 in
theorem cmp_Compare_int.calls [DKc] {a1 : Int} {a2 : Int} {h : Heap} {K : Int → Heap → Prop} (hh : cmp_Compare_int a1 a2 h K) (w : World) (hw : w.heap = h) :
    (callFunc 53 #[(.int .i64 a1), (.int .i64 a2)]).run Try.prog w = .ok (.enter 53 #[(.int .i64 a1), (.int .i64 a2)]) w ∧ Calls Try.prog 53 #[(.int .i64 a1), (.int .i64 a2)] w fun e w' => ∃ v, e = .returned v ∧ Out w w' ∧ cmp_Compare_int.ret K v w'.heap := by
  rw [← cmp_Compare_int.eq] at hh
  exact fn_calls (args := [(.int .i64 a1), (.int .i64 a2)]) (c := cmp_Compare_int.code) cmp_Compare_int.ok Try.func53 (by kernel_rfl) (by kernel_rfl) (by kernel_rfl) (by kernel_rfl) (loops_ok (l := []) (by kernel_rfl) trivial) hh w hw

/-! ### strait/tree.Order$1: function 52 -/
def tree_Order_c1 (a1 : Int) (a2 : Int) (a3 : Addr) (h : Heap) (K : Int → Heap → Prop) : Prop :=
  (∃ (x4 : Option Addr) (x4l : Nat) (x4c : Nat), cell h a3 = some (.slice x4 x4l x4c) ∧ chkP x4 fun a5 => (0 ≤ a1 ∧ a1 < (x4l : Int)) ∧ ∃ (x6 : Int), cell h (a5.add (a1.toNat * 1)) = some (.int .i64 x6) ∧ ∃ (x7 : Option Addr) (x7l : Nat) (x7c : Nat), cell h a3 = some (.slice x7 x7l x7c) ∧ chkP x7 fun a8 => (0 ≤ a2 ∧ a2 < (x7l : Int)) ∧ ∃ (x9 : Int), cell h (a8.add (a2.toNat * 1)) = some (.int .i64 x9) ∧ qcallP1 h (cmp_Compare_int x6 x9 h) fun x10 => K x10 h)
def tree_Order_c1.ret (K : Int → Heap → Prop) (v : Value) (h : Heap) : Prop := match v with
  | (.int .i64 r11) => K r11 h
  | _ => False
theorem tree_Order_c1.ret_elim {K : Int → Heap → Prop} {K' : Value → Heap → Prop} {v : Value} {h : Heap} (hk : ∀ r11 h, K r11 h → K' (.int .i64 r11) h) (hh : tree_Order_c1.ret K v h) : K' v h := by
  unfold tree_Order_c1.ret at hh
  split at hh
  · exact hk _ _ hh
  · exact hh.elim
def tree_Order_c1.qcall (f : FuncId) (vs : List Value) (h : Heap) (K : Value → Prop) : Prop := match f, vs with
  | 53, [(.int .i64 a1), (.int .i64 a2)] => qcallP1 h (cmp_Compare_int a1 a2 h) fun r5 => K (.int .i64 r5)
  | _, _ => False
noncomputable def tree_Order_c1.ctx : Ctx := { P := Try.prog, call := fun _ _ _ _ => False, qcall := tree_Order_c1.qcall, quiet := fun f => Nat.beq f 53 || Nat.beq f 1000069 || Nat.beq f 1000099, loop := fun _ _ _ _ => False }
theorem tree_Order_c1.ok [DKc] : tree_Order_c1.ctx.OK where
  mixed := by kernel_rfl
  mono := fun hh _ => hh.elim
  call := fun hh => hh.elim
  qmono := by
    intro f args h K K' hh hk
    change tree_Order_c1.qcall f args h K at hh
    change tree_Order_c1.qcall f args h K'
    unfold tree_Order_c1.qcall at hh ⊢
    split at hh
    · obtain ⟨x0, h1, h2⟩ := hh
      exact ⟨x0, h1, hk _ h2⟩
    · exact hh.elim
  qval := by
    intro f args h K hh
    change tree_Order_c1.qcall f args h K at hh
    suffices H : ∃ v, K v ∧ tree_Order_c1.qcall f args h (· = v) from H
    unfold tree_Order_c1.qcall at hh ⊢
    split at hh
    · obtain ⟨x0, h1, h2⟩ := hh
      exact ⟨_, h2, x0, h1, rfl⟩
    · exact hh.elim
  qcall := by
    intro f args h v hh w hw
    change tree_Order_c1.qcall f args h (· = v) at hh
    unfold tree_Order_c1.qcall at hh
    split at hh
    · obtain ⟨x0, h1, h2⟩ := hh
      obtain ⟨g1, g2⟩ := cmp_Compare_int.calls h1 w hw
      refine .inl ⟨g1, g2.mono fun e w' ⟨u, he, ho, hr⟩ => ?_⟩
      have hq := cmp_Compare_int.ret_elim (K' := fun u h' => u = v ∧ h' = h) (fun _ h' hr => by obtain ⟨rfl, rfl⟩ := hr; exact ⟨h2, rfl⟩) hr
      exact ⟨hq.1 ▸ he, ho, hq.2⟩
    · exact hh.elim
noncomputable def tree_Order_c1.code : Code := (Try.f52.body).getD .skip
def tree_Order_c1.ann : Ann := (.two .auto (.two (.reg [0, 0, 3, 7, 0, 0, 48, 112, 255, 511] (.take 0 (.take 1 (.take 2 (.take 3 (.take 4 (.take 5 (.take 6 (.take 7 (.take 8 (.take 9 .done))))))))))) .auto))
set_option maxRecDepth 100000 in
theorem tree_Order_c1.eq (a1 : Int) (a2 : Int) (a3 : Addr) (h : Heap) (K : Int → Heap → Prop) : evF tree_Order_c1.ctx Try.f52 tree_Order_c1.ann [(.int .i64 a1), (.int .i64 a2), (.pointer (some a3))] h (tree_Order_c1.ret K) = tree_Order_c1 a1 a2 a3 h K := by kernel_rfl
set_option maxRecDepth 100000 in
theorem tree_Order_c1.calls [DKc] {a1 : Int} {a2 : Int} {a3 : Addr} {h : Heap} {K : Int → Heap → Prop} (hh : tree_Order_c1 a1 a2 a3 h K) (w : World) (hw : w.heap = h) :
    (callFunc 52 #[(.int .i64 a1), (.int .i64 a2), (.pointer (some a3))]).run Try.prog w = .ok (.enter 52 #[(.int .i64 a1), (.int .i64 a2), (.pointer (some a3))]) w ∧ Calls Try.prog 52 #[(.int .i64 a1), (.int .i64 a2), (.pointer (some a3))] w fun e w' => ∃ v, e = .returned v ∧ Out w w' ∧ tree_Order_c1.ret K v w'.heap := by
  rw [← tree_Order_c1.eq] at hh
  exact fn_calls (args := [(.int .i64 a1), (.int .i64 a2), (.pointer (some a3))]) (c := tree_Order_c1.code) tree_Order_c1.ok Try.func52 (by kernel_rfl) (by kernel_rfl) (by kernel_rfl) (by kernel_rfl) (loops_ok (l := []) (by kernel_rfl) trivial) hh w hw

/-! ### slices.insertionSortCmpFunc[int]: function 92 -/
def slices_insertionSortCmpFunc_int_tree_Order_c1.b1 (K4 : Heap → Prop) (cont : (Option Addr) → Nat → Nat → Int → Int → Addr → Int → Int → Heap → Prop) (c0_2001 : Option Addr) (c0_2002 : Nat) (c0_2003 : Nat) (c1_2004 : Int) (c2_2005 : Int) (c3_2006 : Addr) (c8_2007 : Int) (v9_2008 : Int) (h2009 : Heap) : Prop :=
  let j2027 := (fun (h2018 : Heap) => chkP c0_2001 fun a2019 => (0 ≤ (IntKind.i64.wrap (v9_2008 - 1)) ∧ (IntKind.i64.wrap (v9_2008 - 1)) < (c0_2002 : Int)) ∧ ∃ (x2020 : Int), cell h2018 (a2019.add ((IntKind.i64.wrap (v9_2008 - 1)).toNat * 1)) = some (.int .i64 x2020) ∧ chkP c0_2001 fun a2021 => (0 ≤ v9_2008 ∧ v9_2008 < (c0_2002 : Int)) ∧ ∃ (x2022 : Int), cell h2018 (a2021.add (v9_2008.toNat * 1)) = some (.int .i64 x2022) ∧ chkP c0_2001 fun a2023 => (0 ≤ v9_2008 ∧ v9_2008 < (c0_2002 : Int)) ∧ stC h2018 (a2023.add (v9_2008.toNat * 1)) (.int .i64 x2020) fun h2024 => chkP c0_2001 fun a2025 => (0 ≤ (IntKind.i64.wrap (v9_2008 - 1)) ∧ (IntKind.i64.wrap (v9_2008 - 1)) < (c0_2002 : Int)) ∧ stC h2024 (a2025.add ((IntKind.i64.wrap (v9_2008 - 1)).toNat * 1)) (.int .i64 x2022) fun h2026 => ((cont c0_2001 c0_2002 c0_2003 c1_2004 c2_2005 c3_2006 c8_2007 (IntKind.i64.wrap (v9_2008 - 1)) h2026)));
  iteB (decide (v9_2008 > c1_2004)) (chkP c0_2001 fun a2010 => (0 ≤ v9_2008 ∧ v9_2008 < (c0_2002 : Int)) ∧ ∃ (x2011 : Int), cell h2009 (a2010.add (v9_2008.toNat * 1)) = some (.int .i64 x2011) ∧ chkP c0_2001 fun a2012 => (0 ≤ (IntKind.i64.wrap (v9_2008 - 1)) ∧ (IntKind.i64.wrap (v9_2008 - 1)) < (c0_2002 : Int)) ∧ ∃ (x2013 : Int), cell h2009 (a2012.add ((IntKind.i64.wrap (v9_2008 - 1)).toNat * 1)) = some (.int .i64 x2013) ∧ callP1 (tree_Order_c1 x2011 x2013 c3_2006 h2009) fun x2014 h2015 => (iteB (decide (x2014 < (0 : Int))) ((j2027 h2015)) (K4 h2015))) (K4 h2009)
def slices_insertionSortCmpFunc_int_tree_Order_c1.l1 (K4 : Heap → Prop) : Nat → (Option Addr) → Nat → Nat → Int → Int → Addr → Int → Int → Heap → Prop
  | 0, _, _, _, _, _, _, _, _, _ => False
  | m + 1, c0_2001, c0_2002, c0_2003, c1_2004, c2_2005, c3_2006, c8_2007, v9_2008, h => slices_insertionSortCmpFunc_int_tree_Order_c1.b1 K4 (slices_insertionSortCmpFunc_int_tree_Order_c1.l1 K4 m) c0_2001 c0_2002 c0_2003 c1_2004 c2_2005 c3_2006 c8_2007 v9_2008 h
def slices_insertionSortCmpFunc_int_tree_Order_c1.b0 (K2 : Heap → Prop) (cont : (Option Addr) → Nat → Nat → Int → Int → Addr → Int → Heap → Prop) (c0_1001 : Option Addr) (c0_1002 : Nat) (c0_1003 : Nat) (c1_1004 : Int) (c2_1005 : Int) (c3_1006 : Addr) (v8_1007 : Int) (h1008 : Heap) : Prop :=
  (iteB (decide (v8_1007 < c2_1005)) (((∃ m1010, slices_insertionSortCmpFunc_int_tree_Order_c1.l1 (fun h1009 => (((cont c0_1001 c0_1002 c0_1003 c1_1004 c2_1005 c3_1006 (IntKind.i64.wrap (v8_1007 + 1)) h1009)))) m1010 c0_1001 c0_1002 c0_1003 c1_1004 c2_1005 c3_1006 v8_1007 v8_1007 h1008))) (K2 h1008))
def slices_insertionSortCmpFunc_int_tree_Order_c1.l0 (K2 : Heap → Prop) : Nat → (Option Addr) → Nat → Nat → Int → Int → Addr → Int → Heap → Prop
  | 0, _, _, _, _, _, _, _, _ => False
  | m + 1, c0_1001, c0_1002, c0_1003, c1_1004, c2_1005, c3_1006, v8_1007, h => slices_insertionSortCmpFunc_int_tree_Order_c1.b0 K2 (slices_insertionSortCmpFunc_int_tree_Order_c1.l0 K2 m) c0_1001 c0_1002 c0_1003 c1_1004 c2_1005 c3_1006 v8_1007 h
def slices_insertionSortCmpFunc_int_tree_Order_c1 (a1 : Option Addr) (a1l : Nat) (a1c : Nat) (a2 : Int) (a3 : Int) (a4 : Addr) (h : Heap) (K : Heap → Prop) : Prop :=
  (∃ m6, slices_insertionSortCmpFunc_int_tree_Order_c1.l0 (fun h5 => K h5) m6 a1 a1l a1c a2 a3 a4 (IntKind.i64.wrap (a2 + 1)) h)
def slices_insertionSortCmpFunc_int_tree_Order_c1.ret (K : Heap → Prop) (v : Value) (h : Heap) : Prop := match v with
  | (.tuple ⟨[]⟩) => K h
  | _ => False
theorem slices_insertionSortCmpFunc_int_tree_Order_c1.ret_elim {K : Heap → Prop} {K' : Value → Heap → Prop} {v : Value} {h : Heap} (hk : ∀  h, K h → K' (.tuple #[]) h) (hh : slices_insertionSortCmpFunc_int_tree_Order_c1.ret K v h) : K' v h := by
  unfold slices_insertionSortCmpFunc_int_tree_Order_c1.ret at hh
  split at hh
  · exact hk _ hh
  · exact hh.elim
def slices_insertionSortCmpFunc_int_tree_Order_c1.call (f : FuncId) (vs : List Value) (h : Heap) (K : Value → Heap → Prop) : Prop := match f, vs with
  | 52, [(.int .i64 a1), (.int .i64 a2), (.pointer (some a3))] => callP1 (tree_Order_c1 a1 a2 a3 h) fun r11 h' => K (.int .i64 r11) h'
  | _, _ => False
def slices_insertionSortCmpFunc_int_tree_Order_c1.r0 (K : Nat → List Value → Heap → Prop) (m : Nat) (vs : List Value) (h : Heap) : Prop := match vs with
  | [(.slice c0_1001 c0_1002 c0_1003), (.int .i64 c1_1004), (.int .i64 c2_1005), (.func (.func 52) ⟨[]⟩ ⟨[(.pointer (some c3_1006))]⟩), (.int .i64 v8_1007)] => slices_insertionSortCmpFunc_int_tree_Order_c1.l0 (fun h' => K 2 [] h') m c0_1001 c0_1002 c0_1003 c1_1004 c2_1005 c3_1006 v8_1007 h
  | _ => False
def slices_insertionSortCmpFunc_int_tree_Order_c1.r1 (K : Nat → List Value → Heap → Prop) (m : Nat) (vs : List Value) (h : Heap) : Prop := match vs with
  | [(.slice c0_2001 c0_2002 c0_2003), (.int .i64 c1_2004), (.int .i64 c2_2005), (.func (.func 52) ⟨[]⟩ ⟨[(.pointer (some c3_2006))]⟩), (.int .i64 c8_2007), (.int .i64 v9_2008)] => slices_insertionSortCmpFunc_int_tree_Order_c1.l1 (fun h' => K 4 [(.slice c0_2001 c0_2002 c0_2003), (.int .i64 c1_2004), (.int .i64 c2_2005), (.func (.func 52) #[] #[(.pointer (some c3_2006))]), (.int .i64 c8_2007)] h') m c0_2001 c0_2002 c0_2003 c1_2004 c2_2005 c3_2006 c8_2007 v9_2008 h
  | _ => False
def slices_insertionSortCmpFunc_int_tree_Order_c1.loop (i : Nat) (vs : List Value) (h : Heap) (K : Nat → List Value → Heap → Prop) : Prop := match i with
  | 0 => ∃ m, slices_insertionSortCmpFunc_int_tree_Order_c1.r0 K m vs h
  | 1 => ∃ m, slices_insertionSortCmpFunc_int_tree_Order_c1.r1 K m vs h
  | _ => False
noncomputable def slices_insertionSortCmpFunc_int_tree_Order_c1.ctx : Ctx := { P := Try.prog, call := slices_insertionSortCmpFunc_int_tree_Order_c1.call, qcall := fun _ _ _ _ => False, quiet := fun f => Nat.beq f 1000069 || Nat.beq f 1000099, loop := slices_insertionSortCmpFunc_int_tree_Order_c1.loop }
theorem slices_insertionSortCmpFunc_int_tree_Order_c1.ok [DKc] : slices_insertionSortCmpFunc_int_tree_Order_c1.ctx.OK where
  mixed := by kernel_rfl
  mono := by
    intro f args h K K' hh hk
    change slices_insertionSortCmpFunc_int_tree_Order_c1.call f args h K at hh
    change slices_insertionSortCmpFunc_int_tree_Order_c1.call f args h K'
    unfold slices_insertionSortCmpFunc_int_tree_Order_c1.call at hh ⊢
    split at hh
    · obtain ⟨R, h1, h2⟩ := hh
      exact ⟨R, h1, fun _ x hr => hk _ _ (h2 _ x hr)⟩
    · exact hh.elim
  call := by
    intro f args h K hh w hw
    change slices_insertionSortCmpFunc_int_tree_Order_c1.call f args h K at hh
    unfold slices_insertionSortCmpFunc_int_tree_Order_c1.call at hh
    split at hh
    · obtain ⟨R, h1, h2⟩ := hh
      obtain ⟨g1, g2⟩ := tree_Order_c1.calls h1 w hw
      exact ⟨g1, g2.mono fun e w' ⟨v, he, ho, hr⟩ => ⟨v, he, ho, tree_Order_c1.ret_elim h2 hr⟩⟩
    · exact hh.elim
  qmono := fun hh _ => hh.elim
  qval := fun hh => hh.elim
  qcall := fun hh => hh.elim
noncomputable def slices_insertionSortCmpFunc_int_tree_Order_c1.code : Code := (Try.f92.body).getD .skip
def slices_insertionSortCmpFunc_int_tree_Order_c1.ann : Ann := (.two .auto (.two (.loop 0 [0, 1, 2, 3, 8] [(2, [])] (.two .auto (.two (.two (.two .auto (.two (.loop 1 [0, 1, 2, 3, 8, 9] [(4, [0, 1, 2, 3, 8])] (.two (.two (.reg [0, 0, 3, 7, 15, 15, 15, 111, 239, 15, 15, 1039, 3599, 7695, 16383, 32767, 65535] (.take 0 (.take 1 (.take 2 (.take 3 (.take 4 (.take 5 (.take 6 (.take 7 (.take 8 (.take 9 (.take 10 (.take 11 (.take 12 (.take 13 (.alt 14 (.take 15 (.take 16 .done)) .noalt)))))))))))))))) .auto) (.two (.two (.reg [0, 0, 0, 0, 8, 0, 0, 64, 224, 480, 0, 0, 3072, 7168, 16355, 32739, 65535, 131071] (.take 0 (.take 1 (.take 2 (.take 3 (.take 4 (.take 5 (.take 6 (.take 7 (.take 8 (.take 9 (.take 10 (.take 11 (.take 12 (.take 13 (.take 14 (.alt 15 (.take 16 (.alt 17 .done .noalt)) .noalt))))))))))))))))) .auto) .auto))) .auto)) .auto) .auto))) .auto))
noncomputable def slices_insertionSortCmpFunc_int_tree_Order_c1.c1 : Code := sub slices_insertionSortCmpFunc_int_tree_Order_c1.code [1, 0, 0, 1, 0, 0, 1, 0, 0]
def slices_insertionSortCmpFunc_int_tree_Order_c1.a1 : Ann := (.two (.two (.reg [0, 0, 3, 7, 15, 15, 15, 111, 239, 15, 15, 1039, 3599, 7695, 16383, 32767, 65535] (.take 0 (.take 1 (.take 2 (.take 3 (.take 4 (.take 5 (.take 6 (.take 7 (.take 8 (.take 9 (.take 10 (.take 11 (.take 12 (.take 13 (.alt 14 (.take 15 (.take 16 .done)) .noalt)))))))))))))))) .auto) (.two (.two (.reg [0, 0, 0, 0, 8, 0, 0, 64, 224, 480, 0, 0, 3072, 7168, 16355, 32739, 65535, 131071] (.take 0 (.take 1 (.take 2 (.take 3 (.take 4 (.take 5 (.take 6 (.take 7 (.take 8 (.take 9 (.take 10 (.take 11 (.take 12 (.take 13 (.take 14 (.alt 15 (.take 16 (.alt 17 .done .noalt)) .noalt))))))))))))))))) .auto) .auto))
def slices_insertionSortCmpFunc_int_tree_Order_c1.keep1 : List Nat := [0, 1, 2, 3, 8, 9]
def slices_insertionSortCmpFunc_int_tree_Order_c1.outs1 : List (Nat × List Nat) := [(4, [0, 1, 2, 3, 8])]
noncomputable def slices_insertionSortCmpFunc_int_tree_Order_c1.c0 : Code := sub slices_insertionSortCmpFunc_int_tree_Order_c1.code [1, 0, 0]
def slices_insertionSortCmpFunc_int_tree_Order_c1.a0 : Ann := (.two .auto (.two (.two (.two .auto (.two (.loop 1 [0, 1, 2, 3, 8, 9] [(4, [0, 1, 2, 3, 8])] (.two (.two (.reg [0, 0, 3, 7, 15, 15, 15, 111, 239, 15, 15, 1039, 3599, 7695, 16383, 32767, 65535] (.take 0 (.take 1 (.take 2 (.take 3 (.take 4 (.take 5 (.take 6 (.take 7 (.take 8 (.take 9 (.take 10 (.take 11 (.take 12 (.take 13 (.alt 14 (.take 15 (.take 16 .done)) .noalt)))))))))))))))) .auto) (.two (.two (.reg [0, 0, 0, 0, 8, 0, 0, 64, 224, 480, 0, 0, 3072, 7168, 16355, 32739, 65535, 131071] (.take 0 (.take 1 (.take 2 (.take 3 (.take 4 (.take 5 (.take 6 (.take 7 (.take 8 (.take 9 (.take 10 (.take 11 (.take 12 (.take 13 (.take 14 (.alt 15 (.take 16 (.alt 17 .done .noalt)) .noalt))))))))))))))))) .auto) .auto))) .auto)) .auto) .auto))
def slices_insertionSortCmpFunc_int_tree_Order_c1.keep0 : List Nat := [0, 1, 2, 3, 8]
def slices_insertionSortCmpFunc_int_tree_Order_c1.outs0 : List (Nat × List Nat) := [(2, [])]
set_option maxRecDepth 100000 in
theorem slices_insertionSortCmpFunc_int_tree_Order_c1.L1 [DKc] : LoopOK slices_insertionSortCmpFunc_int_tree_Order_c1.ctx 53 slices_insertionSortCmpFunc_int_tree_Order_c1.c1 1 slices_insertionSortCmpFunc_int_tree_Order_c1.keep1 slices_insertionSortCmpFunc_int_tree_Order_c1.outs1 := by
  refine loop_ok (n := slices_insertionSortCmpFunc_int_tree_Order_c1.a1) slices_insertionSortCmpFunc_int_tree_Order_c1.ok (by kernel_rfl) (loops_ok (l := []) (by kernel_rfl) ?_) slices_insertionSortCmpFunc_int_tree_Order_c1.r1 ?_ ?_ (fun vs h K hh => hh)
  · exact trivial
  · intro K vs h hh
    unfold slices_insertionSortCmpFunc_int_tree_Order_c1.r1 at hh
    split at hh
    · exact hh
    · exact hh
  · intro K m vs h hh
    unfold slices_insertionSortCmpFunc_int_tree_Order_c1.r1 at hh
    split at hh
    · exact cast (by kernel_rfl) hh
    · exact hh.elim
set_option maxRecDepth 100000 in
theorem slices_insertionSortCmpFunc_int_tree_Order_c1.L0 [DKc] : LoopOK slices_insertionSortCmpFunc_int_tree_Order_c1.ctx 53 slices_insertionSortCmpFunc_int_tree_Order_c1.c0 0 slices_insertionSortCmpFunc_int_tree_Order_c1.keep0 slices_insertionSortCmpFunc_int_tree_Order_c1.outs0 := by
  refine loop_ok (n := slices_insertionSortCmpFunc_int_tree_Order_c1.a0) slices_insertionSortCmpFunc_int_tree_Order_c1.ok (by kernel_rfl) (loops_ok (l := [(slices_insertionSortCmpFunc_int_tree_Order_c1.c1, none, 1, slices_insertionSortCmpFunc_int_tree_Order_c1.keep1, slices_insertionSortCmpFunc_int_tree_Order_c1.outs1)]) (by kernel_rfl) ?_) slices_insertionSortCmpFunc_int_tree_Order_c1.r0 ?_ ?_ (fun vs h K hh => hh)
  · exact ⟨slices_insertionSortCmpFunc_int_tree_Order_c1.L1, trivial⟩
  · intro K vs h hh
    unfold slices_insertionSortCmpFunc_int_tree_Order_c1.r0 at hh
    split at hh
    · exact hh
    · exact hh
  · intro K m vs h hh
    unfold slices_insertionSortCmpFunc_int_tree_Order_c1.r0 at hh
    split at hh
    · exact cast (by kernel_rfl) hh
    · exact hh.elim
set_option maxRecDepth 100000 in
theorem slices_insertionSortCmpFunc_int_tree_Order_c1.eq (a1 : Option Addr) (a1l : Nat) (a1c : Nat) (a2 : Int) (a3 : Int) (a4 : Addr) (h : Heap) (K : Heap → Prop) : evF slices_insertionSortCmpFunc_int_tree_Order_c1.ctx Try.f92 slices_insertionSortCmpFunc_int_tree_Order_c1.ann [(.slice a1 a1l a1c), (.int .i64 a2), (.int .i64 a3), (.func (.func 52) #[] #[(.pointer (some a4))])] h (slices_insertionSortCmpFunc_int_tree_Order_c1.ret K) = slices_insertionSortCmpFunc_int_tree_Order_c1 a1 a1l a1c a2 a3 a4 h K := by kernel_rfl
set_option maxRecDepth 100000 in
theorem slices_insertionSortCmpFunc_int_tree_Order_c1.calls [DKc] {a1 : Option Addr} {a1l : Nat} {a1c : Nat} {a2 : Int} {a3 : Int} {a4 : Addr} {h : Heap} {K : Heap → Prop} (hh : slices_insertionSortCmpFunc_int_tree_Order_c1 a1 a1l a1c a2 a3 a4 h K) (w : World) (hw : w.heap = h) :
    (callFunc 92 #[(.slice a1 a1l a1c), (.int .i64 a2), (.int .i64 a3), (.func (.func 52) #[] #[(.pointer (some a4))])]).run Try.prog w = .ok (.enter 92 #[(.slice a1 a1l a1c), (.int .i64 a2), (.int .i64 a3), (.func (.func 52) #[] #[(.pointer (some a4))])]) w ∧ Calls Try.prog 92 #[(.slice a1 a1l a1c), (.int .i64 a2), (.int .i64 a3), (.func (.func 52) #[] #[(.pointer (some a4))])] w fun e w' => ∃ v, e = .returned v ∧ Out w w' ∧ slices_insertionSortCmpFunc_int_tree_Order_c1.ret K v w'.heap := by
  rw [← slices_insertionSortCmpFunc_int_tree_Order_c1.eq] at hh
  exact fn_calls (args := [(.slice a1 a1l a1c), (.int .i64 a2), (.int .i64 a3), (.func (.func 52) #[] #[(.pointer (some a4))])]) (c := slices_insertionSortCmpFunc_int_tree_Order_c1.code) slices_insertionSortCmpFunc_int_tree_Order_c1.ok Try.func92 (by kernel_rfl) (by kernel_rfl) (by kernel_rfl) (by kernel_rfl) (loops_ok (l := [(slices_insertionSortCmpFunc_int_tree_Order_c1.c0, none, 0, slices_insertionSortCmpFunc_int_tree_Order_c1.keep0, slices_insertionSortCmpFunc_int_tree_Order_c1.outs0)]) (by kernel_rfl) ⟨slices_insertionSortCmpFunc_int_tree_Order_c1.L0, trivial⟩) hh w hw

/-! ### slices.swapRangeCmpFunc[int]: function 142 -/
def slices_swapRangeCmpFunc_int_tree_Order_c1.b0 (K2 : Heap → Prop) (cont : (Option Addr) → Nat → Nat → Int → Int → Int → Int → Heap → Prop) (c0_1001 : Option Addr) (c0_1002 : Nat) (c0_1003 : Nat) (c1_1004 : Int) (c2_1005 : Int) (c3_1006 : Int) (v10_1007 : Int) (h1008 : Heap) : Prop :=
  (iteB (decide (v10_1007 < c3_1006)) ((chkP c0_1001 fun a1009 => (0 ≤ (IntKind.i64.wrap (c2_1005 + v10_1007)) ∧ (IntKind.i64.wrap (c2_1005 + v10_1007)) < (c0_1002 : Int)) ∧ ∃ (x1010 : Int), cell h1008 (a1009.add ((IntKind.i64.wrap (c2_1005 + v10_1007)).toNat * 1)) = some (.int .i64 x1010) ∧ chkP c0_1001 fun a1011 => (0 ≤ (IntKind.i64.wrap (c1_1004 + v10_1007)) ∧ (IntKind.i64.wrap (c1_1004 + v10_1007)) < (c0_1002 : Int)) ∧ ∃ (x1012 : Int), cell h1008 (a1011.add ((IntKind.i64.wrap (c1_1004 + v10_1007)).toNat * 1)) = some (.int .i64 x1012) ∧ chkP c0_1001 fun a1013 => (0 ≤ (IntKind.i64.wrap (c1_1004 + v10_1007)) ∧ (IntKind.i64.wrap (c1_1004 + v10_1007)) < (c0_1002 : Int)) ∧ stC h1008 (a1013.add ((IntKind.i64.wrap (c1_1004 + v10_1007)).toNat * 1)) (.int .i64 x1010) fun h1014 => chkP c0_1001 fun a1015 => (0 ≤ (IntKind.i64.wrap (c2_1005 + v10_1007)) ∧ (IntKind.i64.wrap (c2_1005 + v10_1007)) < (c0_1002 : Int)) ∧ stC h1014 (a1015.add ((IntKind.i64.wrap (c2_1005 + v10_1007)).toNat * 1)) (.int .i64 x1012) fun h1016 => ((cont c0_1001 c0_1002 c0_1003 c1_1004 c2_1005 c3_1006 (IntKind.i64.wrap (v10_1007 + 1)) h1016)))) (K2 h1008))
def slices_swapRangeCmpFunc_int_tree_Order_c1.l0 (K2 : Heap → Prop) : Nat → (Option Addr) → Nat → Nat → Int → Int → Int → Int → Heap → Prop
  | 0, _, _, _, _, _, _, _, _ => False
  | m + 1, c0_1001, c0_1002, c0_1003, c1_1004, c2_1005, c3_1006, v10_1007, h => slices_swapRangeCmpFunc_int_tree_Order_c1.b0 K2 (slices_swapRangeCmpFunc_int_tree_Order_c1.l0 K2 m) c0_1001 c0_1002 c0_1003 c1_1004 c2_1005 c3_1006 v10_1007 h
def slices_swapRangeCmpFunc_int_tree_Order_c1 (a1 : Option Addr) (a1l : Nat) (a1c : Nat) (a2 : Int) (a3 : Int) (a4 : Int) (a5 : Addr) (h : Heap) (K : Heap → Prop) : Prop :=
  (∃ m7, slices_swapRangeCmpFunc_int_tree_Order_c1.l0 (fun h6 => K h6) m7 a1 a1l a1c a2 a3 a4 0 h)
def slices_swapRangeCmpFunc_int_tree_Order_c1.ret (K : Heap → Prop) (v : Value) (h : Heap) : Prop := match v with
  | (.tuple ⟨[]⟩) => K h
  | _ => False
theorem slices_swapRangeCmpFunc_int_tree_Order_c1.ret_elim {K : Heap → Prop} {K' : Value → Heap → Prop} {v : Value} {h : Heap} (hk : ∀  h, K h → K' (.tuple #[]) h) (hh : slices_swapRangeCmpFunc_int_tree_Order_c1.ret K v h) : K' v h := by
  unfold slices_swapRangeCmpFunc_int_tree_Order_c1.ret at hh
  split at hh
  · exact hk _ hh
  · exact hh.elim
def slices_swapRangeCmpFunc_int_tree_Order_c1.r0 (K : Nat → List Value → Heap → Prop) (m : Nat) (vs : List Value) (h : Heap) : Prop := match vs with
  | [(.slice c0_1001 c0_1002 c0_1003), (.int .i64 c1_1004), (.int .i64 c2_1005), (.int .i64 c3_1006), (.int .i64 v10_1007)] => slices_swapRangeCmpFunc_int_tree_Order_c1.l0 (fun h' => K 2 [] h') m c0_1001 c0_1002 c0_1003 c1_1004 c2_1005 c3_1006 v10_1007 h
  | _ => False
def slices_swapRangeCmpFunc_int_tree_Order_c1.loop (i : Nat) (vs : List Value) (h : Heap) (K : Nat → List Value → Heap → Prop) : Prop := match i with
  | 0 => ∃ m, slices_swapRangeCmpFunc_int_tree_Order_c1.r0 K m vs h
  | _ => False
noncomputable def slices_swapRangeCmpFunc_int_tree_Order_c1.ctx : Ctx := { P := Try.prog, call := fun _ _ _ _ => False, qcall := fun _ _ _ _ => False, quiet := fun f => Nat.beq f 1000069 || Nat.beq f 1000099, loop := slices_swapRangeCmpFunc_int_tree_Order_c1.loop }
theorem slices_swapRangeCmpFunc_int_tree_Order_c1.ok [DKc] : slices_swapRangeCmpFunc_int_tree_Order_c1.ctx.OK where
  mixed := by kernel_rfl
  mono := fun hh _ => hh.elim
  call := fun hh => hh.elim
  qmono := fun hh _ => hh.elim
  qval := fun hh => hh.elim
  qcall := fun hh => hh.elim
noncomputable def slices_swapRangeCmpFunc_int_tree_Order_c1.code : Code := (Try.f142.body).getD .skip
def slices_swapRangeCmpFunc_int_tree_Order_c1.ann : Ann := (.two .auto (.two (.loop 0 [0, 1, 2, 3, 10] [(2, [])] (.two .auto (.two (.two (.reg [0, 0, 0, 6, 0, 0, 0, 96, 0, 0, 0, 1536, 3840, 7936, 0, 0, 0, 98304, 245760, 507904, 1048335, 2096911, 4194303, 8388607] (.take 0 (.take 1 (.take 2 (.take 3 (.take 4 (.take 5 (.take 6 (.take 7 (.take 8 (.take 9 (.take 10 (.take 11 (.take 12 (.take 13 (.take 14 (.take 15 (.take 16 (.take 17 (.take 18 (.take 19 (.take 20 (.alt 21 (.take 22 (.alt 23 .done .noalt)) .noalt))))))))))))))))))))))) .auto) .auto))) .auto))
noncomputable def slices_swapRangeCmpFunc_int_tree_Order_c1.c0 : Code := sub slices_swapRangeCmpFunc_int_tree_Order_c1.code [1, 0, 0]
def slices_swapRangeCmpFunc_int_tree_Order_c1.a0 : Ann := (.two .auto (.two (.two (.reg [0, 0, 0, 6, 0, 0, 0, 96, 0, 0, 0, 1536, 3840, 7936, 0, 0, 0, 98304, 245760, 507904, 1048335, 2096911, 4194303, 8388607] (.take 0 (.take 1 (.take 2 (.take 3 (.take 4 (.take 5 (.take 6 (.take 7 (.take 8 (.take 9 (.take 10 (.take 11 (.take 12 (.take 13 (.take 14 (.take 15 (.take 16 (.take 17 (.take 18 (.take 19 (.take 20 (.alt 21 (.take 22 (.alt 23 .done .noalt)) .noalt))))))))))))))))))))))) .auto) .auto))
def slices_swapRangeCmpFunc_int_tree_Order_c1.keep0 : List Nat := [0, 1, 2, 3, 10]
def slices_swapRangeCmpFunc_int_tree_Order_c1.outs0 : List (Nat × List Nat) := [(2, [])]
set_option maxRecDepth 100000 in
theorem slices_swapRangeCmpFunc_int_tree_Order_c1.L0 [DKc] : LoopOK slices_swapRangeCmpFunc_int_tree_Order_c1.ctx 38 slices_swapRangeCmpFunc_int_tree_Order_c1.c0 0 slices_swapRangeCmpFunc_int_tree_Order_c1.keep0 slices_swapRangeCmpFunc_int_tree_Order_c1.outs0 := by
  refine loop_ok (n := slices_swapRangeCmpFunc_int_tree_Order_c1.a0) slices_swapRangeCmpFunc_int_tree_Order_c1.ok (by kernel_rfl) (loops_ok (l := []) (by kernel_rfl) ?_) slices_swapRangeCmpFunc_int_tree_Order_c1.r0 ?_ ?_ (fun vs h K hh => hh)
  · exact trivial
  · intro K vs h hh
    unfold slices_swapRangeCmpFunc_int_tree_Order_c1.r0 at hh
    split at hh
    · exact hh
    · exact hh
  · intro K m vs h hh
    unfold slices_swapRangeCmpFunc_int_tree_Order_c1.r0 at hh
    split at hh
    · exact cast (by kernel_rfl) hh
    · exact hh.elim
set_option maxRecDepth 100000 in
theorem slices_swapRangeCmpFunc_int_tree_Order_c1.eq (a1 : Option Addr) (a1l : Nat) (a1c : Nat) (a2 : Int) (a3 : Int) (a4 : Int) (a5 : Addr) (h : Heap) (K : Heap → Prop) : evF slices_swapRangeCmpFunc_int_tree_Order_c1.ctx Try.f142 slices_swapRangeCmpFunc_int_tree_Order_c1.ann [(.slice a1 a1l a1c), (.int .i64 a2), (.int .i64 a3), (.int .i64 a4), (.func (.func 52) #[] #[(.pointer (some a5))])] h (slices_swapRangeCmpFunc_int_tree_Order_c1.ret K) = slices_swapRangeCmpFunc_int_tree_Order_c1 a1 a1l a1c a2 a3 a4 a5 h K := by kernel_rfl
set_option maxRecDepth 100000 in
theorem slices_swapRangeCmpFunc_int_tree_Order_c1.calls [DKc] {a1 : Option Addr} {a1l : Nat} {a1c : Nat} {a2 : Int} {a3 : Int} {a4 : Int} {a5 : Addr} {h : Heap} {K : Heap → Prop} (hh : slices_swapRangeCmpFunc_int_tree_Order_c1 a1 a1l a1c a2 a3 a4 a5 h K) (w : World) (hw : w.heap = h) :
    (callFunc 142 #[(.slice a1 a1l a1c), (.int .i64 a2), (.int .i64 a3), (.int .i64 a4), (.func (.func 52) #[] #[(.pointer (some a5))])]).run Try.prog w = .ok (.enter 142 #[(.slice a1 a1l a1c), (.int .i64 a2), (.int .i64 a3), (.int .i64 a4), (.func (.func 52) #[] #[(.pointer (some a5))])]) w ∧ Calls Try.prog 142 #[(.slice a1 a1l a1c), (.int .i64 a2), (.int .i64 a3), (.int .i64 a4), (.func (.func 52) #[] #[(.pointer (some a5))])] w fun e w' => ∃ v, e = .returned v ∧ Out w w' ∧ slices_swapRangeCmpFunc_int_tree_Order_c1.ret K v w'.heap := by
  rw [← slices_swapRangeCmpFunc_int_tree_Order_c1.eq] at hh
  exact fn_calls (args := [(.slice a1 a1l a1c), (.int .i64 a2), (.int .i64 a3), (.int .i64 a4), (.func (.func 52) #[] #[(.pointer (some a5))])]) (c := slices_swapRangeCmpFunc_int_tree_Order_c1.code) slices_swapRangeCmpFunc_int_tree_Order_c1.ok Try.func142 (by kernel_rfl) (by kernel_rfl) (by kernel_rfl) (by kernel_rfl) (loops_ok (l := [(slices_swapRangeCmpFunc_int_tree_Order_c1.c0, none, 0, slices_swapRangeCmpFunc_int_tree_Order_c1.keep0, slices_swapRangeCmpFunc_int_tree_Order_c1.outs0)]) (by kernel_rfl) ⟨slices_swapRangeCmpFunc_int_tree_Order_c1.L0, trivial⟩) hh w hw

/-! ### slices.rotateCmpFunc[int]: function 114 -/
def slices_rotateCmpFunc_int_tree_Order_c1.b0 (K2 : Int → Heap → Prop) (cont : (Option Addr) → Nat → Nat → Int → Addr → Int → Int → Heap → Prop) (c0_1001 : Option Addr) (c0_1002 : Nat) (c0_1003 : Nat) (c2_1004 : Int) (c4_1005 : Addr) (v10_1006 : Int) (v11_1007 : Int) (h1008 : Heap) : Prop :=
  (iteB (v10_1006 != v11_1007) (((iteB (decide (v10_1006 > v11_1007)) (callP0 (slices_swapRangeCmpFunc_int_tree_Order_c1 c0_1001 c0_1002 c0_1003 (IntKind.i64.wrap (c2_1004 - v10_1006)) c2_1004 v11_1007 c4_1005 h1008) fun h1009 => ((cont c0_1001 c0_1002 c0_1003 c2_1004 c4_1005 (IntKind.i64.wrap (v10_1006 - v11_1007)) v11_1007 h1009))) (bindV (IntKind.i64.wrap ((IntKind.i64.wrap (c2_1004 + v11_1007)) - v10_1006)) fun n1010 => callP0 (slices_swapRangeCmpFunc_int_tree_Order_c1 c0_1001 c0_1002 c0_1003 (IntKind.i64.wrap (c2_1004 - v10_1006)) n1010 v10_1006 c4_1005 h1008) fun h1011 => ((cont c0_1001 c0_1002 c0_1003 c2_1004 c4_1005 v10_1006 (IntKind.i64.wrap (v11_1007 - v10_1006)) h1011)))))) (K2 v10_1006 h1008))
def slices_rotateCmpFunc_int_tree_Order_c1.l0 (K2 : Int → Heap → Prop) : Nat → (Option Addr) → Nat → Nat → Int → Addr → Int → Int → Heap → Prop
  | 0, _, _, _, _, _, _, _, _ => False
  | m + 1, c0_1001, c0_1002, c0_1003, c2_1004, c4_1005, v10_1006, v11_1007, h => slices_rotateCmpFunc_int_tree_Order_c1.b0 K2 (slices_rotateCmpFunc_int_tree_Order_c1.l0 K2 m) c0_1001 c0_1002 c0_1003 c2_1004 c4_1005 v10_1006 v11_1007 h
def slices_rotateCmpFunc_int_tree_Order_c1 (a1 : Option Addr) (a1l : Nat) (a1c : Nat) (a2 : Int) (a3 : Int) (a4 : Int) (a5 : Addr) (h : Heap) (K : Heap → Prop) : Prop :=
  ((∃ m8, slices_rotateCmpFunc_int_tree_Order_c1.l0 (fun z6 h7 => ((callP0 (slices_swapRangeCmpFunc_int_tree_Order_c1 a1 a1l a1c (IntKind.i64.wrap (a3 - z6)) a3 z6 a5 h7) fun h9 => K h9))) m8 a1 a1l a1c a3 a5 (IntKind.i64.wrap (a3 - a2)) (IntKind.i64.wrap (a4 - a3)) h))
def slices_rotateCmpFunc_int_tree_Order_c1.ret (K : Heap → Prop) (v : Value) (h : Heap) : Prop := match v with
  | (.tuple ⟨[]⟩) => K h
  | _ => False
theorem slices_rotateCmpFunc_int_tree_Order_c1.ret_elim {K : Heap → Prop} {K' : Value → Heap → Prop} {v : Value} {h : Heap} (hk : ∀  h, K h → K' (.tuple #[]) h) (hh : slices_rotateCmpFunc_int_tree_Order_c1.ret K v h) : K' v h := by
  unfold slices_rotateCmpFunc_int_tree_Order_c1.ret at hh
  split at hh
  · exact hk _ hh
  · exact hh.elim
def slices_rotateCmpFunc_int_tree_Order_c1.call (f : FuncId) (vs : List Value) (h : Heap) (K : Value → Heap → Prop) : Prop := match f, vs with
  | 142, [(.slice a1 a1l a1c), (.int .i64 a2), (.int .i64 a3), (.int .i64 a4), (.func (.func 52) ⟨[]⟩ ⟨[(.pointer (some a5))]⟩)] => callP0 (slices_swapRangeCmpFunc_int_tree_Order_c1 a1 a1l a1c a2 a3 a4 a5 h) fun h' => K (.tuple #[]) h'
  | _, _ => False
def slices_rotateCmpFunc_int_tree_Order_c1.r0 (K : Nat → List Value → Heap → Prop) (m : Nat) (vs : List Value) (h : Heap) : Prop := match vs with
  | [(.slice c0_1001 c0_1002 c0_1003), (.int .i64 c2_1004), (.func (.func 52) ⟨[]⟩ ⟨[(.pointer (some c4_1005))]⟩), (.int .i64 v10_1006), (.int .i64 v11_1007)] => slices_rotateCmpFunc_int_tree_Order_c1.l0 (fun z10 h' => K 2 [(.slice c0_1001 c0_1002 c0_1003), (.int .i64 c2_1004), (.func (.func 52) #[] #[(.pointer (some c4_1005))]), (.int .i64 z10)] h') m c0_1001 c0_1002 c0_1003 c2_1004 c4_1005 v10_1006 v11_1007 h
  | _ => False
def slices_rotateCmpFunc_int_tree_Order_c1.loop (i : Nat) (vs : List Value) (h : Heap) (K : Nat → List Value → Heap → Prop) : Prop := match i with
  | 0 => ∃ m, slices_rotateCmpFunc_int_tree_Order_c1.r0 K m vs h
  | _ => False
noncomputable def slices_rotateCmpFunc_int_tree_Order_c1.ctx : Ctx := { P := Try.prog, call := slices_rotateCmpFunc_int_tree_Order_c1.call, qcall := fun _ _ _ _ => False, quiet := fun f => Nat.beq f 1000069 || Nat.beq f 1000099, loop := slices_rotateCmpFunc_int_tree_Order_c1.loop }
theorem slices_rotateCmpFunc_int_tree_Order_c1.ok [DKc] : slices_rotateCmpFunc_int_tree_Order_c1.ctx.OK where
  mixed := by kernel_rfl
  mono := by
    intro f args h K K' hh hk
    change slices_rotateCmpFunc_int_tree_Order_c1.call f args h K at hh
    change slices_rotateCmpFunc_int_tree_Order_c1.call f args h K'
    unfold slices_rotateCmpFunc_int_tree_Order_c1.call at hh ⊢
    split at hh
    · obtain ⟨R, h1, h2⟩ := hh
      exact ⟨R, h1, fun x hr => hk _ _ (h2 x hr)⟩
    · exact hh.elim
  call := by
    intro f args h K hh w hw
    change slices_rotateCmpFunc_int_tree_Order_c1.call f args h K at hh
    unfold slices_rotateCmpFunc_int_tree_Order_c1.call at hh
    split at hh
    · obtain ⟨R, h1, h2⟩ := hh
      obtain ⟨g1, g2⟩ := slices_swapRangeCmpFunc_int_tree_Order_c1.calls h1 w hw
      exact ⟨g1, g2.mono fun e w' ⟨v, he, ho, hr⟩ => ⟨v, he, ho, slices_swapRangeCmpFunc_int_tree_Order_c1.ret_elim h2 hr⟩⟩
    · exact hh.elim
  qmono := fun hh _ => hh.elim
  qval := fun hh => hh.elim
  qcall := fun hh => hh.elim
noncomputable def slices_rotateCmpFunc_int_tree_Order_c1.code : Code := (Try.f114.body).getD .skip
def slices_rotateCmpFunc_int_tree_Order_c1.ann : Ann := (.two .auto (.two .auto (.two (.two (.loop 0 [0, 2, 4, 10, 11] [(2, [0, 2, 4, 10])] .auto) .auto) .auto)))
noncomputable def slices_rotateCmpFunc_int_tree_Order_c1.c0 : Code := sub slices_rotateCmpFunc_int_tree_Order_c1.code [1, 1, 0, 0, 0]
def slices_rotateCmpFunc_int_tree_Order_c1.a0 : Ann := .auto
def slices_rotateCmpFunc_int_tree_Order_c1.keep0 : List Nat := [0, 2, 4, 10, 11]
def slices_rotateCmpFunc_int_tree_Order_c1.outs0 : List (Nat × List Nat) := [(2, [0, 2, 4, 10])]
set_option maxRecDepth 100000 in
theorem slices_rotateCmpFunc_int_tree_Order_c1.L0 [DKc] : LoopOK slices_rotateCmpFunc_int_tree_Order_c1.ctx 58 slices_rotateCmpFunc_int_tree_Order_c1.c0 0 slices_rotateCmpFunc_int_tree_Order_c1.keep0 slices_rotateCmpFunc_int_tree_Order_c1.outs0 := by
  refine loop_ok (n := slices_rotateCmpFunc_int_tree_Order_c1.a0) slices_rotateCmpFunc_int_tree_Order_c1.ok (by kernel_rfl) (loops_ok (l := []) (by kernel_rfl) ?_) slices_rotateCmpFunc_int_tree_Order_c1.r0 ?_ ?_ (fun vs h K hh => hh)
  · exact trivial
  · intro K vs h hh
    unfold slices_rotateCmpFunc_int_tree_Order_c1.r0 at hh
    split at hh
    · exact hh
    · exact hh
  · intro K m vs h hh
    unfold slices_rotateCmpFunc_int_tree_Order_c1.r0 at hh
    split at hh
    · exact cast (by kernel_rfl) hh
    · exact hh.elim
set_option maxRecDepth 100000 in
theorem slices_rotateCmpFunc_int_tree_Order_c1.eq (a1 : Option Addr) (a1l : Nat) (a1c : Nat) (a2 : Int) (a3 : Int) (a4 : Int) (a5 : Addr) (h : Heap) (K : Heap → Prop) : evF slices_rotateCmpFunc_int_tree_Order_c1.ctx Try.f114 slices_rotateCmpFunc_int_tree_Order_c1.ann [(.slice a1 a1l a1c), (.int .i64 a2), (.int .i64 a3), (.int .i64 a4), (.func (.func 52) #[] #[(.pointer (some a5))])] h (slices_rotateCmpFunc_int_tree_Order_c1.ret K) = slices_rotateCmpFunc_int_tree_Order_c1 a1 a1l a1c a2 a3 a4 a5 h K := by kernel_rfl
set_option maxRecDepth 100000 in
theorem slices_rotateCmpFunc_int_tree_Order_c1.calls [DKc] {a1 : Option Addr} {a1l : Nat} {a1c : Nat} {a2 : Int} {a3 : Int} {a4 : Int} {a5 : Addr} {h : Heap} {K : Heap → Prop} (hh : slices_rotateCmpFunc_int_tree_Order_c1 a1 a1l a1c a2 a3 a4 a5 h K) (w : World) (hw : w.heap = h) :
    (callFunc 114 #[(.slice a1 a1l a1c), (.int .i64 a2), (.int .i64 a3), (.int .i64 a4), (.func (.func 52) #[] #[(.pointer (some a5))])]).run Try.prog w = .ok (.enter 114 #[(.slice a1 a1l a1c), (.int .i64 a2), (.int .i64 a3), (.int .i64 a4), (.func (.func 52) #[] #[(.pointer (some a5))])]) w ∧ Calls Try.prog 114 #[(.slice a1 a1l a1c), (.int .i64 a2), (.int .i64 a3), (.int .i64 a4), (.func (.func 52) #[] #[(.pointer (some a5))])] w fun e w' => ∃ v, e = .returned v ∧ Out w w' ∧ slices_rotateCmpFunc_int_tree_Order_c1.ret K v w'.heap := by
  rw [← slices_rotateCmpFunc_int_tree_Order_c1.eq] at hh
  exact fn_calls (args := [(.slice a1 a1l a1c), (.int .i64 a2), (.int .i64 a3), (.int .i64 a4), (.func (.func 52) #[] #[(.pointer (some a5))])]) (c := slices_rotateCmpFunc_int_tree_Order_c1.code) slices_rotateCmpFunc_int_tree_Order_c1.ok Try.func114 (by kernel_rfl) (by kernel_rfl) (by kernel_rfl) (by kernel_rfl) (loops_ok (l := [(slices_rotateCmpFunc_int_tree_Order_c1.c0, none, 0, slices_rotateCmpFunc_int_tree_Order_c1.keep0, slices_rotateCmpFunc_int_tree_Order_c1.outs0)]) (by kernel_rfl) ⟨slices_rotateCmpFunc_int_tree_Order_c1.L0, trivial⟩) hh w hw

/-! ### slices.symMergeCmpFunc[int]: function 93, by its contract -/
def slices_symMergeCmpFunc_int_tree_Order_c1_rec.ret (K : Heap → Prop) (v : Value) (h : Heap) : Prop := match v with
  | (.tuple ⟨[]⟩) => K h
  | _ => False
theorem slices_symMergeCmpFunc_int_tree_Order_c1_rec.ret_elim {K : Heap → Prop} {K' : Value → Heap → Prop} {v : Value} {h : Heap} (hk : ∀  h, K h → K' (.tuple #[]) h) (hh : slices_symMergeCmpFunc_int_tree_Order_c1_rec.ret K v h) : K' v h := by
  unfold slices_symMergeCmpFunc_int_tree_Order_c1_rec.ret at hh
  split at hh
  · exact hk _ hh
  · exact hh.elim
def slices_symMergeCmpFunc_int_tree_Order_c1_rec [DKc] (a1 : Option Addr) (a1l : Nat) (a1c : Nat) (a2 : Int) (a3 : Int) (a4 : Int) (a5 : Addr) (h : Heap) (K : Heap → Prop) : Prop := ∀ w : World, w.heap = h → (callFunc 93 #[(.slice a1 a1l a1c), (.int .i64 a2), (.int .i64 a3), (.int .i64 a4), (.func (.func 52) #[] #[(.pointer (some a5))])]).run Try.prog w = .ok (.enter 93 #[(.slice a1 a1l a1c), (.int .i64 a2), (.int .i64 a3), (.int .i64 a4), (.func (.func 52) #[] #[(.pointer (some a5))])]) w ∧ Calls Try.prog 93 #[(.slice a1 a1l a1c), (.int .i64 a2), (.int .i64 a3), (.int .i64 a4), (.func (.func 52) #[] #[(.pointer (some a5))])] w fun e w' => ∃ v, e = .returned v ∧ Out w w' ∧ slices_symMergeCmpFunc_int_tree_Order_c1_rec.ret K v w'.heap
theorem slices_symMergeCmpFunc_int_tree_Order_c1_rec.calls [DKc] {a1 : Option Addr} {a1l : Nat} {a1c : Nat} {a2 : Int} {a3 : Int} {a4 : Int} {a5 : Addr} {h : Heap} {K : Heap → Prop} (hh : slices_symMergeCmpFunc_int_tree_Order_c1_rec a1 a1l a1c a2 a3 a4 a5 h K) (w : World) (hw : w.heap = h) : (callFunc 93 #[(.slice a1 a1l a1c), (.int .i64 a2), (.int .i64 a3), (.int .i64 a4), (.func (.func 52) #[] #[(.pointer (some a5))])]).run Try.prog w = .ok (.enter 93 #[(.slice a1 a1l a1c), (.int .i64 a2), (.int .i64 a3), (.int .i64 a4), (.func (.func 52) #[] #[(.pointer (some a5))])]) w ∧ Calls Try.prog 93 #[(.slice a1 a1l a1c), (.int .i64 a2), (.int .i64 a3), (.int .i64 a4), (.func (.func 52) #[] #[(.pointer (some a5))])] w fun e w' => ∃ v, e = .returned v ∧ Out w w' ∧ slices_symMergeCmpFunc_int_tree_Order_c1_rec.ret K v w'.heap := hh w hw

end Go.Proofs.Ytfidcekobjmamaa
