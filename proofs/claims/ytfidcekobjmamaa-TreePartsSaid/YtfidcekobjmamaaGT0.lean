/- WRITTEN BY A PROGRAM OF THIS SESSION (gen.py): what each function asks of memory, and that the model's run comes to it. -/
import Derived.Test.YtfidcekobjmamaaProg
import Derived.Test.YtfidcekobjmamaaFw8

namespace Go.Proofs.Ytfidcekobjmamaa
open Go.Hp
set_option linter.unusedVariables false
set_option linter.unusedSimpArgs false

/-! ### strait/tree.deepen: function 69 -/
def tree_deepen.b2 (K2 : Heap → Prop) (cont : (Option Addr) → Nat → Nat → Int → Int → Heap → Prop) (c1_3001 : Option Addr) (c1_3002 : Nat) (c1_3003 : Nat) (v8_3004 : Int) (v9_3005 : Int) (h3006 : Heap) : Prop :=
  (iteB (decide (v9_3005 ≥ (0 : Int))) (False) (K2 h3006))
def tree_deepen.l2 (K2 : Heap → Prop) : Nat → (Option Addr) → Nat → Nat → Int → Int → Heap → Prop
  | 0, _, _, _, _, _, _ => False
  | m + 1, c1_3001, c1_3002, c1_3003, v8_3004, v9_3005, h => tree_deepen.b2 K2 (tree_deepen.l2 K2 m) c1_3001 c1_3002 c1_3003 v8_3004 v9_3005 h
def tree_deepen.b1 (K2 : Heap → Prop) (cont : (Option Addr) → Nat → Nat → (Option Addr) → Nat → Nat → Int → Int → Heap → Prop) (c1_2001 : Option Addr) (c1_2002 : Nat) (c1_2003 : Nat) (c7_2004 : Option Addr) (c7_2005 : Nat) (c7_2006 : Nat) (v8_2007 : Int) (v9_2008 : Int) (h2009 : Heap) : Prop :=
  (iteB (decide (v9_2008 ≥ (0 : Int))) (((chkP c7_2004 fun a2010 => (0 ≤ v9_2008 ∧ v9_2008 < (c7_2005 : Int)) ∧ ∃ (x2011 : Int), cell h2009 (a2010.add (v9_2008.toNat * 1)) = some (.int .i64 x2011) ∧ chkP c1_2001 fun a2012 => (0 ≤ x2011 ∧ x2011 < (c1_2002 : Int)) ∧ stC h2009 (a2012.add (x2011.toNat * 1)) (.int .i64 (IntKind.i64.wrap (v8_2007 + 1))) fun h2013 => ((cont c1_2001 c1_2002 c1_2003 c7_2004 c7_2005 c7_2006 (IntKind.i64.wrap (v8_2007 + 1)) (IntKind.i64.wrap (v9_2008 - 1)) h2013))))) (K2 h2009))
def tree_deepen.l1 (K2 : Heap → Prop) : Nat → (Option Addr) → Nat → Nat → (Option Addr) → Nat → Nat → Int → Int → Heap → Prop
  | 0, _, _, _, _, _, _, _, _, _ => False
  | m + 1, c1_2001, c1_2002, c1_2003, c7_2004, c7_2005, c7_2006, v8_2007, v9_2008, h => tree_deepen.b1 K2 (tree_deepen.l1 K2 m) c1_2001 c1_2002 c1_2003 c7_2004 c7_2005 c7_2006 v8_2007 v9_2008 h
def tree_deepen.b0 (K0 : Bool → Heap → Prop) (cont : (Option Addr) → Nat → Nat → Int → Addr → (Option Addr) → Nat → Nat → Heap → Prop) (c1_1001 : Option Addr) (c1_1002 : Nat) (c1_1003 : Nat) (v2_1004 : Int) (c3_1005 : Addr) (v7_1006 : Option Addr) (v7_1006l : Nat) (v7_1006c : Nat) (h1007 : Heap) : Prop :=
  (let j1022 := (fun (y1011 : Bool) => iteB y1011 (newP h1007 (.cells #[(.int .i64 v2_1004)] 3) fun a1012 h1013 => ∃ n1018, cellsAt h1013 (some a1012) (1 * 1) n1018 ∧ appP 3 1 8 [(.int .i64 0)] v7_1006 v7_1006l v7_1006c 1 n1018 h1013 fun q1014 l1015 c1016 h1017 => (∃ (x1019 : Option Addr) (x1019l : Nat) (x1019c : Nat), cell h1017 c3_1005 = some (.slice x1019 x1019l x1019c) ∧ chkP x1019 fun a1020 => (0 ≤ v2_1004 ∧ v2_1004 < (x1019l : Int)) ∧ ∃ (x1021 : Int), cell h1017 (a1020.add (v2_1004.toNat * 1)) = some (.int .i64 x1021) ∧ cont c1_1001 c1_1002 c1_1003 x1021 c3_1005 q1014 l1015 c1016 h1017)) ((chkP c1_1001 fun a1023 => (0 ≤ v2_1004 ∧ v2_1004 < (c1_1002 : Int)) ∧ ∃ (x1024 : Int), cell h1007 (a1023.add (v2_1004.toNat * 1)) = some (.int .i64 x1024) ∧ (iteB (decide (x1024 < (0 : Int))) (K0 false h1007) ((chkP c1_1001 fun a1025 => (0 ≤ v2_1004 ∧ v2_1004 < (c1_1002 : Int)) ∧ ∃ (x1026 : Int), cell h1007 (a1025.add (v2_1004.toNat * 1)) = some (.int .i64 x1026) ∧ ((∃ m1028, tree_deepen.l1 (fun h1027 => (K0 true h1027)) m1028 c1_1001 c1_1002 c1_1003 v7_1006 v7_1006l v7_1006c x1026 (IntKind.i64.wrap ((v7_1006l : Int) - 1)) h1007))))))));
  chkP c1_1001 fun a1008 => (0 ≤ v2_1004 ∧ v2_1004 < (c1_1002 : Int)) ∧ ∃ (x1009 : Int), cell h1007 (a1008.add (v2_1004.toNat * 1)) = some (.int .i64 x1009) ∧ iteB (decide (x1009 < (0 : Int))) (∃ (x1010 : Option Addr) (x1010l : Nat) (x1010c : Nat), cell h1007 c3_1005 = some (.slice x1010 x1010l x1010c) ∧ (j1022 (decide ((v7_1006l : Int) ≤ (x1010l : Int))))) ((j1022 false)))
def tree_deepen.l0 (K0 : Bool → Heap → Prop) : Nat → (Option Addr) → Nat → Nat → Int → Addr → (Option Addr) → Nat → Nat → Heap → Prop
  | 0, _, _, _, _, _, _, _, _, _ => False
  | m + 1, c1_1001, c1_1002, c1_1003, v2_1004, c3_1005, v7_1006, v7_1006l, v7_1006c, h => tree_deepen.b0 K0 (tree_deepen.l0 K0 m) c1_1001 c1_1002 c1_1003 v2_1004 c3_1005 v7_1006 v7_1006l v7_1006c h
def tree_deepen (a1 : Option Addr) (a1l : Nat) (a1c : Nat) (a2 : Option Addr) (a2l : Nat) (a2c : Nat) (a3 : Option Addr) (a3l : Nat) (a3c : Nat) (a4 : Int) (h : Heap) (K : Bool → Heap → Prop) : Prop :=
  newP h (.cells #[(.slice a1 a1l a1c), (.slice a2 a2l a2c)] 25) fun a5 h6 => (((let j24 := (fun (y10 : Bool) => iteB y10 (newP h6 (.cells #[(.int .i64 a4)] 3) fun a11 h12 => ∃ n17, cellsAt h12 (some a11) (1 * 1) n17 ∧ appP 3 1 8 [(.int .i64 0)] none 0 0 1 n17 h12 fun q13 l14 c15 h16 => (∃ (x18 : Option Addr) (x18l : Nat) (x18c : Nat), cell h16 a5 = some (.slice x18 x18l x18c) ∧ chkP x18 fun a19 => (0 ≤ a4 ∧ a4 < (x18l : Int)) ∧ ∃ (x20 : Int), cell h16 (a19.add (a4.toNat * 1)) = some (.int .i64 x20) ∧ (∃ m23, tree_deepen.l0 (fun z21 h22 => K z21 h22) m23 a3 a3l a3c x20 a5 q13 l14 c15 h16))) ((chkP a3 fun a25 => (0 ≤ a4 ∧ a4 < (a3l : Int)) ∧ ∃ (x26 : Int), cell h6 (a25.add (a4.toNat * 1)) = some (.int .i64 x26) ∧ (iteB (decide (x26 < (0 : Int))) (K false h6) ((chkP a3 fun a27 => (0 ≤ a4 ∧ a4 < (a3l : Int)) ∧ ∃ (x28 : Int), cell h6 (a27.add (a4.toNat * 1)) = some (.int .i64 x28) ∧ ((∃ m30, tree_deepen.l2 (fun h29 => (K true h29)) m30 a3 a3l a3c x28 (IntKind.i64.wrap (0 - 1)) h6))))))));
  chkP a3 fun a7 => (0 ≤ a4 ∧ a4 < (a3l : Int)) ∧ ∃ (x8 : Int), cell h6 (a7.add (a4.toNat * 1)) = some (.int .i64 x8) ∧ iteB (decide (x8 < (0 : Int))) (∃ (x9 : Option Addr) (x9l : Nat) (x9c : Nat), cell h6 a5 = some (.slice x9 x9l x9c) ∧ (j24 (decide ((0 : Int) ≤ (x9l : Int))))) ((j24 false)))))
def tree_deepen.ret (K : Bool → Heap → Prop) (v : Value) (h : Heap) : Prop := match v with
  | (.bool r31) => K r31 h
  | _ => False
theorem tree_deepen.ret_elim {K : Bool → Heap → Prop} {K' : Value → Heap → Prop} {v : Value} {h : Heap} (hk : ∀ r31 h, K r31 h → K' (.bool r31) h) (hh : tree_deepen.ret K v h) : K' v h := by
  unfold tree_deepen.ret at hh
  split at hh
  · exact hk _ _ hh
  · exact hh.elim
def tree_deepen.r0 (K : Nat → List Value → Heap → Prop) (m : Nat) (vs : List Value) (h : Heap) : Prop := match vs with
  | [(.slice c1_1001 c1_1002 c1_1003), (.int .i64 v2_1004), (.pointer (some c3_1005)), (.slice v7_1006 v7_1006l v7_1006c)] => tree_deepen.l0 (fun z32 h' => K 0 [(.bool z32)] h') m c1_1001 c1_1002 c1_1003 v2_1004 c3_1005 v7_1006 v7_1006l v7_1006c h
  | _ => False
def tree_deepen.r1 (K : Nat → List Value → Heap → Prop) (m : Nat) (vs : List Value) (h : Heap) : Prop := match vs with
  | [(.slice c1_2001 c1_2002 c1_2003), (.slice c7_2004 c7_2005 c7_2006), (.int .i64 v8_2007), (.int .i64 v9_2008)] => tree_deepen.l1 (fun h' => K 2 [] h') m c1_2001 c1_2002 c1_2003 c7_2004 c7_2005 c7_2006 v8_2007 v9_2008 h
  | _ => False
def tree_deepen.r2 (K : Nat → List Value → Heap → Prop) (m : Nat) (vs : List Value) (h : Heap) : Prop := match vs with
  | [(.slice c1_3001 c1_3002 c1_3003), (.slice none 0 0), (.int .i64 v8_3004), (.int .i64 v9_3005)] => tree_deepen.l2 (fun h' => K 2 [] h') m c1_3001 c1_3002 c1_3003 v8_3004 v9_3005 h
  | _ => False
def tree_deepen.loop (i : Nat) (vs : List Value) (h : Heap) (K : Nat → List Value → Heap → Prop) : Prop := match i with
  | 0 => ∃ m, tree_deepen.r0 K m vs h
  | 1 => ∃ m, tree_deepen.r1 K m vs h
  | 2 => ∃ m, tree_deepen.r2 K m vs h
  | _ => False
noncomputable def tree_deepen.ctx : Ctx := { P := Try.prog, call := fun _ _ _ _ => False, qcall := fun _ _ _ _ => False, quiet := fun f => false, loop := tree_deepen.loop }
theorem tree_deepen.ok : tree_deepen.ctx.OK where
  mixed := by kernel_rfl
  mono := fun hh _ => hh.elim
  call := fun hh => hh.elim
  qmono := fun hh _ => hh.elim
  qval := fun hh => hh.elim
  qcall := fun hh => hh.elim
noncomputable def tree_deepen.code : Code := (Try.f69.body).getD .skip
def tree_deepen.ann : Ann := (.two .auto (.jump 0 0 [1, 2, 3, 7] [(0, [6])] (.two .auto (.two .auto (.two .auto (.two .auto (.two .auto (.two (.two .auto (.two (.loop 2 [1, 7, 8, 9] [(2, [])] .auto) .auto)) .auto)))))) (.two .auto (.two .auto (.two .auto (.two .auto (.two (.two .auto (.two (.loop 1 [1, 7, 8, 9] [(2, [])] .auto) .auto)) .auto)))))))
noncomputable def tree_deepen.c2 : Code := sub tree_deepen.code [1, 0, 1, 1, 1, 1, 1, 0, 1, 0, 0]
def tree_deepen.a2 : Ann := .auto
def tree_deepen.keep2 : List Nat := [1, 7, 8, 9]
def tree_deepen.outs2 : List (Nat × List Nat) := [(2, [])]
noncomputable def tree_deepen.c1 : Code := sub tree_deepen.code [1, 1, 1, 1, 1, 1, 0, 1, 0, 0]
def tree_deepen.a1 : Ann := .auto
def tree_deepen.keep1 : List Nat := [1, 7, 8, 9]
def tree_deepen.outs1 : List (Nat × List Nat) := [(2, [])]
noncomputable def tree_deepen.c0 : Code := sub tree_deepen.code [1, 1]
def tree_deepen.a0 : Ann := (.two .auto (.two .auto (.two .auto (.two .auto (.two (.two .auto (.two (.loop 1 [1, 7, 8, 9] [(2, [])] .auto) .auto)) .auto)))))
def tree_deepen.keep0 : List Nat := [1, 2, 3, 7]
def tree_deepen.outs0 : List (Nat × List Nat) := [(0, [6])]
set_option maxRecDepth 100000 in
theorem tree_deepen.L1 : LoopOK tree_deepen.ctx 57 tree_deepen.c1 1 tree_deepen.keep1 tree_deepen.outs1 := by
  refine loop_ok (n := tree_deepen.a1) tree_deepen.ok (by kernel_rfl) (loops_ok (l := []) (by kernel_rfl) ?_) tree_deepen.r1 ?_ ?_ (fun vs h K hh => hh)
  · exact trivial
  · intro K vs h hh
    unfold tree_deepen.r1 at hh
    split at hh
    · exact hh
    · exact hh
  · intro K m vs h hh
    unfold tree_deepen.r1 at hh
    split at hh
    · exact cast (by kernel_rfl) hh
    · exact hh.elim
set_option maxRecDepth 100000 in
theorem tree_deepen.L0 : JumpOK tree_deepen.ctx 57 tree_deepen.c0 0 0 tree_deepen.keep0 tree_deepen.outs0 := by
  refine jump_ok (n := tree_deepen.a0) tree_deepen.ok (by kernel_rfl) (loops_ok (l := [(tree_deepen.c1, none, 1, tree_deepen.keep1, tree_deepen.outs1)]) (by kernel_rfl) ?_) tree_deepen.r0 ?_ ?_ (fun vs h K hh => hh)
  · exact ⟨tree_deepen.L1, trivial⟩
  · intro K vs h hh
    unfold tree_deepen.r0 at hh
    split at hh
    · exact hh
    · exact hh
  · intro K m vs h hh
    unfold tree_deepen.r0 at hh
    split at hh
    · exact cast (by kernel_rfl) hh
    · exact hh.elim
set_option maxRecDepth 100000 in
theorem tree_deepen.L2 : LoopOK tree_deepen.ctx 57 tree_deepen.c2 2 tree_deepen.keep2 tree_deepen.outs2 := by
  refine loop_ok (n := tree_deepen.a2) tree_deepen.ok (by kernel_rfl) (loops_ok (l := []) (by kernel_rfl) ?_) tree_deepen.r2 ?_ ?_ (fun vs h K hh => hh)
  · exact trivial
  · intro K vs h hh
    unfold tree_deepen.r2 at hh
    split at hh
    · exact hh
    · exact hh
  · intro K m vs h hh
    unfold tree_deepen.r2 at hh
    split at hh
    · exact cast (by kernel_rfl) hh
    · exact hh.elim
set_option maxRecDepth 100000 in
theorem tree_deepen.eq (a1 : Option Addr) (a1l : Nat) (a1c : Nat) (a2 : Option Addr) (a2l : Nat) (a2c : Nat) (a3 : Option Addr) (a3l : Nat) (a3c : Nat) (a4 : Int) (h : Heap) (K : Bool → Heap → Prop) : evF tree_deepen.ctx Try.f69 tree_deepen.ann [(.agg #[(.slice a1 a1l a1c), (.slice a2 a2l a2c)]), (.slice a3 a3l a3c), (.int .i64 a4)] h (tree_deepen.ret K) = tree_deepen a1 a1l a1c a2 a2l a2c a3 a3l a3c a4 h K := by kernel_rfl
set_option maxRecDepth 100000 in
theorem tree_deepen.calls {a1 : Option Addr} {a1l : Nat} {a1c : Nat} {a2 : Option Addr} {a2l : Nat} {a2c : Nat} {a3 : Option Addr} {a3l : Nat} {a3c : Nat} {a4 : Int} {h : Heap} {K : Bool → Heap → Prop} (hh : tree_deepen a1 a1l a1c a2 a2l a2c a3 a3l a3c a4 h K) (w : World) (hw : w.heap = h) :
    (callFunc 69 #[(.agg #[(.slice a1 a1l a1c), (.slice a2 a2l a2c)]), (.slice a3 a3l a3c), (.int .i64 a4)]).run Try.prog w = .ok (.enter 69 #[(.agg #[(.slice a1 a1l a1c), (.slice a2 a2l a2c)]), (.slice a3 a3l a3c), (.int .i64 a4)]) w ∧ Calls Try.prog 69 #[(.agg #[(.slice a1 a1l a1c), (.slice a2 a2l a2c)]), (.slice a3 a3l a3c), (.int .i64 a4)] w fun e w' => ∃ v, e = .returned v ∧ Out w w' ∧ tree_deepen.ret K v w'.heap := by
  rw [← tree_deepen.eq] at hh
  exact fn_calls (args := [(.agg #[(.slice a1 a1l a1c), (.slice a2 a2l a2c)]), (.slice a3 a3l a3c), (.int .i64 a4)]) (c := tree_deepen.code) tree_deepen.ok Try.func69 (by kernel_rfl) (by kernel_rfl) (by kernel_rfl) (by kernel_rfl) (loops_ok (l := [(tree_deepen.c2, none, 2, tree_deepen.keep2, tree_deepen.outs2), (tree_deepen.c0, some 0, 0, tree_deepen.keep0, tree_deepen.outs0)]) (by kernel_rfl) ⟨tree_deepen.L2, tree_deepen.L0, trivial⟩) hh w hw

/-! ### strait/tree.depths: function 47 -/
def tree_depths.b1 (K0 : (Option Addr) → Nat → Nat → Bool → Heap → Prop) (K5 : Heap → Prop) (cont : Addr → Addr → Nat → Nat → Int → Int → Heap → Prop) (c1_2001 : Addr) (c5_2002 : Addr) (c5_2003 : Nat) (c5_2004 : Nat) (c66_2005 : Int) (v67_2006 : Int) (h2007 : Heap) : Prop :=
  (iteB (decide (v67_2006 < c66_2005)) (((∃ (x2008 : Option Addr) (x2008l : Nat) (x2008c : Nat), cell h2007 c1_2001 = some (.slice x2008 x2008l x2008c) ∧ ∃ (x2009 : Option Addr) (x2009l : Nat) (x2009c : Nat), cell h2007 (c1_2001.add 1) = some (.slice x2009 x2009l x2009c) ∧ callP1 (tree_deepen x2008 x2008l x2008c x2009 x2009l x2009c (some c5_2002) c5_2003 c5_2004 v67_2006 h2007) fun x2010 h2011 => (iteB (!x2010) (K0 none 0 0 false h2011) (((cont c1_2001 c5_2002 c5_2003 c5_2004 c66_2005 (IntKind.i64.wrap (v67_2006 + 1)) h2011))))))) (K5 h2007))
def tree_depths.l1 (K0 : (Option Addr) → Nat → Nat → Bool → Heap → Prop) (K5 : Heap → Prop) : Nat → Addr → Addr → Nat → Nat → Int → Int → Heap → Prop
  | 0, _, _, _, _, _, _, _ => False
  | m + 1, c1_2001, c5_2002, c5_2003, c5_2004, c66_2005, v67_2006, h => tree_depths.b1 K0 K5 (tree_depths.l1 K0 K5 m) c1_2001 c5_2002 c5_2003 c5_2004 c66_2005 v67_2006 h
def tree_depths.b0 (K0 : (Option Addr) → Nat → Nat → Bool → Heap → Prop) (K2 : Int → Heap → Prop) (cont : Addr → Int → Addr → Nat → Nat → Int → (Option Addr) → Nat → Nat → Int → Int → Heap → Prop) (c1_1001 : Addr) (c4_1002 : Int) (c5_1003 : Addr) (c5_1004 : Nat) (c5_1005 : Nat) (v6_1006 : Int) (c25_1007 : Option Addr) (c25_1008 : Nat) (c25_1009 : Nat) (c26_1010 : Int) (v27_1011 : Int) (h1012 : Heap) : Prop :=
  (iteB (decide (v27_1011 < c26_1010)) ((chkP c25_1007 fun a1013 => (0 ≤ v27_1011 ∧ v27_1011 < (c25_1008 : Int)) ∧ ∃ (x1014 : Int), cell h1012 (a1013.add (v27_1011.toNat * 1)) = some (.int .i64 x1014) ∧ ((0 ≤ v27_1011 ∧ v27_1011 < (c5_1004 : Int)) ∧ stC h1012 (c5_1003.add (v27_1011.toNat * 1)) (.int .i64 (-1)) fun h1015 => (let j1024 := (fun (y1019 : Bool) => iteB y1019 (K0 none 0 0 false h1015) ((iteB (x1014 == ((-1) : Int)) (((0 ≤ v27_1011 ∧ v27_1011 < (c5_1004 : Int)) ∧ stC h1015 (c5_1003.add (v27_1011.toNat * 1)) (.int .i64 0) fun h1020 => (∃ (x1021 : Option Addr) (x1021l : Nat) (x1021c : Nat), cell h1020 (c1_1001.add 1) = some (.slice x1021 x1021l x1021c) ∧ chkP x1021 fun a1022 => (0 ≤ v27_1011 ∧ v27_1011 < (x1021l : Int)) ∧ ∃ (x1023 : Int), cell h1020 (a1022.add (v27_1011.toNat * 1)) = some (.int .i64 x1023) ∧ (iteB (x1023 != (0 : Int)) (K0 none 0 0 false h1020) ((((cont c1_1001 c4_1002 c5_1003 c5_1004 c5_1005 (IntKind.i64.wrap (v6_1006 + 1)) c25_1007 c25_1008 c25_1009 c26_1010 (IntKind.i64.wrap (v27_1011 + 1)) h1020)))))))) ((((cont c1_1001 c4_1002 c5_1003 c5_1004 c5_1005 v6_1006 c25_1007 c25_1008 c25_1009 c26_1010 (IntKind.i64.wrap (v27_1011 + 1)) h1015)))))));
  (iteB (decide (x1014 < ((-1) : Int))) ((j1024 (decide (x1014 < ((-1) : Int))))) ((iteB (decide (x1014 ≥ c4_1002)) ((j1024 (decide (x1014 ≥ c4_1002)))) (∃ (x1016 : Option Addr) (x1016l : Nat) (x1016c : Nat), cell h1015 (c1_1001.add 1) = some (.slice x1016 x1016l x1016c) ∧ chkP x1016 fun a1017 => (0 ≤ v27_1011 ∧ v27_1011 < (x1016l : Int)) ∧ ∃ (x1018 : Int), cell h1015 (a1017.add (v27_1011.toNat * 1)) = some (.int .i64 x1018) ∧ (j1024 (decide (x1018 < (0 : Int)))))))))))) (K2 v6_1006 h1012))
def tree_depths.l0 (K0 : (Option Addr) → Nat → Nat → Bool → Heap → Prop) (K2 : Int → Heap → Prop) : Nat → Addr → Int → Addr → Nat → Nat → Int → (Option Addr) → Nat → Nat → Int → Int → Heap → Prop
  | 0, _, _, _, _, _, _, _, _, _, _, _, _ => False
  | m + 1, c1_1001, c4_1002, c5_1003, c5_1004, c5_1005, v6_1006, c25_1007, c25_1008, c25_1009, c26_1010, v27_1011, h => tree_depths.b0 K0 K2 (tree_depths.l0 K0 K2 m) c1_1001 c4_1002 c5_1003 c5_1004 c5_1005 v6_1006 c25_1007 c25_1008 c25_1009 c26_1010 v27_1011 h
def tree_depths (a1 : Option Addr) (a1l : Nat) (a1c : Nat) (a2 : Option Addr) (a2l : Nat) (a2c : Nat) (h : Heap) (K : (Option Addr) → Nat → Nat → Bool → Heap → Prop) : Prop :=
  newP h (.cells #[(.slice a1 a1l a1c), (.slice a2 a2l a2c)] 25) fun a3 h4 => (∃ (x5 : Option Addr) (x5l : Nat) (x5c : Nat), cell h4 a3 = some (.slice x5 x5l x5c) ∧ (let j22 : Prop := ((0 ≤ (x5l : Int) ∧ (x5l : Int) ≤ (x5l : Int) ∧ (x5l : Int) * (8 : Nat) ≤ 2 ^ 47 ∧ (x5l : Int) ≤ 2 ^ 47) ∧ newP h4 (.cells (zeroRow [(.int .i64 0)] (x5l : Int).toNat).toArray 3) fun a8 h9 => ((∃ (x10 : Option Addr) (x10l : Nat) (x10c : Nat), cell h9 a3 = some (.slice x10 x10l x10c) ∧ (∃ m16, tree_depths.l0 (fun z11 z11l z11c z12 h13 => K z11 z11l z11c z12 h13) (fun z14 h15 => (((iteB (z14 != (if 1 < (x5l : Int) then 1 else (x5l : Int))) (K none 0 0 false h15) (((∃ m21, tree_depths.l1 (fun z17 z17l z17c z18 h19 => K z17 z17l z17c z18 h19) (fun h20 => (((K (some a8) ((x5l : Int).toNat) ((x5l : Int).toNat) true h20)))) m21 a3 a8 ((x5l : Int).toNat) ((x5l : Int).toNat) (x5l : Int) 0 h15))))))) m16 a3 (x5l : Int) a8 ((x5l : Int).toNat) ((x5l : Int).toNat) 0 x10 x10l x10c (x10l : Int) 0 h9))));
  ∃ (x6 : Option Addr) (x6l : Nat) (x6c : Nat), cell h4 (a3.add 1) = some (.slice x6 x6l x6c) ∧ iteB ((x6l : Int) != (x5l : Int)) (K none 0 0 false h4) ((iteB (decide ((x5l : Int) > (4096 : Int))) (K none 0 0 false h4) ((j22))))))
def tree_depths.ret (K : (Option Addr) → Nat → Nat → Bool → Heap → Prop) (v : Value) (h : Heap) : Prop := match v with
  | (.tuple ⟨[(.slice r23 r23l r23c), (.bool r24)]⟩) => K r23 r23l r23c r24 h
  | _ => False
theorem tree_depths.ret_elim {K : (Option Addr) → Nat → Nat → Bool → Heap → Prop} {K' : Value → Heap → Prop} {v : Value} {h : Heap} (hk : ∀ r23 r23l r23c r24 h, K r23 r23l r23c r24 h → K' (.tuple #[(.slice r23 r23l r23c), (.bool r24)]) h) (hh : tree_depths.ret K v h) : K' v h := by
  unfold tree_depths.ret at hh
  split at hh
  · exact hk _ _ _ _ _ hh
  · exact hh.elim
def tree_depths.call (f : FuncId) (vs : List Value) (h : Heap) (K : Value → Heap → Prop) : Prop := match f, vs with
  | 69, [(.agg ⟨[(.slice a1 a1l a1c), (.slice a2 a2l a2c)]⟩), (.slice a3 a3l a3c), (.int .i64 a4)] => callP1 (tree_deepen a1 a1l a1c a2 a2l a2c a3 a3l a3c a4 h) fun r31 h' => K (.bool r31) h'
  | _, _ => False
def tree_depths.r0 (K : Nat → List Value → Heap → Prop) (m : Nat) (vs : List Value) (h : Heap) : Prop := match vs with
  | [(.pointer (some c1_1001)), (.int .i64 c4_1002), (.slice (some c5_1003) c5_1004 c5_1005), (.int .i64 v6_1006), (.slice c25_1007 c25_1008 c25_1009), (.int .i64 c26_1010), (.int .i64 v27_1011)] => tree_depths.l0 (fun z25 z25l z25c z26 h' => K 0 [(.slice z25 z25l z25c), (.bool z26)] h') (fun z27 h' => K 2 [(.pointer (some c1_1001)), (.int .i64 c4_1002), (.slice (some c5_1003) c5_1004 c5_1005), (.int .i64 z27)] h') m c1_1001 c4_1002 c5_1003 c5_1004 c5_1005 v6_1006 c25_1007 c25_1008 c25_1009 c26_1010 v27_1011 h
  | _ => False
def tree_depths.r1 (K : Nat → List Value → Heap → Prop) (m : Nat) (vs : List Value) (h : Heap) : Prop := match vs with
  | [(.pointer (some c1_2001)), (.slice (some c5_2002) c5_2003 c5_2004), (.int .i64 c66_2005), (.int .i64 v67_2006)] => tree_depths.l1 (fun z28 z28l z28c z29 h' => K 0 [(.slice z28 z28l z28c), (.bool z29)] h') (fun h' => K 5 [(.slice (some c5_2002) c5_2003 c5_2004)] h') m c1_2001 c5_2002 c5_2003 c5_2004 c66_2005 v67_2006 h
  | _ => False
def tree_depths.loop (i : Nat) (vs : List Value) (h : Heap) (K : Nat → List Value → Heap → Prop) : Prop := match i with
  | 0 => ∃ m, tree_depths.r0 K m vs h
  | 1 => ∃ m, tree_depths.r1 K m vs h
  | _ => False
noncomputable def tree_depths.ctx : Ctx := { P := Try.prog, call := tree_depths.call, qcall := fun _ _ _ _ => False, quiet := fun f => false, loop := tree_depths.loop }
theorem tree_depths.ok : tree_depths.ctx.OK where
  mixed := by kernel_rfl
  mono := by
    intro f args h K K' hh hk
    change tree_depths.call f args h K at hh
    change tree_depths.call f args h K'
    unfold tree_depths.call at hh ⊢
    split at hh
    · obtain ⟨R, h1, h2⟩ := hh
      exact ⟨R, h1, fun _ x hr => hk _ _ (h2 _ x hr)⟩
    · exact hh.elim
  call := by
    intro f args h K hh w hw
    change tree_depths.call f args h K at hh
    unfold tree_depths.call at hh
    split at hh
    · obtain ⟨R, h1, h2⟩ := hh
      obtain ⟨g1, g2⟩ := tree_deepen.calls h1 w hw
      exact ⟨g1, g2.mono fun e w' ⟨v, he, ho, hr⟩ => ⟨v, he, ho, tree_deepen.ret_elim h2 hr⟩⟩
    · exact hh.elim
  qmono := fun hh _ => hh.elim
  qval := fun hh => hh.elim
  qcall := fun hh => hh.elim
noncomputable def tree_depths.code : Code := (Try.f47.body).getD .skip
def tree_depths.ann : Ann := (.two .auto (.two .auto (.two .auto (.two .auto (.two .auto (.two (.two .auto (.two (.loop 0 [1, 4, 5, 6, 25, 26, 27] [(2, [1, 4, 5, 6]), (0, [2, 3])] .auto) .auto)) (.two .auto (.two (.two .auto (.two (.loop 1 [1, 5, 66, 67] [(5, [5]), (0, [2, 3])] .auto) .auto)) .auto))))))))
noncomputable def tree_depths.c1 : Code := sub tree_depths.code [1, 1, 1, 1, 1, 1, 1, 0, 1, 0, 0]
def tree_depths.a1 : Ann := .auto
def tree_depths.keep1 : List Nat := [1, 5, 66, 67]
def tree_depths.outs1 : List (Nat × List Nat) := [(5, [5]), (0, [2, 3])]
noncomputable def tree_depths.c0 : Code := sub tree_depths.code [1, 1, 1, 1, 1, 0, 1, 0, 0]
def tree_depths.a0 : Ann := .auto
def tree_depths.keep0 : List Nat := [1, 4, 5, 6, 25, 26, 27]
def tree_depths.outs0 : List (Nat × List Nat) := [(2, [1, 4, 5, 6]), (0, [2, 3])]
set_option maxRecDepth 100000 in
theorem tree_depths.L0 : LoopOK tree_depths.ctx 77 tree_depths.c0 0 tree_depths.keep0 tree_depths.outs0 := by
  refine loop_ok (n := tree_depths.a0) tree_depths.ok (by kernel_rfl) (loops_ok (l := []) (by kernel_rfl) ?_) tree_depths.r0 ?_ ?_ (fun vs h K hh => hh)
  · exact trivial
  · intro K vs h hh
    unfold tree_depths.r0 at hh
    split at hh
    · exact hh
    · exact hh
  · intro K m vs h hh
    unfold tree_depths.r0 at hh
    split at hh
    · exact cast (by kernel_rfl) hh
    · exact hh.elim
set_option maxRecDepth 100000 in
theorem tree_depths.L1 : LoopOK tree_depths.ctx 77 tree_depths.c1 1 tree_depths.keep1 tree_depths.outs1 := by
  refine loop_ok (n := tree_depths.a1) tree_depths.ok (by kernel_rfl) (loops_ok (l := []) (by kernel_rfl) ?_) tree_depths.r1 ?_ ?_ (fun vs h K hh => hh)
  · exact trivial
  · intro K vs h hh
    unfold tree_depths.r1 at hh
    split at hh
    · exact hh
    · exact hh
  · intro K m vs h hh
    unfold tree_depths.r1 at hh
    split at hh
    · exact cast (by kernel_rfl) hh
    · exact hh.elim
set_option maxRecDepth 100000 in
theorem tree_depths.eq (a1 : Option Addr) (a1l : Nat) (a1c : Nat) (a2 : Option Addr) (a2l : Nat) (a2c : Nat) (h : Heap) (K : (Option Addr) → Nat → Nat → Bool → Heap → Prop) : evF tree_depths.ctx Try.f47 tree_depths.ann [(.agg #[(.slice a1 a1l a1c), (.slice a2 a2l a2c)])] h (tree_depths.ret K) = tree_depths a1 a1l a1c a2 a2l a2c h K := by kernel_rfl
set_option maxRecDepth 100000 in
theorem tree_depths.calls {a1 : Option Addr} {a1l : Nat} {a1c : Nat} {a2 : Option Addr} {a2l : Nat} {a2c : Nat} {h : Heap} {K : (Option Addr) → Nat → Nat → Bool → Heap → Prop} (hh : tree_depths a1 a1l a1c a2 a2l a2c h K) (w : World) (hw : w.heap = h) :
    (callFunc 47 #[(.agg #[(.slice a1 a1l a1c), (.slice a2 a2l a2c)])]).run Try.prog w = .ok (.enter 47 #[(.agg #[(.slice a1 a1l a1c), (.slice a2 a2l a2c)])]) w ∧ Calls Try.prog 47 #[(.agg #[(.slice a1 a1l a1c), (.slice a2 a2l a2c)])] w fun e w' => ∃ v, e = .returned v ∧ Out w w' ∧ tree_depths.ret K v w'.heap := by
  rw [← tree_depths.eq] at hh
  exact fn_calls (args := [(.agg #[(.slice a1 a1l a1c), (.slice a2 a2l a2c)])]) (c := tree_depths.code) tree_depths.ok Try.func47 (by kernel_rfl) (by kernel_rfl) (by kernel_rfl) (by kernel_rfl) (loops_ok (l := [(tree_depths.c0, none, 0, tree_depths.keep0, tree_depths.outs0), (tree_depths.c1, none, 1, tree_depths.keep1, tree_depths.outs1)]) (by kernel_rfl) ⟨tree_depths.L0, tree_depths.L1, trivial⟩) hh w hw

/-! ### slices.Reverse[[]int,int]: function 55 -/
def slices_Reverse_Lint_int.b0 (K2 : Heap → Prop) (cont : (Option Addr) → Nat → Nat → Int → Int → Heap → Prop) (c0_1001 : Option Addr) (c0_1002 : Nat) (c0_1003 : Nat) (v2_1004 : Int) (v3_1005 : Int) (h1006 : Heap) : Prop :=
  (iteB (decide (v2_1004 < v3_1005)) ((chkP c0_1001 fun a1007 => (0 ≤ v3_1005 ∧ v3_1005 < (c0_1002 : Int)) ∧ ∃ (x1008 : Int), cell h1006 (a1007.add (v3_1005.toNat * 1)) = some (.int .i64 x1008) ∧ chkP c0_1001 fun a1009 => (0 ≤ v2_1004 ∧ v2_1004 < (c0_1002 : Int)) ∧ ∃ (x1010 : Int), cell h1006 (a1009.add (v2_1004.toNat * 1)) = some (.int .i64 x1010) ∧ chkP c0_1001 fun a1011 => (0 ≤ v2_1004 ∧ v2_1004 < (c0_1002 : Int)) ∧ stC h1006 (a1011.add (v2_1004.toNat * 1)) (.int .i64 x1008) fun h1012 => chkP c0_1001 fun a1013 => (0 ≤ v3_1005 ∧ v3_1005 < (c0_1002 : Int)) ∧ stC h1012 (a1013.add (v3_1005.toNat * 1)) (.int .i64 x1010) fun h1014 => ((cont c0_1001 c0_1002 c0_1003 (IntKind.i64.wrap (v2_1004 + 1)) (IntKind.i64.wrap (v3_1005 - 1)) h1014)))) (K2 h1006))
def slices_Reverse_Lint_int.l0 (K2 : Heap → Prop) : Nat → (Option Addr) → Nat → Nat → Int → Int → Heap → Prop
  | 0, _, _, _, _, _, _ => False
  | m + 1, c0_1001, c0_1002, c0_1003, v2_1004, v3_1005, h => slices_Reverse_Lint_int.b0 K2 (slices_Reverse_Lint_int.l0 K2 m) c0_1001 c0_1002 c0_1003 v2_1004 v3_1005 h
def slices_Reverse_Lint_int (a1 : Option Addr) (a1l : Nat) (a1c : Nat) (h : Heap) (K : Heap → Prop) : Prop :=
  (∃ m3, slices_Reverse_Lint_int.l0 (fun h2 => K h2) m3 a1 a1l a1c 0 (IntKind.i64.wrap ((a1l : Int) - 1)) h)
def slices_Reverse_Lint_int.ret (K : Heap → Prop) (v : Value) (h : Heap) : Prop := match v with
  | (.tuple ⟨[]⟩) => K h
  | _ => False
theorem slices_Reverse_Lint_int.ret_elim {K : Heap → Prop} {K' : Value → Heap → Prop} {v : Value} {h : Heap} (hk : ∀  h, K h → K' (.tuple #[]) h) (hh : slices_Reverse_Lint_int.ret K v h) : K' v h := by
  unfold slices_Reverse_Lint_int.ret at hh
  split at hh
  · exact hk _ hh
  · exact hh.elim
def slices_Reverse_Lint_int.r0 (K : Nat → List Value → Heap → Prop) (m : Nat) (vs : List Value) (h : Heap) : Prop := match vs with
  | [(.slice c0_1001 c0_1002 c0_1003), (.int .i64 v2_1004), (.int .i64 v3_1005)] => slices_Reverse_Lint_int.l0 (fun h' => K 2 [] h') m c0_1001 c0_1002 c0_1003 v2_1004 v3_1005 h
  | _ => False
def slices_Reverse_Lint_int.loop (i : Nat) (vs : List Value) (h : Heap) (K : Nat → List Value → Heap → Prop) : Prop := match i with
  | 0 => ∃ m, slices_Reverse_Lint_int.r0 K m vs h
  | _ => False
noncomputable def slices_Reverse_Lint_int.ctx : Ctx := { P := Try.prog, call := fun _ _ _ _ => False, qcall := fun _ _ _ _ => False, quiet := fun f => false, loop := slices_Reverse_Lint_int.loop }
theorem slices_Reverse_Lint_int.ok : slices_Reverse_Lint_int.ctx.OK where
  mixed := by kernel_rfl
  mono := fun hh _ => hh.elim
  call := fun hh => hh.elim
  qmono := fun hh _ => hh.elim
  qval := fun hh => hh.elim
  qcall := fun hh => hh.elim
noncomputable def slices_Reverse_Lint_int.code : Code := (Try.f55.body).getD .skip
def slices_Reverse_Lint_int.ann : Ann := (.two .auto (.two (.loop 0 [0, 2, 3] [(2, [])] (.two .auto (.two (.two (.reg [0, 0, 0, 0, 0, 0, 48, 112, 0, 0, 768, 1792, 4083, 8179, 16383, 32767] (.take 0 (.take 1 (.take 2 (.take 3 (.take 4 (.take 5 (.take 6 (.take 7 (.take 8 (.take 9 (.take 10 (.take 11 (.take 12 (.alt 13 (.take 14 (.alt 15 .done .noalt)) .noalt))))))))))))))) .auto) .auto))) .auto))
noncomputable def slices_Reverse_Lint_int.c0 : Code := sub slices_Reverse_Lint_int.code [1, 0, 0]
def slices_Reverse_Lint_int.a0 : Ann := (.two .auto (.two (.two (.reg [0, 0, 0, 0, 0, 0, 48, 112, 0, 0, 768, 1792, 4083, 8179, 16383, 32767] (.take 0 (.take 1 (.take 2 (.take 3 (.take 4 (.take 5 (.take 6 (.take 7 (.take 8 (.take 9 (.take 10 (.take 11 (.take 12 (.alt 13 (.take 14 (.alt 15 .done .noalt)) .noalt))))))))))))))) .auto) .auto))
def slices_Reverse_Lint_int.keep0 : List Nat := [0, 2, 3]
def slices_Reverse_Lint_int.outs0 : List (Nat × List Nat) := [(2, [])]
set_option maxRecDepth 100000 in
theorem slices_Reverse_Lint_int.L0 : LoopOK slices_Reverse_Lint_int.ctx 28 slices_Reverse_Lint_int.c0 0 slices_Reverse_Lint_int.keep0 slices_Reverse_Lint_int.outs0 := by
  refine loop_ok (n := slices_Reverse_Lint_int.a0) slices_Reverse_Lint_int.ok (by kernel_rfl) (loops_ok (l := []) (by kernel_rfl) ?_) slices_Reverse_Lint_int.r0 ?_ ?_ (fun vs h K hh => hh)
  · exact trivial
  · intro K vs h hh
    unfold slices_Reverse_Lint_int.r0 at hh
    split at hh
    · exact hh
    · exact hh
  · intro K m vs h hh
    unfold slices_Reverse_Lint_int.r0 at hh
    split at hh
    · exact cast (by kernel_rfl) hh
    · exact hh.elim
set_option maxRecDepth 100000 in
theorem slices_Reverse_Lint_int.eq (a1 : Option Addr) (a1l : Nat) (a1c : Nat) (h : Heap) (K : Heap → Prop) : evF slices_Reverse_Lint_int.ctx Try.f55 slices_Reverse_Lint_int.ann [(.slice a1 a1l a1c)] h (slices_Reverse_Lint_int.ret K) = slices_Reverse_Lint_int a1 a1l a1c h K := by kernel_rfl
set_option maxRecDepth 100000 in
theorem slices_Reverse_Lint_int.calls {a1 : Option Addr} {a1l : Nat} {a1c : Nat} {h : Heap} {K : Heap → Prop} (hh : slices_Reverse_Lint_int a1 a1l a1c h K) (w : World) (hw : w.heap = h) :
    (callFunc 55 #[(.slice a1 a1l a1c)]).run Try.prog w = .ok (.enter 55 #[(.slice a1 a1l a1c)]) w ∧ Calls Try.prog 55 #[(.slice a1 a1l a1c)] w fun e w' => ∃ v, e = .returned v ∧ Out w w' ∧ slices_Reverse_Lint_int.ret K v w'.heap := by
  rw [← slices_Reverse_Lint_int.eq] at hh
  exact fn_calls (args := [(.slice a1 a1l a1c)]) (c := slices_Reverse_Lint_int.code) slices_Reverse_Lint_int.ok Try.func55 (by kernel_rfl) (by kernel_rfl) (by kernel_rfl) (by kernel_rfl) (loops_ok (l := [(slices_Reverse_Lint_int.c0, none, 0, slices_Reverse_Lint_int.keep0, slices_Reverse_Lint_int.outs0)]) (by kernel_rfl) ⟨slices_Reverse_Lint_int.L0, trivial⟩) hh w hw

/-! ### strait/tree.Path: function 26 -/
def tree_Path.b0 (K2 : Int → (Option Addr) → Nat → Nat → (Option Addr) → Nat → Nat → Heap → Prop) (cont : Int → Int → Addr → (Option Addr) → Nat → Nat → (Option Addr) → Nat → Nat → (Option Addr) → Nat → Nat → Heap → Prop) (v1_1001 : Int) (v2_1002 : Int) (c3_1003 : Addr) (c7_1004 : Option Addr) (c7_1005 : Nat) (c7_1006 : Nat) (v9_1007 : Option Addr) (v9_1007l : Nat) (v9_1007c : Nat) (v10_1008 : Option Addr) (v10_1008l : Nat) (v10_1008c : Nat) (h1009 : Heap) : Prop :=
  (iteB (v1_1001 == v2_1002) (K2 v1_1001 v9_1007 v9_1007l v9_1007c v10_1008 v10_1008l v10_1008c h1009) (chkP c7_1004 fun a1010 => (0 ≤ v1_1001 ∧ v1_1001 < (c7_1005 : Int)) ∧ ∃ (x1011 : Int), cell h1009 (a1010.add (v1_1001.toNat * 1)) = some (.int .i64 x1011) ∧ chkP c7_1004 fun a1012 => (0 ≤ v2_1002 ∧ v2_1002 < (c7_1005 : Int)) ∧ ∃ (x1013 : Int), cell h1009 (a1012.add (v2_1002.toNat * 1)) = some (.int .i64 x1013) ∧ (iteB (decide (x1011 ≥ x1013)) (newP h1009 (.cells #[(.int .i64 v1_1001)] 3) fun a1014 h1015 => ∃ n1020, cellsAt h1015 (some a1014) (1 * 1) n1020 ∧ appP 3 1 8 [(.int .i64 0)] v9_1007 v9_1007l v9_1007c 1 n1020 h1015 fun q1016 l1017 c1018 h1019 => (∃ (x1021 : Option Addr) (x1021l : Nat) (x1021c : Nat), cell h1019 c3_1003 = some (.slice x1021 x1021l x1021c) ∧ chkP x1021 fun a1022 => (0 ≤ v1_1001 ∧ v1_1001 < (x1021l : Int)) ∧ ∃ (x1023 : Int), cell h1019 (a1022.add (v1_1001.toNat * 1)) = some (.int .i64 x1023) ∧ (cont x1023 v2_1002 c3_1003 c7_1004 c7_1005 c7_1006 q1016 l1017 c1018 v10_1008 v10_1008l v10_1008c h1019))) (newP h1009 (.cells #[(.int .i64 v2_1002)] 3) fun a1024 h1025 => ∃ n1030, cellsAt h1025 (some a1024) (1 * 1) n1030 ∧ appP 3 1 8 [(.int .i64 0)] v10_1008 v10_1008l v10_1008c 1 n1030 h1025 fun q1026 l1027 c1028 h1029 => (∃ (x1031 : Option Addr) (x1031l : Nat) (x1031c : Nat), cell h1029 c3_1003 = some (.slice x1031 x1031l x1031c) ∧ chkP x1031 fun a1032 => (0 ≤ v2_1002 ∧ v2_1002 < (x1031l : Int)) ∧ ∃ (x1033 : Int), cell h1029 (a1032.add (v2_1002.toNat * 1)) = some (.int .i64 x1033) ∧ (cont v1_1001 x1033 c3_1003 c7_1004 c7_1005 c7_1006 v9_1007 v9_1007l v9_1007c q1026 l1027 c1028 h1029))))))
def tree_Path.l0 (K2 : Int → (Option Addr) → Nat → Nat → (Option Addr) → Nat → Nat → Heap → Prop) : Nat → Int → Int → Addr → (Option Addr) → Nat → Nat → (Option Addr) → Nat → Nat → (Option Addr) → Nat → Nat → Heap → Prop
  | 0, _, _, _, _, _, _, _, _, _, _, _, _, _ => False
  | m + 1, v1_1001, v2_1002, c3_1003, c7_1004, c7_1005, c7_1006, v9_1007, v9_1007l, v9_1007c, v10_1008, v10_1008l, v10_1008c, h => tree_Path.b0 K2 (tree_Path.l0 K2 m) v1_1001 v2_1002 c3_1003 c7_1004 c7_1005 c7_1006 v9_1007 v9_1007l v9_1007c v10_1008 v10_1008l v10_1008c h
def tree_Path (a1 : Option Addr) (a1l : Nat) (a1c : Nat) (a2 : Option Addr) (a2l : Nat) (a2c : Nat) (a3 : Int) (a4 : Int) (h : Heap) (K : (Option Addr) → Nat → Nat → Heap → Prop) : Prop :=
  newP h (.cells #[(.slice a1 a1l a1c), (.slice a2 a2l a2c)] 25) fun a5 h6 => (∃ (x7 : Option Addr) (x7l : Nat) (x7c : Nat), cell h6 a5 = some (.slice x7 x7l x7c) ∧ ∃ (x8 : Option Addr) (x8l : Nat) (x8c : Nat), cell h6 (a5.add 1) = some (.slice x8 x8l x8c) ∧ callP4 (tree_depths x7 x7l x7c x8 x8l x8c h6) fun x9 x9l x9c x10 h11 => (let j31 : Prop := (((∃ m17, tree_Path.l0 (fun z13 z14 z14l z14c z15 z15l z15c h16 => ((callP0 (slices_Reverse_Lint_int z15 z15l z15c h16) fun h18 => (newP h18 (.cells #[(.int .i64 z13)] 3) fun a19 h20 => ∃ n25, cellsAt h20 (some a19) (1 * 1) n25 ∧ appP 3 1 8 [(.int .i64 0)] z14 z14l z14c 1 n25 h20 fun q21 l22 c23 h24 => ∃ n30, cellsAt h24 z15 (z15l * 1) n30 ∧ appP 3 1 8 [(.int .i64 0)] q21 l22 c23 z15l n30 h24 fun q26 l27 c28 h29 => K q26 l27 c28 h29)))) m17 a3 a4 a5 x9 x9l x9c none 0 0 none 0 0 h11)));
  iteB (!x10) (K none 0 0 h11) (iteB (decide (a3 < (0 : Int))) (K none 0 0 h11) (iteB (decide (a4 < (0 : Int))) (K none 0 0 h11) (iteB (decide (a3 ≥ (x9l : Int))) (K none 0 0 h11) ((iteB (decide (a4 ≥ (x9l : Int))) (K none 0 0 h11) ((j31)))))))))
def tree_Path.ret (K : (Option Addr) → Nat → Nat → Heap → Prop) (v : Value) (h : Heap) : Prop := match v with
  | (.slice r32 r32l r32c) => K r32 r32l r32c h
  | _ => False
theorem tree_Path.ret_elim {K : (Option Addr) → Nat → Nat → Heap → Prop} {K' : Value → Heap → Prop} {v : Value} {h : Heap} (hk : ∀ r32 r32l r32c h, K r32 r32l r32c h → K' (.slice r32 r32l r32c) h) (hh : tree_Path.ret K v h) : K' v h := by
  unfold tree_Path.ret at hh
  split at hh
  · exact hk _ _ _ _ hh
  · exact hh.elim
def tree_Path.call (f : FuncId) (vs : List Value) (h : Heap) (K : Value → Heap → Prop) : Prop := match f, vs with
  | 47, [(.agg ⟨[(.slice a1 a1l a1c), (.slice a2 a2l a2c)]⟩)] => callP4 (tree_depths a1 a1l a1c a2 a2l a2c h) fun r23 r23l r23c r24 h' => K (.tuple #[(.slice r23 r23l r23c), (.bool r24)]) h'
  | 55, [(.slice a1 a1l a1c)] => callP0 (slices_Reverse_Lint_int a1 a1l a1c h) fun h' => K (.tuple #[]) h'
  | _, _ => False
def tree_Path.r0 (K : Nat → List Value → Heap → Prop) (m : Nat) (vs : List Value) (h : Heap) : Prop := match vs with
  | [(.int .i64 v1_1001), (.int .i64 v2_1002), (.pointer (some c3_1003)), (.slice c7_1004 c7_1005 c7_1006), (.slice v9_1007 v9_1007l v9_1007c), (.slice v10_1008 v10_1008l v10_1008c)] => tree_Path.l0 (fun z33 z34 z34l z34c z35 z35l z35c h' => K 2 [(.int .i64 z33), (.slice z34 z34l z34c), (.slice z35 z35l z35c)] h') m v1_1001 v2_1002 c3_1003 c7_1004 c7_1005 c7_1006 v9_1007 v9_1007l v9_1007c v10_1008 v10_1008l v10_1008c h
  | _ => False
def tree_Path.loop (i : Nat) (vs : List Value) (h : Heap) (K : Nat → List Value → Heap → Prop) : Prop := match i with
  | 0 => ∃ m, tree_Path.r0 K m vs h
  | _ => False
noncomputable def tree_Path.ctx : Ctx := { P := Try.prog, call := tree_Path.call, qcall := fun _ _ _ _ => False, quiet := fun f => false, loop := tree_Path.loop }
theorem tree_Path.ok : tree_Path.ctx.OK where
  mixed := by kernel_rfl
  mono := by
    intro f args h K K' hh hk
    change tree_Path.call f args h K at hh
    change tree_Path.call f args h K'
    unfold tree_Path.call at hh ⊢
    split at hh
    · obtain ⟨R, h1, h2⟩ := hh
      exact ⟨R, h1, fun _ _ _ _ x hr => hk _ _ (h2 _ _ _ _ x hr)⟩
    · obtain ⟨R, h1, h2⟩ := hh
      exact ⟨R, h1, fun x hr => hk _ _ (h2 x hr)⟩
    · exact hh.elim
  call := by
    intro f args h K hh w hw
    change tree_Path.call f args h K at hh
    unfold tree_Path.call at hh
    split at hh
    · obtain ⟨R, h1, h2⟩ := hh
      obtain ⟨g1, g2⟩ := tree_depths.calls h1 w hw
      exact ⟨g1, g2.mono fun e w' ⟨v, he, ho, hr⟩ => ⟨v, he, ho, tree_depths.ret_elim h2 hr⟩⟩
    · obtain ⟨R, h1, h2⟩ := hh
      obtain ⟨g1, g2⟩ := slices_Reverse_Lint_int.calls h1 w hw
      exact ⟨g1, g2.mono fun e w' ⟨v, he, ho, hr⟩ => ⟨v, he, ho, slices_Reverse_Lint_int.ret_elim h2 hr⟩⟩
    · exact hh.elim
  qmono := fun hh _ => hh.elim
  qval := fun hh => hh.elim
  qcall := fun hh => hh.elim
noncomputable def tree_Path.code : Code := (Try.f26.body).getD .skip
def tree_Path.ann : Ann := (.two .auto (.two (.two .auto (.two .auto (.two .auto (.two .auto (.two (.two (.loop 0 [1, 2, 3, 7, 9, 10] [(2, [1, 9, 10])] (.two (.two (.two .auto (.two .auto (.two (.reg [0, 0, 3, 7, 0, 0, 48, 112, 255, 511] (.take 0 (.take 1 (.take 2 (.take 3 (.take 4 (.take 5 (.take 6 (.take 7 (.take 8 (.take 9 .done))))))))))) .auto))) .auto) .auto)) .auto) .auto))))) .auto))
noncomputable def tree_Path.c0 : Code := sub tree_Path.code [1, 0, 1, 1, 1, 1, 0, 0, 0]
def tree_Path.a0 : Ann := (.two (.two (.two .auto (.two .auto (.two (.reg [0, 0, 3, 7, 0, 0, 48, 112, 255, 511] (.take 0 (.take 1 (.take 2 (.take 3 (.take 4 (.take 5 (.take 6 (.take 7 (.take 8 (.take 9 .done))))))))))) .auto))) .auto) .auto)
def tree_Path.keep0 : List Nat := [1, 2, 3, 7, 9, 10]
def tree_Path.outs0 : List (Nat × List Nat) := [(2, [1, 9, 10])]
set_option maxRecDepth 100000 in
theorem tree_Path.L0 : LoopOK tree_Path.ctx 78 tree_Path.c0 0 tree_Path.keep0 tree_Path.outs0 := by
  refine loop_ok (n := tree_Path.a0) tree_Path.ok (by kernel_rfl) (loops_ok (l := []) (by kernel_rfl) ?_) tree_Path.r0 ?_ ?_ (fun vs h K hh => hh)
  · exact trivial
  · intro K vs h hh
    unfold tree_Path.r0 at hh
    split at hh
    · exact hh
    · exact hh
  · intro K m vs h hh
    unfold tree_Path.r0 at hh
    split at hh
    · exact cast (by kernel_rfl) hh
    · exact hh.elim
set_option maxRecDepth 100000 in
theorem tree_Path.eq (a1 : Option Addr) (a1l : Nat) (a1c : Nat) (a2 : Option Addr) (a2l : Nat) (a2c : Nat) (a3 : Int) (a4 : Int) (h : Heap) (K : (Option Addr) → Nat → Nat → Heap → Prop) : evF tree_Path.ctx Try.f26 tree_Path.ann [(.agg #[(.slice a1 a1l a1c), (.slice a2 a2l a2c)]), (.int .i64 a3), (.int .i64 a4)] h (tree_Path.ret K) = tree_Path a1 a1l a1c a2 a2l a2c a3 a4 h K := by kernel_rfl
set_option maxRecDepth 100000 in
theorem tree_Path.calls {a1 : Option Addr} {a1l : Nat} {a1c : Nat} {a2 : Option Addr} {a2l : Nat} {a2c : Nat} {a3 : Int} {a4 : Int} {h : Heap} {K : (Option Addr) → Nat → Nat → Heap → Prop} (hh : tree_Path a1 a1l a1c a2 a2l a2c a3 a4 h K) (w : World) (hw : w.heap = h) :
    (callFunc 26 #[(.agg #[(.slice a1 a1l a1c), (.slice a2 a2l a2c)]), (.int .i64 a3), (.int .i64 a4)]).run Try.prog w = .ok (.enter 26 #[(.agg #[(.slice a1 a1l a1c), (.slice a2 a2l a2c)]), (.int .i64 a3), (.int .i64 a4)]) w ∧ Calls Try.prog 26 #[(.agg #[(.slice a1 a1l a1c), (.slice a2 a2l a2c)]), (.int .i64 a3), (.int .i64 a4)] w fun e w' => ∃ v, e = .returned v ∧ Out w w' ∧ tree_Path.ret K v w'.heap := by
  rw [← tree_Path.eq] at hh
  exact fn_calls (args := [(.agg #[(.slice a1 a1l a1c), (.slice a2 a2l a2c)]), (.int .i64 a3), (.int .i64 a4)]) (c := tree_Path.code) tree_Path.ok Try.func26 (by kernel_rfl) (by kernel_rfl) (by kernel_rfl) (by kernel_rfl) (loops_ok (l := [(tree_Path.c0, none, 0, tree_Path.keep0, tree_Path.outs0)]) (by kernel_rfl) ⟨tree_Path.L0, trivial⟩) hh w hw

/-! ### strait/tree.Least: function 23 -/
def tree_Least.b0 (K2 : Int → Bool → Heap → Prop) (cont : Addr → Int → Bool → (Option Addr) → Nat → Nat → (Option Addr) → Nat → Nat → Int → Int → Heap → Prop) (c3_1001 : Addr) (v8_1002 : Int) (v9_1003 : Bool) (c10_1004 : Option Addr) (c10_1005 : Nat) (c10_1006 : Nat) (c18_1007 : Option Addr) (c18_1008 : Nat) (c18_1009 : Nat) (c19_1010 : Int) (v20_1011 : Int) (h1012 : Heap) : Prop :=
  (iteB (decide (v20_1011 < c19_1010)) ((let j1047 := (fun (y1045 : Int) (y1046 : Bool) => cont c3_1001 y1045 y1046 c10_1004 c10_1005 c10_1006 c18_1007 c18_1008 c18_1009 c19_1010 (IntKind.i64.wrap (v20_1011 + 1)) h1012);
  chkP c18_1007 fun a1013 => (0 ≤ v20_1011 ∧ v20_1011 < (c18_1008 : Int)) ∧ ∃ (x1014 : Int), cell h1012 (a1013.add (v20_1011.toNat * 1)) = some (.int .i64 x1014) ∧ (let j1044 := (fun (y1030 : Bool) => (iteB y1030 (((j1047 v8_1002 v9_1003))) ((iteB (!v9_1003) ((((j1047 x1014 true)))) (∃ (x1031 : Option Addr) (x1031l : Nat) (x1031c : Nat), cell h1012 (c3_1001.add 1) = some (.slice x1031 x1031l x1031c) ∧ chkP x1031 fun a1032 => (0 ≤ x1014 ∧ x1014 < (x1031l : Int)) ∧ ∃ (x1033 : Int), cell h1012 (a1032.add (x1014.toNat * 1)) = some (.int .i64 x1033) ∧ ∃ (x1034 : Option Addr) (x1034l : Nat) (x1034c : Nat), cell h1012 (c3_1001.add 1) = some (.slice x1034 x1034l x1034c) ∧ chkP x1034 fun a1035 => (0 ≤ v8_1002 ∧ v8_1002 < (x1034l : Int)) ∧ ∃ (x1036 : Int), cell h1012 (a1035.add (v8_1002.toNat * 1)) = some (.int .i64 x1036) ∧ iteB (decide (x1033 < x1036)) ((((j1047 x1014 true)))) (∃ (x1037 : Option Addr) (x1037l : Nat) (x1037c : Nat), cell h1012 (c3_1001.add 1) = some (.slice x1037 x1037l x1037c) ∧ chkP x1037 fun a1038 => (0 ≤ x1014 ∧ x1014 < (x1037l : Int)) ∧ ∃ (x1039 : Int), cell h1012 (a1038.add (x1014.toNat * 1)) = some (.int .i64 x1039) ∧ ∃ (x1040 : Option Addr) (x1040l : Nat) (x1040c : Nat), cell h1012 (c3_1001.add 1) = some (.slice x1040 x1040l x1040c) ∧ chkP x1040 fun a1041 => (0 ≤ v8_1002 ∧ v8_1002 < (x1040l : Int)) ∧ ∃ (x1042 : Int), cell h1012 (a1041.add (v8_1002.toNat * 1)) = some (.int .i64 x1042) ∧ iteB (x1039 == x1042) ((iteB (decide (x1014 < v8_1002)) (((j1047 x1014 true))) (((j1047 v8_1002 v9_1003))))) ((((j1047 v8_1002 v9_1003))))))))));
  iteB (v20_1011 == (0 : Int)) (iteB (v20_1011 == (IntKind.i64.wrap ((c10_1005 : Int) - 1))) ((j1044 true)) (∃ (x1015 : Option Addr) (x1015l : Nat) (x1015c : Nat), cell h1012 c3_1001 = some (.slice x1015 x1015l x1015c) ∧ chkP c10_1004 fun a1016 => (0 ≤ (IntKind.i64.wrap (v20_1011 + 1)) ∧ (IntKind.i64.wrap (v20_1011 + 1)) < (c10_1005 : Int)) ∧ ∃ (x1017 : Int), cell h1012 (a1016.add ((IntKind.i64.wrap (v20_1011 + 1)).toNat * 1)) = some (.int .i64 x1017) ∧ chkP x1015 fun a1018 => (0 ≤ x1017 ∧ x1017 < (x1015l : Int)) ∧ ∃ (x1019 : Int), cell h1012 (a1018.add (x1017.toNat * 1)) = some (.int .i64 x1019) ∧ (j1044 (x1019 == x1014)))) (∃ (x1020 : Option Addr) (x1020l : Nat) (x1020c : Nat), cell h1012 c3_1001 = some (.slice x1020 x1020l x1020c) ∧ chkP c10_1004 fun a1021 => (0 ≤ (IntKind.i64.wrap (v20_1011 - 1)) ∧ (IntKind.i64.wrap (v20_1011 - 1)) < (c10_1005 : Int)) ∧ ∃ (x1022 : Int), cell h1012 (a1021.add ((IntKind.i64.wrap (v20_1011 - 1)).toNat * 1)) = some (.int .i64 x1022) ∧ chkP x1020 fun a1023 => (0 ≤ x1022 ∧ x1022 < (x1020l : Int)) ∧ ∃ (x1024 : Int), cell h1012 (a1023.add (x1022.toNat * 1)) = some (.int .i64 x1024) ∧ iteB (x1024 == x1014) (iteB (v20_1011 == (IntKind.i64.wrap ((c10_1005 : Int) - 1))) ((j1044 true)) (∃ (x1025 : Option Addr) (x1025l : Nat) (x1025c : Nat), cell h1012 c3_1001 = some (.slice x1025 x1025l x1025c) ∧ chkP c10_1004 fun a1026 => (0 ≤ (IntKind.i64.wrap (v20_1011 + 1)) ∧ (IntKind.i64.wrap (v20_1011 + 1)) < (c10_1005 : Int)) ∧ ∃ (x1027 : Int), cell h1012 (a1026.add ((IntKind.i64.wrap (v20_1011 + 1)).toNat * 1)) = some (.int .i64 x1027) ∧ chkP x1025 fun a1028 => (0 ≤ x1027 ∧ x1027 < (x1025l : Int)) ∧ ∃ (x1029 : Int), cell h1012 (a1028.add (x1027.toNat * 1)) = some (.int .i64 x1029) ∧ (j1044 (x1029 == x1014)))) ((j1044 false)))))) (K2 v8_1002 v9_1003 h1012))
def tree_Least.l0 (K2 : Int → Bool → Heap → Prop) : Nat → Addr → Int → Bool → (Option Addr) → Nat → Nat → (Option Addr) → Nat → Nat → Int → Int → Heap → Prop
  | 0, _, _, _, _, _, _, _, _, _, _, _, _ => False
  | m + 1, c3_1001, v8_1002, v9_1003, c10_1004, c10_1005, c10_1006, c18_1007, c18_1008, c18_1009, c19_1010, v20_1011, h => tree_Least.b0 K2 (tree_Least.l0 K2 m) c3_1001 v8_1002 v9_1003 c10_1004 c10_1005 c10_1006 c18_1007 c18_1008 c18_1009 c19_1010 v20_1011 h
def tree_Least (a1 : Option Addr) (a1l : Nat) (a1c : Nat) (a2 : Option Addr) (a2l : Nat) (a2c : Nat) (a3 : Int) (a4 : Int) (h : Heap) (K : Int → Bool → Heap → Prop) : Prop :=
  newP h (.cells #[(.slice a1 a1l a1c), (.slice a2 a2l a2c)] 25) fun a5 h6 => ((∃ (x7 : Option Addr) (x7l : Nat) (x7c : Nat), cell h6 a5 = some (.slice x7 x7l x7c) ∧ ∃ (x8 : Option Addr) (x8l : Nat) (x8c : Nat), cell h6 (a5.add 1) = some (.slice x8 x8l x8c) ∧ callP3 (tree_Path x7 x7l x7c x8 x8l x8c a3 a4 h6) fun x9 x9l x9c h10 => ((∃ m14, tree_Least.l0 (fun z11 z12 h13 => (K z11 z12 h13)) m14 a5 0 false x9 x9l x9c x9 x9l x9c (x9l : Int) 0 h10))))
def tree_Least.ret (K : Int → Bool → Heap → Prop) (v : Value) (h : Heap) : Prop := match v with
  | (.tuple ⟨[(.int .i64 r15), (.bool r16)]⟩) => K r15 r16 h
  | _ => False
theorem tree_Least.ret_elim {K : Int → Bool → Heap → Prop} {K' : Value → Heap → Prop} {v : Value} {h : Heap} (hk : ∀ r15 r16 h, K r15 r16 h → K' (.tuple #[(.int .i64 r15), (.bool r16)]) h) (hh : tree_Least.ret K v h) : K' v h := by
  unfold tree_Least.ret at hh
  split at hh
  · exact hk _ _ _ hh
  · exact hh.elim
def tree_Least.call (f : FuncId) (vs : List Value) (h : Heap) (K : Value → Heap → Prop) : Prop := match f, vs with
  | 26, [(.agg ⟨[(.slice a1 a1l a1c), (.slice a2 a2l a2c)]⟩), (.int .i64 a3), (.int .i64 a4)] => callP3 (tree_Path a1 a1l a1c a2 a2l a2c a3 a4 h) fun r32 r32l r32c h' => K (.slice r32 r32l r32c) h'
  | _, _ => False
def tree_Least.r0 (K : Nat → List Value → Heap → Prop) (m : Nat) (vs : List Value) (h : Heap) : Prop := match vs with
  | [(.pointer (some c3_1001)), (.int .i64 v8_1002), (.bool v9_1003), (.slice c10_1004 c10_1005 c10_1006), (.slice c18_1007 c18_1008 c18_1009), (.int .i64 c19_1010), (.int .i64 v20_1011)] => tree_Least.l0 (fun z17 z18 h' => K 2 [(.int .i64 z17), (.bool z18)] h') m c3_1001 v8_1002 v9_1003 c10_1004 c10_1005 c10_1006 c18_1007 c18_1008 c18_1009 c19_1010 v20_1011 h
  | _ => False
def tree_Least.loop (i : Nat) (vs : List Value) (h : Heap) (K : Nat → List Value → Heap → Prop) : Prop := match i with
  | 0 => ∃ m, tree_Least.r0 K m vs h
  | _ => False
noncomputable def tree_Least.ctx : Ctx := { P := Try.prog, call := tree_Least.call, qcall := fun _ _ _ _ => False, quiet := fun f => false, loop := tree_Least.loop }
theorem tree_Least.ok : tree_Least.ctx.OK where
  mixed := by kernel_rfl
  mono := by
    intro f args h K K' hh hk
    change tree_Least.call f args h K at hh
    change tree_Least.call f args h K'
    unfold tree_Least.call at hh ⊢
    split at hh
    · obtain ⟨R, h1, h2⟩ := hh
      exact ⟨R, h1, fun _ _ _ x hr => hk _ _ (h2 _ _ _ x hr)⟩
    · exact hh.elim
  call := by
    intro f args h K hh w hw
    change tree_Least.call f args h K at hh
    unfold tree_Least.call at hh
    split at hh
    · obtain ⟨R, h1, h2⟩ := hh
      obtain ⟨g1, g2⟩ := tree_Path.calls h1 w hw
      exact ⟨g1, g2.mono fun e w' ⟨v, he, ho, hr⟩ => ⟨v, he, ho, tree_Path.ret_elim h2 hr⟩⟩
    · exact hh.elim
  qmono := fun hh _ => hh.elim
  qval := fun hh => hh.elim
  qcall := fun hh => hh.elim
noncomputable def tree_Least.code : Code := (Try.f23.body).getD .skip
def tree_Least.ann : Ann := (.two .auto (.two .auto (.two .auto (.two (.two .auto (.two (.loop 0 [3, 8, 9, 10, 18, 19, 20] [(2, [8, 9])] (.two .auto (.two .auto (.two (.two (.two .auto (.two (.reg [0, 1, 3, 7, 15, 7, 7, 71, 231, 487, 1023, 2047, 7, 8191, 16383, 32767, 65535, 65535, 196607, 458751, 1048575, 2097151, 4194303, 8388607, 4194303, 4194303, 37748735, 121634815, 255852543, 536870911, 1073741823, 4194303, 4294967295, 8589934591, 17179869183, 34359738367] (.take 0 (.take 1 (.take 2 (.take 3 (.take 4 (.take 5 (.take 6 (.take 7 (.take 8 (.take 9 (.take 10 (.take 11 (.take 12 (.take 13 (.take 14 (.take 15 (.take 16 (.take 17 (.take 18 (.take 19 (.take 20 (.take 21 (.take 22 (.take 23 (.take 24 (.take 25 (.take 26 (.take 27 (.take 28 (.take 29 (.take 30 (.take 31 (.take 32 (.take 33 (.take 34 (.take 35 .done))))))))))))))))))))))))))))))))))))) (.two .auto (.two (.reg [0, 1, 3, 7, 15, 7, 63, 127, 7, 263, 7, 1799, 3847, 8191, 16383, 32767, 65535, 131071, 65535, 524287, 1048575, 65535, 2162687, 65535, 14745599, 31522815, 67108863, 134217727, 268435455, 268435455, 1073741823, 2147483647, 4294967295] (.take 0 (.take 1 (.take 2 (.take 3 (.take 4 (.take 5 (.take 6 (.take 7 (.take 8 (.take 9 (.take 10 (.take 11 (.take 12 (.take 13 (.take 14 (.take 15 (.take 16 (.take 17 (.take 18 (.take 19 (.take 20 (.take 21 (.take 22 (.take 23 (.take 24 (.take 25 (.take 26 (.take 27 (.take 28 (.take 29 (.take 30 (.take 31 (.take 32 .done)))))))))))))))))))))))))))))))))) .auto)))) .auto) .auto)))) .auto)) .auto))))
noncomputable def tree_Least.c0 : Code := sub tree_Least.code [1, 1, 1, 0, 1, 0, 0]
def tree_Least.a0 : Ann := (.two .auto (.two .auto (.two (.two (.two .auto (.two (.reg [0, 1, 3, 7, 15, 7, 7, 71, 231, 487, 1023, 2047, 7, 8191, 16383, 32767, 65535, 65535, 196607, 458751, 1048575, 2097151, 4194303, 8388607, 4194303, 4194303, 37748735, 121634815, 255852543, 536870911, 1073741823, 4194303, 4294967295, 8589934591, 17179869183, 34359738367] (.take 0 (.take 1 (.take 2 (.take 3 (.take 4 (.take 5 (.take 6 (.take 7 (.take 8 (.take 9 (.take 10 (.take 11 (.take 12 (.take 13 (.take 14 (.take 15 (.take 16 (.take 17 (.take 18 (.take 19 (.take 20 (.take 21 (.take 22 (.take 23 (.take 24 (.take 25 (.take 26 (.take 27 (.take 28 (.take 29 (.take 30 (.take 31 (.take 32 (.take 33 (.take 34 (.take 35 .done))))))))))))))))))))))))))))))))))))) (.two .auto (.two (.reg [0, 1, 3, 7, 15, 7, 63, 127, 7, 263, 7, 1799, 3847, 8191, 16383, 32767, 65535, 131071, 65535, 524287, 1048575, 65535, 2162687, 65535, 14745599, 31522815, 67108863, 134217727, 268435455, 268435455, 1073741823, 2147483647, 4294967295] (.take 0 (.take 1 (.take 2 (.take 3 (.take 4 (.take 5 (.take 6 (.take 7 (.take 8 (.take 9 (.take 10 (.take 11 (.take 12 (.take 13 (.take 14 (.take 15 (.take 16 (.take 17 (.take 18 (.take 19 (.take 20 (.take 21 (.take 22 (.take 23 (.take 24 (.take 25 (.take 26 (.take 27 (.take 28 (.take 29 (.take 30 (.take 31 (.take 32 .done)))))))))))))))))))))))))))))))))) .auto)))) .auto) .auto)))
def tree_Least.keep0 : List Nat := [3, 8, 9, 10, 18, 19, 20]
def tree_Least.outs0 : List (Nat × List Nat) := [(2, [8, 9])]
set_option maxRecDepth 100000 in
theorem tree_Least.L0 : LoopOK tree_Least.ctx 98 tree_Least.c0 0 tree_Least.keep0 tree_Least.outs0 := by
  refine loop_ok (n := tree_Least.a0) tree_Least.ok (by kernel_rfl) (loops_ok (l := []) (by kernel_rfl) ?_) tree_Least.r0 ?_ ?_ (fun vs h K hh => hh)
  · exact trivial
  · intro K vs h hh
    unfold tree_Least.r0 at hh
    split at hh
    · exact hh
    · exact hh
  · intro K m vs h hh
    unfold tree_Least.r0 at hh
    split at hh
    · exact cast (by kernel_rfl) hh
    · exact hh.elim
set_option maxRecDepth 100000 in
theorem tree_Least.eq (a1 : Option Addr) (a1l : Nat) (a1c : Nat) (a2 : Option Addr) (a2l : Nat) (a2c : Nat) (a3 : Int) (a4 : Int) (h : Heap) (K : Int → Bool → Heap → Prop) : evF tree_Least.ctx Try.f23 tree_Least.ann [(.agg #[(.slice a1 a1l a1c), (.slice a2 a2l a2c)]), (.int .i64 a3), (.int .i64 a4)] h (tree_Least.ret K) = tree_Least a1 a1l a1c a2 a2l a2c a3 a4 h K := by kernel_rfl
set_option maxRecDepth 100000 in
theorem tree_Least.calls {a1 : Option Addr} {a1l : Nat} {a1c : Nat} {a2 : Option Addr} {a2l : Nat} {a2c : Nat} {a3 : Int} {a4 : Int} {h : Heap} {K : Int → Bool → Heap → Prop} (hh : tree_Least a1 a1l a1c a2 a2l a2c a3 a4 h K) (w : World) (hw : w.heap = h) :
    (callFunc 23 #[(.agg #[(.slice a1 a1l a1c), (.slice a2 a2l a2c)]), (.int .i64 a3), (.int .i64 a4)]).run Try.prog w = .ok (.enter 23 #[(.agg #[(.slice a1 a1l a1c), (.slice a2 a2l a2c)]), (.int .i64 a3), (.int .i64 a4)]) w ∧ Calls Try.prog 23 #[(.agg #[(.slice a1 a1l a1c), (.slice a2 a2l a2c)]), (.int .i64 a3), (.int .i64 a4)] w fun e w' => ∃ v, e = .returned v ∧ Out w w' ∧ tree_Least.ret K v w'.heap := by
  rw [← tree_Least.eq] at hh
  exact fn_calls (args := [(.agg #[(.slice a1 a1l a1c), (.slice a2 a2l a2c)]), (.int .i64 a3), (.int .i64 a4)]) (c := tree_Least.code) tree_Least.ok Try.func23 (by kernel_rfl) (by kernel_rfl) (by kernel_rfl) (by kernel_rfl) (loops_ok (l := [(tree_Least.c0, none, 0, tree_Least.keep0, tree_Least.outs0)]) (by kernel_rfl) ⟨tree_Least.L0, trivial⟩) hh w hw

/-! ### strait/tree.Check: function 14 -/
def tree_Check (a1 : Option Addr) (a1l : Nat) (a1c : Nat) (a2 : Option Addr) (a2l : Nat) (a2c : Nat) (h : Heap) (K : Int → Heap → Prop) : Prop :=
  newP h (.cells #[(.slice a1 a1l a1c), (.slice a2 a2l a2c)] 25) fun a3 h4 => (∃ (x5 : Option Addr) (x5l : Nat) (x5c : Nat), cell h4 a3 = some (.slice x5 x5l x5c) ∧ ∃ (x6 : Option Addr) (x6l : Nat) (x6c : Nat), cell h4 (a3.add 1) = some (.slice x6 x6l x6c) ∧ callP4 (tree_depths x5 x5l x5c x6 x6l x6c h4) fun x7 x7l x7c x8 h9 => ((iteB (!x8) (K 15 h9) (K 0 h9))))
def tree_Check.ret (K : Int → Heap → Prop) (v : Value) (h : Heap) : Prop := match v with
  | (.int .i64 r10) => K r10 h
  | _ => False
theorem tree_Check.ret_elim {K : Int → Heap → Prop} {K' : Value → Heap → Prop} {v : Value} {h : Heap} (hk : ∀ r10 h, K r10 h → K' (.int .i64 r10) h) (hh : tree_Check.ret K v h) : K' v h := by
  unfold tree_Check.ret at hh
  split at hh
  · exact hk _ _ hh
  · exact hh.elim
def tree_Check.call (f : FuncId) (vs : List Value) (h : Heap) (K : Value → Heap → Prop) : Prop := match f, vs with
  | 47, [(.agg ⟨[(.slice a1 a1l a1c), (.slice a2 a2l a2c)]⟩)] => callP4 (tree_depths a1 a1l a1c a2 a2l a2c h) fun r23 r23l r23c r24 h' => K (.tuple #[(.slice r23 r23l r23c), (.bool r24)]) h'
  | _, _ => False
noncomputable def tree_Check.ctx : Ctx := { P := Try.prog, call := tree_Check.call, qcall := fun _ _ _ _ => False, quiet := fun f => false, loop := fun _ _ _ _ => False }
theorem tree_Check.ok : tree_Check.ctx.OK where
  mixed := by kernel_rfl
  mono := by
    intro f args h K K' hh hk
    change tree_Check.call f args h K at hh
    change tree_Check.call f args h K'
    unfold tree_Check.call at hh ⊢
    split at hh
    · obtain ⟨R, h1, h2⟩ := hh
      exact ⟨R, h1, fun _ _ _ _ x hr => hk _ _ (h2 _ _ _ _ x hr)⟩
    · exact hh.elim
  call := by
    intro f args h K hh w hw
    change tree_Check.call f args h K at hh
    unfold tree_Check.call at hh
    split at hh
    · obtain ⟨R, h1, h2⟩ := hh
      obtain ⟨g1, g2⟩ := tree_depths.calls h1 w hw
      exact ⟨g1, g2.mono fun e w' ⟨v, he, ho, hr⟩ => ⟨v, he, ho, tree_depths.ret_elim h2 hr⟩⟩
    · exact hh.elim
  qmono := fun hh _ => hh.elim
  qval := fun hh => hh.elim
  qcall := fun hh => hh.elim
noncomputable def tree_Check.code : Code := (Try.f14.body).getD .skip
def tree_Check.ann : Ann := .auto
set_option maxRecDepth 100000 in
theorem tree_Check.eq (a1 : Option Addr) (a1l : Nat) (a1c : Nat) (a2 : Option Addr) (a2l : Nat) (a2c : Nat) (h : Heap) (K : Int → Heap → Prop) : evF tree_Check.ctx Try.f14 tree_Check.ann [(.agg #[(.slice a1 a1l a1c), (.slice a2 a2l a2c)])] h (tree_Check.ret K) = tree_Check a1 a1l a1c a2 a2l a2c h K := by kernel_rfl
set_option maxRecDepth 100000 in
theorem tree_Check.calls {a1 : Option Addr} {a1l : Nat} {a1c : Nat} {a2 : Option Addr} {a2l : Nat} {a2c : Nat} {h : Heap} {K : Int → Heap → Prop} (hh : tree_Check a1 a1l a1c a2 a2l a2c h K) (w : World) (hw : w.heap = h) :
    (callFunc 14 #[(.agg #[(.slice a1 a1l a1c), (.slice a2 a2l a2c)])]).run Try.prog w = .ok (.enter 14 #[(.agg #[(.slice a1 a1l a1c), (.slice a2 a2l a2c)])]) w ∧ Calls Try.prog 14 #[(.agg #[(.slice a1 a1l a1c), (.slice a2 a2l a2c)])] w fun e w' => ∃ v, e = .returned v ∧ Out w w' ∧ tree_Check.ret K v w'.heap := by
  rw [← tree_Check.eq] at hh
  exact fn_calls (args := [(.agg #[(.slice a1 a1l a1c), (.slice a2 a2l a2c)])]) (c := tree_Check.code) tree_Check.ok Try.func14 (by kernel_rfl) (by kernel_rfl) (by kernel_rfl) (by kernel_rfl) (loops_ok (l := []) (by kernel_rfl) trivial) hh w hw

/-! ### strait/straitref09.Ints: function 18 -/
def straitref09_Ints.b0 (K0 : Bool → Heap → Prop) (K2 : Heap → Prop) (cont : (Option Addr) → Nat → Nat → (Option Addr) → Nat → Nat → Int → Heap → Prop) (c0_1001 : Option Addr) (c0_1002 : Nat) (c0_1003 : Nat) (c1_1004 : Option Addr) (c1_1005 : Nat) (c1_1006 : Nat) (v5_1007 : Int) (h1008 : Heap) : Prop :=
  (iteB (decide (v5_1007 < (c0_1002 : Int))) ((chkP c0_1001 fun a1009 => (0 ≤ v5_1007 ∧ v5_1007 < (c0_1002 : Int)) ∧ ∃ (x1010 : Int), cell h1008 (a1009.add (v5_1007.toNat * 1)) = some (.int .i64 x1010) ∧ chkP c1_1004 fun a1011 => (0 ≤ v5_1007 ∧ v5_1007 < (c1_1005 : Int)) ∧ ∃ (x1012 : Int), cell h1008 (a1011.add (v5_1007.toNat * 1)) = some (.int .i64 x1012) ∧ (iteB (x1010 != x1012) (K0 false h1008) (((cont c0_1001 c0_1002 c0_1003 c1_1004 c1_1005 c1_1006 (IntKind.i64.wrap (v5_1007 + 1)) h1008)))))) (K2 h1008))
def straitref09_Ints.l0 (K0 : Bool → Heap → Prop) (K2 : Heap → Prop) : Nat → (Option Addr) → Nat → Nat → (Option Addr) → Nat → Nat → Int → Heap → Prop
  | 0, _, _, _, _, _, _, _, _ => False
  | m + 1, c0_1001, c0_1002, c0_1003, c1_1004, c1_1005, c1_1006, v5_1007, h => straitref09_Ints.b0 K0 K2 (straitref09_Ints.l0 K0 K2 m) c0_1001 c0_1002 c0_1003 c1_1004 c1_1005 c1_1006 v5_1007 h
def straitref09_Ints (a1 : Option Addr) (a1l : Nat) (a1c : Nat) (a2 : Option Addr) (a2l : Nat) (a2c : Nat) (h : Heap) (K : Bool → Heap → Prop) : Prop :=
  ((iteB ((a1l : Int) != (a2l : Int)) (K false h) (((∃ m6, straitref09_Ints.l0 (fun z3 h4 => K z3 h4) (fun h5 => (K true h5)) m6 a1 a1l a1c a2 a2l a2c 0 h)))))
def straitref09_Ints.ret (K : Bool → Heap → Prop) (v : Value) (h : Heap) : Prop := match v with
  | (.bool r7) => K r7 h
  | _ => False
theorem straitref09_Ints.ret_elim {K : Bool → Heap → Prop} {K' : Value → Heap → Prop} {v : Value} {h : Heap} (hk : ∀ r7 h, K r7 h → K' (.bool r7) h) (hh : straitref09_Ints.ret K v h) : K' v h := by
  unfold straitref09_Ints.ret at hh
  split at hh
  · exact hk _ _ hh
  · exact hh.elim
def straitref09_Ints.r0 (K : Nat → List Value → Heap → Prop) (m : Nat) (vs : List Value) (h : Heap) : Prop := match vs with
  | [(.slice c0_1001 c0_1002 c0_1003), (.slice c1_1004 c1_1005 c1_1006), (.int .i64 v5_1007)] => straitref09_Ints.l0 (fun z8 h' => K 0 [(.bool z8)] h') (fun h' => K 2 [] h') m c0_1001 c0_1002 c0_1003 c1_1004 c1_1005 c1_1006 v5_1007 h
  | _ => False
def straitref09_Ints.loop (i : Nat) (vs : List Value) (h : Heap) (K : Nat → List Value → Heap → Prop) : Prop := match i with
  | 0 => ∃ m, straitref09_Ints.r0 K m vs h
  | _ => False
noncomputable def straitref09_Ints.ctx : Ctx := { P := Try.prog, call := fun _ _ _ _ => False, qcall := fun _ _ _ _ => False, quiet := fun f => false, loop := straitref09_Ints.loop }
theorem straitref09_Ints.ok : straitref09_Ints.ctx.OK where
  mixed := by kernel_rfl
  mono := fun hh _ => hh.elim
  call := fun hh => hh.elim
  qmono := fun hh _ => hh.elim
  qval := fun hh => hh.elim
  qcall := fun hh => hh.elim
noncomputable def straitref09_Ints.code : Code := (Try.f18.body).getD .skip
def straitref09_Ints.ann : Ann := (.two .auto (.two .auto (.two (.two .auto (.two (.loop 0 [0, 1, 5] [(2, []), (0, [4])] (.two .auto (.two (.two (.two (.reg [0, 0, 3, 7, 0, 0, 48, 112, 255] (.take 0 (.take 1 (.take 2 (.take 3 (.take 4 (.take 5 (.take 6 (.take 7 (.take 8 .done)))))))))) .auto) .auto) .auto))) .auto)) .auto)))
noncomputable def straitref09_Ints.c0 : Code := sub straitref09_Ints.code [1, 1, 0, 1, 0, 0]
def straitref09_Ints.a0 : Ann := (.two .auto (.two (.two (.two (.reg [0, 0, 3, 7, 0, 0, 48, 112, 255] (.take 0 (.take 1 (.take 2 (.take 3 (.take 4 (.take 5 (.take 6 (.take 7 (.take 8 .done)))))))))) .auto) .auto) .auto))
def straitref09_Ints.keep0 : List Nat := [0, 1, 5]
def straitref09_Ints.outs0 : List (Nat × List Nat) := [(2, []), (0, [4])]
set_option maxRecDepth 100000 in
theorem straitref09_Ints.L0 : LoopOK straitref09_Ints.ctx 26 straitref09_Ints.c0 0 straitref09_Ints.keep0 straitref09_Ints.outs0 := by
  refine loop_ok (n := straitref09_Ints.a0) straitref09_Ints.ok (by kernel_rfl) (loops_ok (l := []) (by kernel_rfl) ?_) straitref09_Ints.r0 ?_ ?_ (fun vs h K hh => hh)
  · exact trivial
  · intro K vs h hh
    unfold straitref09_Ints.r0 at hh
    split at hh
    · exact hh
    · exact hh
  · intro K m vs h hh
    unfold straitref09_Ints.r0 at hh
    split at hh
    · exact cast (by kernel_rfl) hh
    · exact hh.elim
set_option maxRecDepth 100000 in
theorem straitref09_Ints.eq (a1 : Option Addr) (a1l : Nat) (a1c : Nat) (a2 : Option Addr) (a2l : Nat) (a2c : Nat) (h : Heap) (K : Bool → Heap → Prop) : evF straitref09_Ints.ctx Try.f18 straitref09_Ints.ann [(.slice a1 a1l a1c), (.slice a2 a2l a2c)] h (straitref09_Ints.ret K) = straitref09_Ints a1 a1l a1c a2 a2l a2c h K := by kernel_rfl
set_option maxRecDepth 100000 in
theorem straitref09_Ints.calls {a1 : Option Addr} {a1l : Nat} {a1c : Nat} {a2 : Option Addr} {a2l : Nat} {a2c : Nat} {h : Heap} {K : Bool → Heap → Prop} (hh : straitref09_Ints a1 a1l a1c a2 a2l a2c h K) (w : World) (hw : w.heap = h) :
    (callFunc 18 #[(.slice a1 a1l a1c), (.slice a2 a2l a2c)]).run Try.prog w = .ok (.enter 18 #[(.slice a1 a1l a1c), (.slice a2 a2l a2c)]) w ∧ Calls Try.prog 18 #[(.slice a1 a1l a1c), (.slice a2 a2l a2c)] w fun e w' => ∃ v, e = .returned v ∧ Out w w' ∧ straitref09_Ints.ret K v w'.heap := by
  rw [← straitref09_Ints.eq] at hh
  exact fn_calls (args := [(.slice a1 a1l a1c), (.slice a2 a2l a2c)]) (c := straitref09_Ints.code) straitref09_Ints.ok Try.func18 (by kernel_rfl) (by kernel_rfl) (by kernel_rfl) (by kernel_rfl) (loops_ok (l := [(straitref09_Ints.c0, none, 0, straitref09_Ints.keep0, straitref09_Ints.outs0)]) (by kernel_rfl) ⟨straitref09_Ints.L0, trivial⟩) hh w hw

/-! ### strait/straitlaw29.awake: function 13 -/
def straitlaw29_awake (h : Heap) (K : Bool → Heap → Prop) : Prop :=
  (newP h (.cells #[(.int .i64 (-1)), (.int .i64 0), (.int .i64 0), (.int .i64 1)] 3) fun a1 h2 => newP h2 (.cells #[(.int .i64 0), (.int .i64 3), (.int .i64 2), (.int .i64 2)] 2) fun a3 h4 => newP h4 (.cells #[(.slice none 0 0), (.slice none 0 0)] 25) fun a5 h6 => stC h6 a5 (.slice (some a1) 4 4) fun h7 => stC h7 (a5.add 1) (.slice (some a3) 4 4) fun h8 => (∃ (x9 : Option Addr) (x9l : Nat) (x9c : Nat), cell h8 a5 = some (.slice x9 x9l x9c) ∧ ∃ (x10 : Option Addr) (x10l : Nat) (x10c : Nat), cell h8 (a5.add 1) = some (.slice x10 x10l x10c) ∧ callP2 (tree_Least x9 x9l x9c x10 x10l x10c 3 2 h8) fun x11 x12 h13 => (∃ (x14 : Option Addr) (x14l : Nat) (x14c : Nat), cell h13 a5 = some (.slice x14 x14l x14c) ∧ ∃ (x15 : Option Addr) (x15l : Nat) (x15c : Nat), cell h13 (a5.add 1) = some (.slice x15 x15l x15c) ∧ callP1 (tree_Check x14 x14l x14c x15 x15l x15c h13) fun x16 h17 => iteB (x16 == (0 : Int)) (∃ (x18 : Option Addr) (x18l : Nat) (x18c : Nat), cell h17 a5 = some (.slice x18 x18l x18c) ∧ ∃ (x19 : Option Addr) (x19l : Nat) (x19c : Nat), cell h17 (a5.add 1) = some (.slice x19 x19l x19c) ∧ callP3 (tree_Path x18 x18l x18c x19 x19l x19c 3 2 h17) fun x20 x20l x20c h21 => newP h21 (.cells #[(.int .i64 3), (.int .i64 1), (.int .i64 0), (.int .i64 2)] 3) fun a22 h23 => qcallP1 h23 (straitref09_Ints x20 x20l x20c (some a22) 4 4 h23) fun x24 => iteB x24 (iteB (x11 == (2 : Int)) (iteB x12 (newP h23 (.cells #[(.int .i64 0)] 3) fun a25 h26 => newP h26 (.cells #[(.int .i64 0)] 2) fun a27 h28 => callP1 (tree_Check (some a25) 1 1 (some a27) 1 1 h28) fun x29 h30 => (K (x29 == (15 : Int)) h30)) (K false h23)) (K false h23)) (K false h23)) (K false h17))))
def straitlaw29_awake.ret (K : Bool → Heap → Prop) (v : Value) (h : Heap) : Prop := match v with
  | (.bool r33) => K r33 h
  | _ => False
theorem straitlaw29_awake.ret_elim {K : Bool → Heap → Prop} {K' : Value → Heap → Prop} {v : Value} {h : Heap} (hk : ∀ r33 h, K r33 h → K' (.bool r33) h) (hh : straitlaw29_awake.ret K v h) : K' v h := by
  unfold straitlaw29_awake.ret at hh
  split at hh
  · exact hk _ _ hh
  · exact hh.elim
def straitlaw29_awake.call (f : FuncId) (vs : List Value) (h : Heap) (K : Value → Heap → Prop) : Prop := match f, vs with
  | 14, [(.agg ⟨[(.slice a1 a1l a1c), (.slice a2 a2l a2c)]⟩)] => callP1 (tree_Check a1 a1l a1c a2 a2l a2c h) fun r10 h' => K (.int .i64 r10) h'
  | 23, [(.agg ⟨[(.slice a1 a1l a1c), (.slice a2 a2l a2c)]⟩), (.int .i64 a3), (.int .i64 a4)] => callP2 (tree_Least a1 a1l a1c a2 a2l a2c a3 a4 h) fun r15 r16 h' => K (.tuple #[(.int .i64 r15), (.bool r16)]) h'
  | 26, [(.agg ⟨[(.slice a1 a1l a1c), (.slice a2 a2l a2c)]⟩), (.int .i64 a3), (.int .i64 a4)] => callP3 (tree_Path a1 a1l a1c a2 a2l a2c a3 a4 h) fun r32 r32l r32c h' => K (.slice r32 r32l r32c) h'
  | _, _ => False
def straitlaw29_awake.qcall (f : FuncId) (vs : List Value) (h : Heap) (K : Value → Prop) : Prop := match f, vs with
  | 18, [(.slice a1 a1l a1c), (.slice a2 a2l a2c)] => qcallP1 h (straitref09_Ints a1 a1l a1c a2 a2l a2c h) fun r7 => K (.bool r7)
  | _, _ => False
noncomputable def straitlaw29_awake.ctx : Ctx := { P := Try.prog, call := straitlaw29_awake.call, qcall := straitlaw29_awake.qcall, quiet := fun f => Nat.beq f 18, loop := fun _ _ _ _ => False }
theorem straitlaw29_awake.ok : straitlaw29_awake.ctx.OK where
  mixed := by kernel_rfl
  mono := by
    intro f args h K K' hh hk
    change straitlaw29_awake.call f args h K at hh
    change straitlaw29_awake.call f args h K'
    unfold straitlaw29_awake.call at hh ⊢
    split at hh
    · obtain ⟨R, h1, h2⟩ := hh
      exact ⟨R, h1, fun _ x hr => hk _ _ (h2 _ x hr)⟩
    · obtain ⟨R, h1, h2⟩ := hh
      exact ⟨R, h1, fun _ _ x hr => hk _ _ (h2 _ _ x hr)⟩
    · obtain ⟨R, h1, h2⟩ := hh
      exact ⟨R, h1, fun _ _ _ x hr => hk _ _ (h2 _ _ _ x hr)⟩
    · exact hh.elim
  call := by
    intro f args h K hh w hw
    change straitlaw29_awake.call f args h K at hh
    unfold straitlaw29_awake.call at hh
    split at hh
    · obtain ⟨R, h1, h2⟩ := hh
      obtain ⟨g1, g2⟩ := tree_Check.calls h1 w hw
      exact ⟨g1, g2.mono fun e w' ⟨v, he, ho, hr⟩ => ⟨v, he, ho, tree_Check.ret_elim h2 hr⟩⟩
    · obtain ⟨R, h1, h2⟩ := hh
      obtain ⟨g1, g2⟩ := tree_Least.calls h1 w hw
      exact ⟨g1, g2.mono fun e w' ⟨v, he, ho, hr⟩ => ⟨v, he, ho, tree_Least.ret_elim h2 hr⟩⟩
    · obtain ⟨R, h1, h2⟩ := hh
      obtain ⟨g1, g2⟩ := tree_Path.calls h1 w hw
      exact ⟨g1, g2.mono fun e w' ⟨v, he, ho, hr⟩ => ⟨v, he, ho, tree_Path.ret_elim h2 hr⟩⟩
    · exact hh.elim
  qmono := by
    intro f args h K K' hh hk
    change straitlaw29_awake.qcall f args h K at hh
    change straitlaw29_awake.qcall f args h K'
    unfold straitlaw29_awake.qcall at hh ⊢
    split at hh
    · obtain ⟨x0, h1, h2⟩ := hh
      exact ⟨x0, h1, hk _ h2⟩
    · exact hh.elim
  qval := by
    intro f args h K hh
    change straitlaw29_awake.qcall f args h K at hh
    suffices H : ∃ v, K v ∧ straitlaw29_awake.qcall f args h (· = v) from H
    unfold straitlaw29_awake.qcall at hh ⊢
    split at hh
    · obtain ⟨x0, h1, h2⟩ := hh
      exact ⟨_, h2, x0, h1, rfl⟩
    · exact hh.elim
  qcall := by
    intro f args h v hh w hw
    change straitlaw29_awake.qcall f args h (· = v) at hh
    unfold straitlaw29_awake.qcall at hh
    split at hh
    · obtain ⟨x0, h1, h2⟩ := hh
      obtain ⟨g1, g2⟩ := straitref09_Ints.calls h1 w hw
      refine .inl ⟨g1, g2.mono fun e w' ⟨u, he, ho, hr⟩ => ?_⟩
      have hq := straitref09_Ints.ret_elim (K' := fun u h' => u = v ∧ h' = h) (fun _ h' hr => by obtain ⟨rfl, rfl⟩ := hr; exact ⟨h2, rfl⟩) hr
      exact ⟨hq.1 ▸ he, ho, hq.2⟩
    · exact hh.elim
noncomputable def straitlaw29_awake.code : Code := (Try.f13.body).getD .skip
def straitlaw29_awake.ann : Ann := .auto
set_option maxRecDepth 100000 in
theorem straitlaw29_awake.eq (h : Heap) (K : Bool → Heap → Prop) : evF straitlaw29_awake.ctx Try.f13 straitlaw29_awake.ann [] h (straitlaw29_awake.ret K) = straitlaw29_awake h K := by kernel_rfl
set_option maxRecDepth 100000 in
theorem straitlaw29_awake.calls {h : Heap} {K : Bool → Heap → Prop} (hh : straitlaw29_awake h K) (w : World) (hw : w.heap = h) :
    (callFunc 13 #[]).run Try.prog w = .ok (.enter 13 #[]) w ∧ Calls Try.prog 13 #[] w fun e w' => ∃ v, e = .returned v ∧ Out w w' ∧ straitlaw29_awake.ret K v w'.heap := by
  rw [← straitlaw29_awake.eq] at hh
  exact fn_calls (args := []) (c := straitlaw29_awake.code) straitlaw29_awake.ok Try.func13 (by kernel_rfl) (by kernel_rfl) (by kernel_rfl) (by kernel_rfl) (loops_ok (l := []) (by kernel_rfl) trivial) hh w hw

/-! ### strait/straitref29.Up: function 48 -/
def straitref29_Up.b0 (K2 : (Option Addr) → Nat → Nat → Heap → Prop) (cont : Int → Addr → (Option Addr) → Nat → Nat → Heap → Prop) (v1_1001 : Int) (c2_1002 : Addr) (v5_1003 : Option Addr) (v5_1003l : Nat) (v5_1003c : Nat) (h1004 : Heap) : Prop :=
  let j1018 : Prop := (newP h1004 (.cells #[(.int .i64 v1_1001)] 3) fun a1008 h1009 => ∃ n1014, cellsAt h1009 (some a1008) (1 * 1) n1014 ∧ appP 3 1 8 [(.int .i64 0)] v5_1003 v5_1003l v5_1003c 1 n1014 h1009 fun q1010 l1011 c1012 h1013 => (∃ (x1015 : Option Addr) (x1015l : Nat) (x1015c : Nat), cell h1013 c2_1002 = some (.slice x1015 x1015l x1015c) ∧ chkP x1015 fun a1016 => (0 ≤ v1_1001 ∧ v1_1001 < (x1015l : Int)) ∧ ∃ (x1017 : Int), cell h1013 (a1016.add (v1_1001.toNat * 1)) = some (.int .i64 x1017) ∧ cont x1017 c2_1002 q1010 l1011 c1012 h1013));
  iteB (decide (v1_1001 ≥ (0 : Int))) (∃ (x1005 : Option Addr) (x1005l : Nat) (x1005c : Nat), cell h1004 c2_1002 = some (.slice x1005 x1005l x1005c) ∧ iteB (decide (v1_1001 < (x1005l : Int))) (∃ (x1006 : Option Addr) (x1006l : Nat) (x1006c : Nat), cell h1004 c2_1002 = some (.slice x1006 x1006l x1006c) ∧ (iteB (decide ((v5_1003l : Int) ≤ (x1006l : Int))) ((j1018)) (K2 v5_1003 v5_1003l v5_1003c h1004))) (K2 v5_1003 v5_1003l v5_1003c h1004)) (K2 v5_1003 v5_1003l v5_1003c h1004)
def straitref29_Up.l0 (K2 : (Option Addr) → Nat → Nat → Heap → Prop) : Nat → Int → Addr → (Option Addr) → Nat → Nat → Heap → Prop
  | 0, _, _, _, _, _, _ => False
  | m + 1, v1_1001, c2_1002, v5_1003, v5_1003l, v5_1003c, h => straitref29_Up.b0 K2 (straitref29_Up.l0 K2 m) v1_1001 c2_1002 v5_1003 v5_1003l v5_1003c h
def straitref29_Up (a1 : Option Addr) (a1l : Nat) (a1c : Nat) (a2 : Option Addr) (a2l : Nat) (a2c : Nat) (a3 : Int) (h : Heap) (K : (Option Addr) → Nat → Nat → Heap → Prop) : Prop :=
  newP h (.cells #[(.slice a1 a1l a1c), (.slice a2 a2l a2c)] 25) fun a4 h5 => ((∃ m8, straitref29_Up.l0 (fun z6 z6l z6c h7 => (K z6 z6l z6c h7)) m8 a3 a4 none 0 0 h5))
def straitref29_Up.ret (K : (Option Addr) → Nat → Nat → Heap → Prop) (v : Value) (h : Heap) : Prop := match v with
  | (.slice r9 r9l r9c) => K r9 r9l r9c h
  | _ => False
theorem straitref29_Up.ret_elim {K : (Option Addr) → Nat → Nat → Heap → Prop} {K' : Value → Heap → Prop} {v : Value} {h : Heap} (hk : ∀ r9 r9l r9c h, K r9 r9l r9c h → K' (.slice r9 r9l r9c) h) (hh : straitref29_Up.ret K v h) : K' v h := by
  unfold straitref29_Up.ret at hh
  split at hh
  · exact hk _ _ _ _ hh
  · exact hh.elim
def straitref29_Up.r0 (K : Nat → List Value → Heap → Prop) (m : Nat) (vs : List Value) (h : Heap) : Prop := match vs with
  | [(.int .i64 v1_1001), (.pointer (some c2_1002)), (.slice v5_1003 v5_1003l v5_1003c)] => straitref29_Up.l0 (fun z10 z10l z10c h' => K 2 [(.slice z10 z10l z10c)] h') m v1_1001 c2_1002 v5_1003 v5_1003l v5_1003c h
  | _ => False
def straitref29_Up.loop (i : Nat) (vs : List Value) (h : Heap) (K : Nat → List Value → Heap → Prop) : Prop := match i with
  | 0 => ∃ m, straitref29_Up.r0 K m vs h
  | _ => False
noncomputable def straitref29_Up.ctx : Ctx := { P := Try.prog, call := fun _ _ _ _ => False, qcall := fun _ _ _ _ => False, quiet := fun f => false, loop := straitref29_Up.loop }
theorem straitref29_Up.ok : straitref29_Up.ctx.OK where
  mixed := by kernel_rfl
  mono := fun hh _ => hh.elim
  call := fun hh => hh.elim
  qmono := fun hh _ => hh.elim
  qval := fun hh => hh.elim
  qcall := fun hh => hh.elim
noncomputable def straitref29_Up.code : Code := (Try.f48.body).getD .skip
def straitref29_Up.ann : Ann := (.two .auto (.two .auto (.two (.two (.loop 0 [1, 2, 5] [(2, [5])] .auto) .auto) .auto)))
noncomputable def straitref29_Up.c0 : Code := sub straitref29_Up.code [1, 1, 0, 0, 0]
def straitref29_Up.a0 : Ann := .auto
def straitref29_Up.keep0 : List Nat := [1, 2, 5]
def straitref29_Up.outs0 : List (Nat × List Nat) := [(2, [5])]
set_option maxRecDepth 100000 in
theorem straitref29_Up.L0 : LoopOK straitref29_Up.ctx 33 straitref29_Up.c0 0 straitref29_Up.keep0 straitref29_Up.outs0 := by
  refine loop_ok (n := straitref29_Up.a0) straitref29_Up.ok (by kernel_rfl) (loops_ok (l := []) (by kernel_rfl) ?_) straitref29_Up.r0 ?_ ?_ (fun vs h K hh => hh)
  · exact trivial
  · intro K vs h hh
    unfold straitref29_Up.r0 at hh
    split at hh
    · exact hh
    · exact hh
  · intro K m vs h hh
    unfold straitref29_Up.r0 at hh
    split at hh
    · exact cast (by kernel_rfl) hh
    · exact hh.elim
set_option maxRecDepth 100000 in
theorem straitref29_Up.eq (a1 : Option Addr) (a1l : Nat) (a1c : Nat) (a2 : Option Addr) (a2l : Nat) (a2c : Nat) (a3 : Int) (h : Heap) (K : (Option Addr) → Nat → Nat → Heap → Prop) : evF straitref29_Up.ctx Try.f48 straitref29_Up.ann [(.agg #[(.slice a1 a1l a1c), (.slice a2 a2l a2c)]), (.int .i64 a3)] h (straitref29_Up.ret K) = straitref29_Up a1 a1l a1c a2 a2l a2c a3 h K := by kernel_rfl
set_option maxRecDepth 100000 in
theorem straitref29_Up.calls {a1 : Option Addr} {a1l : Nat} {a1c : Nat} {a2 : Option Addr} {a2l : Nat} {a2c : Nat} {a3 : Int} {h : Heap} {K : (Option Addr) → Nat → Nat → Heap → Prop} (hh : straitref29_Up a1 a1l a1c a2 a2l a2c a3 h K) (w : World) (hw : w.heap = h) :
    (callFunc 48 #[(.agg #[(.slice a1 a1l a1c), (.slice a2 a2l a2c)]), (.int .i64 a3)]).run Try.prog w = .ok (.enter 48 #[(.agg #[(.slice a1 a1l a1c), (.slice a2 a2l a2c)]), (.int .i64 a3)]) w ∧ Calls Try.prog 48 #[(.agg #[(.slice a1 a1l a1c), (.slice a2 a2l a2c)]), (.int .i64 a3)] w fun e w' => ∃ v, e = .returned v ∧ Out w w' ∧ straitref29_Up.ret K v w'.heap := by
  rw [← straitref29_Up.eq] at hh
  exact fn_calls (args := [(.agg #[(.slice a1 a1l a1c), (.slice a2 a2l a2c)]), (.int .i64 a3)]) (c := straitref29_Up.code) straitref29_Up.ok Try.func48 (by kernel_rfl) (by kernel_rfl) (by kernel_rfl) (by kernel_rfl) (loops_ok (l := [(straitref29_Up.c0, none, 0, straitref29_Up.keep0, straitref29_Up.outs0)]) (by kernel_rfl) ⟨straitref29_Up.L0, trivial⟩) hh w hw

/-! ### strait/straitref29.Right: function 15 -/
def straitref29_Right.b1 (K0 : Bool → Heap → Prop) (K4 : Heap → Prop) (cont : Addr → Int → Heap → Prop) (c1_2001 : Addr) (v5_2002 : Int) (h2003 : Heap) : Prop :=
  ∃ (x2004 : Option Addr) (x2004l : Nat) (x2004c : Nat), cell h2003 c1_2001 = some (.slice x2004 x2004l x2004c) ∧ (iteB (decide (v5_2002 < (x2004l : Int))) ((∃ (x2005 : Option Addr) (x2005l : Nat) (x2005c : Nat), cell h2003 c1_2001 = some (.slice x2005 x2005l x2005c) ∧ ∃ (x2006 : Option Addr) (x2006l : Nat) (x2006c : Nat), cell h2003 (c1_2001.add 1) = some (.slice x2006 x2006l x2006c) ∧ ∃ (x2007 : Option Addr) (x2007l : Nat) (x2007c : Nat), cell h2003 c1_2001 = some (.slice x2007 x2007l x2007c) ∧ callP3 (straitref29_Up x2005 x2005l x2005c x2006 x2006l x2006c v5_2002 h2003) fun x2008 x2008l x2008c h2009 => (∃ (x2010 : Option Addr) (x2010l : Nat) (x2010c : Nat), cell h2009 c1_2001 = some (.slice x2010 x2010l x2010c) ∧ ((.slice x2010 x2010l x2010c) : Value) = (.slice x2007 x2007l x2007c)) ∧ (iteB (decide ((x2008l : Int) > (x2007l : Int))) (K0 false h2009) (((cont c1_2001 (IntKind.i64.wrap (v5_2002 + 1)) h2009)))))) (K4 h2003))
def straitref29_Right.l1 (K0 : Bool → Heap → Prop) (K4 : Heap → Prop) : Nat → Addr → Int → Heap → Prop
  | 0, _, _, _ => False
  | m + 1, c1_2001, v5_2002, h => straitref29_Right.b1 K0 K4 (straitref29_Right.l1 K0 K4 m) c1_2001 v5_2002 h
def straitref29_Right.b0 (K0 : Bool → Heap → Prop) (K2 : Int → Heap → Prop) (cont : Addr → Int → Int → Heap → Prop) (c1_1001 : Addr) (v3_1002 : Int) (v4_1003 : Int) (h1004 : Heap) : Prop :=
  ∃ (x1005 : Option Addr) (x1005l : Nat) (x1005c : Nat), cell h1004 c1_1001 = some (.slice x1005 x1005l x1005c) ∧ (iteB (decide (v4_1003 < (x1005l : Int))) ((let j1023 : Prop := (∃ (x1017 : Option Addr) (x1017l : Nat) (x1017c : Nat), cell h1004 c1_1001 = some (.slice x1017 x1017l x1017c) ∧ chkP x1017 fun a1018 => (0 ≤ v4_1003 ∧ v4_1003 < (x1017l : Int)) ∧ ∃ (x1019 : Int), cell h1004 (a1018.add (v4_1003.toNat * 1)) = some (.int .i64 x1019) ∧ (iteB (x1019 == ((-1) : Int)) ((∃ (x1020 : Option Addr) (x1020l : Nat) (x1020c : Nat), cell h1004 (c1_1001.add 1) = some (.slice x1020 x1020l x1020c) ∧ chkP x1020 fun a1021 => (0 ≤ v4_1003 ∧ v4_1003 < (x1020l : Int)) ∧ ∃ (x1022 : Int), cell h1004 (a1021.add (v4_1003.toNat * 1)) = some (.int .i64 x1022) ∧ (iteB (x1022 != (0 : Int)) (K0 false h1004) (((cont c1_1001 (IntKind.i64.wrap (v3_1002 + 1)) (IntKind.i64.wrap (v4_1003 + 1)) h1004)))))) (((cont c1_1001 v3_1002 (IntKind.i64.wrap (v4_1003 + 1)) h1004)))));
  ∃ (x1006 : Option Addr) (x1006l : Nat) (x1006c : Nat), cell h1004 c1_1001 = some (.slice x1006 x1006l x1006c) ∧ chkP x1006 fun a1007 => (0 ≤ v4_1003 ∧ v4_1003 < (x1006l : Int)) ∧ ∃ (x1008 : Int), cell h1004 (a1007.add (v4_1003.toNat * 1)) = some (.int .i64 x1008) ∧ iteB (decide (x1008 < ((-1) : Int))) (K0 false h1004) (∃ (x1009 : Option Addr) (x1009l : Nat) (x1009c : Nat), cell h1004 c1_1001 = some (.slice x1009 x1009l x1009c) ∧ chkP x1009 fun a1010 => (0 ≤ v4_1003 ∧ v4_1003 < (x1009l : Int)) ∧ ∃ (x1011 : Int), cell h1004 (a1010.add (v4_1003.toNat * 1)) = some (.int .i64 x1011) ∧ ∃ (x1012 : Option Addr) (x1012l : Nat) (x1012c : Nat), cell h1004 c1_1001 = some (.slice x1012 x1012l x1012c) ∧ iteB (decide (x1011 ≥ (x1012l : Int))) (K0 false h1004) (∃ (x1013 : Option Addr) (x1013l : Nat) (x1013c : Nat), cell h1004 (c1_1001.add 1) = some (.slice x1013 x1013l x1013c) ∧ chkP x1013 fun a1014 => (0 ≤ v4_1003 ∧ v4_1003 < (x1013l : Int)) ∧ ∃ (x1015 : Int), cell h1004 (a1014.add (v4_1003.toNat * 1)) = some (.int .i64 x1015) ∧ (iteB (decide (x1015 < (0 : Int))) (K0 false h1004) ((j1023))))))) (K2 v3_1002 h1004))
def straitref29_Right.l0 (K0 : Bool → Heap → Prop) (K2 : Int → Heap → Prop) : Nat → Addr → Int → Int → Heap → Prop
  | 0, _, _, _, _ => False
  | m + 1, c1_1001, v3_1002, v4_1003, h => straitref29_Right.b0 K0 K2 (straitref29_Right.l0 K0 K2 m) c1_1001 v3_1002 v4_1003 h
def straitref29_Right (a1 : Option Addr) (a1l : Nat) (a1c : Nat) (a2 : Option Addr) (a2l : Nat) (a2c : Nat) (h : Heap) (K : Bool → Heap → Prop) : Prop :=
  newP h (.cells #[(.slice a1 a1l a1c), (.slice a2 a2l a2c)] 25) fun a3 h4 => (let j32 : Prop := (((∃ m13, straitref29_Right.l0 (fun z9 h10 => K z9 h10) (fun z11 h12 => ((iteB (decide (z11 > (1 : Int))) (K false h12) (iteB (z11 == (0 : Int)) (∃ (x14 : Option Addr) (x14l : Nat) (x14c : Nat), cell h12 a3 = some (.slice x14 x14l x14c) ∧ (iteB (decide ((x14l : Int) > (0 : Int))) (K false h12) (((∃ m27, straitref29_Right.l1 (fun z24 h25 => K z24 h25) (fun h26 => (K true h26)) m27 a3 0 h12))))) ((((∃ m31, straitref29_Right.l1 (fun z28 h29 => K z28 h29) (fun h30 => (K true h30)) m31 a3 0 h12)))))))) m13 a3 0 0 h4)));
  ∃ (x5 : Option Addr) (x5l : Nat) (x5c : Nat), cell h4 a3 = some (.slice x5 x5l x5c) ∧ ∃ (x6 : Option Addr) (x6l : Nat) (x6c : Nat), cell h4 (a3.add 1) = some (.slice x6 x6l x6c) ∧ iteB ((x5l : Int) != (x6l : Int)) (K false h4) (∃ (x7 : Option Addr) (x7l : Nat) (x7c : Nat), cell h4 a3 = some (.slice x7 x7l x7c) ∧ (iteB (decide ((x7l : Int) > (4096 : Int))) (K false h4) ((j32)))))
def straitref29_Right.ret (K : Bool → Heap → Prop) (v : Value) (h : Heap) : Prop := match v with
  | (.bool r33) => K r33 h
  | _ => False
theorem straitref29_Right.ret_elim {K : Bool → Heap → Prop} {K' : Value → Heap → Prop} {v : Value} {h : Heap} (hk : ∀ r33 h, K r33 h → K' (.bool r33) h) (hh : straitref29_Right.ret K v h) : K' v h := by
  unfold straitref29_Right.ret at hh
  split at hh
  · exact hk _ _ hh
  · exact hh.elim
def straitref29_Right.call (f : FuncId) (vs : List Value) (h : Heap) (K : Value → Heap → Prop) : Prop := match f, vs with
  | 48, [(.agg ⟨[(.slice a1 a1l a1c), (.slice a2 a2l a2c)]⟩), (.int .i64 a3)] => callP3 (straitref29_Up a1 a1l a1c a2 a2l a2c a3 h) fun r9 r9l r9c h' => K (.slice r9 r9l r9c) h'
  | _, _ => False
def straitref29_Right.r0 (K : Nat → List Value → Heap → Prop) (m : Nat) (vs : List Value) (h : Heap) : Prop := match vs with
  | [(.pointer (some c1_1001)), (.int .i64 v3_1002), (.int .i64 v4_1003)] => straitref29_Right.l0 (fun z34 h' => K 0 [(.bool z34)] h') (fun z35 h' => K 2 [(.pointer (some c1_1001)), (.int .i64 z35)] h') m c1_1001 v3_1002 v4_1003 h
  | _ => False
def straitref29_Right.r1 (K : Nat → List Value → Heap → Prop) (m : Nat) (vs : List Value) (h : Heap) : Prop := match vs with
  | [(.pointer (some c1_2001)), (.int .i64 v5_2002)] => straitref29_Right.l1 (fun z36 h' => K 0 [(.bool z36)] h') (fun h' => K 4 [] h') m c1_2001 v5_2002 h
  | _ => False
def straitref29_Right.loop (i : Nat) (vs : List Value) (h : Heap) (K : Nat → List Value → Heap → Prop) : Prop := match i with
  | 0 => ∃ m, straitref29_Right.r0 K m vs h
  | 1 => ∃ m, straitref29_Right.r1 K m vs h
  | _ => False
noncomputable def straitref29_Right.ctx : Ctx := { P := Try.prog, call := straitref29_Right.call, qcall := fun _ _ _ _ => False, quiet := fun f => false, loop := straitref29_Right.loop }
theorem straitref29_Right.ok : straitref29_Right.ctx.OK where
  mixed := by kernel_rfl
  mono := by
    intro f args h K K' hh hk
    change straitref29_Right.call f args h K at hh
    change straitref29_Right.call f args h K'
    unfold straitref29_Right.call at hh ⊢
    split at hh
    · obtain ⟨R, h1, h2⟩ := hh
      exact ⟨R, h1, fun _ _ _ x hr => hk _ _ (h2 _ _ _ x hr)⟩
    · exact hh.elim
  call := by
    intro f args h K hh w hw
    change straitref29_Right.call f args h K at hh
    unfold straitref29_Right.call at hh
    split at hh
    · obtain ⟨R, h1, h2⟩ := hh
      obtain ⟨g1, g2⟩ := straitref29_Up.calls h1 w hw
      exact ⟨g1, g2.mono fun e w' ⟨v, he, ho, hr⟩ => ⟨v, he, ho, straitref29_Up.ret_elim h2 hr⟩⟩
    · exact hh.elim
  qmono := fun hh _ => hh.elim
  qval := fun hh => hh.elim
  qcall := fun hh => hh.elim
noncomputable def straitref29_Right.code : Code := (Try.f15.body).getD .skip
def straitref29_Right.ann : Ann := (.two .auto (.two .auto (.two .auto (.two (.two .auto (.two (.loop 0 [1, 3, 4] [(2, [1, 3]), (0, [2])] (.two .auto (.two (.two (.two (.two (.reg [0, 1, 0, 7, 15, 31, 63, 127, 255, 127, 1023, 2047, 127, 4223, 12415, 32767, 65535, 131071, 262143, 524287, 262143, 2097151, 4194303, 8388607, 16777215] (.take 0 (.take 1 (.take 2 (.take 3 (.take 4 (.take 5 (.take 6 (.take 7 (.take 8 (.take 9 (.take 10 (.take 11 (.take 12 (.take 13 (.take 14 (.take 15 (.take 16 (.take 17 (.take 18 (.take 19 (.take 20 (.take 21 (.take 22 (.take 23 (.take 24 .done)))))))))))))))))))))))))) .auto) .auto) .auto) .auto))) .auto)) (.two .auto (.two (.two .auto (.two (.loop 1 [1, 5] [(4, []), (0, [2])] (.two .auto (.two (.two (.two (.reg [0, 0, 3, 7, 0, 16, 48, 127] (.take 0 (.take 1 (.take 4 (.early 5 (.take 6 (.alt 2 (.take 3 (.take 7 .done)) .noalt))))))) .auto) .auto) .auto))) .auto)) .auto))))))
noncomputable def straitref29_Right.c1 : Code := sub straitref29_Right.code [1, 1, 1, 1, 1, 0, 1, 0, 0]
def straitref29_Right.a1 : Ann := (.two .auto (.two (.two (.two (.reg [0, 0, 3, 7, 0, 16, 48, 127] (.take 0 (.take 1 (.take 4 (.early 5 (.take 6 (.alt 2 (.take 3 (.take 7 .done)) .noalt))))))) .auto) .auto) .auto))
def straitref29_Right.keep1 : List Nat := [1, 5]
def straitref29_Right.outs1 : List (Nat × List Nat) := [(4, []), (0, [2])]
noncomputable def straitref29_Right.c0 : Code := sub straitref29_Right.code [1, 1, 1, 0, 1, 0, 0]
def straitref29_Right.a0 : Ann := (.two .auto (.two (.two (.two (.two (.reg [0, 1, 0, 7, 15, 31, 63, 127, 255, 127, 1023, 2047, 127, 4223, 12415, 32767, 65535, 131071, 262143, 524287, 262143, 2097151, 4194303, 8388607, 16777215] (.take 0 (.take 1 (.take 2 (.take 3 (.take 4 (.take 5 (.take 6 (.take 7 (.take 8 (.take 9 (.take 10 (.take 11 (.take 12 (.take 13 (.take 14 (.take 15 (.take 16 (.take 17 (.take 18 (.take 19 (.take 20 (.take 21 (.take 22 (.take 23 (.take 24 .done)))))))))))))))))))))))))) .auto) .auto) .auto) .auto))
def straitref29_Right.keep0 : List Nat := [1, 3, 4]
def straitref29_Right.outs0 : List (Nat × List Nat) := [(2, [1, 3]), (0, [2])]
set_option maxRecDepth 100000 in
theorem straitref29_Right.L0 : LoopOK straitref29_Right.ctx 92 straitref29_Right.c0 0 straitref29_Right.keep0 straitref29_Right.outs0 := by
  refine loop_ok (n := straitref29_Right.a0) straitref29_Right.ok (by kernel_rfl) (loops_ok (l := []) (by kernel_rfl) ?_) straitref29_Right.r0 ?_ ?_ (fun vs h K hh => hh)
  · exact trivial
  · intro K vs h hh
    unfold straitref29_Right.r0 at hh
    split at hh
    · exact hh
    · exact hh
  · intro K m vs h hh
    unfold straitref29_Right.r0 at hh
    split at hh
    · exact cast (by kernel_rfl) hh
    · exact hh.elim
set_option maxRecDepth 100000 in
theorem straitref29_Right.L1 : LoopOK straitref29_Right.ctx 92 straitref29_Right.c1 1 straitref29_Right.keep1 straitref29_Right.outs1 := by
  refine loop_ok (n := straitref29_Right.a1) straitref29_Right.ok (by kernel_rfl) (loops_ok (l := []) (by kernel_rfl) ?_) straitref29_Right.r1 ?_ ?_ (fun vs h K hh => hh)
  · exact trivial
  · intro K vs h hh
    unfold straitref29_Right.r1 at hh
    split at hh
    · exact hh
    · exact hh
  · intro K m vs h hh
    unfold straitref29_Right.r1 at hh
    split at hh
    · exact cast (by kernel_rfl) hh
    · exact hh.elim
set_option maxRecDepth 100000 in
theorem straitref29_Right.eq (a1 : Option Addr) (a1l : Nat) (a1c : Nat) (a2 : Option Addr) (a2l : Nat) (a2c : Nat) (h : Heap) (K : Bool → Heap → Prop) : evF straitref29_Right.ctx Try.f15 straitref29_Right.ann [(.agg #[(.slice a1 a1l a1c), (.slice a2 a2l a2c)])] h (straitref29_Right.ret K) = straitref29_Right a1 a1l a1c a2 a2l a2c h K := by kernel_rfl
set_option maxRecDepth 100000 in
theorem straitref29_Right.calls {a1 : Option Addr} {a1l : Nat} {a1c : Nat} {a2 : Option Addr} {a2l : Nat} {a2c : Nat} {h : Heap} {K : Bool → Heap → Prop} (hh : straitref29_Right a1 a1l a1c a2 a2l a2c h K) (w : World) (hw : w.heap = h) :
    (callFunc 15 #[(.agg #[(.slice a1 a1l a1c), (.slice a2 a2l a2c)])]).run Try.prog w = .ok (.enter 15 #[(.agg #[(.slice a1 a1l a1c), (.slice a2 a2l a2c)])]) w ∧ Calls Try.prog 15 #[(.agg #[(.slice a1 a1l a1c), (.slice a2 a2l a2c)])] w fun e w' => ∃ v, e = .returned v ∧ Out w w' ∧ straitref29_Right.ret K v w'.heap := by
  rw [← straitref29_Right.eq] at hh
  exact fn_calls (args := [(.agg #[(.slice a1 a1l a1c), (.slice a2 a2l a2c)])]) (c := straitref29_Right.code) straitref29_Right.ok Try.func15 (by kernel_rfl) (by kernel_rfl) (by kernel_rfl) (by kernel_rfl) (loops_ok (l := [(straitref29_Right.c0, none, 0, straitref29_Right.keep0, straitref29_Right.outs0), (straitref29_Right.c1, none, 1, straitref29_Right.keep1, straitref29_Right.outs1)]) (by kernel_rfl) ⟨straitref29_Right.L0, straitref29_Right.L1, trivial⟩) hh w hw

end Go.Proofs.Ytfidcekobjmamaa
