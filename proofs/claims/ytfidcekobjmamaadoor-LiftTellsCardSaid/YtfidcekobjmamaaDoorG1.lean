/- WRITTEN BY A PROGRAM OF THIS SESSION (gen.py): what each function asks of memory, and that the model's run comes to it. -/
import Derived.Test.YtfidcekobjmamaaDoorProg
import Derived.Test.YtfidcekobjmamaaDoorFw8
import Derived.Test.YtfidcekobjmamaaDoorG0
namespace Go.Proofs.YtfidcekobjmamaaDoor
open Go.Hp
set_option linter.unusedVariables false
set_option linter.unusedSimpArgs false

/-! ### (*strait/lift.Table).Meet: function 9 -/
def lift_Table_Meet (a1 : Option Addr) (a2 : Int) (a3 : Int) (h : Heap) (K : Int → Heap → Prop) : Prop :=
  (qcallP1 h (lift_Table_in a1 a2 h) fun x4 => iteB (!x4) (((K (-1) h))) (qcallP1 h (lift_Table_in a1 a3 h) fun x5 => (iteB (!x5) ((K (-1) h)) ((chkP a1 fun a21 => ∃ (x22 : Int), cell h (a21.add 3) = some (.int .i64 x22) ∧ (callP2 (lift_Table_meet a1 a2 a3 h) fun x23 x24 h25 => (chkP a1 fun a26 => stC h25 (a26.add 3) (.int .i64 x22) fun h27 => K x23 h27)))))))
def lift_Table_Meet.ret (K : Int → Heap → Prop) (v : Value) (h : Heap) : Prop := match v with
  | (.int .i64 r28) => K r28 h
  | _ => False
theorem lift_Table_Meet.ret_elim {K : Int → Heap → Prop} {K' : Value → Heap → Prop} {v : Value} {h : Heap} (hk : ∀ r28 h, K r28 h → K' (.int .i64 r28) h) (hh : lift_Table_Meet.ret K v h) : K' v h := by
  unfold lift_Table_Meet.ret at hh
  split at hh
  · exact hk _ _ hh
  · exact hh.elim
def lift_Table_Meet.call (f : FuncId) (vs : List Value) (h : Heap) (K : Value → Heap → Prop) : Prop := match f, vs with
  | 27, [(.pointer a1), (.int .i64 a2), (.int .i64 a3)] => callP2 (lift_Table_meet a1 a2 a3 h) fun r121 r122 h' => K (.tuple #[(.int .i64 r121), (.int .i64 r122)]) h'
  | _, _ => False
def lift_Table_Meet.qcall (f : FuncId) (vs : List Value) (h : Heap) (K : Value → Prop) : Prop := match f, vs with
  | 26, [(.pointer a1), (.int .i64 a2)] => qcallP1 h (lift_Table_in a1 a2 h) fun r5 => K (.bool r5)
  | _, _ => False
noncomputable def lift_Table_Meet.ctx : Ctx := { P := Tryd.prog, call := lift_Table_Meet.call, qcall := lift_Table_Meet.qcall, quiet := fun f => Nat.beq f 26, loop := fun _ _ _ _ => False }
theorem lift_Table_Meet.ok : lift_Table_Meet.ctx.OK where
  mixed := by kernel_rfl
  mono := by
    intro f args h K K' hh hk
    change lift_Table_Meet.call f args h K at hh
    change lift_Table_Meet.call f args h K'
    unfold lift_Table_Meet.call at hh ⊢
    split at hh
    · obtain ⟨R, h1, h2⟩ := hh
      exact ⟨R, h1, fun _ _ x hr => hk _ _ (h2 _ _ x hr)⟩
    · exact hh.elim
  call := by
    intro f args h K hh w hw
    change lift_Table_Meet.call f args h K at hh
    unfold lift_Table_Meet.call at hh
    split at hh
    · obtain ⟨R, h1, h2⟩ := hh
      obtain ⟨g1, g2⟩ := lift_Table_meet.calls h1 w hw
      exact ⟨g1, g2.mono fun e w' ⟨v, he, ho, hr⟩ => ⟨v, he, ho, lift_Table_meet.ret_elim h2 hr⟩⟩
    · exact hh.elim
  qmono := by
    intro f args h K K' hh hk
    change lift_Table_Meet.qcall f args h K at hh
    change lift_Table_Meet.qcall f args h K'
    unfold lift_Table_Meet.qcall at hh ⊢
    split at hh
    · obtain ⟨x0, h1, h2⟩ := hh
      exact ⟨x0, h1, hk _ h2⟩
    · exact hh.elim
  qval := by
    intro f args h K hh
    change lift_Table_Meet.qcall f args h K at hh
    suffices H : ∃ v, K v ∧ lift_Table_Meet.qcall f args h (· = v) from H
    unfold lift_Table_Meet.qcall at hh ⊢
    split at hh
    · obtain ⟨x0, h1, h2⟩ := hh
      exact ⟨_, h2, x0, h1, rfl⟩
    · exact hh.elim
  qcall := by
    intro f args h v hh w hw
    change lift_Table_Meet.qcall f args h (· = v) at hh
    unfold lift_Table_Meet.qcall at hh
    split at hh
    · obtain ⟨x0, h1, h2⟩ := hh
      obtain ⟨g1, g2⟩ := lift_Table_in.calls h1 w hw
      refine .inl ⟨g1, g2.mono fun e w' ⟨u, he, ho, hr⟩ => ?_⟩
      have hq := lift_Table_in.ret_elim (K' := fun u h' => u = v ∧ h' = h) (fun _ h' hr => by obtain ⟨rfl, rfl⟩ := hr; exact ⟨h2, rfl⟩) hr
      exact ⟨hq.1 ▸ he, ho, hq.2⟩
    · exact hh.elim
noncomputable def lift_Table_Meet.code : Code := (Tryd.f9.body).getD .skip
def lift_Table_Meet.ann : Ann := .auto
set_option maxRecDepth 100000 in
theorem lift_Table_Meet.eq (a1 : Option Addr) (a2 : Int) (a3 : Int) (h : Heap) (K : Int → Heap → Prop) : evF lift_Table_Meet.ctx Tryd.f9 lift_Table_Meet.ann [(.pointer a1), (.int .i64 a2), (.int .i64 a3)] h (lift_Table_Meet.ret K) = lift_Table_Meet a1 a2 a3 h K := by kernel_rfl
set_option maxRecDepth 100000 in
theorem lift_Table_Meet.calls {a1 : Option Addr} {a2 : Int} {a3 : Int} {h : Heap} {K : Int → Heap → Prop} (hh : lift_Table_Meet a1 a2 a3 h K) (w : World) (hw : w.heap = h) :
    (callFunc 9 #[(.pointer a1), (.int .i64 a2), (.int .i64 a3)]).run Tryd.prog w = .ok (.enter 9 #[(.pointer a1), (.int .i64 a2), (.int .i64 a3)]) w ∧ Calls Tryd.prog 9 #[(.pointer a1), (.int .i64 a2), (.int .i64 a3)] w fun e w' => ∃ v, e = .returned v ∧ Out w w' ∧ lift_Table_Meet.ret K v w'.heap := by
  rw [← lift_Table_Meet.eq] at hh
  exact fn_calls (args := [(.pointer a1), (.int .i64 a2), (.int .i64 a3)]) (c := lift_Table_Meet.code) lift_Table_Meet.ok Tryd.func9 (by kernel_rfl) (by kernel_rfl) (by kernel_rfl) (by kernel_rfl) (loops_ok (l := []) (by kernel_rfl) trivial) hh w hw

/-! ### (*strait/lift.Table).Far: function 11 -/
def lift_Table_Far (a1 : Option Addr) (a2 : Int) (a3 : Int) (h : Heap) (K : Int → Heap → Prop) : Prop :=
  (callP1 (lift_Table_Meet a1 a2 a3 h) fun x4 h5 => ((iteB (decide (x4 < (0 : Int))) ((K (-1) h5)) ((chkP a1 fun a6 => ∃ (x7 : Option Addr) (x7l : Nat) (x7c : Nat), cell h5 (a6.add 1) = some (.slice x7 x7l x7c) ∧ chkP x7 fun a8 => (0 ≤ a2 ∧ a2 < (x7l : Int)) ∧ ∃ (x9 : Int), cell h5 (a8.add (a2.toNat * 1)) = some (.int .i64 x9) ∧ chkP a1 fun a10 => ∃ (x11 : Option Addr) (x11l : Nat) (x11c : Nat), cell h5 (a10.add 1) = some (.slice x11 x11l x11c) ∧ chkP x11 fun a12 => (0 ≤ a3 ∧ a3 < (x11l : Int)) ∧ ∃ (x13 : Int), cell h5 (a12.add (a3.toNat * 1)) = some (.int .i64 x13) ∧ chkP a1 fun a14 => ∃ (x15 : Option Addr) (x15l : Nat) (x15c : Nat), cell h5 (a14.add 1) = some (.slice x15 x15l x15c) ∧ chkP x15 fun a16 => (0 ≤ x4 ∧ x4 < (x15l : Int)) ∧ ∃ (x17 : Int), cell h5 (a16.add (x4.toNat * 1)) = some (.int .i64 x17) ∧ bindV (IntKind.i64.wrap ((IntKind.i64.wrap (x9 + x13)) - (IntKind.i64.wrap (2 * x17)))) fun n18 => K n18 h5)))))
def lift_Table_Far.ret (K : Int → Heap → Prop) (v : Value) (h : Heap) : Prop := match v with
  | (.int .i64 r19) => K r19 h
  | _ => False
theorem lift_Table_Far.ret_elim {K : Int → Heap → Prop} {K' : Value → Heap → Prop} {v : Value} {h : Heap} (hk : ∀ r19 h, K r19 h → K' (.int .i64 r19) h) (hh : lift_Table_Far.ret K v h) : K' v h := by
  unfold lift_Table_Far.ret at hh
  split at hh
  · exact hk _ _ hh
  · exact hh.elim
def lift_Table_Far.call (f : FuncId) (vs : List Value) (h : Heap) (K : Value → Heap → Prop) : Prop := match f, vs with
  | 9, [(.pointer a1), (.int .i64 a2), (.int .i64 a3)] => callP1 (lift_Table_Meet a1 a2 a3 h) fun r28 h' => K (.int .i64 r28) h'
  | _, _ => False
noncomputable def lift_Table_Far.ctx : Ctx := { P := Tryd.prog, call := lift_Table_Far.call, qcall := fun _ _ _ _ => False, quiet := fun f => false, loop := fun _ _ _ _ => False }
theorem lift_Table_Far.ok : lift_Table_Far.ctx.OK where
  mixed := by kernel_rfl
  mono := by
    intro f args h K K' hh hk
    change lift_Table_Far.call f args h K at hh
    change lift_Table_Far.call f args h K'
    unfold lift_Table_Far.call at hh ⊢
    split at hh
    · obtain ⟨R, h1, h2⟩ := hh
      exact ⟨R, h1, fun _ x hr => hk _ _ (h2 _ x hr)⟩
    · exact hh.elim
  call := by
    intro f args h K hh w hw
    change lift_Table_Far.call f args h K at hh
    unfold lift_Table_Far.call at hh
    split at hh
    · obtain ⟨R, h1, h2⟩ := hh
      obtain ⟨g1, g2⟩ := lift_Table_Meet.calls h1 w hw
      exact ⟨g1, g2.mono fun e w' ⟨v, he, ho, hr⟩ => ⟨v, he, ho, lift_Table_Meet.ret_elim h2 hr⟩⟩
    · exact hh.elim
  qmono := fun hh _ => hh.elim
  qval := fun hh => hh.elim
  qcall := fun hh => hh.elim
noncomputable def lift_Table_Far.code : Code := (Tryd.f11.body).getD .skip
def lift_Table_Far.ann : Ann := (.two .auto (.two .auto (.two .auto (.two (.reg [0, 1, 3, 7, 0, 31, 63, 0, 128, 384, 896, 0, 3968, 8064, 16383, 0, 32768, 98304, 229376, 0, 1015808, 2064384, 4161536, 8388607, 16777215] (.take 0 (.take 1 (.take 2 (.take 3 (.take 4 (.take 5 (.take 6 (.take 7 (.take 8 (.take 9 (.take 10 (.take 11 (.take 12 (.take 13 (.take 14 (.take 15 (.take 16 (.take 17 (.take 18 (.take 19 (.take 20 (.take 21 (.take 22 (.take 23 (.take 24 .done)))))))))))))))))))))))))) .auto))))
set_option maxRecDepth 100000 in
theorem lift_Table_Far.eq (a1 : Option Addr) (a2 : Int) (a3 : Int) (h : Heap) (K : Int → Heap → Prop) : evF lift_Table_Far.ctx Tryd.f11 lift_Table_Far.ann [(.pointer a1), (.int .i64 a2), (.int .i64 a3)] h (lift_Table_Far.ret K) = lift_Table_Far a1 a2 a3 h K := by kernel_rfl
set_option maxRecDepth 100000 in
theorem lift_Table_Far.calls {a1 : Option Addr} {a2 : Int} {a3 : Int} {h : Heap} {K : Int → Heap → Prop} (hh : lift_Table_Far a1 a2 a3 h K) (w : World) (hw : w.heap = h) :
    (callFunc 11 #[(.pointer a1), (.int .i64 a2), (.int .i64 a3)]).run Tryd.prog w = .ok (.enter 11 #[(.pointer a1), (.int .i64 a2), (.int .i64 a3)]) w ∧ Calls Tryd.prog 11 #[(.pointer a1), (.int .i64 a2), (.int .i64 a3)] w fun e w' => ∃ v, e = .returned v ∧ Out w w' ∧ lift_Table_Far.ret K v w'.heap := by
  rw [← lift_Table_Far.eq] at hh
  exact fn_calls (args := [(.pointer a1), (.int .i64 a2), (.int .i64 a3)]) (c := lift_Table_Far.code) lift_Table_Far.ok Tryd.func11 (by kernel_rfl) (by kernel_rfl) (by kernel_rfl) (by kernel_rfl) (loops_ok (l := []) (by kernel_rfl) trivial) hh w hw

/-! ### (*strait/lift.Table).Looks: function 13 -/
def lift_Table_Looks (a1 : Option Addr) (h : Heap) (K : Int → Heap → Prop) : Prop :=
  ((iteB a1.isNone (K 0 h) ((chkP a1 fun a2 => ∃ (x3 : Int), cell h (a2.add 3) = some (.int .i64 x3) ∧ K x3 h))))
def lift_Table_Looks.ret (K : Int → Heap → Prop) (v : Value) (h : Heap) : Prop := match v with
  | (.int .i64 r4) => K r4 h
  | _ => False
theorem lift_Table_Looks.ret_elim {K : Int → Heap → Prop} {K' : Value → Heap → Prop} {v : Value} {h : Heap} (hk : ∀ r4 h, K r4 h → K' (.int .i64 r4) h) (hh : lift_Table_Looks.ret K v h) : K' v h := by
  unfold lift_Table_Looks.ret at hh
  split at hh
  · exact hk _ _ hh
  · exact hh.elim
noncomputable def lift_Table_Looks.ctx : Ctx := { P := Tryd.prog, call := fun _ _ _ _ => False, qcall := fun _ _ _ _ => False, quiet := fun f => false, loop := fun _ _ _ _ => False }
theorem lift_Table_Looks.ok : lift_Table_Looks.ctx.OK where
  mixed := by kernel_rfl
  mono := fun hh _ => hh.elim
  call := fun hh => hh.elim
  qmono := fun hh _ => hh.elim
  qval := fun hh => hh.elim
  qcall := fun hh => hh.elim
noncomputable def lift_Table_Looks.code : Code := (Tryd.f13.body).getD .skip
def lift_Table_Looks.ann : Ann := .auto
set_option maxRecDepth 100000 in
theorem lift_Table_Looks.eq (a1 : Option Addr) (h : Heap) (K : Int → Heap → Prop) : evF lift_Table_Looks.ctx Tryd.f13 lift_Table_Looks.ann [(.pointer a1)] h (lift_Table_Looks.ret K) = lift_Table_Looks a1 h K := by kernel_rfl
set_option maxRecDepth 100000 in
theorem lift_Table_Looks.calls {a1 : Option Addr} {h : Heap} {K : Int → Heap → Prop} (hh : lift_Table_Looks a1 h K) (w : World) (hw : w.heap = h) :
    (callFunc 13 #[(.pointer a1)]).run Tryd.prog w = .ok (.enter 13 #[(.pointer a1)]) w ∧ Calls Tryd.prog 13 #[(.pointer a1)] w fun e w' => ∃ v, e = .returned v ∧ Out w w' ∧ lift_Table_Looks.ret K v w'.heap := by
  rw [← lift_Table_Looks.eq] at hh
  exact fn_calls (args := [(.pointer a1)]) (c := lift_Table_Looks.code) lift_Table_Looks.ok Tryd.func13 (by kernel_rfl) (by kernel_rfl) (by kernel_rfl) (by kernel_rfl) (loops_ok (l := []) (by kernel_rfl) trivial) hh w hw

/-! ### strait/tree.deepen: function 42 -/
def tree_deepen.b2 (K2 : Heap → Prop) (cont : (Option Addr) → Nat → Nat → Int → Int → Heap → Prop) (c1_3001 : Option Addr) (c1_3002 : Nat) (c1_3003 : Nat) (v8_3004 : Int) (v9_3005 : Int) (h3006 : Heap) : Prop :=
  (iteB (decide (v9_3005 ≥ (0 : Int))) (False) (K2 h3006))
def tree_deepen.l2 (K2 : Heap → Prop) : Nat → (Option Addr) → Nat → Nat → Int → Int → Heap → Prop
  | 0, _, _, _, _, _, _ => False
  | m + 1, c1_3001, c1_3002, c1_3003, v8_3004, v9_3005, h => tree_deepen.b2 K2 (tree_deepen.l2 K2 m) c1_3001 c1_3002 c1_3003 v8_3004 v9_3005 h
def tree_deepen.b1 (K2 : Heap → Prop) (cont : (Option Addr) → Nat → Nat → (Option Addr) → Nat → Nat → Int → Int → Heap → Prop) (c1_2001 : Option Addr) (c1_2002 : Nat) (c1_2003 : Nat) (c7_2004 : Option Addr) (c7_2005 : Nat) (c7_2006 : Nat) (v8_2007 : Int) (v9_2008 : Int) (h2009 : Heap) : Prop :=
  (iteB (decide (v9_2008 ≥ (0 : Int))) (((chkP c7_2004 fun a2010 => (0 ≤ v9_2008 ∧ v9_2008 < (c7_2005 : Int)) ∧ ∃ (x2011 : Int), cell h2009 (a2010.add (v9_2008.toNat * 1)) = some (.int .i64 x2011) ∧ chkP c1_2001 fun a2012 => (0 ≤ x2011 ∧ x2011 < (c1_2002 : Int)) ∧ stC h2009 (a2012.add (x2011.toNat * 1)) (.int .i64 (IntKind.i64.wrap (v8_2007 + 1))) fun h2013 => ((cont c1_2001 c1_2002 c1_2003 c7_2004 c7_2005 c7_2006 (IntKind.i64.wrap (v8_2007 + 1)) (IntKind.i64.wrap (v9_2008 - 1)) h2013))))) (K2 h2009))
def tree_deepen.l1 (K2 : Heap → Prop) : Nat → (Option Addr) → Nat → Nat → (Option Addr) → Nat → Nat → Int → Int → Heap → Prop
  | 0, _, _, _, _, _, _, _, _, _ => False
  | m + 1, c1_2001, c1_2002, c1_2003, c7_2004, c7_2005, c7_2006, v8_2007, v9_2008, h => tree_deepen.b1 K2 (tree_deepen.l1 K2 m) c1_2001 c1_2002 c1_2003 c7_2004 c7_2005 c7_2006 v8_2007 v9_2008 h
def tree_deepen.b0 (K0 : Bool → Heap → Prop) (cont : (Option Addr) → Nat → Nat → Int → Addr → (Option Addr) → Nat → Nat → Heap → Prop) (c1_1001 : Option Addr) (c1_1002 : Nat) (c1_1003 : Nat) (v2_1004 : Int) (c3_1005 : Addr) (v7_1006 : Option Addr) (v7_1006l : Nat) (v7_1006c : Nat) (h1007 : Heap) : Prop :=
  (let j1022 := (fun (y1011 : Bool) => iteB y1011 (newP h1007 (.cells #[(.int .i64 v2_1004)] 3) fun a1012 h1013 => ∃ n1018, cellsAt h1013 (some a1012) (1 * 1) n1018 ∧ appP 3 1 8 [(.int .i64 0)] v7_1006 v7_1006l v7_1006c 1 n1018 h1013 fun q1014 l1015 c1016 h1017 => (∃ (x1019 : Option Addr) (x1019l : Nat) (x1019c : Nat), cell h1017 c3_1005 = some (.slice x1019 x1019l x1019c) ∧ chkP x1019 fun a1020 => (0 ≤ v2_1004 ∧ v2_1004 < (x1019l : Int)) ∧ ∃ (x1021 : Int), cell h1017 (a1020.add (v2_1004.toNat * 1)) = some (.int .i64 x1021) ∧ cont c1_1001 c1_1002 c1_1003 x1021 c3_1005 q1014 l1015 c1016 h1017)) ((chkP c1_1001 fun a1023 => (0 ≤ v2_1004 ∧ v2_1004 < (c1_1002 : Int)) ∧ ∃ (x1024 : Int), cell h1007 (a1023.add (v2_1004.toNat * 1)) = some (.int .i64 x1024) ∧ (iteB (decide (x1024 < (0 : Int))) (K0 false h1007) ((chkP c1_1001 fun a1025 => (0 ≤ v2_1004 ∧ v2_1004 < (c1_1002 : Int)) ∧ ∃ (x1026 : Int), cell h1007 (a1025.add (v2_1004.toNat * 1)) = some (.int .i64 x1026) ∧ ((∃ m1028, tree_deepen.l1 (fun h1027 => (K0 true h1027)) m1028 c1_1001 c1_1002 c1_1003 v7_1006 v7_1006l v7_1006c x1026 (IntKind.i64.wrap ((v7_1006l : Int) - 1)) h1007))))))));
  chkP c1_1001 fun a1008 => (0 ≤ v2_1004 ∧ v2_1004 < (c1_1002 : Int)) ∧ ∃ (x1009 : Int), cell h1007 (a1008.add (v2_1004.toNat * 1)) = some (.int .i64 x1009) ∧ iteB (decide (x1009 < (0 : Int))) (∃ (x1010 : Option Addr) (x1010l : Nat) (x1010c : Nat), cell h1007 c3_1005 = some (.slice x1010 x1010l x1010c) ∧ (j1022 (decide ((v7_1006l : Int) ≤ (x1010l : Int))))) ((j1022 false)))
def tree_deepen.l0 (K0 : Bool → Heap → Prop) : Nat → (Option Addr) → Nat → Nat → Int → Addr → (Option Addr) → Nat → Nat → Heap → Prop
  | 0, _, _, _, _, _, _, _, _, _ => False
  | m + 1, c1_1001, c1_1002, c1_1003, v2_1004, c3_1005, v7_1006, v7_1006l, v7_1006c, h => tree_deepen.b0 K0 (tree_deepen.l0 K0 m) c1_1001 c1_1002 c1_1003 v2_1004 c3_1005 v7_1006 v7_1006l v7_1006c h
def tree_deepen (a1 : Option Addr) (a1l : Nat) (a1c : Nat) (a2 : Option Addr) (a2l : Nat) (a2c : Nat) (a3 : Option Addr) (a3l : Nat) (a3c : Nat) (a4 : Int) (h : Heap) (K : Bool → Heap → Prop) : Prop :=
  newP h (.cells #[(.slice a1 a1l a1c), (.slice a2 a2l a2c)] 25) fun a5 h6 => (((let j24 := (fun (y10 : Bool) => iteB y10 (newP h6 (.cells #[(.int .i64 a4)] 3) fun a11 h12 => ∃ n17, cellsAt h12 (some a11) (1 * 1) n17 ∧ appP 3 1 8 [(.int .i64 0)] none 0 0 1 n17 h12 fun q13 l14 c15 h16 => (∃ (x18 : Option Addr) (x18l : Nat) (x18c : Nat), cell h16 a5 = some (.slice x18 x18l x18c) ∧ chkP x18 fun a19 => (0 ≤ a4 ∧ a4 < (x18l : Int)) ∧ ∃ (x20 : Int), cell h16 (a19.add (a4.toNat * 1)) = some (.int .i64 x20) ∧ (∃ m23, tree_deepen.l0 (fun z21 h22 => K z21 h22) m23 a3 a3l a3c x20 a5 q13 l14 c15 h16))) ((chkP a3 fun a25 => (0 ≤ a4 ∧ a4 < (a3l : Int)) ∧ ∃ (x26 : Int), cell h6 (a25.add (a4.toNat * 1)) = some (.int .i64 x26) ∧ (iteB (decide (x26 < (0 : Int))) (K false h6) ((chkP a3 fun a27 => (0 ≤ a4 ∧ a4 < (a3l : Int)) ∧ ∃ (x28 : Int), cell h6 (a27.add (a4.toNat * 1)) = some (.int .i64 x28) ∧ ((∃ m30, tree_deepen.l2 (fun h29 => (K true h29)) m30 a3 a3l a3c x28 (IntKind.i64.wrap (0 - 1)) h6))))))));
  chkP a3 fun a7 => (0 ≤ a4 ∧ a4 < (a3l : Int)) ∧ ∃ (x8 : Int), cell h6 (a7.add (a4.toNat * 1)) = some (.int .i64 x8) ∧ iteB (decide (x8 < (0 : Int))) (∃ (x9 : Option Addr) (x9l : Nat) (x9c : Nat), cell h6 a5 = some (.slice x9 x9l x9c) ∧ (j24 (decide ((0 : Int) ≤ (x9l : Int))))) ((j24 false)))))
def tree_deepen.ret (K : Bool → Heap → Prop) (v : Value) (h : Heap) : Prop := match v with
  | (.bool r31) => K r31 h
  | _ => False
theorem tree_deepen.ret_elim {K : Bool → Heap → Prop} {K' : Value → Heap → Prop} {v : Value} {h : Heap} (hk : ∀ r31 h, K r31 h → K' (.bool r31) h) (hh : tree_deepen.ret K v h) : K' v h := by
  unfold tree_deepen.ret at hh
  split at hh
  · exact hk _ _ hh
  · exact hh.elim
def tree_deepen.r0 (K : Nat → List Value → Heap → Prop) (m : Nat) (vs : List Value) (h : Heap) : Prop := match vs with
  | [(.slice c1_1001 c1_1002 c1_1003), (.int .i64 v2_1004), (.pointer (some c3_1005)), (.slice v7_1006 v7_1006l v7_1006c)] => tree_deepen.l0 (fun z32 h' => K 0 [(.bool z32)] h') m c1_1001 c1_1002 c1_1003 v2_1004 c3_1005 v7_1006 v7_1006l v7_1006c h
  | _ => False
def tree_deepen.r1 (K : Nat → List Value → Heap → Prop) (m : Nat) (vs : List Value) (h : Heap) : Prop := match vs with
  | [(.slice c1_2001 c1_2002 c1_2003), (.slice c7_2004 c7_2005 c7_2006), (.int .i64 v8_2007), (.int .i64 v9_2008)] => tree_deepen.l1 (fun h' => K 2 [] h') m c1_2001 c1_2002 c1_2003 c7_2004 c7_2005 c7_2006 v8_2007 v9_2008 h
  | _ => False
def tree_deepen.r2 (K : Nat → List Value → Heap → Prop) (m : Nat) (vs : List Value) (h : Heap) : Prop := match vs with
  | [(.slice c1_3001 c1_3002 c1_3003), (.slice none 0 0), (.int .i64 v8_3004), (.int .i64 v9_3005)] => tree_deepen.l2 (fun h' => K 2 [] h') m c1_3001 c1_3002 c1_3003 v8_3004 v9_3005 h
  | _ => False
def tree_deepen.loop (i : Nat) (vs : List Value) (h : Heap) (K : Nat → List Value → Heap → Prop) : Prop := match i with
  | 0 => ∃ m, tree_deepen.r0 K m vs h
  | 1 => ∃ m, tree_deepen.r1 K m vs h
  | 2 => ∃ m, tree_deepen.r2 K m vs h
  | _ => False
noncomputable def tree_deepen.ctx : Ctx := { P := Tryd.prog, call := fun _ _ _ _ => False, qcall := fun _ _ _ _ => False, quiet := fun f => false, loop := tree_deepen.loop }
theorem tree_deepen.ok : tree_deepen.ctx.OK where
  mixed := by kernel_rfl
  mono := fun hh _ => hh.elim
  call := fun hh => hh.elim
  qmono := fun hh _ => hh.elim
  qval := fun hh => hh.elim
  qcall := fun hh => hh.elim
noncomputable def tree_deepen.code : Code := (Tryd.f42.body).getD .skip
def tree_deepen.ann : Ann := (.two .auto (.jump 0 0 [1, 2, 3, 7] [(0, [6])] (.two .auto (.two .auto (.two .auto (.two .auto (.two .auto (.two (.two .auto (.two (.loop 2 [1, 7, 8, 9] [(2, [])] .auto) .auto)) .auto)))))) (.two .auto (.two .auto (.two .auto (.two .auto (.two (.two .auto (.two (.loop 1 [1, 7, 8, 9] [(2, [])] .auto) .auto)) .auto)))))))
noncomputable def tree_deepen.c2 : Code := sub tree_deepen.code [1, 0, 1, 1, 1, 1, 1, 0, 1, 0, 0]
def tree_deepen.a2 : Ann := .auto
def tree_deepen.keep2 : List Nat := [1, 7, 8, 9]
def tree_deepen.outs2 : List (Nat × List Nat) := [(2, [])]
noncomputable def tree_deepen.c1 : Code := sub tree_deepen.code [1, 1, 1, 1, 1, 1, 0, 1, 0, 0]
def tree_deepen.a1 : Ann := .auto
def tree_deepen.keep1 : List Nat := [1, 7, 8, 9]
def tree_deepen.outs1 : List (Nat × List Nat) := [(2, [])]
noncomputable def tree_deepen.c0 : Code := sub tree_deepen.code [1, 1]
def tree_deepen.a0 : Ann := (.two .auto (.two .auto (.two .auto (.two .auto (.two (.two .auto (.two (.loop 1 [1, 7, 8, 9] [(2, [])] .auto) .auto)) .auto)))))
def tree_deepen.keep0 : List Nat := [1, 2, 3, 7]
def tree_deepen.outs0 : List (Nat × List Nat) := [(0, [6])]
set_option maxRecDepth 100000 in
theorem tree_deepen.L1 : LoopOK tree_deepen.ctx 57 tree_deepen.c1 1 tree_deepen.keep1 tree_deepen.outs1 := by
  refine loop_ok (n := tree_deepen.a1) tree_deepen.ok (by kernel_rfl) (loops_ok (l := []) (by kernel_rfl) ?_) tree_deepen.r1 ?_ ?_ (fun vs h K hh => hh)
  · exact trivial
  · intro K vs h hh
    unfold tree_deepen.r1 at hh
    split at hh
    · exact hh
    · exact hh
  · intro K m vs h hh
    unfold tree_deepen.r1 at hh
    split at hh
    · exact cast (by kernel_rfl) hh
    · exact hh.elim
set_option maxRecDepth 100000 in
theorem tree_deepen.L0 : JumpOK tree_deepen.ctx 57 tree_deepen.c0 0 0 tree_deepen.keep0 tree_deepen.outs0 := by
  refine jump_ok (n := tree_deepen.a0) tree_deepen.ok (by kernel_rfl) (loops_ok (l := [(tree_deepen.c1, none, 1, tree_deepen.keep1, tree_deepen.outs1)]) (by kernel_rfl) ?_) tree_deepen.r0 ?_ ?_ (fun vs h K hh => hh)
  · exact ⟨tree_deepen.L1, trivial⟩
  · intro K vs h hh
    unfold tree_deepen.r0 at hh
    split at hh
    · exact hh
    · exact hh
  · intro K m vs h hh
    unfold tree_deepen.r0 at hh
    split at hh
    · exact cast (by kernel_rfl) hh
    · exact hh.elim
set_option maxRecDepth 100000 in
theorem tree_deepen.L2 : LoopOK tree_deepen.ctx 57 tree_deepen.c2 2 tree_deepen.keep2 tree_deepen.outs2 := by
  refine loop_ok (n := tree_deepen.a2) tree_deepen.ok (by kernel_rfl) (loops_ok (l := []) (by kernel_rfl) ?_) tree_deepen.r2 ?_ ?_ (fun vs h K hh => hh)
  · exact trivial
  · intro K vs h hh
    unfold tree_deepen.r2 at hh
    split at hh
    · exact hh
    · exact hh
  · intro K m vs h hh
    unfold tree_deepen.r2 at hh
    split at hh
    · exact cast (by kernel_rfl) hh
    · exact hh.elim
set_option maxRecDepth 100000 in
theorem tree_deepen.eq (a1 : Option Addr) (a1l : Nat) (a1c : Nat) (a2 : Option Addr) (a2l : Nat) (a2c : Nat) (a3 : Option Addr) (a3l : Nat) (a3c : Nat) (a4 : Int) (h : Heap) (K : Bool → Heap → Prop) : evF tree_deepen.ctx Tryd.f42 tree_deepen.ann [(.agg #[(.slice a1 a1l a1c), (.slice a2 a2l a2c)]), (.slice a3 a3l a3c), (.int .i64 a4)] h (tree_deepen.ret K) = tree_deepen a1 a1l a1c a2 a2l a2c a3 a3l a3c a4 h K := by kernel_rfl
set_option maxRecDepth 100000 in
theorem tree_deepen.calls {a1 : Option Addr} {a1l : Nat} {a1c : Nat} {a2 : Option Addr} {a2l : Nat} {a2c : Nat} {a3 : Option Addr} {a3l : Nat} {a3c : Nat} {a4 : Int} {h : Heap} {K : Bool → Heap → Prop} (hh : tree_deepen a1 a1l a1c a2 a2l a2c a3 a3l a3c a4 h K) (w : World) (hw : w.heap = h) :
    (callFunc 42 #[(.agg #[(.slice a1 a1l a1c), (.slice a2 a2l a2c)]), (.slice a3 a3l a3c), (.int .i64 a4)]).run Tryd.prog w = .ok (.enter 42 #[(.agg #[(.slice a1 a1l a1c), (.slice a2 a2l a2c)]), (.slice a3 a3l a3c), (.int .i64 a4)]) w ∧ Calls Tryd.prog 42 #[(.agg #[(.slice a1 a1l a1c), (.slice a2 a2l a2c)]), (.slice a3 a3l a3c), (.int .i64 a4)] w fun e w' => ∃ v, e = .returned v ∧ Out w w' ∧ tree_deepen.ret K v w'.heap := by
  rw [← tree_deepen.eq] at hh
  exact fn_calls (args := [(.agg #[(.slice a1 a1l a1c), (.slice a2 a2l a2c)]), (.slice a3 a3l a3c), (.int .i64 a4)]) (c := tree_deepen.code) tree_deepen.ok Tryd.func42 (by kernel_rfl) (by kernel_rfl) (by kernel_rfl) (by kernel_rfl) (loops_ok (l := [(tree_deepen.c2, none, 2, tree_deepen.keep2, tree_deepen.outs2), (tree_deepen.c0, some 0, 0, tree_deepen.keep0, tree_deepen.outs0)]) (by kernel_rfl) ⟨tree_deepen.L2, tree_deepen.L0, trivial⟩) hh w hw

/-! ### strait/tree.depths: function 36 -/
def tree_depths.b1 (K0 : (Option Addr) → Nat → Nat → Bool → Heap → Prop) (K5 : Heap → Prop) (cont : Addr → Addr → Nat → Nat → Int → Int → Heap → Prop) (c1_2001 : Addr) (c5_2002 : Addr) (c5_2003 : Nat) (c5_2004 : Nat) (c66_2005 : Int) (v67_2006 : Int) (h2007 : Heap) : Prop :=
  (iteB (decide (v67_2006 < c66_2005)) (((∃ (x2008 : Option Addr) (x2008l : Nat) (x2008c : Nat), cell h2007 c1_2001 = some (.slice x2008 x2008l x2008c) ∧ ∃ (x2009 : Option Addr) (x2009l : Nat) (x2009c : Nat), cell h2007 (c1_2001.add 1) = some (.slice x2009 x2009l x2009c) ∧ callP1 (tree_deepen x2008 x2008l x2008c x2009 x2009l x2009c (some c5_2002) c5_2003 c5_2004 v67_2006 h2007) fun x2010 h2011 => (iteB (!x2010) (K0 none 0 0 false h2011) (((cont c1_2001 c5_2002 c5_2003 c5_2004 c66_2005 (IntKind.i64.wrap (v67_2006 + 1)) h2011))))))) (K5 h2007))
def tree_depths.l1 (K0 : (Option Addr) → Nat → Nat → Bool → Heap → Prop) (K5 : Heap → Prop) : Nat → Addr → Addr → Nat → Nat → Int → Int → Heap → Prop
  | 0, _, _, _, _, _, _, _ => False
  | m + 1, c1_2001, c5_2002, c5_2003, c5_2004, c66_2005, v67_2006, h => tree_depths.b1 K0 K5 (tree_depths.l1 K0 K5 m) c1_2001 c5_2002 c5_2003 c5_2004 c66_2005 v67_2006 h
def tree_depths.b0 (K0 : (Option Addr) → Nat → Nat → Bool → Heap → Prop) (K2 : Int → Heap → Prop) (cont : Addr → Int → Addr → Nat → Nat → Int → (Option Addr) → Nat → Nat → Int → Int → Heap → Prop) (c1_1001 : Addr) (c4_1002 : Int) (c5_1003 : Addr) (c5_1004 : Nat) (c5_1005 : Nat) (v6_1006 : Int) (c25_1007 : Option Addr) (c25_1008 : Nat) (c25_1009 : Nat) (c26_1010 : Int) (v27_1011 : Int) (h1012 : Heap) : Prop :=
  (iteB (decide (v27_1011 < c26_1010)) ((chkP c25_1007 fun a1013 => (0 ≤ v27_1011 ∧ v27_1011 < (c25_1008 : Int)) ∧ ∃ (x1014 : Int), cell h1012 (a1013.add (v27_1011.toNat * 1)) = some (.int .i64 x1014) ∧ ((0 ≤ v27_1011 ∧ v27_1011 < (c5_1004 : Int)) ∧ stC h1012 (c5_1003.add (v27_1011.toNat * 1)) (.int .i64 (-1)) fun h1015 => (let j1024 := (fun (y1019 : Bool) => iteB y1019 (K0 none 0 0 false h1015) ((iteB (x1014 == ((-1) : Int)) (((0 ≤ v27_1011 ∧ v27_1011 < (c5_1004 : Int)) ∧ stC h1015 (c5_1003.add (v27_1011.toNat * 1)) (.int .i64 0) fun h1020 => (∃ (x1021 : Option Addr) (x1021l : Nat) (x1021c : Nat), cell h1020 (c1_1001.add 1) = some (.slice x1021 x1021l x1021c) ∧ chkP x1021 fun a1022 => (0 ≤ v27_1011 ∧ v27_1011 < (x1021l : Int)) ∧ ∃ (x1023 : Int), cell h1020 (a1022.add (v27_1011.toNat * 1)) = some (.int .i64 x1023) ∧ (iteB (x1023 != (0 : Int)) (K0 none 0 0 false h1020) ((((cont c1_1001 c4_1002 c5_1003 c5_1004 c5_1005 (IntKind.i64.wrap (v6_1006 + 1)) c25_1007 c25_1008 c25_1009 c26_1010 (IntKind.i64.wrap (v27_1011 + 1)) h1020)))))))) ((((cont c1_1001 c4_1002 c5_1003 c5_1004 c5_1005 v6_1006 c25_1007 c25_1008 c25_1009 c26_1010 (IntKind.i64.wrap (v27_1011 + 1)) h1015)))))));
  (iteB (decide (x1014 < ((-1) : Int))) ((j1024 (decide (x1014 < ((-1) : Int))))) ((iteB (decide (x1014 ≥ c4_1002)) ((j1024 (decide (x1014 ≥ c4_1002)))) (∃ (x1016 : Option Addr) (x1016l : Nat) (x1016c : Nat), cell h1015 (c1_1001.add 1) = some (.slice x1016 x1016l x1016c) ∧ chkP x1016 fun a1017 => (0 ≤ v27_1011 ∧ v27_1011 < (x1016l : Int)) ∧ ∃ (x1018 : Int), cell h1015 (a1017.add (v27_1011.toNat * 1)) = some (.int .i64 x1018) ∧ (j1024 (decide (x1018 < (0 : Int)))))))))))) (K2 v6_1006 h1012))
def tree_depths.l0 (K0 : (Option Addr) → Nat → Nat → Bool → Heap → Prop) (K2 : Int → Heap → Prop) : Nat → Addr → Int → Addr → Nat → Nat → Int → (Option Addr) → Nat → Nat → Int → Int → Heap → Prop
  | 0, _, _, _, _, _, _, _, _, _, _, _, _ => False
  | m + 1, c1_1001, c4_1002, c5_1003, c5_1004, c5_1005, v6_1006, c25_1007, c25_1008, c25_1009, c26_1010, v27_1011, h => tree_depths.b0 K0 K2 (tree_depths.l0 K0 K2 m) c1_1001 c4_1002 c5_1003 c5_1004 c5_1005 v6_1006 c25_1007 c25_1008 c25_1009 c26_1010 v27_1011 h
def tree_depths (a1 : Option Addr) (a1l : Nat) (a1c : Nat) (a2 : Option Addr) (a2l : Nat) (a2c : Nat) (h : Heap) (K : (Option Addr) → Nat → Nat → Bool → Heap → Prop) : Prop :=
  newP h (.cells #[(.slice a1 a1l a1c), (.slice a2 a2l a2c)] 25) fun a3 h4 => (∃ (x5 : Option Addr) (x5l : Nat) (x5c : Nat), cell h4 a3 = some (.slice x5 x5l x5c) ∧ (let j22 : Prop := ((0 ≤ (x5l : Int) ∧ (x5l : Int) ≤ (x5l : Int) ∧ (x5l : Int) * (8 : Nat) ≤ 2 ^ 47 ∧ (x5l : Int) ≤ 2 ^ 47) ∧ newP h4 (.cells (zeroRow [(.int .i64 0)] (x5l : Int).toNat).toArray 3) fun a8 h9 => ((∃ (x10 : Option Addr) (x10l : Nat) (x10c : Nat), cell h9 a3 = some (.slice x10 x10l x10c) ∧ (∃ m16, tree_depths.l0 (fun z11 z11l z11c z12 h13 => K z11 z11l z11c z12 h13) (fun z14 h15 => (((iteB (z14 != (if 1 < (x5l : Int) then 1 else (x5l : Int))) (K none 0 0 false h15) (((∃ m21, tree_depths.l1 (fun z17 z17l z17c z18 h19 => K z17 z17l z17c z18 h19) (fun h20 => (((K (some a8) ((x5l : Int).toNat) ((x5l : Int).toNat) true h20)))) m21 a3 a8 ((x5l : Int).toNat) ((x5l : Int).toNat) (x5l : Int) 0 h15))))))) m16 a3 (x5l : Int) a8 ((x5l : Int).toNat) ((x5l : Int).toNat) 0 x10 x10l x10c (x10l : Int) 0 h9))));
  ∃ (x6 : Option Addr) (x6l : Nat) (x6c : Nat), cell h4 (a3.add 1) = some (.slice x6 x6l x6c) ∧ iteB ((x6l : Int) != (x5l : Int)) (K none 0 0 false h4) ((iteB (decide ((x5l : Int) > (4096 : Int))) (K none 0 0 false h4) ((j22))))))
def tree_depths.ret (K : (Option Addr) → Nat → Nat → Bool → Heap → Prop) (v : Value) (h : Heap) : Prop := match v with
  | (.tuple ⟨[(.slice r23 r23l r23c), (.bool r24)]⟩) => K r23 r23l r23c r24 h
  | _ => False
theorem tree_depths.ret_elim {K : (Option Addr) → Nat → Nat → Bool → Heap → Prop} {K' : Value → Heap → Prop} {v : Value} {h : Heap} (hk : ∀ r23 r23l r23c r24 h, K r23 r23l r23c r24 h → K' (.tuple #[(.slice r23 r23l r23c), (.bool r24)]) h) (hh : tree_depths.ret K v h) : K' v h := by
  unfold tree_depths.ret at hh
  split at hh
  · exact hk _ _ _ _ _ hh
  · exact hh.elim
def tree_depths.call (f : FuncId) (vs : List Value) (h : Heap) (K : Value → Heap → Prop) : Prop := match f, vs with
  | 42, [(.agg ⟨[(.slice a1 a1l a1c), (.slice a2 a2l a2c)]⟩), (.slice a3 a3l a3c), (.int .i64 a4)] => callP1 (tree_deepen a1 a1l a1c a2 a2l a2c a3 a3l a3c a4 h) fun r31 h' => K (.bool r31) h'
  | _, _ => False
def tree_depths.r0 (K : Nat → List Value → Heap → Prop) (m : Nat) (vs : List Value) (h : Heap) : Prop := match vs with
  | [(.pointer (some c1_1001)), (.int .i64 c4_1002), (.slice (some c5_1003) c5_1004 c5_1005), (.int .i64 v6_1006), (.slice c25_1007 c25_1008 c25_1009), (.int .i64 c26_1010), (.int .i64 v27_1011)] => tree_depths.l0 (fun z25 z25l z25c z26 h' => K 0 [(.slice z25 z25l z25c), (.bool z26)] h') (fun z27 h' => K 2 [(.pointer (some c1_1001)), (.int .i64 c4_1002), (.slice (some c5_1003) c5_1004 c5_1005), (.int .i64 z27)] h') m c1_1001 c4_1002 c5_1003 c5_1004 c5_1005 v6_1006 c25_1007 c25_1008 c25_1009 c26_1010 v27_1011 h
  | _ => False
def tree_depths.r1 (K : Nat → List Value → Heap → Prop) (m : Nat) (vs : List Value) (h : Heap) : Prop := match vs with
  | [(.pointer (some c1_2001)), (.slice (some c5_2002) c5_2003 c5_2004), (.int .i64 c66_2005), (.int .i64 v67_2006)] => tree_depths.l1 (fun z28 z28l z28c z29 h' => K 0 [(.slice z28 z28l z28c), (.bool z29)] h') (fun h' => K 5 [(.slice (some c5_2002) c5_2003 c5_2004)] h') m c1_2001 c5_2002 c5_2003 c5_2004 c66_2005 v67_2006 h
  | _ => False
def tree_depths.loop (i : Nat) (vs : List Value) (h : Heap) (K : Nat → List Value → Heap → Prop) : Prop := match i with
  | 0 => ∃ m, tree_depths.r0 K m vs h
  | 1 => ∃ m, tree_depths.r1 K m vs h
  | _ => False
noncomputable def tree_depths.ctx : Ctx := { P := Tryd.prog, call := tree_depths.call, qcall := fun _ _ _ _ => False, quiet := fun f => false, loop := tree_depths.loop }
theorem tree_depths.ok : tree_depths.ctx.OK where
  mixed := by kernel_rfl
  mono := by
    intro f args h K K' hh hk
    change tree_depths.call f args h K at hh
    change tree_depths.call f args h K'
    unfold tree_depths.call at hh ⊢
    split at hh
    · obtain ⟨R, h1, h2⟩ := hh
      exact ⟨R, h1, fun _ x hr => hk _ _ (h2 _ x hr)⟩
    · exact hh.elim
  call := by
    intro f args h K hh w hw
    change tree_depths.call f args h K at hh
    unfold tree_depths.call at hh
    split at hh
    · obtain ⟨R, h1, h2⟩ := hh
      obtain ⟨g1, g2⟩ := tree_deepen.calls h1 w hw
      exact ⟨g1, g2.mono fun e w' ⟨v, he, ho, hr⟩ => ⟨v, he, ho, tree_deepen.ret_elim h2 hr⟩⟩
    · exact hh.elim
  qmono := fun hh _ => hh.elim
  qval := fun hh => hh.elim
  qcall := fun hh => hh.elim
noncomputable def tree_depths.code : Code := (Tryd.f36.body).getD .skip
def tree_depths.ann : Ann := (.two .auto (.two .auto (.two .auto (.two .auto (.two .auto (.two (.two .auto (.two (.loop 0 [1, 4, 5, 6, 25, 26, 27] [(2, [1, 4, 5, 6]), (0, [2, 3])] .auto) .auto)) (.two .auto (.two (.two .auto (.two (.loop 1 [1, 5, 66, 67] [(5, [5]), (0, [2, 3])] .auto) .auto)) .auto))))))))
noncomputable def tree_depths.c1 : Code := sub tree_depths.code [1, 1, 1, 1, 1, 1, 1, 0, 1, 0, 0]
def tree_depths.a1 : Ann := .auto
def tree_depths.keep1 : List Nat := [1, 5, 66, 67]
def tree_depths.outs1 : List (Nat × List Nat) := [(5, [5]), (0, [2, 3])]
noncomputable def tree_depths.c0 : Code := sub tree_depths.code [1, 1, 1, 1, 1, 0, 1, 0, 0]
def tree_depths.a0 : Ann := .auto
def tree_depths.keep0 : List Nat := [1, 4, 5, 6, 25, 26, 27]
def tree_depths.outs0 : List (Nat × List Nat) := [(2, [1, 4, 5, 6]), (0, [2, 3])]
set_option maxRecDepth 100000 in
theorem tree_depths.L0 : LoopOK tree_depths.ctx 77 tree_depths.c0 0 tree_depths.keep0 tree_depths.outs0 := by
  refine loop_ok (n := tree_depths.a0) tree_depths.ok (by kernel_rfl) (loops_ok (l := []) (by kernel_rfl) ?_) tree_depths.r0 ?_ ?_ (fun vs h K hh => hh)
  · exact trivial
  · intro K vs h hh
    unfold tree_depths.r0 at hh
    split at hh
    · exact hh
    · exact hh
  · intro K m vs h hh
    unfold tree_depths.r0 at hh
    split at hh
    · exact cast (by kernel_rfl) hh
    · exact hh.elim
set_option maxRecDepth 100000 in
theorem tree_depths.L1 : LoopOK tree_depths.ctx 77 tree_depths.c1 1 tree_depths.keep1 tree_depths.outs1 := by
  refine loop_ok (n := tree_depths.a1) tree_depths.ok (by kernel_rfl) (loops_ok (l := []) (by kernel_rfl) ?_) tree_depths.r1 ?_ ?_ (fun vs h K hh => hh)
  · exact trivial
  · intro K vs h hh
    unfold tree_depths.r1 at hh
    split at hh
    · exact hh
    · exact hh
  · intro K m vs h hh
    unfold tree_depths.r1 at hh
    split at hh
    · exact cast (by kernel_rfl) hh
    · exact hh.elim
set_option maxRecDepth 100000 in
theorem tree_depths.eq (a1 : Option Addr) (a1l : Nat) (a1c : Nat) (a2 : Option Addr) (a2l : Nat) (a2c : Nat) (h : Heap) (K : (Option Addr) → Nat → Nat → Bool → Heap → Prop) : evF tree_depths.ctx Tryd.f36 tree_depths.ann [(.agg #[(.slice a1 a1l a1c), (.slice a2 a2l a2c)])] h (tree_depths.ret K) = tree_depths a1 a1l a1c a2 a2l a2c h K := by kernel_rfl
set_option maxRecDepth 100000 in
theorem tree_depths.calls {a1 : Option Addr} {a1l : Nat} {a1c : Nat} {a2 : Option Addr} {a2l : Nat} {a2c : Nat} {h : Heap} {K : (Option Addr) → Nat → Nat → Bool → Heap → Prop} (hh : tree_depths a1 a1l a1c a2 a2l a2c h K) (w : World) (hw : w.heap = h) :
    (callFunc 36 #[(.agg #[(.slice a1 a1l a1c), (.slice a2 a2l a2c)])]).run Tryd.prog w = .ok (.enter 36 #[(.agg #[(.slice a1 a1l a1c), (.slice a2 a2l a2c)])]) w ∧ Calls Tryd.prog 36 #[(.agg #[(.slice a1 a1l a1c), (.slice a2 a2l a2c)])] w fun e w' => ∃ v, e = .returned v ∧ Out w w' ∧ tree_depths.ret K v w'.heap := by
  rw [← tree_depths.eq] at hh
  exact fn_calls (args := [(.agg #[(.slice a1 a1l a1c), (.slice a2 a2l a2c)])]) (c := tree_depths.code) tree_depths.ok Tryd.func36 (by kernel_rfl) (by kernel_rfl) (by kernel_rfl) (by kernel_rfl) (loops_ok (l := [(tree_depths.c0, none, 0, tree_depths.keep0, tree_depths.outs0), (tree_depths.c1, none, 1, tree_depths.keep1, tree_depths.outs1)]) (by kernel_rfl) ⟨tree_depths.L0, tree_depths.L1, trivial⟩) hh w hw

/-! ### strait/tree.Check: function 23 -/
def tree_Check (a1 : Option Addr) (a1l : Nat) (a1c : Nat) (a2 : Option Addr) (a2l : Nat) (a2c : Nat) (h : Heap) (K : Int → Heap → Prop) : Prop :=
  newP h (.cells #[(.slice a1 a1l a1c), (.slice a2 a2l a2c)] 25) fun a3 h4 => (∃ (x5 : Option Addr) (x5l : Nat) (x5c : Nat), cell h4 a3 = some (.slice x5 x5l x5c) ∧ ∃ (x6 : Option Addr) (x6l : Nat) (x6c : Nat), cell h4 (a3.add 1) = some (.slice x6 x6l x6c) ∧ callP4 (tree_depths x5 x5l x5c x6 x6l x6c h4) fun x7 x7l x7c x8 h9 => ((iteB (!x8) (K 15 h9) (K 0 h9))))
def tree_Check.ret (K : Int → Heap → Prop) (v : Value) (h : Heap) : Prop := match v with
  | (.int .i64 r10) => K r10 h
  | _ => False
theorem tree_Check.ret_elim {K : Int → Heap → Prop} {K' : Value → Heap → Prop} {v : Value} {h : Heap} (hk : ∀ r10 h, K r10 h → K' (.int .i64 r10) h) (hh : tree_Check.ret K v h) : K' v h := by
  unfold tree_Check.ret at hh
  split at hh
  · exact hk _ _ hh
  · exact hh.elim
def tree_Check.call (f : FuncId) (vs : List Value) (h : Heap) (K : Value → Heap → Prop) : Prop := match f, vs with
  | 36, [(.agg ⟨[(.slice a1 a1l a1c), (.slice a2 a2l a2c)]⟩)] => callP4 (tree_depths a1 a1l a1c a2 a2l a2c h) fun r23 r23l r23c r24 h' => K (.tuple #[(.slice r23 r23l r23c), (.bool r24)]) h'
  | _, _ => False
noncomputable def tree_Check.ctx : Ctx := { P := Tryd.prog, call := tree_Check.call, qcall := fun _ _ _ _ => False, quiet := fun f => false, loop := fun _ _ _ _ => False }
theorem tree_Check.ok : tree_Check.ctx.OK where
  mixed := by kernel_rfl
  mono := by
    intro f args h K K' hh hk
    change tree_Check.call f args h K at hh
    change tree_Check.call f args h K'
    unfold tree_Check.call at hh ⊢
    split at hh
    · obtain ⟨R, h1, h2⟩ := hh
      exact ⟨R, h1, fun _ _ _ _ x hr => hk _ _ (h2 _ _ _ _ x hr)⟩
    · exact hh.elim
  call := by
    intro f args h K hh w hw
    change tree_Check.call f args h K at hh
    unfold tree_Check.call at hh
    split at hh
    · obtain ⟨R, h1, h2⟩ := hh
      obtain ⟨g1, g2⟩ := tree_depths.calls h1 w hw
      exact ⟨g1, g2.mono fun e w' ⟨v, he, ho, hr⟩ => ⟨v, he, ho, tree_depths.ret_elim h2 hr⟩⟩
    · exact hh.elim
  qmono := fun hh _ => hh.elim
  qval := fun hh => hh.elim
  qcall := fun hh => hh.elim
noncomputable def tree_Check.code : Code := (Tryd.f23.body).getD .skip
def tree_Check.ann : Ann := .auto
set_option maxRecDepth 100000 in
theorem tree_Check.eq (a1 : Option Addr) (a1l : Nat) (a1c : Nat) (a2 : Option Addr) (a2l : Nat) (a2c : Nat) (h : Heap) (K : Int → Heap → Prop) : evF tree_Check.ctx Tryd.f23 tree_Check.ann [(.agg #[(.slice a1 a1l a1c), (.slice a2 a2l a2c)])] h (tree_Check.ret K) = tree_Check a1 a1l a1c a2 a2l a2c h K := by kernel_rfl
set_option maxRecDepth 100000 in
theorem tree_Check.calls {a1 : Option Addr} {a1l : Nat} {a1c : Nat} {a2 : Option Addr} {a2l : Nat} {a2c : Nat} {h : Heap} {K : Int → Heap → Prop} (hh : tree_Check a1 a1l a1c a2 a2l a2c h K) (w : World) (hw : w.heap = h) :
    (callFunc 23 #[(.agg #[(.slice a1 a1l a1c), (.slice a2 a2l a2c)])]).run Tryd.prog w = .ok (.enter 23 #[(.agg #[(.slice a1 a1l a1c), (.slice a2 a2l a2c)])]) w ∧ Calls Tryd.prog 23 #[(.agg #[(.slice a1 a1l a1c), (.slice a2 a2l a2c)])] w fun e w' => ∃ v, e = .returned v ∧ Out w w' ∧ tree_Check.ret K v w'.heap := by
  rw [← tree_Check.eq] at hh
  exact fn_calls (args := [(.agg #[(.slice a1 a1l a1c), (.slice a2 a2l a2c)])]) (c := tree_Check.code) tree_Check.ok Tryd.func23 (by kernel_rfl) (by kernel_rfl) (by kernel_rfl) (by kernel_rfl) (loops_ok (l := []) (by kernel_rfl) trivial) hh w hw

/-! ### strait/tree.Depths: function 24 -/
def tree_Depths (a1 : Option Addr) (a1l : Nat) (a1c : Nat) (a2 : Option Addr) (a2l : Nat) (a2c : Nat) (h : Heap) (K : (Option Addr) → Nat → Nat → Heap → Prop) : Prop :=
  newP h (.cells #[(.slice a1 a1l a1c), (.slice a2 a2l a2c)] 25) fun a3 h4 => (∃ (x5 : Option Addr) (x5l : Nat) (x5c : Nat), cell h4 a3 = some (.slice x5 x5l x5c) ∧ ∃ (x6 : Option Addr) (x6l : Nat) (x6c : Nat), cell h4 (a3.add 1) = some (.slice x6 x6l x6c) ∧ callP4 (tree_depths x5 x5l x5c x6 x6l x6c h4) fun x7 x7l x7c x8 h9 => K x7 x7l x7c h9)
def tree_Depths.ret (K : (Option Addr) → Nat → Nat → Heap → Prop) (v : Value) (h : Heap) : Prop := match v with
  | (.slice r10 r10l r10c) => K r10 r10l r10c h
  | _ => False
theorem tree_Depths.ret_elim {K : (Option Addr) → Nat → Nat → Heap → Prop} {K' : Value → Heap → Prop} {v : Value} {h : Heap} (hk : ∀ r10 r10l r10c h, K r10 r10l r10c h → K' (.slice r10 r10l r10c) h) (hh : tree_Depths.ret K v h) : K' v h := by
  unfold tree_Depths.ret at hh
  split at hh
  · exact hk _ _ _ _ hh
  · exact hh.elim
def tree_Depths.call (f : FuncId) (vs : List Value) (h : Heap) (K : Value → Heap → Prop) : Prop := match f, vs with
  | 36, [(.agg ⟨[(.slice a1 a1l a1c), (.slice a2 a2l a2c)]⟩)] => callP4 (tree_depths a1 a1l a1c a2 a2l a2c h) fun r23 r23l r23c r24 h' => K (.tuple #[(.slice r23 r23l r23c), (.bool r24)]) h'
  | _, _ => False
noncomputable def tree_Depths.ctx : Ctx := { P := Tryd.prog, call := tree_Depths.call, qcall := fun _ _ _ _ => False, quiet := fun f => false, loop := fun _ _ _ _ => False }
theorem tree_Depths.ok : tree_Depths.ctx.OK where
  mixed := by kernel_rfl
  mono := by
    intro f args h K K' hh hk
    change tree_Depths.call f args h K at hh
    change tree_Depths.call f args h K'
    unfold tree_Depths.call at hh ⊢
    split at hh
    · obtain ⟨R, h1, h2⟩ := hh
      exact ⟨R, h1, fun _ _ _ _ x hr => hk _ _ (h2 _ _ _ _ x hr)⟩
    · exact hh.elim
  call := by
    intro f args h K hh w hw
    change tree_Depths.call f args h K at hh
    unfold tree_Depths.call at hh
    split at hh
    · obtain ⟨R, h1, h2⟩ := hh
      obtain ⟨g1, g2⟩ := tree_depths.calls h1 w hw
      exact ⟨g1, g2.mono fun e w' ⟨v, he, ho, hr⟩ => ⟨v, he, ho, tree_depths.ret_elim h2 hr⟩⟩
    · exact hh.elim
  qmono := fun hh _ => hh.elim
  qval := fun hh => hh.elim
  qcall := fun hh => hh.elim
noncomputable def tree_Depths.code : Code := (Tryd.f24.body).getD .skip
def tree_Depths.ann : Ann := .auto
set_option maxRecDepth 100000 in
theorem tree_Depths.eq (a1 : Option Addr) (a1l : Nat) (a1c : Nat) (a2 : Option Addr) (a2l : Nat) (a2c : Nat) (h : Heap) (K : (Option Addr) → Nat → Nat → Heap → Prop) : evF tree_Depths.ctx Tryd.f24 tree_Depths.ann [(.agg #[(.slice a1 a1l a1c), (.slice a2 a2l a2c)])] h (tree_Depths.ret K) = tree_Depths a1 a1l a1c a2 a2l a2c h K := by kernel_rfl
set_option maxRecDepth 100000 in
theorem tree_Depths.calls {a1 : Option Addr} {a1l : Nat} {a1c : Nat} {a2 : Option Addr} {a2l : Nat} {a2c : Nat} {h : Heap} {K : (Option Addr) → Nat → Nat → Heap → Prop} (hh : tree_Depths a1 a1l a1c a2 a2l a2c h K) (w : World) (hw : w.heap = h) :
    (callFunc 24 #[(.agg #[(.slice a1 a1l a1c), (.slice a2 a2l a2c)])]).run Tryd.prog w = .ok (.enter 24 #[(.agg #[(.slice a1 a1l a1c), (.slice a2 a2l a2c)])]) w ∧ Calls Tryd.prog 24 #[(.agg #[(.slice a1 a1l a1c), (.slice a2 a2l a2c)])] w fun e w' => ∃ v, e = .returned v ∧ Out w w' ∧ tree_Depths.ret K v w'.heap := by
  rw [← tree_Depths.eq] at hh
  exact fn_calls (args := [(.agg #[(.slice a1 a1l a1c), (.slice a2 a2l a2c)])]) (c := tree_Depths.code) tree_Depths.ok Tryd.func24 (by kernel_rfl) (by kernel_rfl) (by kernel_rfl) (by kernel_rfl) (loops_ok (l := []) (by kernel_rfl) trivial) hh w hw

/-! ### (*strait/lift.Table).double: function 25 -/
def lift_Table_double.b0 (K2 : Heap → Prop) (cont : (Option Addr) → (Option Addr) → Nat → Nat → Addr → Nat → Nat → (Option Addr) → Nat → Nat → Int → Int → Heap → Prop) (c0_1001 : Option Addr) (c1_1002 : Option Addr) (c1_1003 : Nat) (c1_1004 : Nat) (c5_1005 : Addr) (c5_1006 : Nat) (c5_1007 : Nat) (c12_1008 : Option Addr) (c12_1009 : Nat) (c12_1010 : Nat) (c13_1011 : Int) (v14_1012 : Int) (h1013 : Heap) : Prop :=
  (iteB (decide (v14_1012 < c13_1011)) ((chkP c12_1008 fun a1014 => (0 ≤ v14_1012 ∧ v14_1012 < (c12_1009 : Int)) ∧ ∃ (x1015 : Int), cell h1013 (a1014.add (v14_1012.toNat * 2)) = some (.int .i64 x1015) ∧ ∃ (x1016 : Int), cell h1013 ((a1014.add (v14_1012.toNat * 2)).add 1) = some (.int .i64 x1016) ∧ newP h1013 (.cells #[(.int .i64 0), (.int .i64 0)] 54) fun a1017 h1018 => stC h1018 a1017 (.int .i64 x1015) fun h1019 => stC h1019 (a1017.add 1) (.int .i64 x1016) fun h1020 => ((0 ≤ v14_1012 ∧ v14_1012 < (c5_1006 : Int)) ∧ stC h1020 (c5_1005.add (v14_1012.toNat * 2)) (.int .i64 (-1)) fun h1021 => stC h1021 ((c5_1005.add (v14_1012.toNat * 2)).add 1) (.int .i64 (-1)) fun h1022 => (∃ (x1023 : Int), cell h1022 a1017 = some (.int .i64 x1023) ∧ (iteB (decide (x1023 < (0 : Int))) (((cont c0_1001 c1_1002 c1_1003 c1_1004 c5_1005 c5_1006 c5_1007 c12_1008 c12_1009 c12_1010 c13_1011 (IntKind.i64.wrap (v14_1012 + 1)) h1022))) ((∃ (x1024 : Int), cell h1022 a1017 = some (.int .i64 x1024) ∧ chkP c1_1002 fun a1025 => (0 ≤ x1024 ∧ x1024 < (c1_1003 : Int)) ∧ ∃ (x1026 : Int), cell h1022 (a1025.add (x1024.toNat * 2)) = some (.int .i64 x1026) ∧ ∃ (x1027 : Int), cell h1022 ((a1025.add (x1024.toNat * 2)).add 1) = some (.int .i64 x1027) ∧ newP h1022 (.cells #[(.int .i64 0), (.int .i64 0)] 54) fun a1028 h1029 => stC h1029 a1028 (.int .i64 x1026) fun h1030 => stC h1030 (a1028.add 1) (.int .i64 x1027) fun h1031 => (∃ (x1032 : Int), cell h1031 a1028 = some (.int .i64 x1032) ∧ (iteB (decide (x1032 ≥ (0 : Int))) (∃ (x1033 : Int), cell h1031 (a1017.add 1) = some (.int .i64 x1033) ∧ ∃ (x1034 : Int), cell h1031 (a1028.add 1) = some (.int .i64 x1034) ∧ ∃ (x1035 : Int), cell h1031 a1028 = some (.int .i64 x1035) ∧ callP1 (lift_better_int_lift_Table_first x1033 x1034 c0_1001 h1031) fun x1036 h1037 => (∃ (x1038 : Int), cell h1037 a1028 = some (.int .i64 x1038) ∧ ((.int .i64 x1038) : Value) = (.int .i64 x1035)) ∧ (0 ≤ v14_1012 ∧ v14_1012 < (c5_1006 : Int)) ∧ stC h1037 (c5_1005.add (v14_1012.toNat * 2)) (.int .i64 x1035) fun h1039 => stC h1039 ((c5_1005.add (v14_1012.toNat * 2)).add 1) (.int .i64 x1036) fun h1040 => ((cont c0_1001 c1_1002 c1_1003 c1_1004 c5_1005 c5_1006 c5_1007 c12_1008 c12_1009 c12_1010 c13_1011 (IntKind.i64.wrap (v14_1012 + 1)) h1040))) (((cont c0_1001 c1_1002 c1_1003 c1_1004 c5_1005 c5_1006 c5_1007 c12_1008 c12_1009 c12_1010 c13_1011 (IntKind.i64.wrap (v14_1012 + 1)) h1031)))))))))))) (K2 h1013))
def lift_Table_double.l0 (K2 : Heap → Prop) : Nat → (Option Addr) → (Option Addr) → Nat → Nat → Addr → Nat → Nat → (Option Addr) → Nat → Nat → Int → Int → Heap → Prop
  | 0, _, _, _, _, _, _, _, _, _, _, _, _, _ => False
  | m + 1, c0_1001, c1_1002, c1_1003, c1_1004, c5_1005, c5_1006, c5_1007, c12_1008, c12_1009, c12_1010, c13_1011, v14_1012, h => lift_Table_double.b0 K2 (lift_Table_double.l0 K2 m) c0_1001 c1_1002 c1_1003 c1_1004 c5_1005 c5_1006 c5_1007 c12_1008 c12_1009 c12_1010 c13_1011 v14_1012 h
def lift_Table_double (a1 : Option Addr) (a2 : Option Addr) (a2l : Nat) (a2c : Nat) (h : Heap) (K : (Option Addr) → Nat → Nat → Heap → Prop) : Prop :=
  ((0 ≤ (a2l : Int) ∧ (a2l : Int) ≤ (a2l : Int) ∧ (a2l : Int) * (16 : Nat) ≤ 2 ^ 47 ∧ (a2l : Int) ≤ 2 ^ 47) ∧ newP h (.cells (zeroRow [(.int .i64 0), (.int .i64 0)] (a2l : Int).toNat).toArray 54) fun a3 h4 => ((∃ m6, lift_Table_double.l0 (fun h5 => (((K (some a3) ((a2l : Int).toNat) ((a2l : Int).toNat) h5)))) m6 a1 a2 a2l a2c a3 ((a2l : Int).toNat) ((a2l : Int).toNat) a2 a2l a2c (a2l : Int) 0 h4)))
def lift_Table_double.ret (K : (Option Addr) → Nat → Nat → Heap → Prop) (v : Value) (h : Heap) : Prop := match v with
  | (.slice r7 r7l r7c) => K r7 r7l r7c h
  | _ => False
theorem lift_Table_double.ret_elim {K : (Option Addr) → Nat → Nat → Heap → Prop} {K' : Value → Heap → Prop} {v : Value} {h : Heap} (hk : ∀ r7 r7l r7c h, K r7 r7l r7c h → K' (.slice r7 r7l r7c) h) (hh : lift_Table_double.ret K v h) : K' v h := by
  unfold lift_Table_double.ret at hh
  split at hh
  · exact hk _ _ _ _ hh
  · exact hh.elim
def lift_Table_double.call (f : FuncId) (vs : List Value) (h : Heap) (K : Value → Heap → Prop) : Prop := match f, vs with
  | 37, [(.int .i64 a1), (.int .i64 a2), (.func (.func 38) ⟨[(.pointer a3)]⟩ ⟨[]⟩)] => callP1 (lift_better_int_lift_Table_first a1 a2 a3 h) fun r9 h' => K (.int .i64 r9) h'
  | _, _ => False
def lift_Table_double.r0 (K : Nat → List Value → Heap → Prop) (m : Nat) (vs : List Value) (h : Heap) : Prop := match vs with
  | [(.pointer c0_1001), (.slice c1_1002 c1_1003 c1_1004), (.slice (some c5_1005) c5_1006 c5_1007), (.slice c12_1008 c12_1009 c12_1010), (.int .i64 c13_1011), (.int .i64 v14_1012)] => lift_Table_double.l0 (fun h' => K 2 [(.slice (some c5_1005) c5_1006 c5_1007)] h') m c0_1001 c1_1002 c1_1003 c1_1004 c5_1005 c5_1006 c5_1007 c12_1008 c12_1009 c12_1010 c13_1011 v14_1012 h
  | _ => False
def lift_Table_double.loop (i : Nat) (vs : List Value) (h : Heap) (K : Nat → List Value → Heap → Prop) : Prop := match i with
  | 0 => ∃ m, lift_Table_double.r0 K m vs h
  | _ => False
noncomputable def lift_Table_double.ctx : Ctx := { P := Tryd.prog, call := lift_Table_double.call, qcall := fun _ _ _ _ => False, quiet := fun f => false, loop := lift_Table_double.loop }
theorem lift_Table_double.ok : lift_Table_double.ctx.OK where
  mixed := by kernel_rfl
  mono := by
    intro f args h K K' hh hk
    change lift_Table_double.call f args h K at hh
    change lift_Table_double.call f args h K'
    unfold lift_Table_double.call at hh ⊢
    split at hh
    · obtain ⟨R, h1, h2⟩ := hh
      exact ⟨R, h1, fun _ x hr => hk _ _ (h2 _ x hr)⟩
    · exact hh.elim
  call := by
    intro f args h K hh w hw
    change lift_Table_double.call f args h K at hh
    unfold lift_Table_double.call at hh
    split at hh
    · obtain ⟨R, h1, h2⟩ := hh
      obtain ⟨g1, g2⟩ := lift_better_int_lift_Table_first.calls h1 w hw
      exact ⟨g1, g2.mono fun e w' ⟨v, he, ho, hr⟩ => ⟨v, he, ho, lift_better_int_lift_Table_first.ret_elim h2 hr⟩⟩
    · exact hh.elim
  qmono := fun hh _ => hh.elim
  qval := fun hh => hh.elim
  qcall := fun hh => hh.elim
noncomputable def lift_Table_double.code : Code := (Tryd.f25.body).getD .skip
def lift_Table_double.ann : Ann := (.two .auto (.two .auto (.two (.two .auto (.two (.loop 0 [0, 1, 5, 12, 13, 14] [(2, [5])] (.two .auto (.two .auto (.two (.two (.two .auto (.two .auto (.two .auto (.two .auto (.two .auto (.two (.reg [0, 0, 0, 4, 0, 16, 0, 64, 0, 256, 1008, 2044, 4095, 8191] (.take 0 (.take 1 (.take 2 (.take 4 (.take 5 (.take 6 (.take 7 (.take 8 (.take 9 (.early 3 (.alt 10 (.take 11 (.take 12 (.alt 13 .done .noalt))) .noalt)))))))))))) .auto)))))) .auto) .auto)))) .auto)) .auto)))
noncomputable def lift_Table_double.c0 : Code := sub lift_Table_double.code [1, 1, 0, 1, 0, 0]
def lift_Table_double.a0 : Ann := (.two .auto (.two .auto (.two (.two (.two .auto (.two .auto (.two .auto (.two .auto (.two .auto (.two (.reg [0, 0, 0, 4, 0, 16, 0, 64, 0, 256, 1008, 2044, 4095, 8191] (.take 0 (.take 1 (.take 2 (.take 4 (.take 5 (.take 6 (.take 7 (.take 8 (.take 9 (.early 3 (.alt 10 (.take 11 (.take 12 (.alt 13 .done .noalt))) .noalt)))))))))))) .auto)))))) .auto) .auto)))
def lift_Table_double.keep0 : List Nat := [0, 1, 5, 12, 13, 14]
def lift_Table_double.outs0 : List (Nat × List Nat) := [(2, [5])]
set_option maxRecDepth 100000 in
theorem lift_Table_double.L0 : LoopOK lift_Table_double.ctx 49 lift_Table_double.c0 0 lift_Table_double.keep0 lift_Table_double.outs0 := by
  refine loop_ok (n := lift_Table_double.a0) lift_Table_double.ok (by kernel_rfl) (loops_ok (l := []) (by kernel_rfl) ?_) lift_Table_double.r0 ?_ ?_ (fun vs h K hh => hh)
  · exact trivial
  · intro K vs h hh
    unfold lift_Table_double.r0 at hh
    split at hh
    · exact hh
    · exact hh
  · intro K m vs h hh
    unfold lift_Table_double.r0 at hh
    split at hh
    · exact cast (by kernel_rfl) hh
    · exact hh.elim
set_option maxRecDepth 100000 in
theorem lift_Table_double.eq (a1 : Option Addr) (a2 : Option Addr) (a2l : Nat) (a2c : Nat) (h : Heap) (K : (Option Addr) → Nat → Nat → Heap → Prop) : evF lift_Table_double.ctx Tryd.f25 lift_Table_double.ann [(.pointer a1), (.slice a2 a2l a2c)] h (lift_Table_double.ret K) = lift_Table_double a1 a2 a2l a2c h K := by kernel_rfl
set_option maxRecDepth 100000 in
theorem lift_Table_double.calls {a1 : Option Addr} {a2 : Option Addr} {a2l : Nat} {a2c : Nat} {h : Heap} {K : (Option Addr) → Nat → Nat → Heap → Prop} (hh : lift_Table_double a1 a2 a2l a2c h K) (w : World) (hw : w.heap = h) :
    (callFunc 25 #[(.pointer a1), (.slice a2 a2l a2c)]).run Tryd.prog w = .ok (.enter 25 #[(.pointer a1), (.slice a2 a2l a2c)]) w ∧ Calls Tryd.prog 25 #[(.pointer a1), (.slice a2 a2l a2c)] w fun e w' => ∃ v, e = .returned v ∧ Out w w' ∧ lift_Table_double.ret K v w'.heap := by
  rw [← lift_Table_double.eq] at hh
  exact fn_calls (args := [(.pointer a1), (.slice a2 a2l a2c)]) (c := lift_Table_double.code) lift_Table_double.ok Tryd.func25 (by kernel_rfl) (by kernel_rfl) (by kernel_rfl) (by kernel_rfl) (loops_ok (l := [(lift_Table_double.c0, none, 0, lift_Table_double.keep0, lift_Table_double.outs0)]) (by kernel_rfl) ⟨lift_Table_double.L0, trivial⟩) hh w hw

/-! ### strait/lift.New: function 7 -/
def lift_New.b1 (K4 : Heap → Prop) (cont : Int → Addr → Heap → Prop) (c4_2001 : Int) (c5_2002 : Addr) (h2003 : Heap) : Prop :=
  ∃ (x2004 : Option Addr) (x2004l : Nat) (x2004c : Nat), cell h2003 (c5_2002.add 2) = some (.slice x2004 x2004l x2004c) ∧ 0 ≤ (x2004l : Int) ∧ bindV (IntKind.i64.wrap ((1 : Int) * 2 ^ (min (x2004l : Int).toNat 64))) fun n2005 => (iteB (decide (n2005 < c4_2001)) ((∃ (x2006 : Option Addr) (x2006l : Nat) (x2006c : Nat), cell h2003 (c5_2002.add 2) = some (.slice x2006 x2006l x2006c) ∧ ∃ (x2007 : Option Addr) (x2007l : Nat) (x2007c : Nat), cell h2003 (c5_2002.add 2) = some (.slice x2007 x2007l x2007c) ∧ chkP x2006 fun a2008 => (0 ≤ (IntKind.i64.wrap ((x2007l : Int) - 1)) ∧ (IntKind.i64.wrap ((x2007l : Int) - 1)) < (x2006l : Int)) ∧ ∃ (x2009 : Option Addr) (x2009l : Nat) (x2009c : Nat), cell h2003 (a2008.add ((IntKind.i64.wrap ((x2007l : Int) - 1)).toNat * 1)) = some (.slice x2009 x2009l x2009c) ∧ ∃ (x2010 : Option Addr) (x2010l : Nat) (x2010c : Nat), cell h2003 (c5_2002.add 2) = some (.slice x2010 x2010l x2010c) ∧ callP3 (lift_Table_double (some c5_2002) x2009 x2009l x2009c h2003) fun x2011 x2011l x2011c h2012 => (∃ (x2013 : Option Addr) (x2013l : Nat) (x2013c : Nat), cell h2012 (c5_2002.add 2) = some (.slice x2013 x2013l x2013c) ∧ ((.slice x2013 x2013l x2013c) : Value) = (.slice x2010 x2010l x2010c)) ∧ newP h2012 (.cells #[(.slice x2011 x2011l x2011c)] 52) fun a2014 h2015 => (∃ (x2016 : Option Addr) (x2016l : Nat) (x2016c : Nat), cell h2015 (c5_2002.add 2) = some (.slice x2016 x2016l x2016c) ∧ ((.slice x2016 x2016l x2016c) : Value) = (.slice x2010 x2010l x2010c)) ∧ ∃ n2021, cellsAt h2015 (some a2014) (1 * 1) n2021 ∧ appP 52 1 24 [(.slice none 0 0)] x2010 x2010l x2010c 1 n2021 h2015 fun q2017 l2018 c2019 h2020 => stC h2020 (c5_2002.add 2) (.slice q2017 l2018 c2019) fun h2022 => cont c4_2001 c5_2002 h2022)) (K4 h2003))
def lift_New.l1 (K4 : Heap → Prop) : Nat → Int → Addr → Heap → Prop
  | 0, _, _, _ => False
  | m + 1, c4_2001, c5_2002, h => lift_New.b1 K4 (lift_New.l1 K4 m) c4_2001 c5_2002 h
def lift_New.b0 (K2 : Heap → Prop) (cont : Addr → Int → Addr → Addr → Nat → Nat → Int → Int → Heap → Prop) (c1_1001 : Addr) (c4_1002 : Int) (c5_1003 : Addr) (c6_1004 : Addr) (c6_1005 : Nat) (c6_1006 : Nat) (c24_1007 : Int) (v25_1008 : Int) (h1009 : Heap) : Prop :=
  (iteB (decide (v25_1008 < c24_1007)) (((∃ (x1010 : Option Addr) (x1010l : Nat) (x1010c : Nat), cell h1009 c1_1001 = some (.slice x1010 x1010l x1010c) ∧ chkP x1010 fun a1011 => (0 ≤ v25_1008 ∧ v25_1008 < (x1010l : Int)) ∧ ∃ (x1012 : Int), cell h1009 (a1011.add (v25_1008.toNat * 1)) = some (.int .i64 x1012) ∧ (0 ≤ v25_1008 ∧ v25_1008 < (c6_1005 : Int)) ∧ stC h1009 (c6_1004.add (v25_1008.toNat * 2)) (.int .i64 x1012) fun h1013 => stC h1013 ((c6_1004.add (v25_1008.toNat * 2)).add 1) (.int .i64 v25_1008) fun h1014 => (∃ (x1015 : Option Addr) (x1015l : Nat) (x1015c : Nat), cell h1014 c1_1001 = some (.slice x1015 x1015l x1015c) ∧ chkP x1015 fun a1016 => (0 ≤ v25_1008 ∧ v25_1008 < (x1015l : Int)) ∧ ∃ (x1017 : Int), cell h1014 (a1016.add (v25_1008.toNat * 1)) = some (.int .i64 x1017) ∧ (iteB (decide (x1017 < (0 : Int))) ((0 ≤ v25_1008 ∧ v25_1008 < (c6_1005 : Int)) ∧ stC h1014 ((c6_1004.add (v25_1008.toNat * 2)).add 1) (.int .i64 (-1)) fun h1018 => ((cont c1_1001 c4_1002 c5_1003 c6_1004 c6_1005 c6_1006 c24_1007 (IntKind.i64.wrap (v25_1008 + 1)) h1018))) (((cont c1_1001 c4_1002 c5_1003 c6_1004 c6_1005 c6_1006 c24_1007 (IntKind.i64.wrap (v25_1008 + 1)) h1014)))))))) (K2 h1009))
def lift_New.l0 (K2 : Heap → Prop) : Nat → Addr → Int → Addr → Addr → Nat → Nat → Int → Int → Heap → Prop
  | 0, _, _, _, _, _, _, _, _, _ => False
  | m + 1, c1_1001, c4_1002, c5_1003, c6_1004, c6_1005, c6_1006, c24_1007, v25_1008, h => lift_New.b0 K2 (lift_New.l0 K2 m) c1_1001 c4_1002 c5_1003 c6_1004 c6_1005 c6_1006 c24_1007 v25_1008 h
def lift_New (a1 : Option Addr) (a1l : Nat) (a1c : Nat) (a2 : Option Addr) (a2l : Nat) (a2c : Nat) (h : Heap) (K : (Option Addr) → Int → Heap → Prop) : Prop :=
  newP h (.cells #[(.slice a1 a1l a1c), (.slice a2 a2l a2c)] 25) fun a3 h4 => (∃ (x5 : Option Addr) (x5l : Nat) (x5c : Nat), cell h4 a3 = some (.slice x5 x5l x5c) ∧ ∃ (x6 : Option Addr) (x6l : Nat) (x6c : Nat), cell h4 (a3.add 1) = some (.slice x6 x6l x6c) ∧ callP1 (tree_Check x5 x5l x5c x6 x6l x6c h4) fun x7 h8 => (iteB (x7 != (0 : Int)) (K none 15 h8) ((∃ (x9 : Option Addr) (x9l : Nat) (x9c : Nat), cell h8 a3 = some (.slice x9 x9l x9c) ∧ (∃ (x10 : Option Addr) (x10l : Nat) (x10c : Nat), cell h8 (a3.add 1) = some (.slice x10 x10l x10c) ∧ ∃ (x11 : Option Addr) (x11l : Nat) (x11c : Nat), cell h8 a3 = some (.slice x11 x11l x11c) ∧ ∃ (x12 : Option Addr) (x12l : Nat) (x12c : Nat), cell h8 (a3.add 1) = some (.slice x12 x12l x12c) ∧ newP h8 (.cells #[] 2) fun a13 h14 => (∃ (x15 : Option Addr) (x15l : Nat) (x15c : Nat), cell h14 a3 = some (.slice x15 x15l x15c) ∧ ∃ (x16 : Option Addr) (x16l : Nat) (x16c : Nat), cell h14 (a3.add 1) = some (.slice x16 x16l x16c) ∧ ((.agg #[(.slice x15 x15l x15c), (.slice x16 x16l x16c)]) : Value) = (.agg #[(.slice x11 x11l x11c), (.slice x12 x12l x12c)])) ∧ (∃ (x17 : Option Addr) (x17l : Nat) (x17c : Nat), cell h14 (a3.add 1) = some (.slice x17 x17l x17c) ∧ ((.slice x17 x17l x17c) : Value) = (.slice x10 x10l x10c)) ∧ ∃ n22, cellsAt h14 x10 (x10l * 1) n22 ∧ appP 2 1 8 [(.int .i64 0)] (some a13) 0 0 x10l n22 h14 fun q18 l19 c20 h21 => (∃ (x23 : Option Addr) (x23l : Nat) (x23c : Nat), cell h21 a3 = some (.slice x23 x23l x23c) ∧ ∃ (x24 : Option Addr) (x24l : Nat) (x24c : Nat), cell h21 (a3.add 1) = some (.slice x24 x24l x24c) ∧ ((.agg #[(.slice x23 x23l x23c), (.slice x24 x24l x24c)]) : Value) = (.agg #[(.slice x11 x11l x11c), (.slice x12 x12l x12c)])) ∧ callP3 (tree_Depths x11 x11l x11c x12 x12l x12c h21) fun x25 x25l x25c h26 => newP h26 (.cells #[(.slice q18 l19 c20), (.slice x25 x25l x25c), (.slice none 0 0), (.int .i64 0)] 51) fun a27 h28 => ((0 ≤ (x9l : Int) ∧ (x9l : Int) ≤ (x9l : Int) ∧ (x9l : Int) * (16 : Nat) ≤ 2 ^ 47 ∧ (x9l : Int) ≤ 2 ^ 47) ∧ newP h28 (.cells (zeroRow [(.int .i64 0), (.int .i64 0)] (x9l : Int).toNat).toArray 54) fun a29 h30 => ((∃ m32, lift_New.l0 (fun h31 => ((∃ (x33 : Option Addr) (x33l : Nat) (x33c : Nat), cell h31 (a27.add 2) = some (.slice x33 x33l x33c) ∧ newP h31 (.cells #[(.slice (some a29) ((x9l : Int).toNat) ((x9l : Int).toNat))] 52) fun a34 h35 => ∃ n40, cellsAt h35 (some a34) (1 * 1) n40 ∧ appP 52 1 24 [(.slice none 0 0)] x33 x33l x33c 1 n40 h35 fun q36 l37 c38 h39 => stC h39 (a27.add 2) (.slice q36 l37 c38) fun h41 => (∃ m43, lift_New.l1 (fun h42 => (((K (some a27) 0 h42)))) m43 (x9l : Int) a27 h41)))) m32 a3 (x9l : Int) a27 a29 ((x9l : Int).toNat) ((x9l : Int).toNat) (x9l : Int) 0 h30))))))))
def lift_New.ret (K : (Option Addr) → Int → Heap → Prop) (v : Value) (h : Heap) : Prop := match v with
  | (.tuple ⟨[(.pointer r44), (.int .i64 r45)]⟩) => K r44 r45 h
  | _ => False
theorem lift_New.ret_elim {K : (Option Addr) → Int → Heap → Prop} {K' : Value → Heap → Prop} {v : Value} {h : Heap} (hk : ∀ r44 r45 h, K r44 r45 h → K' (.tuple #[(.pointer r44), (.int .i64 r45)]) h) (hh : lift_New.ret K v h) : K' v h := by
  unfold lift_New.ret at hh
  split at hh
  · exact hk _ _ _ hh
  · exact hh.elim
def lift_New.call (f : FuncId) (vs : List Value) (h : Heap) (K : Value → Heap → Prop) : Prop := match f, vs with
  | 23, [(.agg ⟨[(.slice a1 a1l a1c), (.slice a2 a2l a2c)]⟩)] => callP1 (tree_Check a1 a1l a1c a2 a2l a2c h) fun r10 h' => K (.int .i64 r10) h'
  | 24, [(.agg ⟨[(.slice a1 a1l a1c), (.slice a2 a2l a2c)]⟩)] => callP3 (tree_Depths a1 a1l a1c a2 a2l a2c h) fun r10 r10l r10c h' => K (.slice r10 r10l r10c) h'
  | 25, [(.pointer a1), (.slice a2 a2l a2c)] => callP3 (lift_Table_double a1 a2 a2l a2c h) fun r7 r7l r7c h' => K (.slice r7 r7l r7c) h'
  | _, _ => False
def lift_New.r0 (K : Nat → List Value → Heap → Prop) (m : Nat) (vs : List Value) (h : Heap) : Prop := match vs with
  | [(.pointer (some c1_1001)), (.int .i64 c4_1002), (.pointer (some c5_1003)), (.slice (some c6_1004) c6_1005 c6_1006), (.int .i64 c24_1007), (.int .i64 v25_1008)] => lift_New.l0 (fun h' => K 2 [(.int .i64 c4_1002), (.pointer (some c5_1003)), (.slice (some c6_1004) c6_1005 c6_1006)] h') m c1_1001 c4_1002 c5_1003 c6_1004 c6_1005 c6_1006 c24_1007 v25_1008 h
  | _ => False
def lift_New.r1 (K : Nat → List Value → Heap → Prop) (m : Nat) (vs : List Value) (h : Heap) : Prop := match vs with
  | [(.int .i64 c4_2001), (.pointer (some c5_2002))] => lift_New.l1 (fun h' => K 4 [(.pointer (some c5_2002))] h') m c4_2001 c5_2002 h
  | _ => False
def lift_New.loop (i : Nat) (vs : List Value) (h : Heap) (K : Nat → List Value → Heap → Prop) : Prop := match i with
  | 0 => ∃ m, lift_New.r0 K m vs h
  | 1 => ∃ m, lift_New.r1 K m vs h
  | _ => False
noncomputable def lift_New.ctx : Ctx := { P := Tryd.prog, call := lift_New.call, qcall := fun _ _ _ _ => False, quiet := fun f => false, loop := lift_New.loop }
theorem lift_New.ok : lift_New.ctx.OK where
  mixed := by kernel_rfl
  mono := by
    intro f args h K K' hh hk
    change lift_New.call f args h K at hh
    change lift_New.call f args h K'
    unfold lift_New.call at hh ⊢
    split at hh
    · obtain ⟨R, h1, h2⟩ := hh
      exact ⟨R, h1, fun _ x hr => hk _ _ (h2 _ x hr)⟩
    · obtain ⟨R, h1, h2⟩ := hh
      exact ⟨R, h1, fun _ _ _ x hr => hk _ _ (h2 _ _ _ x hr)⟩
    · obtain ⟨R, h1, h2⟩ := hh
      exact ⟨R, h1, fun _ _ _ x hr => hk _ _ (h2 _ _ _ x hr)⟩
    · exact hh.elim
  call := by
    intro f args h K hh w hw
    change lift_New.call f args h K at hh
    unfold lift_New.call at hh
    split at hh
    · obtain ⟨R, h1, h2⟩ := hh
      obtain ⟨g1, g2⟩ := tree_Check.calls h1 w hw
      exact ⟨g1, g2.mono fun e w' ⟨v, he, ho, hr⟩ => ⟨v, he, ho, tree_Check.ret_elim h2 hr⟩⟩
    · obtain ⟨R, h1, h2⟩ := hh
      obtain ⟨g1, g2⟩ := tree_Depths.calls h1 w hw
      exact ⟨g1, g2.mono fun e w' ⟨v, he, ho, hr⟩ => ⟨v, he, ho, tree_Depths.ret_elim h2 hr⟩⟩
    · obtain ⟨R, h1, h2⟩ := hh
      obtain ⟨g1, g2⟩ := lift_Table_double.calls h1 w hw
      exact ⟨g1, g2.mono fun e w' ⟨v, he, ho, hr⟩ => ⟨v, he, ho, lift_Table_double.ret_elim h2 hr⟩⟩
    · exact hh.elim
  qmono := fun hh _ => hh.elim
  qval := fun hh => hh.elim
  qcall := fun hh => hh.elim
noncomputable def lift_New.code : Code := (Tryd.f7.body).getD .skip
def lift_New.ann : Ann := (.two .auto (.two .auto (.two .auto (.two (.reg [0, 0, 2, 7, 0, 31, 63, 127, 255] (.take 1 (.early 2 (.early 4 (.alt 0 (.alt 3 (.alt 5 (.take 6 (.alt 7 (.take 8 .done) .noalt)) .noalt) .noalt) .noalt))))) (.two .auto (.two (.two .auto (.two (.loop 0 [1, 4, 5, 6, 24, 25] [(2, [4, 5, 6])] .auto) .auto)) (.two .auto (.two (.two (.loop 1 [4, 5] [(4, [5])] (.two .auto (.two (.reg [0, 0, 2, 6, 14, 0, 0, 64, 192, 448, 0, 1024, 3072, 7168, 15360, 31744, 65472, 131008, 262112, 524256, 1048574, 2097151, 4194303, 8388607] (.take 0 (.take 1 (.take 2 (.take 3 (.take 5 (.take 6 (.take 7 (.take 8 (.take 9 (.take 10 (.take 11 (.take 12 (.take 13 (.take 14 (.take 15 (.take 16 (.take 17 (.early 4 (.alt 18 (.alt 19 (.alt 20 (.take 21 (.take 22 (.alt 23 .done .noalt))) .noalt) .noalt) .noalt)))))))))))))))))))) .auto))) .auto) .auto))))))))
noncomputable def lift_New.c1 : Code := sub lift_New.code [1, 1, 1, 1, 1, 1, 1, 0, 0, 0]
def lift_New.a1 : Ann := (.two .auto (.two (.reg [0, 0, 2, 6, 14, 0, 0, 64, 192, 448, 0, 1024, 3072, 7168, 15360, 31744, 65472, 131008, 262112, 524256, 1048574, 2097151, 4194303, 8388607] (.take 0 (.take 1 (.take 2 (.take 3 (.take 5 (.take 6 (.take 7 (.take 8 (.take 9 (.take 10 (.take 11 (.take 12 (.take 13 (.take 14 (.take 15 (.take 16 (.take 17 (.early 4 (.alt 18 (.alt 19 (.alt 20 (.take 21 (.take 22 (.alt 23 .done .noalt))) .noalt) .noalt) .noalt)))))))))))))))))))) .auto))
def lift_New.keep1 : List Nat := [4, 5]
def lift_New.outs1 : List (Nat × List Nat) := [(4, [5])]
noncomputable def lift_New.c0 : Code := sub lift_New.code [1, 1, 1, 1, 1, 0, 1, 0, 0]
def lift_New.a0 : Ann := .auto
def lift_New.keep0 : List Nat := [1, 4, 5, 6, 24, 25]
def lift_New.outs0 : List (Nat × List Nat) := [(2, [4, 5, 6])]
set_option maxRecDepth 100000 in
theorem lift_New.L0 : LoopOK lift_New.ctx 91 lift_New.c0 0 lift_New.keep0 lift_New.outs0 := by
  refine loop_ok (n := lift_New.a0) lift_New.ok (by kernel_rfl) (loops_ok (l := []) (by kernel_rfl) ?_) lift_New.r0 ?_ ?_ (fun vs h K hh => hh)
  · exact trivial
  · intro K vs h hh
    unfold lift_New.r0 at hh
    split at hh
    · exact hh
    · exact hh
  · intro K m vs h hh
    unfold lift_New.r0 at hh
    split at hh
    · exact cast (by kernel_rfl) hh
    · exact hh.elim
set_option maxRecDepth 100000 in
theorem lift_New.L1 : LoopOK lift_New.ctx 91 lift_New.c1 1 lift_New.keep1 lift_New.outs1 := by
  refine loop_ok (n := lift_New.a1) lift_New.ok (by kernel_rfl) (loops_ok (l := []) (by kernel_rfl) ?_) lift_New.r1 ?_ ?_ (fun vs h K hh => hh)
  · exact trivial
  · intro K vs h hh
    unfold lift_New.r1 at hh
    split at hh
    · exact hh
    · exact hh
  · intro K m vs h hh
    unfold lift_New.r1 at hh
    split at hh
    · exact cast (by kernel_rfl) hh
    · exact hh.elim
set_option maxRecDepth 100000 in
theorem lift_New.eq (a1 : Option Addr) (a1l : Nat) (a1c : Nat) (a2 : Option Addr) (a2l : Nat) (a2c : Nat) (h : Heap) (K : (Option Addr) → Int → Heap → Prop) : evF lift_New.ctx Tryd.f7 lift_New.ann [(.agg #[(.slice a1 a1l a1c), (.slice a2 a2l a2c)])] h (lift_New.ret K) = lift_New a1 a1l a1c a2 a2l a2c h K := by kernel_rfl
set_option maxRecDepth 100000 in
theorem lift_New.calls {a1 : Option Addr} {a1l : Nat} {a1c : Nat} {a2 : Option Addr} {a2l : Nat} {a2c : Nat} {h : Heap} {K : (Option Addr) → Int → Heap → Prop} (hh : lift_New a1 a1l a1c a2 a2l a2c h K) (w : World) (hw : w.heap = h) :
    (callFunc 7 #[(.agg #[(.slice a1 a1l a1c), (.slice a2 a2l a2c)])]).run Tryd.prog w = .ok (.enter 7 #[(.agg #[(.slice a1 a1l a1c), (.slice a2 a2l a2c)])]) w ∧ Calls Tryd.prog 7 #[(.agg #[(.slice a1 a1l a1c), (.slice a2 a2l a2c)])] w fun e w' => ∃ v, e = .returned v ∧ Out w w' ∧ lift_New.ret K v w'.heap := by
  rw [← lift_New.eq] at hh
  exact fn_calls (args := [(.agg #[(.slice a1 a1l a1c), (.slice a2 a2l a2c)])]) (c := lift_New.code) lift_New.ok Tryd.func7 (by kernel_rfl) (by kernel_rfl) (by kernel_rfl) (by kernel_rfl) (loops_ok (l := [(lift_New.c0, none, 0, lift_New.keep0, lift_New.outs0), (lift_New.c1, none, 1, lift_New.keep1, lift_New.outs1)]) (by kernel_rfl) ⟨lift_New.L0, lift_New.L1, trivial⟩) hh w hw

/-! ### strait/straitlaw32.awake: function 6 -/
def straitlaw32_awake (h : Heap) (K : Bool → Heap → Prop) : Prop :=
  (newP h (.cells #[(.int .i64 (-1)), (.int .i64 0), (.int .i64 1), (.int .i64 2)] 3) fun a1 h2 => newP h2 (.cells #[(.int .i64 0), (.int .i64 3), (.int .i64 1), (.int .i64 2)] 2) fun a3 h4 => callP2 (lift_New (some a1) 4 4 (some a3) 4 4 h4) fun x5 x6 h7 => (callP2 (lift_Table_Least x5 0 3 h7) fun x8 x9 h10 => (iteB (x6 == (0 : Int)) (iteB (!x5.isNone) (callP1 (lift_Table_Up x5 3 2 h10) fun x11 h12 => iteB (x11 == (1 : Int)) (callP1 (lift_Table_Meet x5 2 3 h12) fun x13 h14 => iteB (x13 == (2 : Int)) (iteB (x8 == (2 : Int)) (iteB x9 (callP1 (lift_Table_Far x5 0 3 h14) fun x15 h16 => (K (x15 == (3 : Int)) h16)) (K false h14)) (K false h14)) (K false h14)) (K false h12)) (K false h10)) (K false h10))))
def straitlaw32_awake.ret (K : Bool → Heap → Prop) (v : Value) (h : Heap) : Prop := match v with
  | (.bool r19) => K r19 h
  | _ => False
theorem straitlaw32_awake.ret_elim {K : Bool → Heap → Prop} {K' : Value → Heap → Prop} {v : Value} {h : Heap} (hk : ∀ r19 h, K r19 h → K' (.bool r19) h) (hh : straitlaw32_awake.ret K v h) : K' v h := by
  unfold straitlaw32_awake.ret at hh
  split at hh
  · exact hk _ _ hh
  · exact hh.elim
def straitlaw32_awake.call (f : FuncId) (vs : List Value) (h : Heap) (K : Value → Heap → Prop) : Prop := match f, vs with
  | 7, [(.agg ⟨[(.slice a1 a1l a1c), (.slice a2 a2l a2c)]⟩)] => callP2 (lift_New a1 a1l a1c a2 a2l a2c h) fun r44 r45 h' => K (.tuple #[(.pointer r44), (.int .i64 r45)]) h'
  | 9, [(.pointer a1), (.int .i64 a2), (.int .i64 a3)] => callP1 (lift_Table_Meet a1 a2 a3 h) fun r28 h' => K (.int .i64 r28) h'
  | 10, [(.pointer a1), (.int .i64 a2), (.int .i64 a3)] => callP1 (lift_Table_Up a1 a2 a3 h) fun r31 h' => K (.int .i64 r31) h'
  | 11, [(.pointer a1), (.int .i64 a2), (.int .i64 a3)] => callP1 (lift_Table_Far a1 a2 a3 h) fun r19 h' => K (.int .i64 r19) h'
  | 14, [(.pointer a1), (.int .i64 a2), (.int .i64 a3)] => callP2 (lift_Table_Least a1 a2 a3 h) fun r18 r19 h' => K (.tuple #[(.int .i64 r18), (.bool r19)]) h'
  | _, _ => False
noncomputable def straitlaw32_awake.ctx : Ctx := { P := Tryd.prog, call := straitlaw32_awake.call, qcall := fun _ _ _ _ => False, quiet := fun f => false, loop := fun _ _ _ _ => False }
theorem straitlaw32_awake.ok : straitlaw32_awake.ctx.OK where
  mixed := by kernel_rfl
  mono := by
    intro f args h K K' hh hk
    change straitlaw32_awake.call f args h K at hh
    change straitlaw32_awake.call f args h K'
    unfold straitlaw32_awake.call at hh ⊢
    split at hh
    · obtain ⟨R, h1, h2⟩ := hh
      exact ⟨R, h1, fun _ _ x hr => hk _ _ (h2 _ _ x hr)⟩
    · obtain ⟨R, h1, h2⟩ := hh
      exact ⟨R, h1, fun _ x hr => hk _ _ (h2 _ x hr)⟩
    · obtain ⟨R, h1, h2⟩ := hh
      exact ⟨R, h1, fun _ x hr => hk _ _ (h2 _ x hr)⟩
    · obtain ⟨R, h1, h2⟩ := hh
      exact ⟨R, h1, fun _ x hr => hk _ _ (h2 _ x hr)⟩
    · obtain ⟨R, h1, h2⟩ := hh
      exact ⟨R, h1, fun _ _ x hr => hk _ _ (h2 _ _ x hr)⟩
    · exact hh.elim
  call := by
    intro f args h K hh w hw
    change straitlaw32_awake.call f args h K at hh
    unfold straitlaw32_awake.call at hh
    split at hh
    · obtain ⟨R, h1, h2⟩ := hh
      obtain ⟨g1, g2⟩ := lift_New.calls h1 w hw
      exact ⟨g1, g2.mono fun e w' ⟨v, he, ho, hr⟩ => ⟨v, he, ho, lift_New.ret_elim h2 hr⟩⟩
    · obtain ⟨R, h1, h2⟩ := hh
      obtain ⟨g1, g2⟩ := lift_Table_Meet.calls h1 w hw
      exact ⟨g1, g2.mono fun e w' ⟨v, he, ho, hr⟩ => ⟨v, he, ho, lift_Table_Meet.ret_elim h2 hr⟩⟩
    · obtain ⟨R, h1, h2⟩ := hh
      obtain ⟨g1, g2⟩ := lift_Table_Up.calls h1 w hw
      exact ⟨g1, g2.mono fun e w' ⟨v, he, ho, hr⟩ => ⟨v, he, ho, lift_Table_Up.ret_elim h2 hr⟩⟩
    · obtain ⟨R, h1, h2⟩ := hh
      obtain ⟨g1, g2⟩ := lift_Table_Far.calls h1 w hw
      exact ⟨g1, g2.mono fun e w' ⟨v, he, ho, hr⟩ => ⟨v, he, ho, lift_Table_Far.ret_elim h2 hr⟩⟩
    · obtain ⟨R, h1, h2⟩ := hh
      obtain ⟨g1, g2⟩ := lift_Table_Least.calls h1 w hw
      exact ⟨g1, g2.mono fun e w' ⟨v, he, ho, hr⟩ => ⟨v, he, ho, lift_Table_Least.ret_elim h2 hr⟩⟩
    · exact hh.elim
  qmono := fun hh _ => hh.elim
  qval := fun hh => hh.elim
  qcall := fun hh => hh.elim
noncomputable def straitlaw32_awake.code : Code := (Tryd.f6.body).getD .skip
def straitlaw32_awake.ann : Ann := .auto
set_option maxRecDepth 100000 in
theorem straitlaw32_awake.eq (h : Heap) (K : Bool → Heap → Prop) : evF straitlaw32_awake.ctx Tryd.f6 straitlaw32_awake.ann [] h (straitlaw32_awake.ret K) = straitlaw32_awake h K := by kernel_rfl
set_option maxRecDepth 100000 in
theorem straitlaw32_awake.calls {h : Heap} {K : Bool → Heap → Prop} (hh : straitlaw32_awake h K) (w : World) (hw : w.heap = h) :
    (callFunc 6 #[]).run Tryd.prog w = .ok (.enter 6 #[]) w ∧ Calls Tryd.prog 6 #[] w fun e w' => ∃ v, e = .returned v ∧ Out w w' ∧ straitlaw32_awake.ret K v w'.heap := by
  rw [← straitlaw32_awake.eq] at hh
  exact fn_calls (args := []) (c := straitlaw32_awake.code) straitlaw32_awake.ok Tryd.func6 (by kernel_rfl) (by kernel_rfl) (by kernel_rfl) (by kernel_rfl) (loops_ok (l := []) (by kernel_rfl) trivial) hh w hw

/-! ### strait/straitlaw32.LiftMost: function 5 -/
def straitlaw32_LiftMost (a1 : Int) (h : Heap) (K : Bool → Heap → Prop) : Prop :=
  ((callP2 (lift_Table_Least none 0 1 h) fun x2 x3 h4 => (qcallP1 h4 (lift_Most a1 h4) fun x5 => qcallP1 h4 (straitref32_Most a1 h4) fun x6 => iteB (x5 == x6) (qcallP1 h4 (lift_Table_N none h4) fun x7 => iteB (x7 == (0 : Int)) (qcallP1 h4 (lift_Table_Depth none 0 h4) fun x8 => iteB (x8 == ((-1) : Int)) (callP1 (lift_Table_Up none 0 0 h4) fun x9 h10 => iteB (x9 == ((-1) : Int)) (callP1 (lift_Table_Meet none 0 0 h10) fun x11 h12 => iteB (x11 == ((-1) : Int)) (iteB (!x3) (callP1 (lift_Table_Far none 0 0 h12) fun x13 h14 => iteB (x13 == ((-1) : Int)) (qcallP1 h14 (lift_Table_Looks none h14) fun x15 => iteB (x15 == (0 : Int)) (callP1 (straitlaw32_awake h14) fun x16 h17 => K x16 h17) (K false h14)) (K false h14)) (K false h12)) (K false h12)) (K false h10)) (K false h4)) (K false h4)) (K false h4))))
def straitlaw32_LiftMost.ret (K : Bool → Heap → Prop) (v : Value) (h : Heap) : Prop := match v with
  | (.bool r20) => K r20 h
  | _ => False
theorem straitlaw32_LiftMost.ret_elim {K : Bool → Heap → Prop} {K' : Value → Heap → Prop} {v : Value} {h : Heap} (hk : ∀ r20 h, K r20 h → K' (.bool r20) h) (hh : straitlaw32_LiftMost.ret K v h) : K' v h := by
  unfold straitlaw32_LiftMost.ret at hh
  split at hh
  · exact hk _ _ hh
  · exact hh.elim
def straitlaw32_LiftMost.call (f : FuncId) (vs : List Value) (h : Heap) (K : Value → Heap → Prop) : Prop := match f, vs with
  | 6, [] => callP1 (straitlaw32_awake h) fun r19 h' => K (.bool r19) h'
  | 9, [(.pointer a1), (.int .i64 a2), (.int .i64 a3)] => callP1 (lift_Table_Meet a1 a2 a3 h) fun r28 h' => K (.int .i64 r28) h'
  | 10, [(.pointer a1), (.int .i64 a2), (.int .i64 a3)] => callP1 (lift_Table_Up a1 a2 a3 h) fun r31 h' => K (.int .i64 r31) h'
  | 11, [(.pointer a1), (.int .i64 a2), (.int .i64 a3)] => callP1 (lift_Table_Far a1 a2 a3 h) fun r19 h' => K (.int .i64 r19) h'
  | 14, [(.pointer a1), (.int .i64 a2), (.int .i64 a3)] => callP2 (lift_Table_Least a1 a2 a3 h) fun r18 r19 h' => K (.tuple #[(.int .i64 r18), (.bool r19)]) h'
  | _, _ => False
def straitlaw32_LiftMost.qcall (f : FuncId) (vs : List Value) (h : Heap) (K : Value → Prop) : Prop := match f, vs with
  | 8, [(.pointer a1), (.int .i64 a2)] => qcallP1 h (lift_Table_Depth a1 a2 h) fun r8 => K (.int .i64 r8)
  | 13, [(.pointer a1)] => qcallP1 h (lift_Table_Looks a1 h) fun r4 => K (.int .i64 r4)
  | 16, [(.int .i64 a1)] => qcallP1 h (straitref32_Most a1 h) fun r10 => K (.int .i64 r10)
  | 17, [(.pointer a1)] => qcallP1 h (lift_Table_N a1 h) fun r4 => K (.int .i64 r4)
  | 22, [(.int .i64 a1)] => qcallP1 h (lift_Most a1 h) fun r5 => K (.int .i64 r5)
  | _, _ => False
noncomputable def straitlaw32_LiftMost.ctx : Ctx := { P := Tryd.prog, call := straitlaw32_LiftMost.call, qcall := straitlaw32_LiftMost.qcall, quiet := fun f => Nat.beq f 8 || Nat.beq f 13 || Nat.beq f 16 || Nat.beq f 17 || Nat.beq f 22, loop := fun _ _ _ _ => False }
theorem straitlaw32_LiftMost.ok : straitlaw32_LiftMost.ctx.OK where
  mixed := by kernel_rfl
  mono := by
    intro f args h K K' hh hk
    change straitlaw32_LiftMost.call f args h K at hh
    change straitlaw32_LiftMost.call f args h K'
    unfold straitlaw32_LiftMost.call at hh ⊢
    split at hh
    · obtain ⟨R, h1, h2⟩ := hh
      exact ⟨R, h1, fun _ x hr => hk _ _ (h2 _ x hr)⟩
    · obtain ⟨R, h1, h2⟩ := hh
      exact ⟨R, h1, fun _ x hr => hk _ _ (h2 _ x hr)⟩
    · obtain ⟨R, h1, h2⟩ := hh
      exact ⟨R, h1, fun _ x hr => hk _ _ (h2 _ x hr)⟩
    · obtain ⟨R, h1, h2⟩ := hh
      exact ⟨R, h1, fun _ x hr => hk _ _ (h2 _ x hr)⟩
    · obtain ⟨R, h1, h2⟩ := hh
      exact ⟨R, h1, fun _ _ x hr => hk _ _ (h2 _ _ x hr)⟩
    · exact hh.elim
  call := by
    intro f args h K hh w hw
    change straitlaw32_LiftMost.call f args h K at hh
    unfold straitlaw32_LiftMost.call at hh
    split at hh
    · obtain ⟨R, h1, h2⟩ := hh
      obtain ⟨g1, g2⟩ := straitlaw32_awake.calls h1 w hw
      exact ⟨g1, g2.mono fun e w' ⟨v, he, ho, hr⟩ => ⟨v, he, ho, straitlaw32_awake.ret_elim h2 hr⟩⟩
    · obtain ⟨R, h1, h2⟩ := hh
      obtain ⟨g1, g2⟩ := lift_Table_Meet.calls h1 w hw
      exact ⟨g1, g2.mono fun e w' ⟨v, he, ho, hr⟩ => ⟨v, he, ho, lift_Table_Meet.ret_elim h2 hr⟩⟩
    · obtain ⟨R, h1, h2⟩ := hh
      obtain ⟨g1, g2⟩ := lift_Table_Up.calls h1 w hw
      exact ⟨g1, g2.mono fun e w' ⟨v, he, ho, hr⟩ => ⟨v, he, ho, lift_Table_Up.ret_elim h2 hr⟩⟩
    · obtain ⟨R, h1, h2⟩ := hh
      obtain ⟨g1, g2⟩ := lift_Table_Far.calls h1 w hw
      exact ⟨g1, g2.mono fun e w' ⟨v, he, ho, hr⟩ => ⟨v, he, ho, lift_Table_Far.ret_elim h2 hr⟩⟩
    · obtain ⟨R, h1, h2⟩ := hh
      obtain ⟨g1, g2⟩ := lift_Table_Least.calls h1 w hw
      exact ⟨g1, g2.mono fun e w' ⟨v, he, ho, hr⟩ => ⟨v, he, ho, lift_Table_Least.ret_elim h2 hr⟩⟩
    · exact hh.elim
  qmono := by
    intro f args h K K' hh hk
    change straitlaw32_LiftMost.qcall f args h K at hh
    change straitlaw32_LiftMost.qcall f args h K'
    unfold straitlaw32_LiftMost.qcall at hh ⊢
    split at hh
    · obtain ⟨x0, h1, h2⟩ := hh
      exact ⟨x0, h1, hk _ h2⟩
    · obtain ⟨x0, h1, h2⟩ := hh
      exact ⟨x0, h1, hk _ h2⟩
    · obtain ⟨x0, h1, h2⟩ := hh
      exact ⟨x0, h1, hk _ h2⟩
    · obtain ⟨x0, h1, h2⟩ := hh
      exact ⟨x0, h1, hk _ h2⟩
    · obtain ⟨x0, h1, h2⟩ := hh
      exact ⟨x0, h1, hk _ h2⟩
    · exact hh.elim
  qval := by
    intro f args h K hh
    change straitlaw32_LiftMost.qcall f args h K at hh
    suffices H : ∃ v, K v ∧ straitlaw32_LiftMost.qcall f args h (· = v) from H
    unfold straitlaw32_LiftMost.qcall at hh ⊢
    split at hh
    · obtain ⟨x0, h1, h2⟩ := hh
      exact ⟨_, h2, x0, h1, rfl⟩
    · obtain ⟨x0, h1, h2⟩ := hh
      exact ⟨_, h2, x0, h1, rfl⟩
    · obtain ⟨x0, h1, h2⟩ := hh
      exact ⟨_, h2, x0, h1, rfl⟩
    · obtain ⟨x0, h1, h2⟩ := hh
      exact ⟨_, h2, x0, h1, rfl⟩
    · obtain ⟨x0, h1, h2⟩ := hh
      exact ⟨_, h2, x0, h1, rfl⟩
    · exact hh.elim
  qcall := by
    intro f args h v hh w hw
    change straitlaw32_LiftMost.qcall f args h (· = v) at hh
    unfold straitlaw32_LiftMost.qcall at hh
    split at hh
    · obtain ⟨x0, h1, h2⟩ := hh
      obtain ⟨g1, g2⟩ := lift_Table_Depth.calls h1 w hw
      refine .inl ⟨g1, g2.mono fun e w' ⟨u, he, ho, hr⟩ => ?_⟩
      have hq := lift_Table_Depth.ret_elim (K' := fun u h' => u = v ∧ h' = h) (fun _ h' hr => by obtain ⟨rfl, rfl⟩ := hr; exact ⟨h2, rfl⟩) hr
      exact ⟨hq.1 ▸ he, ho, hq.2⟩
    · obtain ⟨x0, h1, h2⟩ := hh
      obtain ⟨g1, g2⟩ := lift_Table_Looks.calls h1 w hw
      refine .inl ⟨g1, g2.mono fun e w' ⟨u, he, ho, hr⟩ => ?_⟩
      have hq := lift_Table_Looks.ret_elim (K' := fun u h' => u = v ∧ h' = h) (fun _ h' hr => by obtain ⟨rfl, rfl⟩ := hr; exact ⟨h2, rfl⟩) hr
      exact ⟨hq.1 ▸ he, ho, hq.2⟩
    · obtain ⟨x0, h1, h2⟩ := hh
      obtain ⟨g1, g2⟩ := straitref32_Most.calls h1 w hw
      refine .inl ⟨g1, g2.mono fun e w' ⟨u, he, ho, hr⟩ => ?_⟩
      have hq := straitref32_Most.ret_elim (K' := fun u h' => u = v ∧ h' = h) (fun _ h' hr => by obtain ⟨rfl, rfl⟩ := hr; exact ⟨h2, rfl⟩) hr
      exact ⟨hq.1 ▸ he, ho, hq.2⟩
    · obtain ⟨x0, h1, h2⟩ := hh
      obtain ⟨g1, g2⟩ := lift_Table_N.calls h1 w hw
      refine .inl ⟨g1, g2.mono fun e w' ⟨u, he, ho, hr⟩ => ?_⟩
      have hq := lift_Table_N.ret_elim (K' := fun u h' => u = v ∧ h' = h) (fun _ h' hr => by obtain ⟨rfl, rfl⟩ := hr; exact ⟨h2, rfl⟩) hr
      exact ⟨hq.1 ▸ he, ho, hq.2⟩
    · obtain ⟨x0, h1, h2⟩ := hh
      obtain ⟨g1, g2⟩ := lift_Most.calls h1 w hw
      refine .inl ⟨g1, g2.mono fun e w' ⟨u, he, ho, hr⟩ => ?_⟩
      have hq := lift_Most.ret_elim (K' := fun u h' => u = v ∧ h' = h) (fun _ h' hr => by obtain ⟨rfl, rfl⟩ := hr; exact ⟨h2, rfl⟩) hr
      exact ⟨hq.1 ▸ he, ho, hq.2⟩
    · exact hh.elim
noncomputable def straitlaw32_LiftMost.code : Code := (Tryd.f5.body).getD .skip
def straitlaw32_LiftMost.ann : Ann := .auto
set_option maxRecDepth 100000 in
theorem straitlaw32_LiftMost.eq (a1 : Int) (h : Heap) (K : Bool → Heap → Prop) : evF straitlaw32_LiftMost.ctx Tryd.f5 straitlaw32_LiftMost.ann [(.int .i64 a1)] h (straitlaw32_LiftMost.ret K) = straitlaw32_LiftMost a1 h K := by kernel_rfl
set_option maxRecDepth 100000 in
theorem straitlaw32_LiftMost.calls {a1 : Int} {h : Heap} {K : Bool → Heap → Prop} (hh : straitlaw32_LiftMost a1 h K) (w : World) (hw : w.heap = h) :
    (callFunc 5 #[(.int .i64 a1)]).run Tryd.prog w = .ok (.enter 5 #[(.int .i64 a1)]) w ∧ Calls Tryd.prog 5 #[(.int .i64 a1)] w fun e w' => ∃ v, e = .returned v ∧ Out w w' ∧ straitlaw32_LiftMost.ret K v w'.heap := by
  rw [← straitlaw32_LiftMost.eq] at hh
  exact fn_calls (args := [(.int .i64 a1)]) (c := straitlaw32_LiftMost.code) straitlaw32_LiftMost.ok Tryd.func5 (by kernel_rfl) (by kernel_rfl) (by kernel_rfl) (by kernel_rfl) (loops_ok (l := []) (by kernel_rfl) trivial) hh w hw

end Go.Proofs.YtfidcekobjmamaaDoor
