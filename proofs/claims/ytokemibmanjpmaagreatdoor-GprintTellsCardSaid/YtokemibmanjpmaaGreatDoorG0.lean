/- WRITTEN BY A PROGRAM OF THIS SESSION (gen.py): what each function asks of memory, and that the model's run comes to it. -/
import Derived.Test.YtokemibmanjpmaaGreatDoorProg
import Derived.Test.YtokemibmanjpmaaGreatDoorFw8

namespace Go.Proofs.YtokemibmanjpmaaGreatDoor
open Go.Hp
set_option linter.unusedVariables false
set_option linter.unusedSimpArgs false
set_option linter.unusedSectionVars false

/-! ### cmp.isNaN[int]: function 132 -/
def cmp_isNaN_int (a1 : Int) (h : Heap) (K : Bool → Heap → Prop) : Prop :=
  ((K (a1 != a1) h))
def cmp_isNaN_int.ret (K : Bool → Heap → Prop) (v : Value) (h : Heap) : Prop := match v with
  | (.bool r2) => K r2 h
  | _ => False
theorem cmp_isNaN_int.ret_elim {K : Bool → Heap → Prop} {K' : Value → Heap → Prop} {v : Value} {h : Heap} (hk : ∀ r2 h, K r2 h → K' (.bool r2) h) (hh : cmp_isNaN_int.ret K v h) : K' v h := by
  unfold cmp_isNaN_int.ret at hh
  split at hh
  · exact hk _ _ hh
  · exact hh.elim
noncomputable def cmp_isNaN_int.ctx : Ctx := { P := Tryz.prog, call := fun _ _ _ _ => False, qcall := fun _ _ _ _ => False, quiet := fun f => Nat.beq f 1000138 || Nat.beq f 2000157, loop := fun _ _ _ _ => False }
theorem cmp_isNaN_int.ok [DKc] : cmp_isNaN_int.ctx.OK where
  mixed := by kernel_rfl
  mono := fun hh _ => hh.elim
  call := fun hh => hh.elim
  qmono := fun hh _ => hh.elim
  qval := fun hh => hh.elim
  qcall := fun hh => hh.elim
noncomputable def cmp_isNaN_int.code : Code := (Tryz.f132.body).getD .skip
def cmp_isNaN_int.ann : Ann := .auto
set_option maxRecDepth 100000 in
theorem cmp_isNaN_int.eq (a1 : Int) (h : Heap) (K : Bool → Heap → Prop) : evF cmp_isNaN_int.ctx Tryz.f132 cmp_isNaN_int.ann [(.int .i64 a1)] h (cmp_isNaN_int.ret K) = cmp_isNaN_int a1 h K := by kernel_rfl
set_option maxRecDepth 100000 in
theorem cmp_isNaN_int.calls [DKc] {a1 : Int} {h : Heap} {K : Bool → Heap → Prop} (hh : cmp_isNaN_int a1 h K) (w : World) (hw : w.heap = h) :
    (callFunc 132 #[(.int .i64 a1)]).run Tryz.prog w = .ok (.enter 132 #[(.int .i64 a1)]) w ∧ Calls Tryz.prog 132 #[(.int .i64 a1)] w fun e w' => ∃ v, e = .returned v ∧ Out w w' ∧ cmp_isNaN_int.ret K v w'.heap := by
  rw [← cmp_isNaN_int.eq] at hh
  exact fn_calls (args := [(.int .i64 a1)]) (c := cmp_isNaN_int.code) cmp_isNaN_int.ok Tryz.func132 (by kernel_rfl) (by kernel_rfl) (by kernel_rfl) (by kernel_rfl) (loops_ok (l := []) (by kernel_rfl) trivial) hh w hw

/-! ### cmp.Compare[int]: function 103 -/
def cmp_Compare_int (a1 : Int) (a2 : Int) (h : Heap) (K : Int → Heap → Prop) : Prop :=
  (qcallP1 h (cmp_isNaN_int a1 h) fun x3 => (qcallP1 h (cmp_isNaN_int a2 h) fun x4 => ((iteB x3 ((iteB x4 (K 0 h) (((K (-1) h))))) (((iteB x4 (K 1 h) (((iteB (decide (a1 < a2)) ((K (-1) h)) (((iteB (decide (a1 > a2)) (K 1 h) (K 0 h))))))))))))))
def cmp_Compare_int.ret (K : Int → Heap → Prop) (v : Value) (h : Heap) : Prop := match v with
  | (.int .i64 r5) => K r5 h
  | _ => False
theorem cmp_Compare_int.ret_elim {K : Int → Heap → Prop} {K' : Value → Heap → Prop} {v : Value} {h : Heap} (hk : ∀ r5 h, K r5 h → K' (.int .i64 r5) h) (hh : cmp_Compare_int.ret K v h) : K' v h := by
  unfold cmp_Compare_int.ret at hh
  split at hh
  · exact hk _ _ hh
  · exact hh.elim
def cmp_Compare_int.qcall (f : FuncId) (vs : List Value) (h : Heap) (K : Value → Prop) : Prop := match f, vs with
  | 132, [(.int .i64 a1)] => qcallP1 h (cmp_isNaN_int a1 h) fun r2 => K (.bool r2)
  | _, _ => False
noncomputable def cmp_Compare_int.ctx : Ctx := { P := Tryz.prog, call := fun _ _ _ _ => False, qcall := cmp_Compare_int.qcall, quiet := fun f => Nat.beq f 132 || Nat.beq f 1000138 || Nat.beq f 2000157, loop := fun _ _ _ _ => False }
theorem cmp_Compare_int.ok [DKc] : cmp_Compare_int.ctx.OK where
  mixed := by kernel_rfl
  mono := fun hh _ => hh.elim
  call := fun hh => hh.elim
  qmono := by
    intro f args h K K' hh hk
    change cmp_Compare_int.qcall f args h K at hh
    change cmp_Compare_int.qcall f args h K'
    unfold cmp_Compare_int.qcall at hh ⊢
    split at hh
    · obtain ⟨x0, h1, h2⟩ := hh
      exact ⟨x0, h1, hk _ h2⟩
    · exact hh.elim
  qval := by
    intro f args h K hh
    change cmp_Compare_int.qcall f args h K at hh
    suffices H : ∃ v, K v ∧ cmp_Compare_int.qcall f args h (· = v) from H
    unfold cmp_Compare_int.qcall at hh ⊢
    split at hh
    · obtain ⟨x0, h1, h2⟩ := hh
      exact ⟨_, h2, x0, h1, rfl⟩
    · exact hh.elim
  qcall := by
    intro f args h v hh w hw
    change cmp_Compare_int.qcall f args h (· = v) at hh
    unfold cmp_Compare_int.qcall at hh
    split at hh
    · obtain ⟨x0, h1, h2⟩ := hh
      obtain ⟨g1, g2⟩ := cmp_isNaN_int.calls h1 w hw
      refine .inl ⟨g1, g2.mono fun e w' ⟨u, he, ho, hr⟩ => ?_⟩
      have hq := cmp_isNaN_int.ret_elim (K' := fun u h' => u = v ∧ h' = h) (fun _ h' hr => by obtain ⟨rfl, rfl⟩ := hr; exact ⟨h2, rfl⟩) hr
      exact ⟨hq.1 ▸ he, ho, hq.2⟩
    · exact hh.elim
noncomputable def cmp_Compare_int.code : Code := (Tryz.f103.body).getD .skip
def cmp_Compare_int.ann : Ann := .auto
set_option maxRecDepth 100000 in
theorem cmp_Compare_int.eq (a1 : Int) (a2 : Int) (h : Heap) (K : Int → Heap → Prop) : evF cmp_Compare_int.ctx Tryz.f103 cmp_Compare_int.ann [(.int .i64 a1), (.int .i64 a2)] h (cmp_Compare_int.ret K) = cmp_Compare_int a1 a2 h K := by kernel_rfl
set_option maxRecDepth 100000 in
theorem cmp_Compare_int.calls [DKc] {a1 : Int} {a2 : Int} {h : Heap} {K : Int → Heap → Prop} (hh : cmp_Compare_int a1 a2 h K) (w : World) (hw : w.heap = h) :
    (callFunc 103 #[(.int .i64 a1), (.int .i64 a2)]).run Tryz.prog w = .ok (.enter 103 #[(.int .i64 a1), (.int .i64 a2)]) w ∧ Calls Tryz.prog 103 #[(.int .i64 a1), (.int .i64 a2)] w fun e w' => ∃ v, e = .returned v ∧ Out w w' ∧ cmp_Compare_int.ret K v w'.heap := by
  rw [← cmp_Compare_int.eq] at hh
  exact fn_calls (args := [(.int .i64 a1), (.int .i64 a2)]) (c := cmp_Compare_int.code) cmp_Compare_int.ok Tryz.func103 (by kernel_rfl) (by kernel_rfl) (by kernel_rfl) (by kernel_rfl) (loops_ok (l := []) (by kernel_rfl) trivial) hh w hw

/-! ### cmp.isNaN[int64]: function 154 -/
def cmp_isNaN_int64 (a1 : Int) (h : Heap) (K : Bool → Heap → Prop) : Prop :=
  ((K (a1 != a1) h))
def cmp_isNaN_int64.ret (K : Bool → Heap → Prop) (v : Value) (h : Heap) : Prop := match v with
  | (.bool r2) => K r2 h
  | _ => False
theorem cmp_isNaN_int64.ret_elim {K : Bool → Heap → Prop} {K' : Value → Heap → Prop} {v : Value} {h : Heap} (hk : ∀ r2 h, K r2 h → K' (.bool r2) h) (hh : cmp_isNaN_int64.ret K v h) : K' v h := by
  unfold cmp_isNaN_int64.ret at hh
  split at hh
  · exact hk _ _ hh
  · exact hh.elim
noncomputable def cmp_isNaN_int64.ctx : Ctx := { P := Tryz.prog, call := fun _ _ _ _ => False, qcall := fun _ _ _ _ => False, quiet := fun f => Nat.beq f 1000138 || Nat.beq f 2000157, loop := fun _ _ _ _ => False }
theorem cmp_isNaN_int64.ok [DKc] : cmp_isNaN_int64.ctx.OK where
  mixed := by kernel_rfl
  mono := fun hh _ => hh.elim
  call := fun hh => hh.elim
  qmono := fun hh _ => hh.elim
  qval := fun hh => hh.elim
  qcall := fun hh => hh.elim
noncomputable def cmp_isNaN_int64.code : Code := (Tryz.f154.body).getD .skip
def cmp_isNaN_int64.ann : Ann := .auto
set_option maxRecDepth 100000 in
theorem cmp_isNaN_int64.eq (a1 : Int) (h : Heap) (K : Bool → Heap → Prop) : evF cmp_isNaN_int64.ctx Tryz.f154 cmp_isNaN_int64.ann [(.int .i64 a1)] h (cmp_isNaN_int64.ret K) = cmp_isNaN_int64 a1 h K := by kernel_rfl
set_option maxRecDepth 100000 in
theorem cmp_isNaN_int64.calls [DKc] {a1 : Int} {h : Heap} {K : Bool → Heap → Prop} (hh : cmp_isNaN_int64 a1 h K) (w : World) (hw : w.heap = h) :
    (callFunc 154 #[(.int .i64 a1)]).run Tryz.prog w = .ok (.enter 154 #[(.int .i64 a1)]) w ∧ Calls Tryz.prog 154 #[(.int .i64 a1)] w fun e w' => ∃ v, e = .returned v ∧ Out w w' ∧ cmp_isNaN_int64.ret K v w'.heap := by
  rw [← cmp_isNaN_int64.eq] at hh
  exact fn_calls (args := [(.int .i64 a1)]) (c := cmp_isNaN_int64.code) cmp_isNaN_int64.ok Tryz.func154 (by kernel_rfl) (by kernel_rfl) (by kernel_rfl) (by kernel_rfl) (loops_ok (l := []) (by kernel_rfl) trivial) hh w hw

/-! ### cmp.Compare[int64]: function 118 -/
def cmp_Compare_int64 (a1 : Int) (a2 : Int) (h : Heap) (K : Int → Heap → Prop) : Prop :=
  (qcallP1 h (cmp_isNaN_int64 a1 h) fun x3 => (qcallP1 h (cmp_isNaN_int64 a2 h) fun x4 => ((iteB x3 ((iteB x4 (K 0 h) (((K (-1) h))))) (((iteB x4 (K 1 h) (((iteB (decide (a1 < a2)) ((K (-1) h)) (((iteB (decide (a1 > a2)) (K 1 h) (K 0 h))))))))))))))
def cmp_Compare_int64.ret (K : Int → Heap → Prop) (v : Value) (h : Heap) : Prop := match v with
  | (.int .i64 r5) => K r5 h
  | _ => False
theorem cmp_Compare_int64.ret_elim {K : Int → Heap → Prop} {K' : Value → Heap → Prop} {v : Value} {h : Heap} (hk : ∀ r5 h, K r5 h → K' (.int .i64 r5) h) (hh : cmp_Compare_int64.ret K v h) : K' v h := by
  unfold cmp_Compare_int64.ret at hh
  split at hh
  · exact hk _ _ hh
  · exact hh.elim
def cmp_Compare_int64.qcall (f : FuncId) (vs : List Value) (h : Heap) (K : Value → Prop) : Prop := match f, vs with
  | 154, [(.int .i64 a1)] => qcallP1 h (cmp_isNaN_int64 a1 h) fun r2 => K (.bool r2)
  | _, _ => False
noncomputable def cmp_Compare_int64.ctx : Ctx := { P := Tryz.prog, call := fun _ _ _ _ => False, qcall := cmp_Compare_int64.qcall, quiet := fun f => Nat.beq f 154 || Nat.beq f 1000138 || Nat.beq f 2000157, loop := fun _ _ _ _ => False }
theorem cmp_Compare_int64.ok [DKc] : cmp_Compare_int64.ctx.OK where
  mixed := by kernel_rfl
  mono := fun hh _ => hh.elim
  call := fun hh => hh.elim
  qmono := by
    intro f args h K K' hh hk
    change cmp_Compare_int64.qcall f args h K at hh
    change cmp_Compare_int64.qcall f args h K'
    unfold cmp_Compare_int64.qcall at hh ⊢
    split at hh
    · obtain ⟨x0, h1, h2⟩ := hh
      exact ⟨x0, h1, hk _ h2⟩
    · exact hh.elim
  qval := by
    intro f args h K hh
    change cmp_Compare_int64.qcall f args h K at hh
    suffices H : ∃ v, K v ∧ cmp_Compare_int64.qcall f args h (· = v) from H
    unfold cmp_Compare_int64.qcall at hh ⊢
    split at hh
    · obtain ⟨x0, h1, h2⟩ := hh
      exact ⟨_, h2, x0, h1, rfl⟩
    · exact hh.elim
  qcall := by
    intro f args h v hh w hw
    change cmp_Compare_int64.qcall f args h (· = v) at hh
    unfold cmp_Compare_int64.qcall at hh
    split at hh
    · obtain ⟨x0, h1, h2⟩ := hh
      obtain ⟨g1, g2⟩ := cmp_isNaN_int64.calls h1 w hw
      refine .inl ⟨g1, g2.mono fun e w' ⟨u, he, ho, hr⟩ => ?_⟩
      have hq := cmp_isNaN_int64.ret_elim (K' := fun u h' => u = v ∧ h' = h) (fun _ h' hr => by obtain ⟨rfl, rfl⟩ := hr; exact ⟨h2, rfl⟩) hr
      exact ⟨hq.1 ▸ he, ho, hq.2⟩
    · exact hh.elim
noncomputable def cmp_Compare_int64.code : Code := (Tryz.f118.body).getD .skip
def cmp_Compare_int64.ann : Ann := .auto
set_option maxRecDepth 100000 in
theorem cmp_Compare_int64.eq (a1 : Int) (a2 : Int) (h : Heap) (K : Int → Heap → Prop) : evF cmp_Compare_int64.ctx Tryz.f118 cmp_Compare_int64.ann [(.int .i64 a1), (.int .i64 a2)] h (cmp_Compare_int64.ret K) = cmp_Compare_int64 a1 a2 h K := by kernel_rfl
set_option maxRecDepth 100000 in
theorem cmp_Compare_int64.calls [DKc] {a1 : Int} {a2 : Int} {h : Heap} {K : Int → Heap → Prop} (hh : cmp_Compare_int64 a1 a2 h K) (w : World) (hw : w.heap = h) :
    (callFunc 118 #[(.int .i64 a1), (.int .i64 a2)]).run Tryz.prog w = .ok (.enter 118 #[(.int .i64 a1), (.int .i64 a2)]) w ∧ Calls Tryz.prog 118 #[(.int .i64 a1), (.int .i64 a2)] w fun e w' => ∃ v, e = .returned v ∧ Out w w' ∧ cmp_Compare_int64.ret K v w'.heap := by
  rw [← cmp_Compare_int64.eq] at hh
  exact fn_calls (args := [(.int .i64 a1), (.int .i64 a2)]) (c := cmp_Compare_int64.code) cmp_Compare_int64.ok Tryz.func118 (by kernel_rfl) (by kernel_rfl) (by kernel_rfl) (by kernel_rfl) (loops_ok (l := []) (by kernel_rfl) trivial) hh w hw

/-! ### cmp.Or[int]: function 102 -/
def cmp_Or_int.b0 (K0 : Int → Heap → Prop) (K2 : Heap → Prop) (cont : (Option Addr) → Nat → Nat → Int → Int → Heap → Prop) (c6_1001 : Option Addr) (c6_1002 : Nat) (c6_1003 : Nat) (c7_1004 : Int) (v8_1005 : Int) (h1006 : Heap) : Prop :=
  (iteB (decide (v8_1005 < c7_1004)) ((chkP c6_1001 fun a1007 => (0 ≤ v8_1005 ∧ v8_1005 < (c6_1002 : Int)) ∧ ∃ (x1008 : Int), cell h1006 (a1007.add (v8_1005.toNat * 1)) = some (.int .i64 x1008) ∧ ((iteB (x1008 != (0 : Int)) (K0 x1008 h1006) (((cont c6_1001 c6_1002 c6_1003 c7_1004 (IntKind.i64.wrap (v8_1005 + 1)) h1006))))))) (K2 h1006))
def cmp_Or_int.l0 (K0 : Int → Heap → Prop) (K2 : Heap → Prop) : Nat → (Option Addr) → Nat → Nat → Int → Int → Heap → Prop
  | 0, _, _, _, _, _, _ => False
  | m + 1, c6_1001, c6_1002, c6_1003, c7_1004, v8_1005, h => cmp_Or_int.b0 K0 K2 (cmp_Or_int.l0 K0 K2 m) c6_1001 c6_1002 c6_1003 c7_1004 v8_1005 h
def cmp_Or_int (a1 : Option Addr) (a1l : Nat) (a1c : Nat) (h : Heap) (K : Int → Heap → Prop) : Prop :=
  (((∃ m5, cmp_Or_int.l0 (fun z2 h3 => K z2 h3) (fun h4 => (K 0 h4)) m5 a1 a1l a1c (a1l : Int) 0 h)))
def cmp_Or_int.ret (K : Int → Heap → Prop) (v : Value) (h : Heap) : Prop := match v with
  | (.int .i64 r6) => K r6 h
  | _ => False
theorem cmp_Or_int.ret_elim {K : Int → Heap → Prop} {K' : Value → Heap → Prop} {v : Value} {h : Heap} (hk : ∀ r6 h, K r6 h → K' (.int .i64 r6) h) (hh : cmp_Or_int.ret K v h) : K' v h := by
  unfold cmp_Or_int.ret at hh
  split at hh
  · exact hk _ _ hh
  · exact hh.elim
def cmp_Or_int.r0 (K : Nat → List Value → Heap → Prop) (m : Nat) (vs : List Value) (h : Heap) : Prop := match vs with
  | [(.int .i64 0), (.slice c6_1001 c6_1002 c6_1003), (.int .i64 c7_1004), (.int .i64 v8_1005)] => cmp_Or_int.l0 (fun z7 h' => K 0 [(.int .i64 z7)] h') (fun h' => K 2 [(.int .i64 0)] h') m c6_1001 c6_1002 c6_1003 c7_1004 v8_1005 h
  | _ => False
def cmp_Or_int.loop (i : Nat) (vs : List Value) (h : Heap) (K : Nat → List Value → Heap → Prop) : Prop := match i with
  | 0 => ∃ m, cmp_Or_int.r0 K m vs h
  | _ => False
noncomputable def cmp_Or_int.ctx : Ctx := { P := Tryz.prog, call := fun _ _ _ _ => False, qcall := fun _ _ _ _ => False, quiet := fun f => Nat.beq f 1000138 || Nat.beq f 2000157, loop := cmp_Or_int.loop }
theorem cmp_Or_int.ok [DKc] : cmp_Or_int.ctx.OK where
  mixed := by kernel_rfl
  mono := fun hh _ => hh.elim
  call := fun hh => hh.elim
  qmono := fun hh _ => hh.elim
  qval := fun hh => hh.elim
  qcall := fun hh => hh.elim
noncomputable def cmp_Or_int.code : Code := (Tryz.f102.body).getD .skip
def cmp_Or_int.ann : Ann := (.two .auto (.two .auto (.two (.two .auto (.two (.loop 0 [3, 6, 7, 8] [(2, [3]), (0, [2])] .auto) .auto)) .auto)))
noncomputable def cmp_Or_int.c0 : Code := sub cmp_Or_int.code [1, 1, 0, 1, 0, 0]
def cmp_Or_int.a0 : Ann := .auto
def cmp_Or_int.keep0 : List Nat := [3, 6, 7, 8]
def cmp_Or_int.outs0 : List (Nat × List Nat) := [(2, [3]), (0, [2])]
set_option maxRecDepth 100000 in
theorem cmp_Or_int.L0 [DKc] : LoopOK cmp_Or_int.ctx 18 cmp_Or_int.c0 0 cmp_Or_int.keep0 cmp_Or_int.outs0 := by
  refine loop_ok (n := cmp_Or_int.a0) cmp_Or_int.ok (by kernel_rfl) (loops_ok (l := []) (by kernel_rfl) ?_) cmp_Or_int.r0 ?_ ?_ (fun vs h K hh => hh)
  · exact trivial
  · intro K vs h hh
    unfold cmp_Or_int.r0 at hh
    split at hh
    · exact hh
    · exact hh
  · intro K m vs h hh
    unfold cmp_Or_int.r0 at hh
    split at hh
    · exact cast (by kernel_rfl) hh
    · exact hh.elim
set_option maxRecDepth 100000 in
theorem cmp_Or_int.eq (a1 : Option Addr) (a1l : Nat) (a1c : Nat) (h : Heap) (K : Int → Heap → Prop) : evF cmp_Or_int.ctx Tryz.f102 cmp_Or_int.ann [(.slice a1 a1l a1c)] h (cmp_Or_int.ret K) = cmp_Or_int a1 a1l a1c h K := by kernel_rfl
set_option maxRecDepth 100000 in
theorem cmp_Or_int.calls [DKc] {a1 : Option Addr} {a1l : Nat} {a1c : Nat} {h : Heap} {K : Int → Heap → Prop} (hh : cmp_Or_int a1 a1l a1c h K) (w : World) (hw : w.heap = h) :
    (callFunc 102 #[(.slice a1 a1l a1c)]).run Tryz.prog w = .ok (.enter 102 #[(.slice a1 a1l a1c)]) w ∧ Calls Tryz.prog 102 #[(.slice a1 a1l a1c)] w fun e w' => ∃ v, e = .returned v ∧ Out w w' ∧ cmp_Or_int.ret K v w'.heap := by
  rw [← cmp_Or_int.eq] at hh
  exact fn_calls (args := [(.slice a1 a1l a1c)]) (c := cmp_Or_int.code) cmp_Or_int.ok Tryz.func102 (by kernel_rfl) (by kernel_rfl) (by kernel_rfl) (by kernel_rfl) (loops_ok (l := [(cmp_Or_int.c0, none, 0, cmp_Or_int.keep0, cmp_Or_int.outs0)]) (by kernel_rfl) ⟨cmp_Or_int.L0, trivial⟩) hh w hw

/-! ### strait/edge.Cmp: function 89 -/
def edge_Cmp (a1 : Int) (a2 : Int) (a3 : Int) (a4 : Int) (a5 : Int) (a6 : Int) (h : Heap) (K : Int → Heap → Prop) : Prop :=
  newP h (.cells #[(.int .i64 a1), (.int .i64 a2), (.int .i64 a3)] 27) fun a7 h8 => newP h8 (.cells #[(.int .i64 a4), (.int .i64 a5), (.int .i64 a6)] 27) fun a9 h10 => (∃ (x11 : Int), cell h10 a7 = some (.int .i64 x11) ∧ ∃ (x12 : Int), cell h10 a9 = some (.int .i64 x12) ∧ qcallP1 h10 (cmp_Compare_int x11 x12 h10) fun x13 => ∃ (x14 : Int), cell h10 (a7.add 1) = some (.int .i64 x14) ∧ ∃ (x15 : Int), cell h10 (a9.add 1) = some (.int .i64 x15) ∧ qcallP1 h10 (cmp_Compare_int x14 x15 h10) fun x16 => ∃ (x17 : Int), cell h10 (a7.add 2) = some (.int .i64 x17) ∧ ∃ (x18 : Int), cell h10 (a9.add 2) = some (.int .i64 x18) ∧ qcallP1 h10 (cmp_Compare_int64 x17 x18 h10) fun x19 => newP h10 (.cells #[(.int .i64 x13), (.int .i64 x16), (.int .i64 x19)] 3) fun a20 h21 => qcallP1 h21 (cmp_Or_int (some a20) 3 3 h21) fun x22 => K x22 h21)
def edge_Cmp.ret (K : Int → Heap → Prop) (v : Value) (h : Heap) : Prop := match v with
  | (.int .i64 r23) => K r23 h
  | _ => False
theorem edge_Cmp.ret_elim {K : Int → Heap → Prop} {K' : Value → Heap → Prop} {v : Value} {h : Heap} (hk : ∀ r23 h, K r23 h → K' (.int .i64 r23) h) (hh : edge_Cmp.ret K v h) : K' v h := by
  unfold edge_Cmp.ret at hh
  split at hh
  · exact hk _ _ hh
  · exact hh.elim
def edge_Cmp.qcall (f : FuncId) (vs : List Value) (h : Heap) (K : Value → Prop) : Prop := match f, vs with
  | 102, [(.slice a1 a1l a1c)] => qcallP1 h (cmp_Or_int a1 a1l a1c h) fun r6 => K (.int .i64 r6)
  | 103, [(.int .i64 a1), (.int .i64 a2)] => qcallP1 h (cmp_Compare_int a1 a2 h) fun r5 => K (.int .i64 r5)
  | 118, [(.int .i64 a1), (.int .i64 a2)] => qcallP1 h (cmp_Compare_int64 a1 a2 h) fun r5 => K (.int .i64 r5)
  | _, _ => False
noncomputable def edge_Cmp.ctx : Ctx := { P := Tryz.prog, call := fun _ _ _ _ => False, qcall := edge_Cmp.qcall, quiet := fun f => Nat.beq f 102 || Nat.beq f 103 || Nat.beq f 118 || Nat.beq f 1000138 || Nat.beq f 2000157, loop := fun _ _ _ _ => False }
theorem edge_Cmp.ok [DKc] : edge_Cmp.ctx.OK where
  mixed := by kernel_rfl
  mono := fun hh _ => hh.elim
  call := fun hh => hh.elim
  qmono := by
    intro f args h K K' hh hk
    change edge_Cmp.qcall f args h K at hh
    change edge_Cmp.qcall f args h K'
    unfold edge_Cmp.qcall at hh ⊢
    split at hh
    · obtain ⟨x0, h1, h2⟩ := hh
      exact ⟨x0, h1, hk _ h2⟩
    · obtain ⟨x0, h1, h2⟩ := hh
      exact ⟨x0, h1, hk _ h2⟩
    · obtain ⟨x0, h1, h2⟩ := hh
      exact ⟨x0, h1, hk _ h2⟩
    · exact hh.elim
  qval := by
    intro f args h K hh
    change edge_Cmp.qcall f args h K at hh
    suffices H : ∃ v, K v ∧ edge_Cmp.qcall f args h (· = v) from H
    unfold edge_Cmp.qcall at hh ⊢
    split at hh
    · obtain ⟨x0, h1, h2⟩ := hh
      exact ⟨_, h2, x0, h1, rfl⟩
    · obtain ⟨x0, h1, h2⟩ := hh
      exact ⟨_, h2, x0, h1, rfl⟩
    · obtain ⟨x0, h1, h2⟩ := hh
      exact ⟨_, h2, x0, h1, rfl⟩
    · exact hh.elim
  qcall := by
    intro f args h v hh w hw
    change edge_Cmp.qcall f args h (· = v) at hh
    unfold edge_Cmp.qcall at hh
    split at hh
    · obtain ⟨x0, h1, h2⟩ := hh
      obtain ⟨g1, g2⟩ := cmp_Or_int.calls h1 w hw
      refine .inl ⟨g1, g2.mono fun e w' ⟨u, he, ho, hr⟩ => ?_⟩
      have hq := cmp_Or_int.ret_elim (K' := fun u h' => u = v ∧ h' = h) (fun _ h' hr => by obtain ⟨rfl, rfl⟩ := hr; exact ⟨h2, rfl⟩) hr
      exact ⟨hq.1 ▸ he, ho, hq.2⟩
    · obtain ⟨x0, h1, h2⟩ := hh
      obtain ⟨g1, g2⟩ := cmp_Compare_int.calls h1 w hw
      refine .inl ⟨g1, g2.mono fun e w' ⟨u, he, ho, hr⟩ => ?_⟩
      have hq := cmp_Compare_int.ret_elim (K' := fun u h' => u = v ∧ h' = h) (fun _ h' hr => by obtain ⟨rfl, rfl⟩ := hr; exact ⟨h2, rfl⟩) hr
      exact ⟨hq.1 ▸ he, ho, hq.2⟩
    · obtain ⟨x0, h1, h2⟩ := hh
      obtain ⟨g1, g2⟩ := cmp_Compare_int64.calls h1 w hw
      refine .inl ⟨g1, g2.mono fun e w' ⟨u, he, ho, hr⟩ => ?_⟩
      have hq := cmp_Compare_int64.ret_elim (K' := fun u h' => u = v ∧ h' = h) (fun _ h' hr => by obtain ⟨rfl, rfl⟩ := hr; exact ⟨h2, rfl⟩) hr
      exact ⟨hq.1 ▸ he, ho, hq.2⟩
    · exact hh.elim
noncomputable def edge_Cmp.code : Code := (Tryz.f89.body).getD .skip
def edge_Cmp.ann : Ann := (.two .auto (.two (.reg [0, 1, 0, 4, 15, 0, 32, 0, 128, 511, 0, 1024, 0, 4096, 16383, 32767, 65535, 131071] (.take 0 (.take 1 (.take 2 (.take 3 (.take 4 (.take 5 (.take 6 (.take 7 (.take 8 (.take 9 (.take 10 (.take 11 (.take 12 (.take 13 (.take 14 (.alt 15 (.take 16 (.take 17 .done)) .noalt))))))))))))))))) .auto))
set_option maxRecDepth 100000 in
theorem edge_Cmp.eq (a1 : Int) (a2 : Int) (a3 : Int) (a4 : Int) (a5 : Int) (a6 : Int) (h : Heap) (K : Int → Heap → Prop) : evF edge_Cmp.ctx Tryz.f89 edge_Cmp.ann [(.agg #[(.int .i64 a1), (.int .i64 a2), (.int .i64 a3)]), (.agg #[(.int .i64 a4), (.int .i64 a5), (.int .i64 a6)])] h (edge_Cmp.ret K) = edge_Cmp a1 a2 a3 a4 a5 a6 h K := by kernel_rfl
set_option maxRecDepth 100000 in
theorem edge_Cmp.calls [DKc] {a1 : Int} {a2 : Int} {a3 : Int} {a4 : Int} {a5 : Int} {a6 : Int} {h : Heap} {K : Int → Heap → Prop} (hh : edge_Cmp a1 a2 a3 a4 a5 a6 h K) (w : World) (hw : w.heap = h) :
    (callFunc 89 #[(.agg #[(.int .i64 a1), (.int .i64 a2), (.int .i64 a3)]), (.agg #[(.int .i64 a4), (.int .i64 a5), (.int .i64 a6)])]).run Tryz.prog w = .ok (.enter 89 #[(.agg #[(.int .i64 a1), (.int .i64 a2), (.int .i64 a3)]), (.agg #[(.int .i64 a4), (.int .i64 a5), (.int .i64 a6)])]) w ∧ Calls Tryz.prog 89 #[(.agg #[(.int .i64 a1), (.int .i64 a2), (.int .i64 a3)]), (.agg #[(.int .i64 a4), (.int .i64 a5), (.int .i64 a6)])] w fun e w' => ∃ v, e = .returned v ∧ Out w w' ∧ edge_Cmp.ret K v w'.heap := by
  rw [← edge_Cmp.eq] at hh
  exact fn_calls (args := [(.agg #[(.int .i64 a1), (.int .i64 a2), (.int .i64 a3)]), (.agg #[(.int .i64 a4), (.int .i64 a5), (.int .i64 a6)])]) (c := edge_Cmp.code) edge_Cmp.ok Tryz.func89 (by kernel_rfl) (by kernel_rfl) (by kernel_rfl) (by kernel_rfl) (loops_ok (l := []) (by kernel_rfl) trivial) hh w hw

/-! ### strait/edge.Check: function 83 -/
def edge_Check.b0 (K0 : Int → Heap → Prop) (K2 : Heap → Prop) (cont : Int → Addr → Int → Int → Int → Heap → Prop) (c0_1001 : Int) (c3_1002 : Addr) (c11_1003 : Int) (c11_1004 : Int) (v12_1005 : Int) (h1006 : Heap) : Prop :=
  (iteB (decide (v12_1005 < (2 : Int))) (((0 ≤ v12_1005 ∧ v12_1005 < (2 : Int)) ∧ ∃ (x1007 : Int), ([(.int .i64 c11_1003), (.int .i64 c11_1004)] : List Value)[v12_1005.toNat]? = some (.int .i64 x1007) ∧ (iteB (decide (x1007 < (0 : Int))) (K0 4 h1006) ((iteB (decide (x1007 ≥ c0_1001)) (K0 4 h1006) (((cont c0_1001 c3_1002 c11_1003 c11_1004 (IntKind.i64.wrap (v12_1005 + 1)) h1006)))))))) (K2 h1006))
def edge_Check.l0 (K0 : Int → Heap → Prop) (K2 : Heap → Prop) : Nat → Int → Addr → Int → Int → Int → Heap → Prop
  | 0, _, _, _, _, _, _ => False
  | m + 1, c0_1001, c3_1002, c11_1003, c11_1004, v12_1005, h => edge_Check.b0 K0 K2 (edge_Check.l0 K0 K2 m) c0_1001 c3_1002 c11_1003 c11_1004 v12_1005 h
def edge_Check (a1 : Int) (a2 : Int) (a3 : Int) (a4 : Int) (h : Heap) (K : Int → Heap → Prop) : Prop :=
  newP h (.cells #[(.int .i64 a2), (.int .i64 a3), (.int .i64 a4)] 27) fun a5 h6 => (∃ (x7 : Int), cell h6 a5 = some (.int .i64 x7) ∧ ∃ (x8 : Int), cell h6 (a5.add 1) = some (.int .i64 x8) ∧ (∃ m12, edge_Check.l0 (fun z9 h10 => K z9 h10) (fun h11 => ((∃ (x13 : Int), cell h11 (a5.add 2) = some (.int .i64 x13) ∧ iteB (decide (x13 < (0 : Int))) (K 5 h11) (∃ (x14 : Int), cell h11 (a5.add 2) = some (.int .i64 x14) ∧ (iteB (decide (x14 > (2147483648 : Int))) (K 5 h11) (K 0 h11)))))) m12 a1 a5 x7 x8 0 h6))
def edge_Check.ret (K : Int → Heap → Prop) (v : Value) (h : Heap) : Prop := match v with
  | (.int .i64 r16) => K r16 h
  | _ => False
theorem edge_Check.ret_elim {K : Int → Heap → Prop} {K' : Value → Heap → Prop} {v : Value} {h : Heap} (hk : ∀ r16 h, K r16 h → K' (.int .i64 r16) h) (hh : edge_Check.ret K v h) : K' v h := by
  unfold edge_Check.ret at hh
  split at hh
  · exact hk _ _ hh
  · exact hh.elim
def edge_Check.r0 (K : Nat → List Value → Heap → Prop) (m : Nat) (vs : List Value) (h : Heap) : Prop := match vs with
  | [(.int .i64 c0_1001), (.pointer (some c3_1002)), (.agg ⟨[(.int .i64 c11_1003), (.int .i64 c11_1004)]⟩), (.int .i64 v12_1005)] => edge_Check.l0 (fun z17 h' => K 0 [(.int .i64 z17)] h') (fun h' => K 2 [(.pointer (some c3_1002))] h') m c0_1001 c3_1002 c11_1003 c11_1004 v12_1005 h
  | _ => False
def edge_Check.loop (i : Nat) (vs : List Value) (h : Heap) (K : Nat → List Value → Heap → Prop) : Prop := match i with
  | 0 => ∃ m, edge_Check.r0 K m vs h
  | _ => False
noncomputable def edge_Check.ctx : Ctx := { P := Tryz.prog, call := fun _ _ _ _ => False, qcall := fun _ _ _ _ => False, quiet := fun f => Nat.beq f 1000138 || Nat.beq f 2000157, loop := edge_Check.loop }
theorem edge_Check.ok [DKc] : edge_Check.ctx.OK where
  mixed := by kernel_rfl
  mono := fun hh _ => hh.elim
  call := fun hh => hh.elim
  qmono := fun hh _ => hh.elim
  qval := fun hh => hh.elim
  qcall := fun hh => hh.elim
noncomputable def edge_Check.code : Code := (Tryz.f83.body).getD .skip
def edge_Check.ann : Ann := (.two .auto (.two (.two .auto (.two (.loop 0 [0, 3, 11, 12] [(2, [3]), (0, [4])] .auto) .auto)) .auto))
noncomputable def edge_Check.c0 : Code := sub edge_Check.code [1, 0, 1, 0, 0]
def edge_Check.a0 : Ann := .auto
def edge_Check.keep0 : List Nat := [0, 3, 11, 12]
def edge_Check.outs0 : List (Nat × List Nat) := [(2, [3]), (0, [4])]
set_option maxRecDepth 100000 in
theorem edge_Check.L0 [DKc] : LoopOK edge_Check.ctx 31 edge_Check.c0 0 edge_Check.keep0 edge_Check.outs0 := by
  refine loop_ok (n := edge_Check.a0) edge_Check.ok (by kernel_rfl) (loops_ok (l := []) (by kernel_rfl) ?_) edge_Check.r0 ?_ ?_ (fun vs h K hh => hh)
  · exact trivial
  · intro K vs h hh
    unfold edge_Check.r0 at hh
    split at hh
    · exact hh
    · exact hh
  · intro K m vs h hh
    unfold edge_Check.r0 at hh
    split at hh
    · exact cast (by kernel_rfl) hh
    · exact hh.elim
set_option maxRecDepth 100000 in
theorem edge_Check.eq (a1 : Int) (a2 : Int) (a3 : Int) (a4 : Int) (h : Heap) (K : Int → Heap → Prop) : evF edge_Check.ctx Tryz.f83 edge_Check.ann [(.int .i64 a1), (.agg #[(.int .i64 a2), (.int .i64 a3), (.int .i64 a4)])] h (edge_Check.ret K) = edge_Check a1 a2 a3 a4 h K := by kernel_rfl
set_option maxRecDepth 100000 in
theorem edge_Check.calls [DKc] {a1 : Int} {a2 : Int} {a3 : Int} {a4 : Int} {h : Heap} {K : Int → Heap → Prop} (hh : edge_Check a1 a2 a3 a4 h K) (w : World) (hw : w.heap = h) :
    (callFunc 83 #[(.int .i64 a1), (.agg #[(.int .i64 a2), (.int .i64 a3), (.int .i64 a4)])]).run Tryz.prog w = .ok (.enter 83 #[(.int .i64 a1), (.agg #[(.int .i64 a2), (.int .i64 a3), (.int .i64 a4)])]) w ∧ Calls Tryz.prog 83 #[(.int .i64 a1), (.agg #[(.int .i64 a2), (.int .i64 a3), (.int .i64 a4)])] w fun e w' => ∃ v, e = .returned v ∧ Out w w' ∧ edge_Check.ret K v w'.heap := by
  rw [← edge_Check.eq] at hh
  exact fn_calls (args := [(.int .i64 a1), (.agg #[(.int .i64 a2), (.int .i64 a3), (.int .i64 a4)])]) (c := edge_Check.code) edge_Check.ok Tryz.func83 (by kernel_rfl) (by kernel_rfl) (by kernel_rfl) (by kernel_rfl) (loops_ok (l := [(edge_Check.c0, none, 0, edge_Check.keep0, edge_Check.outs0)]) (by kernel_rfl) ⟨edge_Check.L0, trivial⟩) hh w hw

/-! ### strait/edge.Checks: function 49 -/
def edge_Checks.b0 (K0 : Int → Int → Heap → Prop) (K2 : Heap → Prop) (cont : Int → (Option Addr) → Nat → Nat → Int → Int → Heap → Prop) (c0_1001 : Int) (c9_1002 : Option Addr) (c9_1003 : Nat) (c9_1004 : Nat) (c10_1005 : Int) (v11_1006 : Int) (h1007 : Heap) : Prop :=
  (iteB (decide (v11_1006 < c10_1005)) ((chkP c9_1002 fun a1008 => (0 ≤ v11_1006 ∧ v11_1006 < (c9_1003 : Int)) ∧ ∃ (x1009 : Int), cell h1007 (a1008.add (v11_1006.toNat * 3)) = some (.int .i64 x1009) ∧ ∃ (x1010 : Int), cell h1007 ((a1008.add (v11_1006.toNat * 3)).add 1) = some (.int .i64 x1010) ∧ ∃ (x1011 : Int), cell h1007 ((a1008.add (v11_1006.toNat * 3)).add 2) = some (.int .i64 x1011) ∧ newP h1007 (.cells #[(.int .i64 0), (.int .i64 0), (.int .i64 0)] 27) fun a1012 h1013 => stC h1013 a1012 (.int .i64 x1009) fun h1014 => stC h1014 (a1012.add 1) (.int .i64 x1010) fun h1015 => stC h1015 (a1012.add 2) (.int .i64 x1011) fun h1016 => (∃ (x1017 : Int), cell h1016 a1012 = some (.int .i64 x1017) ∧ ∃ (x1018 : Int), cell h1016 (a1012.add 1) = some (.int .i64 x1018) ∧ ∃ (x1019 : Int), cell h1016 (a1012.add 2) = some (.int .i64 x1019) ∧ callP1 (edge_Check c0_1001 x1017 x1018 x1019 h1016) fun x1020 h1021 => ((iteB (x1020 != (0 : Int)) (K0 x1020 v11_1006 h1021) (((cont c0_1001 c9_1002 c9_1003 c9_1004 c10_1005 (IntKind.i64.wrap (v11_1006 + 1)) h1021)))))))) (K2 h1007))
def edge_Checks.l0 (K0 : Int → Int → Heap → Prop) (K2 : Heap → Prop) : Nat → Int → (Option Addr) → Nat → Nat → Int → Int → Heap → Prop
  | 0, _, _, _, _, _, _, _ => False
  | m + 1, c0_1001, c9_1002, c9_1003, c9_1004, c10_1005, v11_1006, h => edge_Checks.b0 K0 K2 (edge_Checks.l0 K0 K2 m) c0_1001 c9_1002 c9_1003 c9_1004 c10_1005 v11_1006 h
def edge_Checks (a1 : Int) (a2 : Option Addr) (a2l : Nat) (a2c : Nat) (h : Heap) (K : Int → Int → Heap → Prop) : Prop :=
  ((∃ m7, edge_Checks.l0 (fun z3 z4 h5 => K z3 z4 h5) (fun h6 => (K 0 0 h6)) m7 a1 a2 a2l a2c (a2l : Int) 0 h))
def edge_Checks.ret (K : Int → Int → Heap → Prop) (v : Value) (h : Heap) : Prop := match v with
  | (.tuple ⟨[(.int .i64 r8), (.int .i64 r9)]⟩) => K r8 r9 h
  | _ => False
theorem edge_Checks.ret_elim {K : Int → Int → Heap → Prop} {K' : Value → Heap → Prop} {v : Value} {h : Heap} (hk : ∀ r8 r9 h, K r8 r9 h → K' (.tuple #[(.int .i64 r8), (.int .i64 r9)]) h) (hh : edge_Checks.ret K v h) : K' v h := by
  unfold edge_Checks.ret at hh
  split at hh
  · exact hk _ _ _ hh
  · exact hh.elim
def edge_Checks.call (f : FuncId) (vs : List Value) (h : Heap) (K : Value → Heap → Prop) : Prop := match f, vs with
  | 83, [(.int .i64 a1), (.agg ⟨[(.int .i64 a2), (.int .i64 a3), (.int .i64 a4)]⟩)] => callP1 (edge_Check a1 a2 a3 a4 h) fun r16 h' => K (.int .i64 r16) h'
  | _, _ => False
def edge_Checks.r0 (K : Nat → List Value → Heap → Prop) (m : Nat) (vs : List Value) (h : Heap) : Prop := match vs with
  | [(.int .i64 c0_1001), (.slice c9_1002 c9_1003 c9_1004), (.int .i64 c10_1005), (.int .i64 v11_1006)] => edge_Checks.l0 (fun z10 z11 h' => K 0 [(.int .i64 z10), (.int .i64 z11)] h') (fun h' => K 2 [] h') m c0_1001 c9_1002 c9_1003 c9_1004 c10_1005 v11_1006 h
  | _ => False
def edge_Checks.loop (i : Nat) (vs : List Value) (h : Heap) (K : Nat → List Value → Heap → Prop) : Prop := match i with
  | 0 => ∃ m, edge_Checks.r0 K m vs h
  | _ => False
noncomputable def edge_Checks.ctx : Ctx := { P := Tryz.prog, call := edge_Checks.call, qcall := fun _ _ _ _ => False, quiet := fun f => Nat.beq f 1000138 || Nat.beq f 2000157, loop := edge_Checks.loop }
theorem edge_Checks.ok [DKc] : edge_Checks.ctx.OK where
  mixed := by kernel_rfl
  mono := by
    intro f args h K K' hh hk
    change edge_Checks.call f args h K at hh
    change edge_Checks.call f args h K'
    unfold edge_Checks.call at hh ⊢
    split at hh
    · obtain ⟨R, h1, h2⟩ := hh
      exact ⟨R, h1, fun _ x hr => hk _ _ (h2 _ x hr)⟩
    · exact hh.elim
  call := by
    intro f args h K hh w hw
    change edge_Checks.call f args h K at hh
    unfold edge_Checks.call at hh
    split at hh
    · obtain ⟨R, h1, h2⟩ := hh
      obtain ⟨g1, g2⟩ := edge_Check.calls h1 w hw
      exact ⟨g1, g2.mono fun e w' ⟨v, he, ho, hr⟩ => ⟨v, he, ho, edge_Check.ret_elim h2 hr⟩⟩
    · exact hh.elim
  qmono := fun hh _ => hh.elim
  qval := fun hh => hh.elim
  qcall := fun hh => hh.elim
noncomputable def edge_Checks.code : Code := (Tryz.f49.body).getD .skip
def edge_Checks.ann : Ann := (.two .auto (.two (.two .auto (.two (.loop 0 [0, 9, 10, 11] [(2, []), (0, [4, 5])] .auto) .auto)) .auto))
noncomputable def edge_Checks.c0 : Code := sub edge_Checks.code [1, 0, 1, 0, 0]
def edge_Checks.a0 : Ann := .auto
def edge_Checks.keep0 : List Nat := [0, 9, 10, 11]
def edge_Checks.outs0 : List (Nat × List Nat) := [(2, []), (0, [4, 5])]
set_option maxRecDepth 100000 in
theorem edge_Checks.L0 [DKc] : LoopOK edge_Checks.ctx 24 edge_Checks.c0 0 edge_Checks.keep0 edge_Checks.outs0 := by
  refine loop_ok (n := edge_Checks.a0) edge_Checks.ok (by kernel_rfl) (loops_ok (l := []) (by kernel_rfl) ?_) edge_Checks.r0 ?_ ?_ (fun vs h K hh => hh)
  · exact trivial
  · intro K vs h hh
    unfold edge_Checks.r0 at hh
    split at hh
    · exact hh
    · exact hh
  · intro K m vs h hh
    unfold edge_Checks.r0 at hh
    split at hh
    · exact cast (by kernel_rfl) hh
    · exact hh.elim
set_option maxRecDepth 100000 in
theorem edge_Checks.eq (a1 : Int) (a2 : Option Addr) (a2l : Nat) (a2c : Nat) (h : Heap) (K : Int → Int → Heap → Prop) : evF edge_Checks.ctx Tryz.f49 edge_Checks.ann [(.int .i64 a1), (.slice a2 a2l a2c)] h (edge_Checks.ret K) = edge_Checks a1 a2 a2l a2c h K := by kernel_rfl
set_option maxRecDepth 100000 in
theorem edge_Checks.calls [DKc] {a1 : Int} {a2 : Option Addr} {a2l : Nat} {a2c : Nat} {h : Heap} {K : Int → Int → Heap → Prop} (hh : edge_Checks a1 a2 a2l a2c h K) (w : World) (hw : w.heap = h) :
    (callFunc 49 #[(.int .i64 a1), (.slice a2 a2l a2c)]).run Tryz.prog w = .ok (.enter 49 #[(.int .i64 a1), (.slice a2 a2l a2c)]) w ∧ Calls Tryz.prog 49 #[(.int .i64 a1), (.slice a2 a2l a2c)] w fun e w' => ∃ v, e = .returned v ∧ Out w w' ∧ edge_Checks.ret K v w'.heap := by
  rw [← edge_Checks.eq] at hh
  exact fn_calls (args := [(.int .i64 a1), (.slice a2 a2l a2c)]) (c := edge_Checks.code) edge_Checks.ok Tryz.func49 (by kernel_rfl) (by kernel_rfl) (by kernel_rfl) (by kernel_rfl) (loops_ok (l := [(edge_Checks.c0, none, 0, edge_Checks.keep0, edge_Checks.outs0)]) (by kernel_rfl) ⟨edge_Checks.L0, trivial⟩) hh w hw

/-! ### strait/edge.Normal: function 84 -/
def edge_Normal (a1 : Int) (a2 : Int) (a3 : Int) (h : Heap) (K : Int → Int → Int → Heap → Prop) : Prop :=
  newP h (.cells #[(.int .i64 a1), (.int .i64 a2), (.int .i64 a3)] 27) fun a4 h5 => newP h5 (.cells #[(.int .i64 0), (.int .i64 0), (.int .i64 0)] 27) fun a6 h7 => (let j24 := (fun (h14 : Heap) => ∃ (x15 : Int), cell h14 a4 = some (.int .i64 x15) ∧ ∃ (x16 : Int), cell h14 (a4.add 1) = some (.int .i64 x16) ∧ ∃ (x17 : Int), cell h14 (a4.add 2) = some (.int .i64 x17) ∧ stC h14 a6 (.int .i64 x15) fun h18 => stC h18 (a6.add 1) (.int .i64 x16) fun h19 => stC h19 (a6.add 2) (.int .i64 x17) fun h20 => (∃ (x21 : Int), cell h20 a6 = some (.int .i64 x21) ∧ ∃ (x22 : Int), cell h20 (a6.add 1) = some (.int .i64 x22) ∧ ∃ (x23 : Int), cell h20 (a6.add 2) = some (.int .i64 x23) ∧ K x21 x22 x23 h20));
  ∃ (x8 : Int), cell h7 a4 = some (.int .i64 x8) ∧ ∃ (x9 : Int), cell h7 (a4.add 1) = some (.int .i64 x9) ∧ (iteB (decide (x8 > x9)) (∃ (x10 : Int), cell h7 (a4.add 1) = some (.int .i64 x10) ∧ ∃ (x11 : Int), cell h7 a4 = some (.int .i64 x11) ∧ stC h7 a4 (.int .i64 x10) fun h12 => stC h12 (a4.add 1) (.int .i64 x11) fun h13 => (j24 h13)) ((j24 h7))))
def edge_Normal.ret (K : Int → Int → Int → Heap → Prop) (v : Value) (h : Heap) : Prop := match v with
  | (.agg ⟨[(.int .i64 r25), (.int .i64 r26), (.int .i64 r27)]⟩) => K r25 r26 r27 h
  | _ => False
theorem edge_Normal.ret_elim {K : Int → Int → Int → Heap → Prop} {K' : Value → Heap → Prop} {v : Value} {h : Heap} (hk : ∀ r25 r26 r27 h, K r25 r26 r27 h → K' (.agg #[(.int .i64 r25), (.int .i64 r26), (.int .i64 r27)]) h) (hh : edge_Normal.ret K v h) : K' v h := by
  unfold edge_Normal.ret at hh
  split at hh
  · exact hk _ _ _ _ hh
  · exact hh.elim
noncomputable def edge_Normal.ctx : Ctx := { P := Tryz.prog, call := fun _ _ _ _ => False, qcall := fun _ _ _ _ => False, quiet := fun f => Nat.beq f 1000138 || Nat.beq f 2000157, loop := fun _ _ _ _ => False }
theorem edge_Normal.ok [DKc] : edge_Normal.ctx.OK where
  mixed := by kernel_rfl
  mono := fun hh _ => hh.elim
  call := fun hh => hh.elim
  qmono := fun hh _ => hh.elim
  qval := fun hh => hh.elim
  qcall := fun hh => hh.elim
noncomputable def edge_Normal.code : Code := (Tryz.f84.body).getD .skip
def edge_Normal.ann : Ann := .auto
set_option maxRecDepth 100000 in
theorem edge_Normal.eq (a1 : Int) (a2 : Int) (a3 : Int) (h : Heap) (K : Int → Int → Int → Heap → Prop) : evF edge_Normal.ctx Tryz.f84 edge_Normal.ann [(.agg #[(.int .i64 a1), (.int .i64 a2), (.int .i64 a3)])] h (edge_Normal.ret K) = edge_Normal a1 a2 a3 h K := by kernel_rfl
set_option maxRecDepth 100000 in
theorem edge_Normal.calls [DKc] {a1 : Int} {a2 : Int} {a3 : Int} {h : Heap} {K : Int → Int → Int → Heap → Prop} (hh : edge_Normal a1 a2 a3 h K) (w : World) (hw : w.heap = h) :
    (callFunc 84 #[(.agg #[(.int .i64 a1), (.int .i64 a2), (.int .i64 a3)])]).run Tryz.prog w = .ok (.enter 84 #[(.agg #[(.int .i64 a1), (.int .i64 a2), (.int .i64 a3)])]) w ∧ Calls Tryz.prog 84 #[(.agg #[(.int .i64 a1), (.int .i64 a2), (.int .i64 a3)])] w fun e w' => ∃ v, e = .returned v ∧ Out w w' ∧ edge_Normal.ret K v w'.heap := by
  rw [← edge_Normal.eq] at hh
  exact fn_calls (args := [(.agg #[(.int .i64 a1), (.int .i64 a2), (.int .i64 a3)])]) (c := edge_Normal.code) edge_Normal.ok Tryz.func84 (by kernel_rfl) (by kernel_rfl) (by kernel_rfl) (by kernel_rfl) (loops_ok (l := []) (by kernel_rfl) trivial) hh w hw

/-! ### strait/num.Add: function 85 -/
def num_Add (a1 : Int) (a2 : Int) (h : Heap) (K : Int → Bool → Heap → Prop) : Prop :=
  ((bindV (bits .xor .i64 a1 (IntKind.i64.wrap (a1 + a2))) fun n3 => bindV (bits .xor .i64 a2 (IntKind.i64.wrap (a1 + a2))) fun n4 => (iteB (decide ((bits .and .i64 n3 n4) < (0 : Int))) (K 0 false h) (((K (IntKind.i64.wrap (a1 + a2)) true h))))))
def num_Add.ret (K : Int → Bool → Heap → Prop) (v : Value) (h : Heap) : Prop := match v with
  | (.tuple ⟨[(.int .i64 r5), (.bool r6)]⟩) => K r5 r6 h
  | _ => False
theorem num_Add.ret_elim {K : Int → Bool → Heap → Prop} {K' : Value → Heap → Prop} {v : Value} {h : Heap} (hk : ∀ r5 r6 h, K r5 r6 h → K' (.tuple #[(.int .i64 r5), (.bool r6)]) h) (hh : num_Add.ret K v h) : K' v h := by
  unfold num_Add.ret at hh
  split at hh
  · exact hk _ _ _ hh
  · exact hh.elim
noncomputable def num_Add.ctx : Ctx := { P := Tryz.prog, call := fun _ _ _ _ => False, qcall := fun _ _ _ _ => False, quiet := fun f => Nat.beq f 1000138 || Nat.beq f 2000157, loop := fun _ _ _ _ => False }
theorem num_Add.ok [DKc] : num_Add.ctx.OK where
  mixed := by kernel_rfl
  mono := fun hh _ => hh.elim
  call := fun hh => hh.elim
  qmono := fun hh _ => hh.elim
  qval := fun hh => hh.elim
  qcall := fun hh => hh.elim
noncomputable def num_Add.code : Code := (Tryz.f85.body).getD .skip
def num_Add.ann : Ann := .auto
set_option maxRecDepth 100000 in
theorem num_Add.eq (a1 : Int) (a2 : Int) (h : Heap) (K : Int → Bool → Heap → Prop) : evF num_Add.ctx Tryz.f85 num_Add.ann [(.int .i64 a1), (.int .i64 a2)] h (num_Add.ret K) = num_Add a1 a2 h K := by kernel_rfl
set_option maxRecDepth 100000 in
theorem num_Add.calls [DKc] {a1 : Int} {a2 : Int} {h : Heap} {K : Int → Bool → Heap → Prop} (hh : num_Add a1 a2 h K) (w : World) (hw : w.heap = h) :
    (callFunc 85 #[(.int .i64 a1), (.int .i64 a2)]).run Tryz.prog w = .ok (.enter 85 #[(.int .i64 a1), (.int .i64 a2)]) w ∧ Calls Tryz.prog 85 #[(.int .i64 a1), (.int .i64 a2)] w fun e w' => ∃ v, e = .returned v ∧ Out w w' ∧ num_Add.ret K v w'.heap := by
  rw [← num_Add.eq] at hh
  exact fn_calls (args := [(.int .i64 a1), (.int .i64 a2)]) (c := num_Add.code) num_Add.ok Tryz.func85 (by kernel_rfl) (by kernel_rfl) (by kernel_rfl) (by kernel_rfl) (loops_ok (l := []) (by kernel_rfl) trivial) hh w hw

/-! ### strait/edge.Merge$1: function 87 -/
def edge_Merge_c1 (a1 : Int) (a2 : Int) (a3 : Int) (h : Heap) (K : Bool → Heap → Prop) : Prop :=
  newP h (.cells #[(.int .i64 a1), (.int .i64 a2), (.int .i64 a3)] 27) fun a4 h5 => (∃ (x6 : Int), cell h5 (a4.add 2) = some (.int .i64 x6) ∧ (K (x6 == (0 : Int)) h5))
def edge_Merge_c1.ret (K : Bool → Heap → Prop) (v : Value) (h : Heap) : Prop := match v with
  | (.bool r7) => K r7 h
  | _ => False
theorem edge_Merge_c1.ret_elim {K : Bool → Heap → Prop} {K' : Value → Heap → Prop} {v : Value} {h : Heap} (hk : ∀ r7 h, K r7 h → K' (.bool r7) h) (hh : edge_Merge_c1.ret K v h) : K' v h := by
  unfold edge_Merge_c1.ret at hh
  split at hh
  · exact hk _ _ hh
  · exact hh.elim
noncomputable def edge_Merge_c1.ctx : Ctx := { P := Tryz.prog, call := fun _ _ _ _ => False, qcall := fun _ _ _ _ => False, quiet := fun f => Nat.beq f 1000138 || Nat.beq f 2000157, loop := fun _ _ _ _ => False }
theorem edge_Merge_c1.ok [DKc] : edge_Merge_c1.ctx.OK where
  mixed := by kernel_rfl
  mono := fun hh _ => hh.elim
  call := fun hh => hh.elim
  qmono := fun hh _ => hh.elim
  qval := fun hh => hh.elim
  qcall := fun hh => hh.elim
noncomputable def edge_Merge_c1.code : Code := (Tryz.f87.body).getD .skip
def edge_Merge_c1.ann : Ann := .auto
set_option maxRecDepth 100000 in
theorem edge_Merge_c1.eq (a1 : Int) (a2 : Int) (a3 : Int) (h : Heap) (K : Bool → Heap → Prop) : evF edge_Merge_c1.ctx Tryz.f87 edge_Merge_c1.ann [(.agg #[(.int .i64 a1), (.int .i64 a2), (.int .i64 a3)])] h (edge_Merge_c1.ret K) = edge_Merge_c1 a1 a2 a3 h K := by kernel_rfl
set_option maxRecDepth 100000 in
theorem edge_Merge_c1.calls [DKc] {a1 : Int} {a2 : Int} {a3 : Int} {h : Heap} {K : Bool → Heap → Prop} (hh : edge_Merge_c1 a1 a2 a3 h K) (w : World) (hw : w.heap = h) :
    (callFunc 87 #[(.agg #[(.int .i64 a1), (.int .i64 a2), (.int .i64 a3)])]).run Tryz.prog w = .ok (.enter 87 #[(.agg #[(.int .i64 a1), (.int .i64 a2), (.int .i64 a3)])]) w ∧ Calls Tryz.prog 87 #[(.agg #[(.int .i64 a1), (.int .i64 a2), (.int .i64 a3)])] w fun e w' => ∃ v, e = .returned v ∧ Out w w' ∧ edge_Merge_c1.ret K v w'.heap := by
  rw [← edge_Merge_c1.eq] at hh
  exact fn_calls (args := [(.agg #[(.int .i64 a1), (.int .i64 a2), (.int .i64 a3)])]) (c := edge_Merge_c1.code) edge_Merge_c1.ok Tryz.func87 (by kernel_rfl) (by kernel_rfl) (by kernel_rfl) (by kernel_rfl) (loops_ok (l := []) (by kernel_rfl) trivial) hh w hw

/-! ### slices.IndexFunc[[]strait/api.Edge,strait/api.Edge]: function 116 -/
def slices_IndexFunc_Lapi_Edge_api_Edge_edge_Merge_c1.b0 (K0 : Int → Heap → Prop) (K2 : Heap → Prop) (cont : (Option Addr) → Nat → Nat → Int → Int → Heap → Prop) (c0_1001 : Option Addr) (c0_1002 : Nat) (c0_1003 : Nat) (c7_1004 : Int) (v8_1005 : Int) (h1006 : Heap) : Prop :=
  (iteB (decide (v8_1005 < c7_1004)) (((chkP c0_1001 fun a1007 => (0 ≤ v8_1005 ∧ v8_1005 < (c0_1002 : Int)) ∧ ∃ (x1008 : Int), cell h1006 (a1007.add (v8_1005.toNat * 3)) = some (.int .i64 x1008) ∧ ∃ (x1009 : Int), cell h1006 ((a1007.add (v8_1005.toNat * 3)).add 1) = some (.int .i64 x1009) ∧ ∃ (x1010 : Int), cell h1006 ((a1007.add (v8_1005.toNat * 3)).add 2) = some (.int .i64 x1010) ∧ callP1 (edge_Merge_c1 x1008 x1009 x1010 h1006) fun x1011 h1012 => (iteB x1011 (K0 v8_1005 h1012) (((cont c0_1001 c0_1002 c0_1003 c7_1004 (IntKind.i64.wrap (v8_1005 + 1)) h1012))))))) (K2 h1006))
def slices_IndexFunc_Lapi_Edge_api_Edge_edge_Merge_c1.l0 (K0 : Int → Heap → Prop) (K2 : Heap → Prop) : Nat → (Option Addr) → Nat → Nat → Int → Int → Heap → Prop
  | 0, _, _, _, _, _, _ => False
  | m + 1, c0_1001, c0_1002, c0_1003, c7_1004, v8_1005, h => slices_IndexFunc_Lapi_Edge_api_Edge_edge_Merge_c1.b0 K0 K2 (slices_IndexFunc_Lapi_Edge_api_Edge_edge_Merge_c1.l0 K0 K2 m) c0_1001 c0_1002 c0_1003 c7_1004 v8_1005 h
def slices_IndexFunc_Lapi_Edge_api_Edge_edge_Merge_c1 (a1 : Option Addr) (a1l : Nat) (a1c : Nat) (h : Heap) (K : Int → Heap → Prop) : Prop :=
  ((∃ m5, slices_IndexFunc_Lapi_Edge_api_Edge_edge_Merge_c1.l0 (fun z2 h3 => K z2 h3) (fun h4 => (((K (-1) h4)))) m5 a1 a1l a1c (a1l : Int) 0 h))
def slices_IndexFunc_Lapi_Edge_api_Edge_edge_Merge_c1.ret (K : Int → Heap → Prop) (v : Value) (h : Heap) : Prop := match v with
  | (.int .i64 r6) => K r6 h
  | _ => False
theorem slices_IndexFunc_Lapi_Edge_api_Edge_edge_Merge_c1.ret_elim {K : Int → Heap → Prop} {K' : Value → Heap → Prop} {v : Value} {h : Heap} (hk : ∀ r6 h, K r6 h → K' (.int .i64 r6) h) (hh : slices_IndexFunc_Lapi_Edge_api_Edge_edge_Merge_c1.ret K v h) : K' v h := by
  unfold slices_IndexFunc_Lapi_Edge_api_Edge_edge_Merge_c1.ret at hh
  split at hh
  · exact hk _ _ hh
  · exact hh.elim
def slices_IndexFunc_Lapi_Edge_api_Edge_edge_Merge_c1.call (f : FuncId) (vs : List Value) (h : Heap) (K : Value → Heap → Prop) : Prop := match f, vs with
  | 87, [(.agg ⟨[(.int .i64 a1), (.int .i64 a2), (.int .i64 a3)]⟩)] => callP1 (edge_Merge_c1 a1 a2 a3 h) fun r7 h' => K (.bool r7) h'
  | _, _ => False
def slices_IndexFunc_Lapi_Edge_api_Edge_edge_Merge_c1.r0 (K : Nat → List Value → Heap → Prop) (m : Nat) (vs : List Value) (h : Heap) : Prop := match vs with
  | [(.slice c0_1001 c0_1002 c0_1003), (.func (.func 87) ⟨[]⟩ ⟨[]⟩), (.int .i64 c7_1004), (.int .i64 v8_1005)] => slices_IndexFunc_Lapi_Edge_api_Edge_edge_Merge_c1.l0 (fun z7 h' => K 0 [(.int .i64 z7)] h') (fun h' => K 2 [] h') m c0_1001 c0_1002 c0_1003 c7_1004 v8_1005 h
  | _ => False
def slices_IndexFunc_Lapi_Edge_api_Edge_edge_Merge_c1.loop (i : Nat) (vs : List Value) (h : Heap) (K : Nat → List Value → Heap → Prop) : Prop := match i with
  | 0 => ∃ m, slices_IndexFunc_Lapi_Edge_api_Edge_edge_Merge_c1.r0 K m vs h
  | _ => False
noncomputable def slices_IndexFunc_Lapi_Edge_api_Edge_edge_Merge_c1.ctx : Ctx := { P := Tryz.prog, call := slices_IndexFunc_Lapi_Edge_api_Edge_edge_Merge_c1.call, qcall := fun _ _ _ _ => False, quiet := fun f => Nat.beq f 1000138 || Nat.beq f 2000157, loop := slices_IndexFunc_Lapi_Edge_api_Edge_edge_Merge_c1.loop }
theorem slices_IndexFunc_Lapi_Edge_api_Edge_edge_Merge_c1.ok [DKc] : slices_IndexFunc_Lapi_Edge_api_Edge_edge_Merge_c1.ctx.OK where
  mixed := by kernel_rfl
  mono := by
    intro f args h K K' hh hk
    change slices_IndexFunc_Lapi_Edge_api_Edge_edge_Merge_c1.call f args h K at hh
    change slices_IndexFunc_Lapi_Edge_api_Edge_edge_Merge_c1.call f args h K'
    unfold slices_IndexFunc_Lapi_Edge_api_Edge_edge_Merge_c1.call at hh ⊢
    split at hh
    · obtain ⟨R, h1, h2⟩ := hh
      exact ⟨R, h1, fun _ x hr => hk _ _ (h2 _ x hr)⟩
    · exact hh.elim
  call := by
    intro f args h K hh w hw
    change slices_IndexFunc_Lapi_Edge_api_Edge_edge_Merge_c1.call f args h K at hh
    unfold slices_IndexFunc_Lapi_Edge_api_Edge_edge_Merge_c1.call at hh
    split at hh
    · obtain ⟨R, h1, h2⟩ := hh
      obtain ⟨g1, g2⟩ := edge_Merge_c1.calls h1 w hw
      exact ⟨g1, g2.mono fun e w' ⟨v, he, ho, hr⟩ => ⟨v, he, ho, edge_Merge_c1.ret_elim h2 hr⟩⟩
    · exact hh.elim
  qmono := fun hh _ => hh.elim
  qval := fun hh => hh.elim
  qcall := fun hh => hh.elim
noncomputable def slices_IndexFunc_Lapi_Edge_api_Edge_edge_Merge_c1.code : Code := (Tryz.f116.body).getD .skip
def slices_IndexFunc_Lapi_Edge_api_Edge_edge_Merge_c1.ann : Ann := (.two .auto (.two (.two .auto (.two (.loop 0 [0, 1, 7, 8] [(2, []), (0, [4])] .auto) .auto)) .auto))
noncomputable def slices_IndexFunc_Lapi_Edge_api_Edge_edge_Merge_c1.c0 : Code := sub slices_IndexFunc_Lapi_Edge_api_Edge_edge_Merge_c1.code [1, 0, 1, 0, 0]
def slices_IndexFunc_Lapi_Edge_api_Edge_edge_Merge_c1.a0 : Ann := .auto
def slices_IndexFunc_Lapi_Edge_api_Edge_edge_Merge_c1.keep0 : List Nat := [0, 1, 7, 8]
def slices_IndexFunc_Lapi_Edge_api_Edge_edge_Merge_c1.outs0 : List (Nat × List Nat) := [(2, []), (0, [4])]
set_option maxRecDepth 100000 in
theorem slices_IndexFunc_Lapi_Edge_api_Edge_edge_Merge_c1.L0 [DKc] : LoopOK slices_IndexFunc_Lapi_Edge_api_Edge_edge_Merge_c1.ctx 19 slices_IndexFunc_Lapi_Edge_api_Edge_edge_Merge_c1.c0 0 slices_IndexFunc_Lapi_Edge_api_Edge_edge_Merge_c1.keep0 slices_IndexFunc_Lapi_Edge_api_Edge_edge_Merge_c1.outs0 := by
  refine loop_ok (n := slices_IndexFunc_Lapi_Edge_api_Edge_edge_Merge_c1.a0) slices_IndexFunc_Lapi_Edge_api_Edge_edge_Merge_c1.ok (by kernel_rfl) (loops_ok (l := []) (by kernel_rfl) ?_) slices_IndexFunc_Lapi_Edge_api_Edge_edge_Merge_c1.r0 ?_ ?_ (fun vs h K hh => hh)
  · exact trivial
  · intro K vs h hh
    unfold slices_IndexFunc_Lapi_Edge_api_Edge_edge_Merge_c1.r0 at hh
    split at hh
    · exact hh
    · exact hh
  · intro K m vs h hh
    unfold slices_IndexFunc_Lapi_Edge_api_Edge_edge_Merge_c1.r0 at hh
    split at hh
    · exact cast (by kernel_rfl) hh
    · exact hh.elim
set_option maxRecDepth 100000 in
theorem slices_IndexFunc_Lapi_Edge_api_Edge_edge_Merge_c1.eq (a1 : Option Addr) (a1l : Nat) (a1c : Nat) (h : Heap) (K : Int → Heap → Prop) : evF slices_IndexFunc_Lapi_Edge_api_Edge_edge_Merge_c1.ctx Tryz.f116 slices_IndexFunc_Lapi_Edge_api_Edge_edge_Merge_c1.ann [(.slice a1 a1l a1c), (.func (.func 87) #[] #[])] h (slices_IndexFunc_Lapi_Edge_api_Edge_edge_Merge_c1.ret K) = slices_IndexFunc_Lapi_Edge_api_Edge_edge_Merge_c1 a1 a1l a1c h K := by kernel_rfl
set_option maxRecDepth 100000 in
theorem slices_IndexFunc_Lapi_Edge_api_Edge_edge_Merge_c1.calls [DKc] {a1 : Option Addr} {a1l : Nat} {a1c : Nat} {h : Heap} {K : Int → Heap → Prop} (hh : slices_IndexFunc_Lapi_Edge_api_Edge_edge_Merge_c1 a1 a1l a1c h K) (w : World) (hw : w.heap = h) :
    (callFunc 116 #[(.slice a1 a1l a1c), (.func (.func 87) #[] #[])]).run Tryz.prog w = .ok (.enter 116 #[(.slice a1 a1l a1c), (.func (.func 87) #[] #[])]) w ∧ Calls Tryz.prog 116 #[(.slice a1 a1l a1c), (.func (.func 87) #[] #[])] w fun e w' => ∃ v, e = .returned v ∧ Out w w' ∧ slices_IndexFunc_Lapi_Edge_api_Edge_edge_Merge_c1.ret K v w'.heap := by
  rw [← slices_IndexFunc_Lapi_Edge_api_Edge_edge_Merge_c1.eq] at hh
  exact fn_calls (args := [(.slice a1 a1l a1c), (.func (.func 87) #[] #[])]) (c := slices_IndexFunc_Lapi_Edge_api_Edge_edge_Merge_c1.code) slices_IndexFunc_Lapi_Edge_api_Edge_edge_Merge_c1.ok Tryz.func116 (by kernel_rfl) (by kernel_rfl) (by kernel_rfl) (by kernel_rfl) (loops_ok (l := [(slices_IndexFunc_Lapi_Edge_api_Edge_edge_Merge_c1.c0, none, 0, slices_IndexFunc_Lapi_Edge_api_Edge_edge_Merge_c1.keep0, slices_IndexFunc_Lapi_Edge_api_Edge_edge_Merge_c1.outs0)]) (by kernel_rfl) ⟨slices_IndexFunc_Lapi_Edge_api_Edge_edge_Merge_c1.L0, trivial⟩) hh w hw

/-! ### slices.DeleteFunc[[]strait/api.Edge,strait/api.Edge]: function 86 -/
def slices_DeleteFunc_Lapi_Edge_api_Edge_edge_Merge_c1.b0 (K2 : Int → Heap → Prop) (cont : (Option Addr) → Nat → Nat → Int → Int → Heap → Prop) (c0_1001 : Option Addr) (c0_1002 : Nat) (c0_1003 : Nat) (v5_1004 : Int) (v6_1005 : Int) (h1006 : Heap) : Prop :=
  (iteB (decide (v6_1005 < (c0_1002 : Int))) ((chkP c0_1001 fun a1007 => (0 ≤ v6_1005 ∧ v6_1005 < (c0_1002 : Int)) ∧ ∃ (x1008 : Int), cell h1006 (a1007.add (v6_1005.toNat * 3)) = some (.int .i64 x1008) ∧ ∃ (x1009 : Int), cell h1006 ((a1007.add (v6_1005.toNat * 3)).add 1) = some (.int .i64 x1009) ∧ ∃ (x1010 : Int), cell h1006 ((a1007.add (v6_1005.toNat * 3)).add 2) = some (.int .i64 x1010) ∧ newP h1006 (.cells #[(.int .i64 0), (.int .i64 0), (.int .i64 0)] 27) fun a1011 h1012 => stC h1012 a1011 (.int .i64 x1008) fun h1013 => stC h1013 (a1011.add 1) (.int .i64 x1009) fun h1014 => stC h1014 (a1011.add 2) (.int .i64 x1010) fun h1015 => (∃ (x1016 : Int), cell h1015 a1011 = some (.int .i64 x1016) ∧ ∃ (x1017 : Int), cell h1015 (a1011.add 1) = some (.int .i64 x1017) ∧ ∃ (x1018 : Int), cell h1015 (a1011.add 2) = some (.int .i64 x1018) ∧ callP1 (edge_Merge_c1 x1016 x1017 x1018 h1015) fun x1019 h1020 => (iteB (!x1019) (∃ (x1021 : Int), cell h1020 a1011 = some (.int .i64 x1021) ∧ ∃ (x1022 : Int), cell h1020 (a1011.add 1) = some (.int .i64 x1022) ∧ ∃ (x1023 : Int), cell h1020 (a1011.add 2) = some (.int .i64 x1023) ∧ chkP c0_1001 fun a1024 => (0 ≤ v5_1004 ∧ v5_1004 < (c0_1002 : Int)) ∧ stC h1020 (a1024.add (v5_1004.toNat * 3)) (.int .i64 x1021) fun h1025 => stC h1025 ((a1024.add (v5_1004.toNat * 3)).add 1) (.int .i64 x1022) fun h1026 => stC h1026 ((a1024.add (v5_1004.toNat * 3)).add 2) (.int .i64 x1023) fun h1027 => (((cont c0_1001 c0_1002 c0_1003 (IntKind.i64.wrap (v5_1004 + 1)) (IntKind.i64.wrap (v6_1005 + 1)) h1027)))) (((cont c0_1001 c0_1002 c0_1003 v5_1004 (IntKind.i64.wrap (v6_1005 + 1)) h1020))))))) (K2 v5_1004 h1006))
def slices_DeleteFunc_Lapi_Edge_api_Edge_edge_Merge_c1.l0 (K2 : Int → Heap → Prop) : Nat → (Option Addr) → Nat → Nat → Int → Int → Heap → Prop
  | 0, _, _, _, _, _, _ => False
  | m + 1, c0_1001, c0_1002, c0_1003, v5_1004, v6_1005, h => slices_DeleteFunc_Lapi_Edge_api_Edge_edge_Merge_c1.b0 K2 (slices_DeleteFunc_Lapi_Edge_api_Edge_edge_Merge_c1.l0 K2 m) c0_1001 c0_1002 c0_1003 v5_1004 v6_1005 h
def slices_DeleteFunc_Lapi_Edge_api_Edge_edge_Merge_c1 (a1 : Option Addr) (a1l : Nat) (a1c : Nat) (h : Heap) (K : (Option Addr) → Nat → Nat → Heap → Prop) : Prop :=
  (callP1 (slices_IndexFunc_Lapi_Edge_api_Edge_edge_Merge_c1 a1 a1l a1c h) fun x2 h3 => ((iteB (x2 == ((-1) : Int)) (K a1 a1l a1c h3) (((∃ m6, slices_DeleteFunc_Lapi_Edge_api_Edge_edge_Merge_c1.l0 (fun z4 h5 => (((0 ≤ z4 ∧ z4 ≤ (a1l : Int)) ∧ clearP [(.int .i64 0), (.int .i64 0), (.int .i64 0)] (if a1c = z4.toNat then a1 else a1.map (·.add (z4.toNat * 3))) (a1l - z4.toNat) h5 fun h7 => ((0 ≤ z4 ∧ z4 ≤ (a1c : Int)) ∧ (K (if a1c = 0 then a1 else a1.map (·.add (0 * 3))) z4.toNat a1c h7))))) m6 a1 a1l a1c x2 (IntKind.i64.wrap (x2 + 1)) h3))))))
def slices_DeleteFunc_Lapi_Edge_api_Edge_edge_Merge_c1.ret (K : (Option Addr) → Nat → Nat → Heap → Prop) (v : Value) (h : Heap) : Prop := match v with
  | (.slice r8 r8l r8c) => K r8 r8l r8c h
  | _ => False
theorem slices_DeleteFunc_Lapi_Edge_api_Edge_edge_Merge_c1.ret_elim {K : (Option Addr) → Nat → Nat → Heap → Prop} {K' : Value → Heap → Prop} {v : Value} {h : Heap} (hk : ∀ r8 r8l r8c h, K r8 r8l r8c h → K' (.slice r8 r8l r8c) h) (hh : slices_DeleteFunc_Lapi_Edge_api_Edge_edge_Merge_c1.ret K v h) : K' v h := by
  unfold slices_DeleteFunc_Lapi_Edge_api_Edge_edge_Merge_c1.ret at hh
  split at hh
  · exact hk _ _ _ _ hh
  · exact hh.elim
def slices_DeleteFunc_Lapi_Edge_api_Edge_edge_Merge_c1.call (f : FuncId) (vs : List Value) (h : Heap) (K : Value → Heap → Prop) : Prop := match f, vs with
  | 87, [(.agg ⟨[(.int .i64 a1), (.int .i64 a2), (.int .i64 a3)]⟩)] => callP1 (edge_Merge_c1 a1 a2 a3 h) fun r7 h' => K (.bool r7) h'
  | 116, [(.slice a1 a1l a1c), (.func (.func 87) ⟨[]⟩ ⟨[]⟩)] => callP1 (slices_IndexFunc_Lapi_Edge_api_Edge_edge_Merge_c1 a1 a1l a1c h) fun r6 h' => K (.int .i64 r6) h'
  | _, _ => False
def slices_DeleteFunc_Lapi_Edge_api_Edge_edge_Merge_c1.r0 (K : Nat → List Value → Heap → Prop) (m : Nat) (vs : List Value) (h : Heap) : Prop := match vs with
  | [(.slice c0_1001 c0_1002 c0_1003), (.func (.func 87) ⟨[]⟩ ⟨[]⟩), (.int .i64 v5_1004), (.int .i64 v6_1005)] => slices_DeleteFunc_Lapi_Edge_api_Edge_edge_Merge_c1.l0 (fun z9 h' => K 2 [(.slice c0_1001 c0_1002 c0_1003), (.int .i64 z9)] h') m c0_1001 c0_1002 c0_1003 v5_1004 v6_1005 h
  | _ => False
def slices_DeleteFunc_Lapi_Edge_api_Edge_edge_Merge_c1.loop (i : Nat) (vs : List Value) (h : Heap) (K : Nat → List Value → Heap → Prop) : Prop := match i with
  | 0 => ∃ m, slices_DeleteFunc_Lapi_Edge_api_Edge_edge_Merge_c1.r0 K m vs h
  | _ => False
noncomputable def slices_DeleteFunc_Lapi_Edge_api_Edge_edge_Merge_c1.ctx : Ctx := { P := Tryz.prog, call := slices_DeleteFunc_Lapi_Edge_api_Edge_edge_Merge_c1.call, qcall := fun _ _ _ _ => False, quiet := fun f => Nat.beq f 1000138 || Nat.beq f 2000157, loop := slices_DeleteFunc_Lapi_Edge_api_Edge_edge_Merge_c1.loop }
theorem slices_DeleteFunc_Lapi_Edge_api_Edge_edge_Merge_c1.ok [DKc] : slices_DeleteFunc_Lapi_Edge_api_Edge_edge_Merge_c1.ctx.OK where
  mixed := by kernel_rfl
  mono := by
    intro f args h K K' hh hk
    change slices_DeleteFunc_Lapi_Edge_api_Edge_edge_Merge_c1.call f args h K at hh
    change slices_DeleteFunc_Lapi_Edge_api_Edge_edge_Merge_c1.call f args h K'
    unfold slices_DeleteFunc_Lapi_Edge_api_Edge_edge_Merge_c1.call at hh ⊢
    split at hh
    · obtain ⟨R, h1, h2⟩ := hh
      exact ⟨R, h1, fun _ x hr => hk _ _ (h2 _ x hr)⟩
    · obtain ⟨R, h1, h2⟩ := hh
      exact ⟨R, h1, fun _ x hr => hk _ _ (h2 _ x hr)⟩
    · exact hh.elim
  call := by
    intro f args h K hh w hw
    change slices_DeleteFunc_Lapi_Edge_api_Edge_edge_Merge_c1.call f args h K at hh
    unfold slices_DeleteFunc_Lapi_Edge_api_Edge_edge_Merge_c1.call at hh
    split at hh
    · obtain ⟨R, h1, h2⟩ := hh
      obtain ⟨g1, g2⟩ := edge_Merge_c1.calls h1 w hw
      exact ⟨g1, g2.mono fun e w' ⟨v, he, ho, hr⟩ => ⟨v, he, ho, edge_Merge_c1.ret_elim h2 hr⟩⟩
    · obtain ⟨R, h1, h2⟩ := hh
      obtain ⟨g1, g2⟩ := slices_IndexFunc_Lapi_Edge_api_Edge_edge_Merge_c1.calls h1 w hw
      exact ⟨g1, g2.mono fun e w' ⟨v, he, ho, hr⟩ => ⟨v, he, ho, slices_IndexFunc_Lapi_Edge_api_Edge_edge_Merge_c1.ret_elim h2 hr⟩⟩
    · exact hh.elim
  qmono := fun hh _ => hh.elim
  qval := fun hh => hh.elim
  qcall := fun hh => hh.elim
noncomputable def slices_DeleteFunc_Lapi_Edge_api_Edge_edge_Merge_c1.code : Code := (Tryz.f86.body).getD .skip
def slices_DeleteFunc_Lapi_Edge_api_Edge_edge_Merge_c1.ann : Ann := (.two .auto (.two .auto (.two .auto (.two (.two .auto (.two (.loop 0 [0, 1, 5, 6] [(2, [0, 5])] .auto) .auto)) .auto))))
noncomputable def slices_DeleteFunc_Lapi_Edge_api_Edge_edge_Merge_c1.c0 : Code := sub slices_DeleteFunc_Lapi_Edge_api_Edge_edge_Merge_c1.code [1, 1, 1, 0, 1, 0, 0]
def slices_DeleteFunc_Lapi_Edge_api_Edge_edge_Merge_c1.a0 : Ann := .auto
def slices_DeleteFunc_Lapi_Edge_api_Edge_edge_Merge_c1.keep0 : List Nat := [0, 1, 5, 6]
def slices_DeleteFunc_Lapi_Edge_api_Edge_edge_Merge_c1.outs0 : List (Nat × List Nat) := [(2, [0, 5])]
set_option maxRecDepth 100000 in
theorem slices_DeleteFunc_Lapi_Edge_api_Edge_edge_Merge_c1.L0 [DKc] : LoopOK slices_DeleteFunc_Lapi_Edge_api_Edge_edge_Merge_c1.ctx 42 slices_DeleteFunc_Lapi_Edge_api_Edge_edge_Merge_c1.c0 0 slices_DeleteFunc_Lapi_Edge_api_Edge_edge_Merge_c1.keep0 slices_DeleteFunc_Lapi_Edge_api_Edge_edge_Merge_c1.outs0 := by
  refine loop_ok (n := slices_DeleteFunc_Lapi_Edge_api_Edge_edge_Merge_c1.a0) slices_DeleteFunc_Lapi_Edge_api_Edge_edge_Merge_c1.ok (by kernel_rfl) (loops_ok (l := []) (by kernel_rfl) ?_) slices_DeleteFunc_Lapi_Edge_api_Edge_edge_Merge_c1.r0 ?_ ?_ (fun vs h K hh => hh)
  · exact trivial
  · intro K vs h hh
    unfold slices_DeleteFunc_Lapi_Edge_api_Edge_edge_Merge_c1.r0 at hh
    split at hh
    · exact hh
    · exact hh
  · intro K m vs h hh
    unfold slices_DeleteFunc_Lapi_Edge_api_Edge_edge_Merge_c1.r0 at hh
    split at hh
    · exact cast (by kernel_rfl) hh
    · exact hh.elim
set_option maxRecDepth 100000 in
theorem slices_DeleteFunc_Lapi_Edge_api_Edge_edge_Merge_c1.eq (a1 : Option Addr) (a1l : Nat) (a1c : Nat) (h : Heap) (K : (Option Addr) → Nat → Nat → Heap → Prop) : evF slices_DeleteFunc_Lapi_Edge_api_Edge_edge_Merge_c1.ctx Tryz.f86 slices_DeleteFunc_Lapi_Edge_api_Edge_edge_Merge_c1.ann [(.slice a1 a1l a1c), (.func (.func 87) #[] #[])] h (slices_DeleteFunc_Lapi_Edge_api_Edge_edge_Merge_c1.ret K) = slices_DeleteFunc_Lapi_Edge_api_Edge_edge_Merge_c1 a1 a1l a1c h K := by kernel_rfl
set_option maxRecDepth 100000 in
theorem slices_DeleteFunc_Lapi_Edge_api_Edge_edge_Merge_c1.calls [DKc] {a1 : Option Addr} {a1l : Nat} {a1c : Nat} {h : Heap} {K : (Option Addr) → Nat → Nat → Heap → Prop} (hh : slices_DeleteFunc_Lapi_Edge_api_Edge_edge_Merge_c1 a1 a1l a1c h K) (w : World) (hw : w.heap = h) :
    (callFunc 86 #[(.slice a1 a1l a1c), (.func (.func 87) #[] #[])]).run Tryz.prog w = .ok (.enter 86 #[(.slice a1 a1l a1c), (.func (.func 87) #[] #[])]) w ∧ Calls Tryz.prog 86 #[(.slice a1 a1l a1c), (.func (.func 87) #[] #[])] w fun e w' => ∃ v, e = .returned v ∧ Out w w' ∧ slices_DeleteFunc_Lapi_Edge_api_Edge_edge_Merge_c1.ret K v w'.heap := by
  rw [← slices_DeleteFunc_Lapi_Edge_api_Edge_edge_Merge_c1.eq] at hh
  exact fn_calls (args := [(.slice a1 a1l a1c), (.func (.func 87) #[] #[])]) (c := slices_DeleteFunc_Lapi_Edge_api_Edge_edge_Merge_c1.code) slices_DeleteFunc_Lapi_Edge_api_Edge_edge_Merge_c1.ok Tryz.func86 (by kernel_rfl) (by kernel_rfl) (by kernel_rfl) (by kernel_rfl) (loops_ok (l := [(slices_DeleteFunc_Lapi_Edge_api_Edge_edge_Merge_c1.c0, none, 0, slices_DeleteFunc_Lapi_Edge_api_Edge_edge_Merge_c1.keep0, slices_DeleteFunc_Lapi_Edge_api_Edge_edge_Merge_c1.outs0)]) (by kernel_rfl) ⟨slices_DeleteFunc_Lapi_Edge_api_Edge_edge_Merge_c1.L0, trivial⟩) hh w hw

/-! ### slices.SortFunc[[]strait/api.Edge,strait/api.Edge]: function 88, by its contract -/
def slices_SortFunc_Lapi_Edge_api_Edge_edge_Cmp.ret (K : Heap → Prop) (v : Value) (h : Heap) : Prop := match v with
  | (.tuple ⟨[]⟩) => K h
  | _ => False
theorem slices_SortFunc_Lapi_Edge_api_Edge_edge_Cmp.ret_elim {K : Heap → Prop} {K' : Value → Heap → Prop} {v : Value} {h : Heap} (hk : ∀  h, K h → K' (.tuple #[]) h) (hh : slices_SortFunc_Lapi_Edge_api_Edge_edge_Cmp.ret K v h) : K' v h := by
  unfold slices_SortFunc_Lapi_Edge_api_Edge_edge_Cmp.ret at hh
  split at hh
  · exact hk _ hh
  · exact hh.elim
def slices_SortFunc_Lapi_Edge_api_Edge_edge_Cmp [DKc] (a1 : Option Addr) (a1l : Nat) (a1c : Nat) (h : Heap) (K : Heap → Prop) : Prop := ∀ w : World, w.heap = h → (callFunc 88 #[(.slice a1 a1l a1c), (.func (.func 89) #[] #[])]).run Tryz.prog w = .ok (.enter 88 #[(.slice a1 a1l a1c), (.func (.func 89) #[] #[])]) w ∧ Calls Tryz.prog 88 #[(.slice a1 a1l a1c), (.func (.func 89) #[] #[])] w fun e w' => ∃ v, e = .returned v ∧ Out w w' ∧ slices_SortFunc_Lapi_Edge_api_Edge_edge_Cmp.ret K v w'.heap
theorem slices_SortFunc_Lapi_Edge_api_Edge_edge_Cmp.calls [DKc] {a1 : Option Addr} {a1l : Nat} {a1c : Nat} {h : Heap} {K : Heap → Prop} (hh : slices_SortFunc_Lapi_Edge_api_Edge_edge_Cmp a1 a1l a1c h K) (w : World) (hw : w.heap = h) : (callFunc 88 #[(.slice a1 a1l a1c), (.func (.func 89) #[] #[])]).run Tryz.prog w = .ok (.enter 88 #[(.slice a1 a1l a1c), (.func (.func 89) #[] #[])]) w ∧ Calls Tryz.prog 88 #[(.slice a1 a1l a1c), (.func (.func 89) #[] #[])] w fun e w' => ∃ v, e = .returned v ∧ Out w w' ∧ slices_SortFunc_Lapi_Edge_api_Edge_edge_Cmp.ret K v w'.heap := hh w hw

/-! ### strait/edge.Merge: function 50 -/
section
variable [DKc]
def edge_Merge.b0 (K0 : (Option Addr) → Nat → Nat → Bool → Heap → Prop) (K2 : (Option Addr) → Nat → Nat → Heap → Prop) (cont : (Option Nat) → (Option Addr) → Nat → Nat → (Option Addr) → Nat → Nat → Int → Int → Heap → Prop) (c4_1001 : Option Nat) (v5_1002 : Option Addr) (v5_1002l : Nat) (v5_1002c : Nat) (c15_1003 : Option Addr) (c15_1004 : Nat) (c15_1005 : Nat) (c16_1006 : Int) (v17_1007 : Int) (h1008 : Heap) : Prop :=
  (iteB (decide (v17_1007 < c16_1006)) ((chkP c15_1003 fun a1009 => (0 ≤ v17_1007 ∧ v17_1007 < (c15_1004 : Int)) ∧ ∃ (x1010 : Int), cell h1008 (a1009.add (v17_1007.toNat * 3)) = some (.int .i64 x1010) ∧ ∃ (x1011 : Int), cell h1008 ((a1009.add (v17_1007.toNat * 3)).add 1) = some (.int .i64 x1011) ∧ ∃ (x1012 : Int), cell h1008 ((a1009.add (v17_1007.toNat * 3)).add 2) = some (.int .i64 x1012) ∧ newP h1008 (.cells #[(.int .i64 0), (.int .i64 0), (.int .i64 0)] 27) fun a1013 h1014 => stC h1014 a1013 (.int .i64 x1010) fun h1015 => stC h1015 (a1013.add 1) (.int .i64 x1011) fun h1016 => stC h1016 (a1013.add 2) (.int .i64 x1012) fun h1017 => (∃ (x1018 : Int), cell h1017 a1013 = some (.int .i64 x1018) ∧ ∃ (x1019 : Int), cell h1017 (a1013.add 1) = some (.int .i64 x1019) ∧ ∃ (x1020 : Int), cell h1017 (a1013.add 2) = some (.int .i64 x1020) ∧ callP3 (edge_Normal x1018 x1019 x1020 h1017) fun x1021 x1022 x1023 h1024 => newP h1024 (.cells #[(.int .i64 0), (.int .i64 0), (.int .i64 0)] 27) fun a1025 h1026 => stC h1026 a1025 (.int .i64 x1021) fun h1027 => stC h1027 (a1025.add 1) (.int .i64 x1022) fun h1028 => stC h1028 (a1025.add 2) (.int .i64 x1023) fun h1029 => (∃ (x1030 : Int), cell h1029 a1025 = some (.int .i64 x1030) ∧ ∃ (x1031 : Int), cell h1029 (a1025.add 1) = some (.int .i64 x1031) ∧ (iteB (x1030 == x1031) (((cont c4_1001 v5_1002 v5_1002l v5_1002c c15_1003 c15_1004 c15_1005 c16_1006 (IntKind.i64.wrap (v17_1007 + 1)) h1029))) ((∃ (x1032 : Int), cell h1029 a1025 = some (.int .i64 x1032) ∧ ∃ (x1033 : Int), cell h1029 (a1025.add 1) = some (.int .i64 x1033) ∧ newP h1029 (.cells #[(.int .i64 0), (.int .i64 0)] 140) fun a1034 h1035 => stC h1035 a1034 (.int .i64 x1032) fun h1036 => stC h1036 (a1034.add 1) (.int .i64 x1033) fun h1037 => (∃ (x1038 : Int), cell h1037 a1034 = some (.int .i64 x1038) ∧ ∃ (x1039 : Int), cell h1037 (a1034.add 1) = some (.int .i64 x1039) ∧ chkM c4_1001 fun b1040 => ∃ m1041, mapIn (.two .i64) h1037 b1040 m1041 ∧ ∃ (x1042 : Int), some ((getM (.agg #[(.int .i64 x1038), (.int .i64 x1039)]) m1041).getD (.int .i64 0)) = some (.int .i64 x1042) ∧ ((iteB (!((getM (.agg #[(.int .i64 x1038), (.int .i64 x1039)]) m1041).isSome)) (∃ (x1043 : Int), cell h1037 a1034 = some (.int .i64 x1043) ∧ ∃ (x1044 : Int), cell h1037 (a1034.add 1) = some (.int .i64 x1044) ∧ chkM c4_1001 fun b1045 => ∃ m1046, mapIn (.two .i64) h1037 b1045 m1046 ∧ bindV (setO h1037 b1045 (mapObj (putM (.agg #[(.int .i64 x1043), (.int .i64 x1044)]) (.int .i64 (v5_1002l : Int)) m1046))) fun h1047 => (∃ (x1048 : Int), cell h1047 a1025 = some (.int .i64 x1048) ∧ ∃ (x1049 : Int), cell h1047 (a1025.add 1) = some (.int .i64 x1049) ∧ ∃ (x1050 : Int), cell h1047 (a1025.add 2) = some (.int .i64 x1050) ∧ newP h1047 (.cells #[(.int .i64 x1048), (.int .i64 x1049), (.int .i64 x1050)] 27) fun a1051 h1052 => ∃ n1057, cellsAt h1052 (some a1051) (1 * 3) n1057 ∧ appP 27 3 24 [(.int .i64 0), (.int .i64 0), (.int .i64 0)] v5_1002 v5_1002l v5_1002c 1 n1057 h1052 fun q1053 l1054 c1055 h1056 => (((cont c4_1001 q1053 l1054 c1055 c15_1003 c15_1004 c15_1005 c16_1006 (IntKind.i64.wrap (v17_1007 + 1)) h1056))))) ((chkP v5_1002 fun a1058 => (0 ≤ x1042 ∧ x1042 < (v5_1002l : Int)) ∧ ∃ (x1059 : Int), cell h1037 ((a1058.add (x1042.toNat * 3)).add 2) = some (.int .i64 x1059) ∧ ∃ (x1060 : Int), cell h1037 (a1025.add 2) = some (.int .i64 x1060) ∧ qcallP2 h1037 (num_Add x1059 x1060 h1037) fun x1061 x1062 => ((iteB (!x1062) (K0 none 0 0 false h1037) ((chkP v5_1002 fun a1063 => (0 ≤ x1042 ∧ x1042 < (v5_1002l : Int)) ∧ stC h1037 ((a1063.add (x1042.toNat * 3)).add 2) (.int .i64 x1061) fun h1064 => ((cont c4_1001 v5_1002 v5_1002l v5_1002c c15_1003 c15_1004 c15_1005 c16_1006 (IntKind.i64.wrap (v17_1007 + 1)) h1064)))))))))))))))))) (K2 v5_1002 v5_1002l v5_1002c h1008))
def edge_Merge.l0 (K0 : (Option Addr) → Nat → Nat → Bool → Heap → Prop) (K2 : (Option Addr) → Nat → Nat → Heap → Prop) : Nat → (Option Nat) → (Option Addr) → Nat → Nat → (Option Addr) → Nat → Nat → Int → Int → Heap → Prop
  | 0, _, _, _, _, _, _, _, _, _, _ => False
  | m + 1, c4_1001, v5_1002, v5_1002l, v5_1002c, c15_1003, c15_1004, c15_1005, c16_1006, v17_1007, h => edge_Merge.b0 K0 K2 (edge_Merge.l0 K0 K2 m) c4_1001 v5_1002 v5_1002l v5_1002c c15_1003 c15_1004 c15_1005 c16_1006 v17_1007 h
def edge_Merge (a1 : Option Addr) (a1l : Nat) (a1c : Nat) (h : Heap) (K : (Option Addr) → Nat → Nat → Bool → Heap → Prop) : Prop :=
  (newP h (mapObj []) fun a2 h3 => (((∃ m9, edge_Merge.l0 (fun z4 z4l z4c z5 h6 => K z4 z4l z4c z5 h6) (fun z7 z7l z7c h8 => ((callP3 (slices_DeleteFunc_Lapi_Edge_api_Edge_edge_Merge_c1 z7 z7l z7c h8) fun x10 x10l x10c h11 => (callP0 (slices_SortFunc_Lapi_Edge_api_Edge_edge_Cmp x10 x10l x10c h11) fun h12 => K x10 x10l x10c true h12)))) m9 (some a2.block) none 0 0 a1 a1l a1c (a1l : Int) 0 h3))))
def edge_Merge.ret (K : (Option Addr) → Nat → Nat → Bool → Heap → Prop) (v : Value) (h : Heap) : Prop := match v with
  | (.tuple ⟨[(.slice r13 r13l r13c), (.bool r14)]⟩) => K r13 r13l r13c r14 h
  | _ => False
theorem edge_Merge.ret_elim {K : (Option Addr) → Nat → Nat → Bool → Heap → Prop} {K' : Value → Heap → Prop} {v : Value} {h : Heap} (hk : ∀ r13 r13l r13c r14 h, K r13 r13l r13c r14 h → K' (.tuple #[(.slice r13 r13l r13c), (.bool r14)]) h) (hh : edge_Merge.ret K v h) : K' v h := by
  unfold edge_Merge.ret at hh
  split at hh
  · exact hk _ _ _ _ _ hh
  · exact hh.elim
def edge_Merge.call (f : FuncId) (vs : List Value) (h : Heap) (K : Value → Heap → Prop) : Prop := match f, vs with
  | 84, [(.agg ⟨[(.int .i64 a1), (.int .i64 a2), (.int .i64 a3)]⟩)] => callP3 (edge_Normal a1 a2 a3 h) fun r25 r26 r27 h' => K (.agg #[(.int .i64 r25), (.int .i64 r26), (.int .i64 r27)]) h'
  | 86, [(.slice a1 a1l a1c), (.func (.func 87) ⟨[]⟩ ⟨[]⟩)] => callP3 (slices_DeleteFunc_Lapi_Edge_api_Edge_edge_Merge_c1 a1 a1l a1c h) fun r8 r8l r8c h' => K (.slice r8 r8l r8c) h'
  | 88, [(.slice a1 a1l a1c), (.func (.func 89) ⟨[]⟩ ⟨[]⟩)] => callP0 (slices_SortFunc_Lapi_Edge_api_Edge_edge_Cmp a1 a1l a1c h) fun h' => K (.tuple #[]) h'
  | _, _ => False
def edge_Merge.qcall (f : FuncId) (vs : List Value) (h : Heap) (K : Value → Prop) : Prop := match f, vs with
  | 85, [(.int .i64 a1), (.int .i64 a2)] => qcallP2 h (num_Add a1 a2 h) fun r5 r6 => K (.tuple #[(.int .i64 r5), (.bool r6)])
  | _, _ => False
def edge_Merge.r0 (K : Nat → List Value → Heap → Prop) (m : Nat) (vs : List Value) (h : Heap) : Prop := match vs with
  | [(.map c4_1001), (.slice v5_1002 v5_1002l v5_1002c), (.slice c15_1003 c15_1004 c15_1005), (.int .i64 c16_1006), (.int .i64 v17_1007)] => edge_Merge.l0 (fun z15 z15l z15c z16 h' => K 0 [(.slice z15 z15l z15c), (.bool z16)] h') (fun z17 z17l z17c h' => K 2 [(.slice z17 z17l z17c)] h') m c4_1001 v5_1002 v5_1002l v5_1002c c15_1003 c15_1004 c15_1005 c16_1006 v17_1007 h
  | _ => False
def edge_Merge.loop (i : Nat) (vs : List Value) (h : Heap) (K : Nat → List Value → Heap → Prop) : Prop := match i with
  | 0 => ∃ m, edge_Merge.r0 K m vs h
  | _ => False
noncomputable def edge_Merge.ctx : Ctx := { P := Tryz.prog, call := edge_Merge.call, qcall := edge_Merge.qcall, quiet := fun f => Nat.beq f 85 || Nat.beq f 1000138 || Nat.beq f 2000157, loop := edge_Merge.loop }
theorem edge_Merge.ok : edge_Merge.ctx.OK where
  mixed := by kernel_rfl
  mono := by
    intro f args h K K' hh hk
    change edge_Merge.call f args h K at hh
    change edge_Merge.call f args h K'
    unfold edge_Merge.call at hh ⊢
    split at hh
    · obtain ⟨R, h1, h2⟩ := hh
      exact ⟨R, h1, fun _ _ _ x hr => hk _ _ (h2 _ _ _ x hr)⟩
    · obtain ⟨R, h1, h2⟩ := hh
      exact ⟨R, h1, fun _ _ _ x hr => hk _ _ (h2 _ _ _ x hr)⟩
    · obtain ⟨R, h1, h2⟩ := hh
      exact ⟨R, h1, fun x hr => hk _ _ (h2 x hr)⟩
    · exact hh.elim
  call := by
    intro f args h K hh w hw
    change edge_Merge.call f args h K at hh
    unfold edge_Merge.call at hh
    split at hh
    · obtain ⟨R, h1, h2⟩ := hh
      obtain ⟨g1, g2⟩ := edge_Normal.calls h1 w hw
      exact ⟨g1, g2.mono fun e w' ⟨v, he, ho, hr⟩ => ⟨v, he, ho, edge_Normal.ret_elim h2 hr⟩⟩
    · obtain ⟨R, h1, h2⟩ := hh
      obtain ⟨g1, g2⟩ := slices_DeleteFunc_Lapi_Edge_api_Edge_edge_Merge_c1.calls h1 w hw
      exact ⟨g1, g2.mono fun e w' ⟨v, he, ho, hr⟩ => ⟨v, he, ho, slices_DeleteFunc_Lapi_Edge_api_Edge_edge_Merge_c1.ret_elim h2 hr⟩⟩
    · obtain ⟨R, h1, h2⟩ := hh
      obtain ⟨g1, g2⟩ := slices_SortFunc_Lapi_Edge_api_Edge_edge_Cmp.calls h1 w hw
      exact ⟨g1, g2.mono fun e w' ⟨v, he, ho, hr⟩ => ⟨v, he, ho, slices_SortFunc_Lapi_Edge_api_Edge_edge_Cmp.ret_elim h2 hr⟩⟩
    · exact hh.elim
  qmono := by
    intro f args h K K' hh hk
    change edge_Merge.qcall f args h K at hh
    change edge_Merge.qcall f args h K'
    unfold edge_Merge.qcall at hh ⊢
    split at hh
    · obtain ⟨x0, x1, h1, h2⟩ := hh
      exact ⟨x0, x1, h1, hk _ h2⟩
    · exact hh.elim
  qval := by
    intro f args h K hh
    change edge_Merge.qcall f args h K at hh
    suffices H : ∃ v, K v ∧ edge_Merge.qcall f args h (· = v) from H
    unfold edge_Merge.qcall at hh ⊢
    split at hh
    · obtain ⟨x0, x1, h1, h2⟩ := hh
      exact ⟨_, h2, x0, x1, h1, rfl⟩
    · exact hh.elim
  qcall := by
    intro f args h v hh w hw
    change edge_Merge.qcall f args h (· = v) at hh
    unfold edge_Merge.qcall at hh
    split at hh
    · obtain ⟨x0, x1, h1, h2⟩ := hh
      obtain ⟨g1, g2⟩ := num_Add.calls h1 w hw
      refine .inl ⟨g1, g2.mono fun e w' ⟨u, he, ho, hr⟩ => ?_⟩
      have hq := num_Add.ret_elim (K' := fun u h' => u = v ∧ h' = h) (fun _ _ h' hr => by obtain ⟨rfl, rfl, rfl⟩ := hr; exact ⟨h2, rfl⟩) hr
      exact ⟨hq.1 ▸ he, ho, hq.2⟩
    · exact hh.elim
noncomputable def edge_Merge.code : Code := (Tryz.f50.body).getD .skip
def edge_Merge.ann : Ann := (.two .auto (.two .auto (.two .auto (.two (.two .auto (.two (.loop 0 [4, 5, 15, 16, 17] [(2, [5]), (0, [2, 3])] (.two .auto (.two .auto (.two (.two (.two .auto (.two .auto (.two .auto (.two .auto (.two .auto (.two .auto (.two (.reg [0, 0, 3, 7, 15, 0, 32, 127, 255, 511, 511, 1023, 4095] (.take 0 (.take 1 (.take 2 (.take 3 (.take 4 (.take 5 (.take 6 (.take 7 (.take 8 (.take 9 (.take 10 (.take 11 (.take 12 .done)))))))))))))) .auto))))))) .auto) .auto)))) .auto)) .auto))))
noncomputable def edge_Merge.c0 : Code := sub edge_Merge.code [1, 1, 1, 0, 1, 0, 0]
def edge_Merge.a0 : Ann := (.two .auto (.two .auto (.two (.two (.two .auto (.two .auto (.two .auto (.two .auto (.two .auto (.two .auto (.two (.reg [0, 0, 3, 7, 15, 0, 32, 127, 255, 511, 511, 1023, 4095] (.take 0 (.take 1 (.take 2 (.take 3 (.take 4 (.take 5 (.take 6 (.take 7 (.take 8 (.take 9 (.take 10 (.take 11 (.take 12 .done)))))))))))))) .auto))))))) .auto) .auto)))
def edge_Merge.keep0 : List Nat := [4, 5, 15, 16, 17]
def edge_Merge.outs0 : List (Nat × List Nat) := [(2, [5]), (0, [2, 3])]
set_option maxRecDepth 100000 in
theorem edge_Merge.L0 : LoopOK edge_Merge.ctx 73 edge_Merge.c0 0 edge_Merge.keep0 edge_Merge.outs0 := by
  refine loop_ok (n := edge_Merge.a0) edge_Merge.ok (by kernel_rfl) (loops_ok (l := []) (by kernel_rfl) ?_) edge_Merge.r0 ?_ ?_ (fun vs h K hh => hh)
  · exact trivial
  · intro K vs h hh
    unfold edge_Merge.r0 at hh
    split at hh
    · exact hh
    · exact hh
  · intro K m vs h hh
    unfold edge_Merge.r0 at hh
    split at hh
    · exact cast (by kernel_rfl) hh
    · exact hh.elim
set_option maxRecDepth 100000 in
theorem edge_Merge.eq (a1 : Option Addr) (a1l : Nat) (a1c : Nat) (h : Heap) (K : (Option Addr) → Nat → Nat → Bool → Heap → Prop) : evF edge_Merge.ctx Tryz.f50 edge_Merge.ann [(.slice a1 a1l a1c)] h (edge_Merge.ret K) = edge_Merge a1 a1l a1c h K := by kernel_rfl
set_option maxRecDepth 100000 in
theorem edge_Merge.calls {a1 : Option Addr} {a1l : Nat} {a1c : Nat} {h : Heap} {K : (Option Addr) → Nat → Nat → Bool → Heap → Prop} (hh : edge_Merge a1 a1l a1c h K) (w : World) (hw : w.heap = h) :
    (callFunc 50 #[(.slice a1 a1l a1c)]).run Tryz.prog w = .ok (.enter 50 #[(.slice a1 a1l a1c)]) w ∧ Calls Tryz.prog 50 #[(.slice a1 a1l a1c)] w fun e w' => ∃ v, e = .returned v ∧ Out w w' ∧ edge_Merge.ret K v w'.heap := by
  rw [← edge_Merge.eq] at hh
  exact fn_calls (args := [(.slice a1 a1l a1c)]) (c := edge_Merge.code) edge_Merge.ok Tryz.func50 (by kernel_rfl) (by kernel_rfl) (by kernel_rfl) (by kernel_rfl) (loops_ok (l := [(edge_Merge.c0, none, 0, edge_Merge.keep0, edge_Merge.outs0)]) (by kernel_rfl) ⟨edge_Merge.L0, trivial⟩) hh w hw
end

/-! ### (*strait/net.ends).link: function 51 -/
def net_ends_link.b0 (K2 : Heap → Prop) (cont : (Option Addr) → Addr → Int → Int → Int → Int → Int → Heap → Prop) (c0_1001 : Option Addr) (c3_1002 : Addr) (c16_1003 : Int) (c16_1004 : Int) (c16_1005 : Int) (c16_1006 : Int) (v17_1007 : Int) (h1008 : Heap) : Prop :=
  (iteB (decide (v17_1007 < (2 : Int))) (((0 ≤ v17_1007 ∧ v17_1007 < (2 : Int)) ∧ ∃ (x1009 : Int), ([(.int .i64 c16_1003), (.int .i64 c16_1004), (.int .i64 c16_1005), (.int .i64 c16_1006)] : List Value)[v17_1007.toNat * 2]? = some (.int .i64 x1009) ∧ ∃ (x1010 : Int), ([(.int .i64 c16_1003), (.int .i64 c16_1004), (.int .i64 c16_1005), (.int .i64 c16_1006)] : List Value)[v17_1007.toNat * 2 + 1]? = some (.int .i64 x1010) ∧ newP h1008 (.cells #[(.int .i64 0), (.int .i64 0)] 140) fun a1011 h1012 => stC h1012 a1011 (.int .i64 x1009) fun h1013 => stC h1013 (a1011.add 1) (.int .i64 x1010) fun h1014 => (chkP c0_1001 fun a1015 => (0 ≤ (0 : Int) ∧ (0 : Int) < (2 : Int)) ∧ chkP c0_1001 fun a1016 => (0 ≤ (0 : Int) ∧ (0 : Int) < (2 : Int)) ∧ (0 ≤ (1 : Int) ∧ (1 : Int) < (2 : Int)) ∧ ∃ (x1017 : Int), cell h1014 (a1011.add ((1 : Int).toNat * 1)) = some (.int .i64 x1017) ∧ ∃ (x1018 : Option Addr) (x1018l : Nat) (x1018c : Nat), cell h1014 a1015 = some (.slice x1018 x1018l x1018c) ∧ ∃ (x1019 : Int), cell h1014 (a1011.add ((0 : Int).toNat * 1)) = some (.int .i64 x1019) ∧ ∃ (x1020 : Option Addr) (x1020l : Nat) (x1020c : Nat), cell h1014 a1016 = some (.slice x1020 x1020l x1020c) ∧ ∃ (x1021 : Int), cell h1014 (a1011.add ((0 : Int).toNat * 1)) = some (.int .i64 x1021) ∧ chkP x1020 fun a1022 => (0 ≤ x1021 ∧ x1021 < (x1020l : Int)) ∧ ∃ (x1023 : Option Addr) (x1023l : Nat) (x1023c : Nat), cell h1014 (a1022.add (x1021.toNat * 1)) = some (.slice x1023 x1023l x1023c) ∧ newP h1014 (.cells #[(.int .i64 x1017)] 3) fun a1024 h1025 => (∃ (x1026 : Option Addr) (x1026l : Nat) (x1026c : Nat), cell h1025 (a1022.add (x1021.toNat * 1)) = some (.slice x1026 x1026l x1026c) ∧ ((.slice x1026 x1026l x1026c) : Value) = (.slice x1023 x1023l x1023c)) ∧ (∃ (x1027 : Int), cell h1025 (a1011.add ((0 : Int).toNat * 1)) = some (.int .i64 x1027) ∧ ((.int .i64 x1027) : Value) = (.int .i64 x1021)) ∧ (∃ (x1028 : Option Addr) (x1028l : Nat) (x1028c : Nat), cell h1025 a1016 = some (.slice x1028 x1028l x1028c) ∧ ((.slice x1028 x1028l x1028c) : Value) = (.slice x1020 x1020l x1020c)) ∧ (∃ (x1029 : Int), cell h1025 (a1011.add ((0 : Int).toNat * 1)) = some (.int .i64 x1029) ∧ ((.int .i64 x1029) : Value) = (.int .i64 x1019)) ∧ (∃ (x1030 : Option Addr) (x1030l : Nat) (x1030c : Nat), cell h1025 a1015 = some (.slice x1030 x1030l x1030c) ∧ ((.slice x1030 x1030l x1030c) : Value) = (.slice x1018 x1018l x1018c)) ∧ ∃ n1035, cellsAt h1025 (some a1024) (1 * 1) n1035 ∧ appP 3 1 8 [(.int .i64 0)] x1023 x1023l x1023c 1 n1035 h1025 fun q1031 l1032 c1033 h1034 => (∃ (x1036 : Int), cell h1034 (a1011.add ((0 : Int).toNat * 1)) = some (.int .i64 x1036) ∧ ((.int .i64 x1036) : Value) = (.int .i64 x1019)) ∧ (∃ (x1037 : Option Addr) (x1037l : Nat) (x1037c : Nat), cell h1034 a1015 = some (.slice x1037 x1037l x1037c) ∧ ((.slice x1037 x1037l x1037c) : Value) = (.slice x1018 x1018l x1018c)) ∧ chkP x1018 fun a1038 => (0 ≤ x1019 ∧ x1019 < (x1018l : Int)) ∧ stC h1034 (a1038.add (x1019.toNat * 1)) (.slice q1031 l1032 c1033) fun h1039 => (chkP c0_1001 fun a1040 => ∃ (x1041 : Option Addr) (x1041l : Nat) (x1041c : Nat), cell h1039 (a1040.add 1) = some (.slice x1041 x1041l x1041c) ∧ (0 ≤ (0 : Int) ∧ (0 : Int) < (2 : Int)) ∧ ∃ (x1042 : Int), cell h1039 (a1011.add ((0 : Int).toNat * 1)) = some (.int .i64 x1042) ∧ chkP x1041 fun a1043 => (0 ≤ x1042 ∧ x1042 < (x1041l : Int)) ∧ ∃ (x1044 : Int), cell h1039 (a1043.add (x1042.toNat * 1)) = some (.int .i64 x1044) ∧ ∃ (x1045 : Int), cell h1039 (c3_1002.add 2) = some (.int .i64 x1045) ∧ chkP x1041 fun a1046 => (0 ≤ x1042 ∧ x1042 < (x1041l : Int)) ∧ stC h1039 (a1046.add (x1042.toNat * 1)) (.int .i64 (IntKind.i64.wrap (x1044 + x1045))) fun h1047 => ((cont c0_1001 c3_1002 c16_1003 c16_1004 c16_1005 c16_1006 (IntKind.i64.wrap (v17_1007 + 1)) h1047)))))) (K2 h1008))
def net_ends_link.l0 (K2 : Heap → Prop) : Nat → (Option Addr) → Addr → Int → Int → Int → Int → Int → Heap → Prop
  | 0, _, _, _, _, _, _, _, _ => False
  | m + 1, c0_1001, c3_1002, c16_1003, c16_1004, c16_1005, c16_1006, v17_1007, h => net_ends_link.b0 K2 (net_ends_link.l0 K2 m) c0_1001 c3_1002 c16_1003 c16_1004 c16_1005 c16_1006 v17_1007 h
def net_ends_link (a1 : Option Addr) (a2 : Int) (a3 : Int) (a4 : Int) (h : Heap) (K : Heap → Prop) : Prop :=
  newP h (.cells #[(.int .i64 a2), (.int .i64 a3), (.int .i64 a4)] 27) fun a5 h6 => (∃ (x7 : Int), cell h6 a5 = some (.int .i64 x7) ∧ ∃ (x8 : Int), cell h6 (a5.add 1) = some (.int .i64 x8) ∧ ∃ (x9 : Int), cell h6 (a5.add 1) = some (.int .i64 x9) ∧ ∃ (x10 : Int), cell h6 a5 = some (.int .i64 x10) ∧ (∃ m12, net_ends_link.l0 (fun h11 => K h11) m12 a1 a5 x7 x8 x9 x10 0 h6))
def net_ends_link.ret (K : Heap → Prop) (v : Value) (h : Heap) : Prop := match v with
  | (.tuple ⟨[]⟩) => K h
  | _ => False
theorem net_ends_link.ret_elim {K : Heap → Prop} {K' : Value → Heap → Prop} {v : Value} {h : Heap} (hk : ∀  h, K h → K' (.tuple #[]) h) (hh : net_ends_link.ret K v h) : K' v h := by
  unfold net_ends_link.ret at hh
  split at hh
  · exact hk _ hh
  · exact hh.elim
def net_ends_link.r0 (K : Nat → List Value → Heap → Prop) (m : Nat) (vs : List Value) (h : Heap) : Prop := match vs with
  | [(.pointer c0_1001), (.pointer (some c3_1002)), (.agg ⟨[(.int .i64 c16_1003), (.int .i64 c16_1004), (.int .i64 c16_1005), (.int .i64 c16_1006)]⟩), (.int .i64 v17_1007)] => net_ends_link.l0 (fun h' => K 2 [] h') m c0_1001 c3_1002 c16_1003 c16_1004 c16_1005 c16_1006 v17_1007 h
  | _ => False
def net_ends_link.loop (i : Nat) (vs : List Value) (h : Heap) (K : Nat → List Value → Heap → Prop) : Prop := match i with
  | 0 => ∃ m, net_ends_link.r0 K m vs h
  | _ => False
noncomputable def net_ends_link.ctx : Ctx := { P := Tryz.prog, call := fun _ _ _ _ => False, qcall := fun _ _ _ _ => False, quiet := fun f => Nat.beq f 1000138 || Nat.beq f 2000157, loop := net_ends_link.loop }
theorem net_ends_link.ok [DKc] : net_ends_link.ctx.OK where
  mixed := by kernel_rfl
  mono := fun hh _ => hh.elim
  call := fun hh => hh.elim
  qmono := fun hh _ => hh.elim
  qval := fun hh => hh.elim
  qcall := fun hh => hh.elim
noncomputable def net_ends_link.code : Code := (Tryz.f51.body).getD .skip
def net_ends_link.ann : Ann := (.two .auto (.two .auto (.two (.loop 0 [0, 3, 16, 17] [(2, [])] (.two .auto (.two .auto (.two (.two (.two .auto (.two (.reg [0, 1, 3, 7, 0, 16, 0, 64, 192, 448, 0, 1024, 4032, 8128, 0, 16384, 49152, 131008, 262143, 524287] (.take 0 (.take 1 (.take 2 (.take 4 (.take 6 (.take 7 (.take 8 (.take 10 (.take 14 (.take 15 (.early 3 (.early 5 (.early 9 (.early 11 (.take 12 (.early 13 (.alt 16 (.alt 17 (.take 18 (.alt 19 .done .noalt)) .noalt) .noalt)))))))))))))))))) (.reg [0, 1, 3, 7, 0, 16, 63, 127, 0, 256, 1023, 2047, 4095] (.take 0 (.take 1 (.take 2 (.take 3 (.take 4 (.take 5 (.take 6 (.take 7 (.take 8 (.take 9 (.take 10 (.take 11 (.alt 12 .done .noalt)))))))))))))))) .auto) .auto)))) .auto)))
noncomputable def net_ends_link.c0 : Code := sub net_ends_link.code [1, 1, 0, 0]
def net_ends_link.a0 : Ann := (.two .auto (.two .auto (.two (.two (.two .auto (.two (.reg [0, 1, 3, 7, 0, 16, 0, 64, 192, 448, 0, 1024, 4032, 8128, 0, 16384, 49152, 131008, 262143, 524287] (.take 0 (.take 1 (.take 2 (.take 4 (.take 6 (.take 7 (.take 8 (.take 10 (.take 14 (.take 15 (.early 3 (.early 5 (.early 9 (.early 11 (.take 12 (.early 13 (.alt 16 (.alt 17 (.take 18 (.alt 19 .done .noalt)) .noalt) .noalt)))))))))))))))))) (.reg [0, 1, 3, 7, 0, 16, 63, 127, 0, 256, 1023, 2047, 4095] (.take 0 (.take 1 (.take 2 (.take 3 (.take 4 (.take 5 (.take 6 (.take 7 (.take 8 (.take 9 (.take 10 (.take 11 (.alt 12 .done .noalt)))))))))))))))) .auto) .auto)))
def net_ends_link.keep0 : List Nat := [0, 3, 16, 17]
def net_ends_link.outs0 : List (Nat × List Nat) := [(2, [])]
set_option maxRecDepth 100000 in
theorem net_ends_link.L0 [DKc] : LoopOK net_ends_link.ctx 52 net_ends_link.c0 0 net_ends_link.keep0 net_ends_link.outs0 := by
  refine loop_ok (n := net_ends_link.a0) net_ends_link.ok (by kernel_rfl) (loops_ok (l := []) (by kernel_rfl) ?_) net_ends_link.r0 ?_ ?_ (fun vs h K hh => hh)
  · exact trivial
  · intro K vs h hh
    unfold net_ends_link.r0 at hh
    split at hh
    · exact hh
    · exact hh
  · intro K m vs h hh
    unfold net_ends_link.r0 at hh
    split at hh
    · exact cast (by kernel_rfl) hh
    · exact hh.elim
set_option maxRecDepth 100000 in
theorem net_ends_link.eq (a1 : Option Addr) (a2 : Int) (a3 : Int) (a4 : Int) (h : Heap) (K : Heap → Prop) : evF net_ends_link.ctx Tryz.f51 net_ends_link.ann [(.pointer a1), (.agg #[(.int .i64 a2), (.int .i64 a3), (.int .i64 a4)])] h (net_ends_link.ret K) = net_ends_link a1 a2 a3 a4 h K := by kernel_rfl
set_option maxRecDepth 100000 in
theorem net_ends_link.calls [DKc] {a1 : Option Addr} {a2 : Int} {a3 : Int} {a4 : Int} {h : Heap} {K : Heap → Prop} (hh : net_ends_link a1 a2 a3 a4 h K) (w : World) (hw : w.heap = h) :
    (callFunc 51 #[(.pointer a1), (.agg #[(.int .i64 a2), (.int .i64 a3), (.int .i64 a4)])]).run Tryz.prog w = .ok (.enter 51 #[(.pointer a1), (.agg #[(.int .i64 a2), (.int .i64 a3), (.int .i64 a4)])]) w ∧ Calls Tryz.prog 51 #[(.pointer a1), (.agg #[(.int .i64 a2), (.int .i64 a3), (.int .i64 a4)])] w fun e w' => ∃ v, e = .returned v ∧ Out w w' ∧ net_ends_link.ret K v w'.heap := by
  rw [← net_ends_link.eq] at hh
  exact fn_calls (args := [(.pointer a1), (.agg #[(.int .i64 a2), (.int .i64 a3), (.int .i64 a4)])]) (c := net_ends_link.code) net_ends_link.ok Tryz.func51 (by kernel_rfl) (by kernel_rfl) (by kernel_rfl) (by kernel_rfl) (loops_ok (l := [(net_ends_link.c0, none, 0, net_ends_link.keep0, net_ends_link.outs0)]) (by kernel_rfl) ⟨net_ends_link.L0, trivial⟩) hh w hw

/-! ### slices.Sort[[]int,int]: function 52, by its contract -/
def slices_Sort_Lint_int.ret (K : Heap → Prop) (v : Value) (h : Heap) : Prop := match v with
  | (.tuple ⟨[]⟩) => K h
  | _ => False
theorem slices_Sort_Lint_int.ret_elim {K : Heap → Prop} {K' : Value → Heap → Prop} {v : Value} {h : Heap} (hk : ∀  h, K h → K' (.tuple #[]) h) (hh : slices_Sort_Lint_int.ret K v h) : K' v h := by
  unfold slices_Sort_Lint_int.ret at hh
  split at hh
  · exact hk _ hh
  · exact hh.elim
def slices_Sort_Lint_int [DKc] (a1 : Option Addr) (a1l : Nat) (a1c : Nat) (h : Heap) (K : Heap → Prop) : Prop := ∀ w : World, w.heap = h → (callFunc 52 #[(.slice a1 a1l a1c)]).run Tryz.prog w = .ok (.enter 52 #[(.slice a1 a1l a1c)]) w ∧ Calls Tryz.prog 52 #[(.slice a1 a1l a1c)] w fun e w' => ∃ v, e = .returned v ∧ Out w w' ∧ slices_Sort_Lint_int.ret K v w'.heap
theorem slices_Sort_Lint_int.calls [DKc] {a1 : Option Addr} {a1l : Nat} {a1c : Nat} {h : Heap} {K : Heap → Prop} (hh : slices_Sort_Lint_int a1 a1l a1c h K) (w : World) (hw : w.heap = h) : (callFunc 52 #[(.slice a1 a1l a1c)]).run Tryz.prog w = .ok (.enter 52 #[(.slice a1 a1l a1c)]) w ∧ Calls Tryz.prog 52 #[(.slice a1 a1l a1c)] w fun e w' => ∃ v, e = .returned v ∧ Out w w' ∧ slices_Sort_Lint_int.ret K v w'.heap := hh w hw

end Go.Proofs.YtokemibmanjpmaaGreatDoor
