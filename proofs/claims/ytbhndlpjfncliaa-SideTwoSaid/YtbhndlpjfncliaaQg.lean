/- WRITTEN BY A PROGRAM OF THIS SESSION (gen.py): what each function asks of memory, and that the model's run comes to it. -/
import Derived.Test.YtbhndlpjfncliaaProg
import Derived.Test.YtbhndlpjfncliaaQf

namespace Go.Proofs.Ytbhndlpjfncliaa.Q
open Go.Hq
set_option linter.unusedVariables false
set_option linter.unusedSimpArgs false

/-! ### cmp.isNaN[int]: function 83 -/
def cmp_isNaN_int (a1 : Int) (h : Heap) (K : Bool → Heap → Prop) : Prop :=
  ((K (a1 != a1) h))
def cmp_isNaN_int.ret (K : Bool → Heap → Prop) (v : Value) (h : Heap) : Prop := match v with
  | (.bool r2) => K r2 h
  | _ => False
theorem cmp_isNaN_int.ret_elim {K : Bool → Heap → Prop} {K' : Value → Heap → Prop} {v : Value} {h : Heap} (hk : ∀ r2 h, K r2 h → K' (.bool r2) h) (hh : cmp_isNaN_int.ret K v h) : K' v h := by
  unfold cmp_isNaN_int.ret at hh
  split at hh
  · exact hk _ _ hh
  · exact hh.elim
noncomputable def cmp_isNaN_int.ctx : Ctx := { P := Try.prog, call := fun _ _ _ _ => False, qcall := fun _ _ _ _ => False, quiet := fun f => Nat.beq f 1000088, loop := fun _ _ _ _ => False }
theorem cmp_isNaN_int.ok : cmp_isNaN_int.ctx.OK where
  mixed := by kernel_rfl
  mono := fun hh _ => hh.elim
  call := fun hh => hh.elim
  qmono := fun hh _ => hh.elim
  qval := fun hh => hh.elim
  qcall := fun hh => hh.elim
noncomputable def cmp_isNaN_int.code : Code := (Try.f83.body).getD .skip
def cmp_isNaN_int.ann : Ann := .auto
set_option maxRecDepth 100000 in
theorem cmp_isNaN_int.eq (a1 : Int) (h : Heap) (K : Bool → Heap → Prop) : evF cmp_isNaN_int.ctx Try.f83 cmp_isNaN_int.ann [(.int .i64 a1)] h (cmp_isNaN_int.ret K) = cmp_isNaN_int a1 h K := by kernel_rfl
set_option maxRecDepth 100000 in
theorem cmp_isNaN_int.calls {a1 : Int} {h : Heap} {K : Bool → Heap → Prop} (hh : cmp_isNaN_int a1 h K) (w : World) (hw : w.heap = h) :
    (callFunc 83 #[(.int .i64 a1)]).run Try.prog w = .ok (.enter 83 #[(.int .i64 a1)]) w ∧ Calls Try.prog 83 #[(.int .i64 a1)] w fun e w' => ∃ v, e = .returned v ∧ Out w w' ∧ cmp_isNaN_int.ret K v w'.heap := by
  rw [← cmp_isNaN_int.eq] at hh
  exact fn_calls (args := [(.int .i64 a1)]) (c := cmp_isNaN_int.code) cmp_isNaN_int.ok Try.func83 (by kernel_rfl) (by kernel_rfl) (by kernel_rfl) (by kernel_rfl) (loops_ok (l := []) (by kernel_rfl) trivial) hh w hw

/-! ### cmp.Compare[int]: function 57 -/
def cmp_Compare_int (a1 : Int) (a2 : Int) (h : Heap) (K : Int → Heap → Prop) : Prop :=
  (qcallP1 h (cmp_isNaN_int a1 h) fun x3 => (qcallP1 h (cmp_isNaN_int a2 h) fun x4 => ((iteB x3 ((iteB x4 (K 0 h) (((K (-1) h))))) (((iteB x4 (K 1 h) (((iteB (decide (a1 < a2)) ((K (-1) h)) (((iteB (decide (a1 > a2)) (K 1 h) (K 0 h))))))))))))))
def cmp_Compare_int.ret (K : Int → Heap → Prop) (v : Value) (h : Heap) : Prop := match v with
  | (.int .i64 r5) => K r5 h
  | _ => False
theorem cmp_Compare_int.ret_elim {K : Int → Heap → Prop} {K' : Value → Heap → Prop} {v : Value} {h : Heap} (hk : ∀ r5 h, K r5 h → K' (.int .i64 r5) h) (hh : cmp_Compare_int.ret K v h) : K' v h := by
  unfold cmp_Compare_int.ret at hh
  split at hh
  · exact hk _ _ hh
  · exact hh.elim
def cmp_Compare_int.qcall (f : FuncId) (vs : List Value) (h : Heap) (K : Value → Prop) : Prop := match f, vs with
  | 83, [(.int .i64 a1)] => qcallP1 h (cmp_isNaN_int a1 h) fun r2 => K (.bool r2)
  | _, _ => False
noncomputable def cmp_Compare_int.ctx : Ctx := { P := Try.prog, call := fun _ _ _ _ => False, qcall := cmp_Compare_int.qcall, quiet := fun f => Nat.beq f 83 || Nat.beq f 1000088, loop := fun _ _ _ _ => False }
theorem cmp_Compare_int.ok : cmp_Compare_int.ctx.OK where
  mixed := by kernel_rfl
  mono := fun hh _ => hh.elim
  call := fun hh => hh.elim
  qmono := by
    intro f args h K K' hh hk
    change cmp_Compare_int.qcall f args h K at hh
    change cmp_Compare_int.qcall f args h K'
    unfold cmp_Compare_int.qcall at hh ⊢
    split at hh
    · obtain ⟨x0, h1, h2⟩ := hh
      exact ⟨x0, h1, hk _ h2⟩
    · exact hh.elim
  qval := by
    intro f args h K hh
    change cmp_Compare_int.qcall f args h K at hh
    suffices H : ∃ v, K v ∧ cmp_Compare_int.qcall f args h (· = v) from H
    unfold cmp_Compare_int.qcall at hh ⊢
    split at hh
    · obtain ⟨x0, h1, h2⟩ := hh
      exact ⟨_, h2, x0, h1, rfl⟩
    · exact hh.elim
  qcall := by
    intro f args h v hh w hw
    change cmp_Compare_int.qcall f args h (· = v) at hh
    unfold cmp_Compare_int.qcall at hh
    split at hh
    · obtain ⟨x0, h1, h2⟩ := hh
      obtain ⟨g1, g2⟩ := cmp_isNaN_int.calls h1 w hw
      refine .inl ⟨g1, g2.mono fun e w' ⟨u, he, ho, hr⟩ => ?_⟩
      have hq := cmp_isNaN_int.ret_elim (K' := fun u h' => u = v ∧ h' = h) (fun _ h' hr => by obtain ⟨rfl, rfl⟩ := hr; exact ⟨h2, rfl⟩) hr
      exact ⟨hq.1 ▸ he, ho, hq.2⟩
    · exact hh.elim
noncomputable def cmp_Compare_int.code : Code := (Try.f57.body).getD .skip
def cmp_Compare_int.ann : Ann := .auto
set_option maxRecDepth 100000 in
theorem cmp_Compare_int.eq (a1 : Int) (a2 : Int) (h : Heap) (K : Int → Heap → Prop) : evF cmp_Compare_int.ctx Try.f57 cmp_Compare_int.ann [(.int .i64 a1), (.int .i64 a2)] h (cmp_Compare_int.ret K) = cmp_Compare_int a1 a2 h K := by kernel_rfl
set_option maxRecDepth 100000 in
theorem cmp_Compare_int.calls {a1 : Int} {a2 : Int} {h : Heap} {K : Int → Heap → Prop} (hh : cmp_Compare_int a1 a2 h K) (w : World) (hw : w.heap = h) :
    (callFunc 57 #[(.int .i64 a1), (.int .i64 a2)]).run Try.prog w = .ok (.enter 57 #[(.int .i64 a1), (.int .i64 a2)]) w ∧ Calls Try.prog 57 #[(.int .i64 a1), (.int .i64 a2)] w fun e w' => ∃ v, e = .returned v ∧ Out w w' ∧ cmp_Compare_int.ret K v w'.heap := by
  rw [← cmp_Compare_int.eq] at hh
  exact fn_calls (args := [(.int .i64 a1), (.int .i64 a2)]) (c := cmp_Compare_int.code) cmp_Compare_int.ok Try.func57 (by kernel_rfl) (by kernel_rfl) (by kernel_rfl) (by kernel_rfl) (loops_ok (l := []) (by kernel_rfl) trivial) hh w hw

/-! ### cmp.isNaN[int64]: function 84 -/
def cmp_isNaN_int64 (a1 : Int) (h : Heap) (K : Bool → Heap → Prop) : Prop :=
  ((K (a1 != a1) h))
def cmp_isNaN_int64.ret (K : Bool → Heap → Prop) (v : Value) (h : Heap) : Prop := match v with
  | (.bool r2) => K r2 h
  | _ => False
theorem cmp_isNaN_int64.ret_elim {K : Bool → Heap → Prop} {K' : Value → Heap → Prop} {v : Value} {h : Heap} (hk : ∀ r2 h, K r2 h → K' (.bool r2) h) (hh : cmp_isNaN_int64.ret K v h) : K' v h := by
  unfold cmp_isNaN_int64.ret at hh
  split at hh
  · exact hk _ _ hh
  · exact hh.elim
noncomputable def cmp_isNaN_int64.ctx : Ctx := { P := Try.prog, call := fun _ _ _ _ => False, qcall := fun _ _ _ _ => False, quiet := fun f => Nat.beq f 1000088, loop := fun _ _ _ _ => False }
theorem cmp_isNaN_int64.ok : cmp_isNaN_int64.ctx.OK where
  mixed := by kernel_rfl
  mono := fun hh _ => hh.elim
  call := fun hh => hh.elim
  qmono := fun hh _ => hh.elim
  qval := fun hh => hh.elim
  qcall := fun hh => hh.elim
noncomputable def cmp_isNaN_int64.code : Code := (Try.f84.body).getD .skip
def cmp_isNaN_int64.ann : Ann := .auto
set_option maxRecDepth 100000 in
theorem cmp_isNaN_int64.eq (a1 : Int) (h : Heap) (K : Bool → Heap → Prop) : evF cmp_isNaN_int64.ctx Try.f84 cmp_isNaN_int64.ann [(.int .i64 a1)] h (cmp_isNaN_int64.ret K) = cmp_isNaN_int64 a1 h K := by kernel_rfl
set_option maxRecDepth 100000 in
theorem cmp_isNaN_int64.calls {a1 : Int} {h : Heap} {K : Bool → Heap → Prop} (hh : cmp_isNaN_int64 a1 h K) (w : World) (hw : w.heap = h) :
    (callFunc 84 #[(.int .i64 a1)]).run Try.prog w = .ok (.enter 84 #[(.int .i64 a1)]) w ∧ Calls Try.prog 84 #[(.int .i64 a1)] w fun e w' => ∃ v, e = .returned v ∧ Out w w' ∧ cmp_isNaN_int64.ret K v w'.heap := by
  rw [← cmp_isNaN_int64.eq] at hh
  exact fn_calls (args := [(.int .i64 a1)]) (c := cmp_isNaN_int64.code) cmp_isNaN_int64.ok Try.func84 (by kernel_rfl) (by kernel_rfl) (by kernel_rfl) (by kernel_rfl) (loops_ok (l := []) (by kernel_rfl) trivial) hh w hw

/-! ### cmp.Compare[int64]: function 58 -/
def cmp_Compare_int64 (a1 : Int) (a2 : Int) (h : Heap) (K : Int → Heap → Prop) : Prop :=
  (qcallP1 h (cmp_isNaN_int64 a1 h) fun x3 => (qcallP1 h (cmp_isNaN_int64 a2 h) fun x4 => ((iteB x3 ((iteB x4 (K 0 h) (((K (-1) h))))) (((iteB x4 (K 1 h) (((iteB (decide (a1 < a2)) ((K (-1) h)) (((iteB (decide (a1 > a2)) (K 1 h) (K 0 h))))))))))))))
def cmp_Compare_int64.ret (K : Int → Heap → Prop) (v : Value) (h : Heap) : Prop := match v with
  | (.int .i64 r5) => K r5 h
  | _ => False
theorem cmp_Compare_int64.ret_elim {K : Int → Heap → Prop} {K' : Value → Heap → Prop} {v : Value} {h : Heap} (hk : ∀ r5 h, K r5 h → K' (.int .i64 r5) h) (hh : cmp_Compare_int64.ret K v h) : K' v h := by
  unfold cmp_Compare_int64.ret at hh
  split at hh
  · exact hk _ _ hh
  · exact hh.elim
def cmp_Compare_int64.qcall (f : FuncId) (vs : List Value) (h : Heap) (K : Value → Prop) : Prop := match f, vs with
  | 84, [(.int .i64 a1)] => qcallP1 h (cmp_isNaN_int64 a1 h) fun r2 => K (.bool r2)
  | _, _ => False
noncomputable def cmp_Compare_int64.ctx : Ctx := { P := Try.prog, call := fun _ _ _ _ => False, qcall := cmp_Compare_int64.qcall, quiet := fun f => Nat.beq f 84 || Nat.beq f 1000088, loop := fun _ _ _ _ => False }
theorem cmp_Compare_int64.ok : cmp_Compare_int64.ctx.OK where
  mixed := by kernel_rfl
  mono := fun hh _ => hh.elim
  call := fun hh => hh.elim
  qmono := by
    intro f args h K K' hh hk
    change cmp_Compare_int64.qcall f args h K at hh
    change cmp_Compare_int64.qcall f args h K'
    unfold cmp_Compare_int64.qcall at hh ⊢
    split at hh
    · obtain ⟨x0, h1, h2⟩ := hh
      exact ⟨x0, h1, hk _ h2⟩
    · exact hh.elim
  qval := by
    intro f args h K hh
    change cmp_Compare_int64.qcall f args h K at hh
    suffices H : ∃ v, K v ∧ cmp_Compare_int64.qcall f args h (· = v) from H
    unfold cmp_Compare_int64.qcall at hh ⊢
    split at hh
    · obtain ⟨x0, h1, h2⟩ := hh
      exact ⟨_, h2, x0, h1, rfl⟩
    · exact hh.elim
  qcall := by
    intro f args h v hh w hw
    change cmp_Compare_int64.qcall f args h (· = v) at hh
    unfold cmp_Compare_int64.qcall at hh
    split at hh
    · obtain ⟨x0, h1, h2⟩ := hh
      obtain ⟨g1, g2⟩ := cmp_isNaN_int64.calls h1 w hw
      refine .inl ⟨g1, g2.mono fun e w' ⟨u, he, ho, hr⟩ => ?_⟩
      have hq := cmp_isNaN_int64.ret_elim (K' := fun u h' => u = v ∧ h' = h) (fun _ h' hr => by obtain ⟨rfl, rfl⟩ := hr; exact ⟨h2, rfl⟩) hr
      exact ⟨hq.1 ▸ he, ho, hq.2⟩
    · exact hh.elim
noncomputable def cmp_Compare_int64.code : Code := (Try.f58.body).getD .skip
def cmp_Compare_int64.ann : Ann := .auto
set_option maxRecDepth 100000 in
theorem cmp_Compare_int64.eq (a1 : Int) (a2 : Int) (h : Heap) (K : Int → Heap → Prop) : evF cmp_Compare_int64.ctx Try.f58 cmp_Compare_int64.ann [(.int .i64 a1), (.int .i64 a2)] h (cmp_Compare_int64.ret K) = cmp_Compare_int64 a1 a2 h K := by kernel_rfl
set_option maxRecDepth 100000 in
theorem cmp_Compare_int64.calls {a1 : Int} {a2 : Int} {h : Heap} {K : Int → Heap → Prop} (hh : cmp_Compare_int64 a1 a2 h K) (w : World) (hw : w.heap = h) :
    (callFunc 58 #[(.int .i64 a1), (.int .i64 a2)]).run Try.prog w = .ok (.enter 58 #[(.int .i64 a1), (.int .i64 a2)]) w ∧ Calls Try.prog 58 #[(.int .i64 a1), (.int .i64 a2)] w fun e w' => ∃ v, e = .returned v ∧ Out w w' ∧ cmp_Compare_int64.ret K v w'.heap := by
  rw [← cmp_Compare_int64.eq] at hh
  exact fn_calls (args := [(.int .i64 a1), (.int .i64 a2)]) (c := cmp_Compare_int64.code) cmp_Compare_int64.ok Try.func58 (by kernel_rfl) (by kernel_rfl) (by kernel_rfl) (by kernel_rfl) (loops_ok (l := []) (by kernel_rfl) trivial) hh w hw

/-! ### cmp.Or[int]: function 56 -/
def cmp_Or_int.b0 (K0 : Int → Heap → Prop) (K2 : Heap → Prop) (cont : (Option Addr) → Nat → Nat → Int → Int → Heap → Prop) (c6_1001 : Option Addr) (c6_1002 : Nat) (c6_1003 : Nat) (c7_1004 : Int) (v8_1005 : Int) (h1006 : Heap) : Prop :=
  (iteB (decide (v8_1005 < c7_1004)) ((chkP c6_1001 fun a1007 => (0 ≤ v8_1005 ∧ v8_1005 < (c6_1002 : Int)) ∧ ∃ (x1008 : Int), cell h1006 (a1007.add (v8_1005.toNat * 1)) = some (.int .i64 x1008) ∧ ((iteB (x1008 != (0 : Int)) (K0 x1008 h1006) (((cont c6_1001 c6_1002 c6_1003 c7_1004 (IntKind.i64.wrap (v8_1005 + 1)) h1006))))))) (K2 h1006))
def cmp_Or_int.l0 (K0 : Int → Heap → Prop) (K2 : Heap → Prop) : Nat → (Option Addr) → Nat → Nat → Int → Int → Heap → Prop
  | 0, _, _, _, _, _, _ => False
  | m + 1, c6_1001, c6_1002, c6_1003, c7_1004, v8_1005, h => cmp_Or_int.b0 K0 K2 (cmp_Or_int.l0 K0 K2 m) c6_1001 c6_1002 c6_1003 c7_1004 v8_1005 h
def cmp_Or_int (a1 : Option Addr) (a1l : Nat) (a1c : Nat) (h : Heap) (K : Int → Heap → Prop) : Prop :=
  (((∃ m5, cmp_Or_int.l0 (fun z2 h3 => K z2 h3) (fun h4 => (K 0 h4)) m5 a1 a1l a1c (a1l : Int) 0 h)))
def cmp_Or_int.ret (K : Int → Heap → Prop) (v : Value) (h : Heap) : Prop := match v with
  | (.int .i64 r6) => K r6 h
  | _ => False
theorem cmp_Or_int.ret_elim {K : Int → Heap → Prop} {K' : Value → Heap → Prop} {v : Value} {h : Heap} (hk : ∀ r6 h, K r6 h → K' (.int .i64 r6) h) (hh : cmp_Or_int.ret K v h) : K' v h := by
  unfold cmp_Or_int.ret at hh
  split at hh
  · exact hk _ _ hh
  · exact hh.elim
def cmp_Or_int.r0 (K : Nat → List Value → Heap → Prop) (m : Nat) (vs : List Value) (h : Heap) : Prop := match vs with
  | [(.int .i64 0), (.slice c6_1001 c6_1002 c6_1003), (.int .i64 c7_1004), (.int .i64 v8_1005)] => cmp_Or_int.l0 (fun z7 h' => K 0 [(.int .i64 z7)] h') (fun h' => K 2 [(.int .i64 0)] h') m c6_1001 c6_1002 c6_1003 c7_1004 v8_1005 h
  | _ => False
def cmp_Or_int.loop (i : Nat) (vs : List Value) (h : Heap) (K : Nat → List Value → Heap → Prop) : Prop := match i with
  | 0 => ∃ m, cmp_Or_int.r0 K m vs h
  | _ => False
noncomputable def cmp_Or_int.ctx : Ctx := { P := Try.prog, call := fun _ _ _ _ => False, qcall := fun _ _ _ _ => False, quiet := fun f => Nat.beq f 1000088, loop := cmp_Or_int.loop }
theorem cmp_Or_int.ok : cmp_Or_int.ctx.OK where
  mixed := by kernel_rfl
  mono := fun hh _ => hh.elim
  call := fun hh => hh.elim
  qmono := fun hh _ => hh.elim
  qval := fun hh => hh.elim
  qcall := fun hh => hh.elim
noncomputable def cmp_Or_int.code : Code := (Try.f56.body).getD .skip
def cmp_Or_int.ann : Ann := (.two .auto (.two .auto (.two (.two .auto (.two (.loop 0 [3, 6, 7, 8] [(2, [3]), (0, [2])] .auto) .auto)) .auto)))
noncomputable def cmp_Or_int.c0 : Code := sub cmp_Or_int.code [1, 1, 0, 1, 0, 0]
def cmp_Or_int.a0 : Ann := .auto
def cmp_Or_int.keep0 : List Nat := [3, 6, 7, 8]
def cmp_Or_int.outs0 : List (Nat × List Nat) := [(2, [3]), (0, [2])]
set_option maxRecDepth 100000 in
theorem cmp_Or_int.L0 : LoopOK cmp_Or_int.ctx 18 cmp_Or_int.c0 0 cmp_Or_int.keep0 cmp_Or_int.outs0 := by
  refine loop_ok (n := cmp_Or_int.a0) cmp_Or_int.ok (by kernel_rfl) (loops_ok (l := []) (by kernel_rfl) ?_) cmp_Or_int.r0 ?_ ?_ (fun vs h K hh => hh)
  · exact trivial
  · intro K vs h hh
    unfold cmp_Or_int.r0 at hh
    split at hh
    · exact hh
    · exact hh
  · intro K m vs h hh
    unfold cmp_Or_int.r0 at hh
    split at hh
    · exact cast (by kernel_rfl) hh
    · exact hh.elim
set_option maxRecDepth 100000 in
theorem cmp_Or_int.eq (a1 : Option Addr) (a1l : Nat) (a1c : Nat) (h : Heap) (K : Int → Heap → Prop) : evF cmp_Or_int.ctx Try.f56 cmp_Or_int.ann [(.slice a1 a1l a1c)] h (cmp_Or_int.ret K) = cmp_Or_int a1 a1l a1c h K := by kernel_rfl
set_option maxRecDepth 100000 in
theorem cmp_Or_int.calls {a1 : Option Addr} {a1l : Nat} {a1c : Nat} {h : Heap} {K : Int → Heap → Prop} (hh : cmp_Or_int a1 a1l a1c h K) (w : World) (hw : w.heap = h) :
    (callFunc 56 #[(.slice a1 a1l a1c)]).run Try.prog w = .ok (.enter 56 #[(.slice a1 a1l a1c)]) w ∧ Calls Try.prog 56 #[(.slice a1 a1l a1c)] w fun e w' => ∃ v, e = .returned v ∧ Out w w' ∧ cmp_Or_int.ret K v w'.heap := by
  rw [← cmp_Or_int.eq] at hh
  exact fn_calls (args := [(.slice a1 a1l a1c)]) (c := cmp_Or_int.code) cmp_Or_int.ok Try.func56 (by kernel_rfl) (by kernel_rfl) (by kernel_rfl) (by kernel_rfl) (loops_ok (l := [(cmp_Or_int.c0, none, 0, cmp_Or_int.keep0, cmp_Or_int.outs0)]) (by kernel_rfl) ⟨cmp_Or_int.L0, trivial⟩) hh w hw

/-! ### strait/edge.Cmp: function 43 -/
def edge_Cmp (a1 : Int) (a2 : Int) (a3 : Int) (a4 : Int) (a5 : Int) (a6 : Int) (h : Heap) (K : Int → Heap → Prop) : Prop :=
  newP h (.cells #[(.int .i64 a1), (.int .i64 a2), (.int .i64 a3)] 58) fun a7 h8 => newP h8 (.cells #[(.int .i64 a4), (.int .i64 a5), (.int .i64 a6)] 58) fun a9 h10 => (∃ (x11 : Int), cell h10 a7 = some (.int .i64 x11) ∧ ∃ (x12 : Int), cell h10 a9 = some (.int .i64 x12) ∧ qcallP1 h10 (cmp_Compare_int x11 x12 h10) fun x13 => ∃ (x14 : Int), cell h10 (a7.add 1) = some (.int .i64 x14) ∧ ∃ (x15 : Int), cell h10 (a9.add 1) = some (.int .i64 x15) ∧ qcallP1 h10 (cmp_Compare_int x14 x15 h10) fun x16 => ∃ (x17 : Int), cell h10 (a7.add 2) = some (.int .i64 x17) ∧ ∃ (x18 : Int), cell h10 (a9.add 2) = some (.int .i64 x18) ∧ qcallP1 h10 (cmp_Compare_int64 x17 x18 h10) fun x19 => newP h10 (.cells #[(.int .i64 x13), (.int .i64 x16), (.int .i64 x19)] 3) fun a20 h21 => qcallP1 h21 (cmp_Or_int (some a20) 3 3 h21) fun x22 => K x22 h21)
def edge_Cmp.ret (K : Int → Heap → Prop) (v : Value) (h : Heap) : Prop := match v with
  | (.int .i64 r23) => K r23 h
  | _ => False
theorem edge_Cmp.ret_elim {K : Int → Heap → Prop} {K' : Value → Heap → Prop} {v : Value} {h : Heap} (hk : ∀ r23 h, K r23 h → K' (.int .i64 r23) h) (hh : edge_Cmp.ret K v h) : K' v h := by
  unfold edge_Cmp.ret at hh
  split at hh
  · exact hk _ _ hh
  · exact hh.elim
def edge_Cmp.qcall (f : FuncId) (vs : List Value) (h : Heap) (K : Value → Prop) : Prop := match f, vs with
  | 56, [(.slice a1 a1l a1c)] => qcallP1 h (cmp_Or_int a1 a1l a1c h) fun r6 => K (.int .i64 r6)
  | 57, [(.int .i64 a1), (.int .i64 a2)] => qcallP1 h (cmp_Compare_int a1 a2 h) fun r5 => K (.int .i64 r5)
  | 58, [(.int .i64 a1), (.int .i64 a2)] => qcallP1 h (cmp_Compare_int64 a1 a2 h) fun r5 => K (.int .i64 r5)
  | _, _ => False
noncomputable def edge_Cmp.ctx : Ctx := { P := Try.prog, call := fun _ _ _ _ => False, qcall := edge_Cmp.qcall, quiet := fun f => Nat.beq f 56 || Nat.beq f 57 || Nat.beq f 58 || Nat.beq f 1000088, loop := fun _ _ _ _ => False }
theorem edge_Cmp.ok : edge_Cmp.ctx.OK where
  mixed := by kernel_rfl
  mono := fun hh _ => hh.elim
  call := fun hh => hh.elim
  qmono := by
    intro f args h K K' hh hk
    change edge_Cmp.qcall f args h K at hh
    change edge_Cmp.qcall f args h K'
    unfold edge_Cmp.qcall at hh ⊢
    split at hh
    · obtain ⟨x0, h1, h2⟩ := hh
      exact ⟨x0, h1, hk _ h2⟩
    · obtain ⟨x0, h1, h2⟩ := hh
      exact ⟨x0, h1, hk _ h2⟩
    · obtain ⟨x0, h1, h2⟩ := hh
      exact ⟨x0, h1, hk _ h2⟩
    · exact hh.elim
  qval := by
    intro f args h K hh
    change edge_Cmp.qcall f args h K at hh
    suffices H : ∃ v, K v ∧ edge_Cmp.qcall f args h (· = v) from H
    unfold edge_Cmp.qcall at hh ⊢
    split at hh
    · obtain ⟨x0, h1, h2⟩ := hh
      exact ⟨_, h2, x0, h1, rfl⟩
    · obtain ⟨x0, h1, h2⟩ := hh
      exact ⟨_, h2, x0, h1, rfl⟩
    · obtain ⟨x0, h1, h2⟩ := hh
      exact ⟨_, h2, x0, h1, rfl⟩
    · exact hh.elim
  qcall := by
    intro f args h v hh w hw
    change edge_Cmp.qcall f args h (· = v) at hh
    unfold edge_Cmp.qcall at hh
    split at hh
    · obtain ⟨x0, h1, h2⟩ := hh
      obtain ⟨g1, g2⟩ := cmp_Or_int.calls h1 w hw
      refine .inl ⟨g1, g2.mono fun e w' ⟨u, he, ho, hr⟩ => ?_⟩
      have hq := cmp_Or_int.ret_elim (K' := fun u h' => u = v ∧ h' = h) (fun _ h' hr => by obtain ⟨rfl, rfl⟩ := hr; exact ⟨h2, rfl⟩) hr
      exact ⟨hq.1 ▸ he, ho, hq.2⟩
    · obtain ⟨x0, h1, h2⟩ := hh
      obtain ⟨g1, g2⟩ := cmp_Compare_int.calls h1 w hw
      refine .inl ⟨g1, g2.mono fun e w' ⟨u, he, ho, hr⟩ => ?_⟩
      have hq := cmp_Compare_int.ret_elim (K' := fun u h' => u = v ∧ h' = h) (fun _ h' hr => by obtain ⟨rfl, rfl⟩ := hr; exact ⟨h2, rfl⟩) hr
      exact ⟨hq.1 ▸ he, ho, hq.2⟩
    · obtain ⟨x0, h1, h2⟩ := hh
      obtain ⟨g1, g2⟩ := cmp_Compare_int64.calls h1 w hw
      refine .inl ⟨g1, g2.mono fun e w' ⟨u, he, ho, hr⟩ => ?_⟩
      have hq := cmp_Compare_int64.ret_elim (K' := fun u h' => u = v ∧ h' = h) (fun _ h' hr => by obtain ⟨rfl, rfl⟩ := hr; exact ⟨h2, rfl⟩) hr
      exact ⟨hq.1 ▸ he, ho, hq.2⟩
    · exact hh.elim
noncomputable def edge_Cmp.code : Code := (Try.f43.body).getD .skip
def edge_Cmp.ann : Ann := (.two .auto (.two (.reg [0, 1, 0, 4, 15, 0, 32, 0, 128, 511, 0, 1024, 0, 4096, 16383, 32767, 65535, 131071] (.take 0 (.take 1 (.take 2 (.take 3 (.take 4 (.take 5 (.take 6 (.take 7 (.take 8 (.take 9 (.take 10 (.take 11 (.take 12 (.take 13 (.take 14 (.alt 15 (.take 16 (.take 17 .done)) .noalt))))))))))))))))) .auto))
set_option maxRecDepth 100000 in
theorem edge_Cmp.eq (a1 : Int) (a2 : Int) (a3 : Int) (a4 : Int) (a5 : Int) (a6 : Int) (h : Heap) (K : Int → Heap → Prop) : evF edge_Cmp.ctx Try.f43 edge_Cmp.ann [(.agg #[(.int .i64 a1), (.int .i64 a2), (.int .i64 a3)]), (.agg #[(.int .i64 a4), (.int .i64 a5), (.int .i64 a6)])] h (edge_Cmp.ret K) = edge_Cmp a1 a2 a3 a4 a5 a6 h K := by kernel_rfl
set_option maxRecDepth 100000 in
theorem edge_Cmp.calls {a1 : Int} {a2 : Int} {a3 : Int} {a4 : Int} {a5 : Int} {a6 : Int} {h : Heap} {K : Int → Heap → Prop} (hh : edge_Cmp a1 a2 a3 a4 a5 a6 h K) (w : World) (hw : w.heap = h) :
    (callFunc 43 #[(.agg #[(.int .i64 a1), (.int .i64 a2), (.int .i64 a3)]), (.agg #[(.int .i64 a4), (.int .i64 a5), (.int .i64 a6)])]).run Try.prog w = .ok (.enter 43 #[(.agg #[(.int .i64 a1), (.int .i64 a2), (.int .i64 a3)]), (.agg #[(.int .i64 a4), (.int .i64 a5), (.int .i64 a6)])]) w ∧ Calls Try.prog 43 #[(.agg #[(.int .i64 a1), (.int .i64 a2), (.int .i64 a3)]), (.agg #[(.int .i64 a4), (.int .i64 a5), (.int .i64 a6)])] w fun e w' => ∃ v, e = .returned v ∧ Out w w' ∧ edge_Cmp.ret K v w'.heap := by
  rw [← edge_Cmp.eq] at hh
  exact fn_calls (args := [(.agg #[(.int .i64 a1), (.int .i64 a2), (.int .i64 a3)]), (.agg #[(.int .i64 a4), (.int .i64 a5), (.int .i64 a6)])]) (c := edge_Cmp.code) edge_Cmp.ok Try.func43 (by kernel_rfl) (by kernel_rfl) (by kernel_rfl) (by kernel_rfl) (loops_ok (l := []) (by kernel_rfl) trivial) hh w hw

/-! ### slices.Clone[[]strait/api.Edge,strait/api.Edge]: function 72 -/
def slices_Clone_Lapi_Edge_api_Edge (a1 : Option Addr) (a1l : Nat) (a1c : Nat) (h : Heap) (K : (Option Addr) → Nat → Nat → Heap → Prop) : Prop :=
  ((iteB a1.isNone (K none 0 0 h) ((newP h (.cells #[] 58) fun a2 h3 => ∃ n8, cellsAt h3 a1 (a1l * 3) n8 ∧ appP 58 3 24 [(.int .i64 0), (.int .i64 0), (.int .i64 0)] (some a2) 0 0 a1l n8 h3 fun q4 l5 c6 h7 => K q4 l5 c6 h7))))
def slices_Clone_Lapi_Edge_api_Edge.ret (K : (Option Addr) → Nat → Nat → Heap → Prop) (v : Value) (h : Heap) : Prop := match v with
  | (.slice r9 r9l r9c) => K r9 r9l r9c h
  | _ => False
theorem slices_Clone_Lapi_Edge_api_Edge.ret_elim {K : (Option Addr) → Nat → Nat → Heap → Prop} {K' : Value → Heap → Prop} {v : Value} {h : Heap} (hk : ∀ r9 r9l r9c h, K r9 r9l r9c h → K' (.slice r9 r9l r9c) h) (hh : slices_Clone_Lapi_Edge_api_Edge.ret K v h) : K' v h := by
  unfold slices_Clone_Lapi_Edge_api_Edge.ret at hh
  split at hh
  · exact hk _ _ _ _ hh
  · exact hh.elim
noncomputable def slices_Clone_Lapi_Edge_api_Edge.ctx : Ctx := { P := Try.prog, call := fun _ _ _ _ => False, qcall := fun _ _ _ _ => False, quiet := fun f => Nat.beq f 1000088, loop := fun _ _ _ _ => False }
theorem slices_Clone_Lapi_Edge_api_Edge.ok : slices_Clone_Lapi_Edge_api_Edge.ctx.OK where
  mixed := by kernel_rfl
  mono := fun hh _ => hh.elim
  call := fun hh => hh.elim
  qmono := fun hh _ => hh.elim
  qval := fun hh => hh.elim
  qcall := fun hh => hh.elim
noncomputable def slices_Clone_Lapi_Edge_api_Edge.code : Code := (Try.f72.body).getD .skip
def slices_Clone_Lapi_Edge_api_Edge.ann : Ann := .auto
set_option maxRecDepth 100000 in
theorem slices_Clone_Lapi_Edge_api_Edge.eq (a1 : Option Addr) (a1l : Nat) (a1c : Nat) (h : Heap) (K : (Option Addr) → Nat → Nat → Heap → Prop) : evF slices_Clone_Lapi_Edge_api_Edge.ctx Try.f72 slices_Clone_Lapi_Edge_api_Edge.ann [(.slice a1 a1l a1c)] h (slices_Clone_Lapi_Edge_api_Edge.ret K) = slices_Clone_Lapi_Edge_api_Edge a1 a1l a1c h K := by kernel_rfl
set_option maxRecDepth 100000 in
theorem slices_Clone_Lapi_Edge_api_Edge.calls {a1 : Option Addr} {a1l : Nat} {a1c : Nat} {h : Heap} {K : (Option Addr) → Nat → Nat → Heap → Prop} (hh : slices_Clone_Lapi_Edge_api_Edge a1 a1l a1c h K) (w : World) (hw : w.heap = h) :
    (callFunc 72 #[(.slice a1 a1l a1c)]).run Try.prog w = .ok (.enter 72 #[(.slice a1 a1l a1c)]) w ∧ Calls Try.prog 72 #[(.slice a1 a1l a1c)] w fun e w' => ∃ v, e = .returned v ∧ Out w w' ∧ slices_Clone_Lapi_Edge_api_Edge.ret K v w'.heap := by
  rw [← slices_Clone_Lapi_Edge_api_Edge.eq] at hh
  exact fn_calls (args := [(.slice a1 a1l a1c)]) (c := slices_Clone_Lapi_Edge_api_Edge.code) slices_Clone_Lapi_Edge_api_Edge.ok Try.func72 (by kernel_rfl) (by kernel_rfl) (by kernel_rfl) (by kernel_rfl) (loops_ok (l := []) (by kernel_rfl) trivial) hh w hw

/-! ### (*strait/net.Net).Edges: function 49 -/
def net_Net_Edges (a1 : Option Addr) (h : Heap) (K : (Option Addr) → Nat → Nat → Heap → Prop) : Prop :=
  ((iteB a1.isNone (K none 0 0 h) ((chkP a1 fun a2 => ∃ (x3 : Option Addr) (x3l : Nat) (x3c : Nat), cell h (a2.add 2) = some (.slice x3 x3l x3c) ∧ callP3 (slices_Clone_Lapi_Edge_api_Edge x3 x3l x3c h) fun x4 x4l x4c h5 => K x4 x4l x4c h5))))
def net_Net_Edges.ret (K : (Option Addr) → Nat → Nat → Heap → Prop) (v : Value) (h : Heap) : Prop := match v with
  | (.slice r6 r6l r6c) => K r6 r6l r6c h
  | _ => False
theorem net_Net_Edges.ret_elim {K : (Option Addr) → Nat → Nat → Heap → Prop} {K' : Value → Heap → Prop} {v : Value} {h : Heap} (hk : ∀ r6 r6l r6c h, K r6 r6l r6c h → K' (.slice r6 r6l r6c) h) (hh : net_Net_Edges.ret K v h) : K' v h := by
  unfold net_Net_Edges.ret at hh
  split at hh
  · exact hk _ _ _ _ hh
  · exact hh.elim
def net_Net_Edges.call (f : FuncId) (vs : List Value) (h : Heap) (K : Value → Heap → Prop) : Prop := match f, vs with
  | 72, [(.slice a1 a1l a1c)] => callP3 (slices_Clone_Lapi_Edge_api_Edge a1 a1l a1c h) fun r9 r9l r9c h' => K (.slice r9 r9l r9c) h'
  | _, _ => False
noncomputable def net_Net_Edges.ctx : Ctx := { P := Try.prog, call := net_Net_Edges.call, qcall := fun _ _ _ _ => False, quiet := fun f => Nat.beq f 1000088, loop := fun _ _ _ _ => False }
theorem net_Net_Edges.ok : net_Net_Edges.ctx.OK where
  mixed := by kernel_rfl
  mono := by
    intro f args h K K' hh hk
    change net_Net_Edges.call f args h K at hh
    change net_Net_Edges.call f args h K'
    unfold net_Net_Edges.call at hh ⊢
    split at hh
    · obtain ⟨R, h1, h2⟩ := hh
      exact ⟨R, h1, fun _ _ _ x hr => hk _ _ (h2 _ _ _ x hr)⟩
    · exact hh.elim
  call := by
    intro f args h K hh w hw
    change net_Net_Edges.call f args h K at hh
    unfold net_Net_Edges.call at hh
    split at hh
    · obtain ⟨R, h1, h2⟩ := hh
      obtain ⟨g1, g2⟩ := slices_Clone_Lapi_Edge_api_Edge.calls h1 w hw
      exact ⟨g1, g2.mono fun e w' ⟨v, he, ho, hr⟩ => ⟨v, he, ho, slices_Clone_Lapi_Edge_api_Edge.ret_elim h2 hr⟩⟩
    · exact hh.elim
  qmono := fun hh _ => hh.elim
  qval := fun hh => hh.elim
  qcall := fun hh => hh.elim
noncomputable def net_Net_Edges.code : Code := (Try.f49.body).getD .skip
def net_Net_Edges.ann : Ann := .auto
set_option maxRecDepth 100000 in
theorem net_Net_Edges.eq (a1 : Option Addr) (h : Heap) (K : (Option Addr) → Nat → Nat → Heap → Prop) : evF net_Net_Edges.ctx Try.f49 net_Net_Edges.ann [(.pointer a1)] h (net_Net_Edges.ret K) = net_Net_Edges a1 h K := by kernel_rfl
set_option maxRecDepth 100000 in
theorem net_Net_Edges.calls {a1 : Option Addr} {h : Heap} {K : (Option Addr) → Nat → Nat → Heap → Prop} (hh : net_Net_Edges a1 h K) (w : World) (hw : w.heap = h) :
    (callFunc 49 #[(.pointer a1)]).run Try.prog w = .ok (.enter 49 #[(.pointer a1)]) w ∧ Calls Try.prog 49 #[(.pointer a1)] w fun e w' => ∃ v, e = .returned v ∧ Out w w' ∧ net_Net_Edges.ret K v w'.heap := by
  rw [← net_Net_Edges.eq] at hh
  exact fn_calls (args := [(.pointer a1)]) (c := net_Net_Edges.code) net_Net_Edges.ok Try.func49 (by kernel_rfl) (by kernel_rfl) (by kernel_rfl) (by kernel_rfl) (loops_ok (l := []) (by kernel_rfl) trivial) hh w hw

/-! ### (*strait/vset.Set).Room: function 90 -/
def vset_Set_Room (a1 : Option Addr) (h : Heap) (K : Int → Heap → Prop) : Prop :=
  ((iteB a1.isNone (K 0 h) ((chkP a1 fun a2 => ∃ (x3 : Int), cell h a2 = some (.int .i64 x3) ∧ K x3 h))))
def vset_Set_Room.ret (K : Int → Heap → Prop) (v : Value) (h : Heap) : Prop := match v with
  | (.int .i64 r4) => K r4 h
  | _ => False
theorem vset_Set_Room.ret_elim {K : Int → Heap → Prop} {K' : Value → Heap → Prop} {v : Value} {h : Heap} (hk : ∀ r4 h, K r4 h → K' (.int .i64 r4) h) (hh : vset_Set_Room.ret K v h) : K' v h := by
  unfold vset_Set_Room.ret at hh
  split at hh
  · exact hk _ _ hh
  · exact hh.elim
noncomputable def vset_Set_Room.ctx : Ctx := { P := Try.prog, call := fun _ _ _ _ => False, qcall := fun _ _ _ _ => False, quiet := fun f => Nat.beq f 1000088, loop := fun _ _ _ _ => False }
theorem vset_Set_Room.ok : vset_Set_Room.ctx.OK where
  mixed := by kernel_rfl
  mono := fun hh _ => hh.elim
  call := fun hh => hh.elim
  qmono := fun hh _ => hh.elim
  qval := fun hh => hh.elim
  qcall := fun hh => hh.elim
noncomputable def vset_Set_Room.code : Code := (Try.f90.body).getD .skip
def vset_Set_Room.ann : Ann := .auto
set_option maxRecDepth 100000 in
theorem vset_Set_Room.eq (a1 : Option Addr) (h : Heap) (K : Int → Heap → Prop) : evF vset_Set_Room.ctx Try.f90 vset_Set_Room.ann [(.pointer a1)] h (vset_Set_Room.ret K) = vset_Set_Room a1 h K := by kernel_rfl
set_option maxRecDepth 100000 in
theorem vset_Set_Room.calls {a1 : Option Addr} {h : Heap} {K : Int → Heap → Prop} (hh : vset_Set_Room a1 h K) (w : World) (hw : w.heap = h) :
    (callFunc 90 #[(.pointer a1)]).run Try.prog w = .ok (.enter 90 #[(.pointer a1)]) w ∧ Calls Try.prog 90 #[(.pointer a1)] w fun e w' => ∃ v, e = .returned v ∧ Out w w' ∧ vset_Set_Room.ret K v w'.heap := by
  rw [← vset_Set_Room.eq] at hh
  exact fn_calls (args := [(.pointer a1)]) (c := vset_Set_Room.code) vset_Set_Room.ok Try.func90 (by kernel_rfl) (by kernel_rfl) (by kernel_rfl) (by kernel_rfl) (loops_ok (l := []) (by kernel_rfl) trivial) hh w hw

/-! ### (*strait/vset.Set).bit: function 73 -/
def vset_Set_bit (a1 : Option Addr) (a2 : Int) (h : Heap) (K : (Option Addr) → Int → Bool → Heap → Prop) : Prop :=
  (let j9 : Prop := (chkP a1 fun a5 => ∃ (x6 : Option Addr) (x6l : Nat) (x6c : Nat), cell h (a5.add 1) = some (.slice x6 x6l x6c) ∧ (64 : Int) ≠ 0 ∧ chkP x6 fun a7 => (0 ≤ (IntKind.i64.wrap (a2.tdiv 64)) ∧ (IntKind.i64.wrap (a2.tdiv 64)) < (x6l : Int)) ∧ (64 : Int) ≠ 0 ∧ 0 ≤ (a2.tmod 64) ∧ bindV (IntKind.u64.wrap ((1 : Int) * 2 ^ (min (a2.tmod 64).toNat 64))) fun n8 => (K (some (a7.add ((IntKind.i64.wrap (a2.tdiv 64)).toNat * 1))) n8 true h));
  iteB (decide (a2 < (0 : Int))) (K none 0 false h) (qcallP1 h (vset_Set_Room a1 h) fun x3 => (iteB (decide (a2 ≥ x3)) (K none 0 false h) ((j9)))))
def vset_Set_bit.ret (K : (Option Addr) → Int → Bool → Heap → Prop) (v : Value) (h : Heap) : Prop := match v with
  | (.tuple ⟨[(.pointer r10), (.int .u64 r11), (.bool r12)]⟩) => K r10 r11 r12 h
  | _ => False
theorem vset_Set_bit.ret_elim {K : (Option Addr) → Int → Bool → Heap → Prop} {K' : Value → Heap → Prop} {v : Value} {h : Heap} (hk : ∀ r10 r11 r12 h, K r10 r11 r12 h → K' (.tuple #[(.pointer r10), (.int .u64 r11), (.bool r12)]) h) (hh : vset_Set_bit.ret K v h) : K' v h := by
  unfold vset_Set_bit.ret at hh
  split at hh
  · exact hk _ _ _ _ hh
  · exact hh.elim
def vset_Set_bit.qcall (f : FuncId) (vs : List Value) (h : Heap) (K : Value → Prop) : Prop := match f, vs with
  | 90, [(.pointer a1)] => qcallP1 h (vset_Set_Room a1 h) fun r4 => K (.int .i64 r4)
  | _, _ => False
noncomputable def vset_Set_bit.ctx : Ctx := { P := Try.prog, call := fun _ _ _ _ => False, qcall := vset_Set_bit.qcall, quiet := fun f => Nat.beq f 90 || Nat.beq f 1000088, loop := fun _ _ _ _ => False }
theorem vset_Set_bit.ok : vset_Set_bit.ctx.OK where
  mixed := by kernel_rfl
  mono := fun hh _ => hh.elim
  call := fun hh => hh.elim
  qmono := by
    intro f args h K K' hh hk
    change vset_Set_bit.qcall f args h K at hh
    change vset_Set_bit.qcall f args h K'
    unfold vset_Set_bit.qcall at hh ⊢
    split at hh
    · obtain ⟨x0, h1, h2⟩ := hh
      exact ⟨x0, h1, hk _ h2⟩
    · exact hh.elim
  qval := by
    intro f args h K hh
    change vset_Set_bit.qcall f args h K at hh
    suffices H : ∃ v, K v ∧ vset_Set_bit.qcall f args h (· = v) from H
    unfold vset_Set_bit.qcall at hh ⊢
    split at hh
    · obtain ⟨x0, h1, h2⟩ := hh
      exact ⟨_, h2, x0, h1, rfl⟩
    · exact hh.elim
  qcall := by
    intro f args h v hh w hw
    change vset_Set_bit.qcall f args h (· = v) at hh
    unfold vset_Set_bit.qcall at hh
    split at hh
    · obtain ⟨x0, h1, h2⟩ := hh
      obtain ⟨g1, g2⟩ := vset_Set_Room.calls h1 w hw
      refine .inl ⟨g1, g2.mono fun e w' ⟨u, he, ho, hr⟩ => ?_⟩
      have hq := vset_Set_Room.ret_elim (K' := fun u h' => u = v ∧ h' = h) (fun _ h' hr => by obtain ⟨rfl, rfl⟩ := hr; exact ⟨h2, rfl⟩) hr
      exact ⟨hq.1 ▸ he, ho, hq.2⟩
    · exact hh.elim
noncomputable def vset_Set_bit.code : Code := (Try.f73.body).getD .skip
def vset_Set_bit.ann : Ann := (.two .auto (.two .auto (.two (.reg [0, 1, 3, 7, 0, 16, 63, 0, 128, 384, 127, 2047, 4095] (.take 0 (.take 1 (.take 2 (.take 3 (.take 4 (.take 5 (.take 6 (.take 7 (.take 8 (.take 9 (.take 10 (.take 11 (.take 12 .done)))))))))))))) .auto)))
set_option maxRecDepth 100000 in
theorem vset_Set_bit.eq (a1 : Option Addr) (a2 : Int) (h : Heap) (K : (Option Addr) → Int → Bool → Heap → Prop) : evF vset_Set_bit.ctx Try.f73 vset_Set_bit.ann [(.pointer a1), (.int .i64 a2)] h (vset_Set_bit.ret K) = vset_Set_bit a1 a2 h K := by kernel_rfl
set_option maxRecDepth 100000 in
theorem vset_Set_bit.calls {a1 : Option Addr} {a2 : Int} {h : Heap} {K : (Option Addr) → Int → Bool → Heap → Prop} (hh : vset_Set_bit a1 a2 h K) (w : World) (hw : w.heap = h) :
    (callFunc 73 #[(.pointer a1), (.int .i64 a2)]).run Try.prog w = .ok (.enter 73 #[(.pointer a1), (.int .i64 a2)]) w ∧ Calls Try.prog 73 #[(.pointer a1), (.int .i64 a2)] w fun e w' => ∃ v, e = .returned v ∧ Out w w' ∧ vset_Set_bit.ret K v w'.heap := by
  rw [← vset_Set_bit.eq] at hh
  exact fn_calls (args := [(.pointer a1), (.int .i64 a2)]) (c := vset_Set_bit.code) vset_Set_bit.ok Try.func73 (by kernel_rfl) (by kernel_rfl) (by kernel_rfl) (by kernel_rfl) (loops_ok (l := []) (by kernel_rfl) trivial) hh w hw

/-! ### (*strait/vset.Set).Has: function 50 -/
def vset_Set_Has (a1 : Option Addr) (a2 : Int) (h : Heap) (K : Bool → Heap → Prop) : Prop :=
  (qcallP3 h (vset_Set_bit a1 a2 h) fun x3 x4 x5 => (iteB x5 (chkP x3 fun a6 => ∃ (x7 : Int), cell h a6 = some (.int .u64 x7) ∧ (K ((bits .and .u64 x7 x4) != (0 : Int)) h)) (K false h)))
def vset_Set_Has.ret (K : Bool → Heap → Prop) (v : Value) (h : Heap) : Prop := match v with
  | (.bool r9) => K r9 h
  | _ => False
theorem vset_Set_Has.ret_elim {K : Bool → Heap → Prop} {K' : Value → Heap → Prop} {v : Value} {h : Heap} (hk : ∀ r9 h, K r9 h → K' (.bool r9) h) (hh : vset_Set_Has.ret K v h) : K' v h := by
  unfold vset_Set_Has.ret at hh
  split at hh
  · exact hk _ _ hh
  · exact hh.elim
def vset_Set_Has.qcall (f : FuncId) (vs : List Value) (h : Heap) (K : Value → Prop) : Prop := match f, vs with
  | 73, [(.pointer a1), (.int .i64 a2)] => qcallP3 h (vset_Set_bit a1 a2 h) fun r10 r11 r12 => K (.tuple #[(.pointer r10), (.int .u64 r11), (.bool r12)])
  | _, _ => False
noncomputable def vset_Set_Has.ctx : Ctx := { P := Try.prog, call := fun _ _ _ _ => False, qcall := vset_Set_Has.qcall, quiet := fun f => Nat.beq f 73 || Nat.beq f 1000088, loop := fun _ _ _ _ => False }
theorem vset_Set_Has.ok : vset_Set_Has.ctx.OK where
  mixed := by kernel_rfl
  mono := fun hh _ => hh.elim
  call := fun hh => hh.elim
  qmono := by
    intro f args h K K' hh hk
    change vset_Set_Has.qcall f args h K at hh
    change vset_Set_Has.qcall f args h K'
    unfold vset_Set_Has.qcall at hh ⊢
    split at hh
    · obtain ⟨x0, x1, x2, h1, h2⟩ := hh
      exact ⟨x0, x1, x2, h1, hk _ h2⟩
    · exact hh.elim
  qval := by
    intro f args h K hh
    change vset_Set_Has.qcall f args h K at hh
    suffices H : ∃ v, K v ∧ vset_Set_Has.qcall f args h (· = v) from H
    unfold vset_Set_Has.qcall at hh ⊢
    split at hh
    · obtain ⟨x0, x1, x2, h1, h2⟩ := hh
      exact ⟨_, h2, x0, x1, x2, h1, rfl⟩
    · exact hh.elim
  qcall := by
    intro f args h v hh w hw
    change vset_Set_Has.qcall f args h (· = v) at hh
    unfold vset_Set_Has.qcall at hh
    split at hh
    · obtain ⟨x0, x1, x2, h1, h2⟩ := hh
      obtain ⟨g1, g2⟩ := vset_Set_bit.calls h1 w hw
      refine .inl ⟨g1, g2.mono fun e w' ⟨u, he, ho, hr⟩ => ?_⟩
      have hq := vset_Set_bit.ret_elim (K' := fun u h' => u = v ∧ h' = h) (fun _ _ _ h' hr => by obtain ⟨rfl, rfl, rfl, rfl⟩ := hr; exact ⟨h2, rfl⟩) hr
      exact ⟨hq.1 ▸ he, ho, hq.2⟩
    · exact hh.elim
noncomputable def vset_Set_Has.code : Code := (Try.f50.body).getD .skip
def vset_Set_Has.ann : Ann := .auto
set_option maxRecDepth 100000 in
theorem vset_Set_Has.eq (a1 : Option Addr) (a2 : Int) (h : Heap) (K : Bool → Heap → Prop) : evF vset_Set_Has.ctx Try.f50 vset_Set_Has.ann [(.pointer a1), (.int .i64 a2)] h (vset_Set_Has.ret K) = vset_Set_Has a1 a2 h K := by kernel_rfl
set_option maxRecDepth 100000 in
theorem vset_Set_Has.calls {a1 : Option Addr} {a2 : Int} {h : Heap} {K : Bool → Heap → Prop} (hh : vset_Set_Has a1 a2 h K) (w : World) (hw : w.heap = h) :
    (callFunc 50 #[(.pointer a1), (.int .i64 a2)]).run Try.prog w = .ok (.enter 50 #[(.pointer a1), (.int .i64 a2)]) w ∧ Calls Try.prog 50 #[(.pointer a1), (.int .i64 a2)] w fun e w' => ∃ v, e = .returned v ∧ Out w w' ∧ vset_Set_Has.ret K v w'.heap := by
  rw [← vset_Set_Has.eq] at hh
  exact fn_calls (args := [(.pointer a1), (.int .i64 a2)]) (c := vset_Set_Has.code) vset_Set_Has.ok Try.func50 (by kernel_rfl) (by kernel_rfl) (by kernel_rfl) (by kernel_rfl) (loops_ok (l := []) (by kernel_rfl) trivial) hh w hw

end Go.Proofs.Ytbhndlpjfncliaa.Q
