/- WRITTEN BY A PROGRAM OF THIS SESSION (gen.py): what each function asks of memory, and that the model's run comes to it. -/
import Derived.Test.YtmejnpadgbdhaaaDoorProg
import Derived.Test.YtmejnpadgbdhaaaDoorFw8
import Derived.Test.YtmejnpadgbdhaaaDoorG1
namespace Go.Proofs.YtmejnpadgbdhaaaDoor
open Go.Hp
set_option linter.unusedVariables false
set_option linter.unusedSimpArgs false
set_option linter.unusedSectionVars false

/-! ### slices.Equal[[]int64,int64]: function 16 -/
def slices_Equal_Lint64_int64.b0 (K0 : Bool → Heap → Prop) (K2 : Heap → Prop) (cont : (Option Addr) → Nat → Nat → (Option Addr) → Nat → Nat → Int → Int → Heap → Prop) (c0_1001 : Option Addr) (c0_1002 : Nat) (c0_1003 : Nat) (c1_1004 : Option Addr) (c1_1005 : Nat) (c1_1006 : Nat) (c12_1007 : Int) (v13_1008 : Int) (h1009 : Heap) : Prop :=
  (iteB (decide (v13_1008 < c12_1007)) (((chkP c0_1001 fun a1010 => (0 ≤ v13_1008 ∧ v13_1008 < (c0_1002 : Int)) ∧ ∃ (x1011 : Int), cell h1009 (a1010.add (v13_1008.toNat * 1)) = some (.int .i64 x1011) ∧ chkP c1_1004 fun a1012 => (0 ≤ v13_1008 ∧ v13_1008 < (c1_1005 : Int)) ∧ ∃ (x1013 : Int), cell h1009 (a1012.add (v13_1008.toNat * 1)) = some (.int .i64 x1013) ∧ (iteB (x1011 != x1013) (K0 false h1009) (((cont c0_1001 c0_1002 c0_1003 c1_1004 c1_1005 c1_1006 c12_1007 (IntKind.i64.wrap (v13_1008 + 1)) h1009))))))) (K2 h1009))
def slices_Equal_Lint64_int64.l0 (K0 : Bool → Heap → Prop) (K2 : Heap → Prop) : Nat → (Option Addr) → Nat → Nat → (Option Addr) → Nat → Nat → Int → Int → Heap → Prop
  | 0, _, _, _, _, _, _, _, _, _ => False
  | m + 1, c0_1001, c0_1002, c0_1003, c1_1004, c1_1005, c1_1006, c12_1007, v13_1008, h => slices_Equal_Lint64_int64.b0 K0 K2 (slices_Equal_Lint64_int64.l0 K0 K2 m) c0_1001 c0_1002 c0_1003 c1_1004 c1_1005 c1_1006 c12_1007 v13_1008 h
def slices_Equal_Lint64_int64 (a1 : Option Addr) (a1l : Nat) (a1c : Nat) (a2 : Option Addr) (a2l : Nat) (a2c : Nat) (h : Heap) (K : Bool → Heap → Prop) : Prop :=
  ((iteB ((a1l : Int) != (a2l : Int)) (K false h) (((∃ m6, slices_Equal_Lint64_int64.l0 (fun z3 h4 => K z3 h4) (fun h5 => (K true h5)) m6 a1 a1l a1c a2 a2l a2c (a1l : Int) 0 h)))))
def slices_Equal_Lint64_int64.ret (K : Bool → Heap → Prop) (v : Value) (h : Heap) : Prop := match v with
  | (.bool r7) => K r7 h
  | _ => False
theorem slices_Equal_Lint64_int64.ret_elim {K : Bool → Heap → Prop} {K' : Value → Heap → Prop} {v : Value} {h : Heap} (hk : ∀ r7 h, K r7 h → K' (.bool r7) h) (hh : slices_Equal_Lint64_int64.ret K v h) : K' v h := by
  unfold slices_Equal_Lint64_int64.ret at hh
  split at hh
  · exact hk _ _ hh
  · exact hh.elim
def slices_Equal_Lint64_int64.r0 (K : Nat → List Value → Heap → Prop) (m : Nat) (vs : List Value) (h : Heap) : Prop := match vs with
  | [(.slice c0_1001 c0_1002 c0_1003), (.slice c1_1004 c1_1005 c1_1006), (.int .i64 c12_1007), (.int .i64 v13_1008)] => slices_Equal_Lint64_int64.l0 (fun z8 h' => K 0 [(.bool z8)] h') (fun h' => K 2 [] h') m c0_1001 c0_1002 c0_1003 c1_1004 c1_1005 c1_1006 c12_1007 v13_1008 h
  | _ => False
def slices_Equal_Lint64_int64.loop (i : Nat) (vs : List Value) (h : Heap) (K : Nat → List Value → Heap → Prop) : Prop := match i with
  | 0 => ∃ m, slices_Equal_Lint64_int64.r0 K m vs h
  | _ => False
noncomputable def slices_Equal_Lint64_int64.ctx : Ctx := { P := Tryd.prog, call := fun _ _ _ _ => False, qcall := fun _ _ _ _ => False, quiet := fun f => Nat.beq f 2000025, loop := slices_Equal_Lint64_int64.loop }
theorem slices_Equal_Lint64_int64.ok [DKc] : slices_Equal_Lint64_int64.ctx.OK where
  mixed := by kernel_rfl
  mono := fun hh _ => hh.elim
  call := fun hh => hh.elim
  qmono := fun hh _ => hh.elim
  qval := fun hh => hh.elim
  qcall := fun hh => hh.elim
noncomputable def slices_Equal_Lint64_int64.code : Code := (Tryd.f16.body).getD .skip
def slices_Equal_Lint64_int64.ann : Ann := (.two .auto (.two .auto (.two (.two .auto (.two (.loop 0 [0, 1, 12, 13] [(2, []), (0, [4])] (.two .auto (.two .auto (.two (.two (.two .auto (.two (.reg [0, 0, 3, 7, 0, 0, 48, 112, 255] (.take 0 (.take 1 (.take 2 (.take 3 (.take 4 (.take 5 (.take 6 (.take 7 (.take 8 .done)))))))))) .auto)) .auto) .auto)))) .auto)) .auto)))
noncomputable def slices_Equal_Lint64_int64.c0 : Code := sub slices_Equal_Lint64_int64.code [1, 1, 0, 1, 0, 0]
def slices_Equal_Lint64_int64.a0 : Ann := (.two .auto (.two .auto (.two (.two (.two .auto (.two (.reg [0, 0, 3, 7, 0, 0, 48, 112, 255] (.take 0 (.take 1 (.take 2 (.take 3 (.take 4 (.take 5 (.take 6 (.take 7 (.take 8 .done)))))))))) .auto)) .auto) .auto)))
def slices_Equal_Lint64_int64.keep0 : List Nat := [0, 1, 12, 13]
def slices_Equal_Lint64_int64.outs0 : List (Nat × List Nat) := [(2, []), (0, [4])]
set_option maxRecDepth 100000 in
theorem slices_Equal_Lint64_int64.L0 [DKc] : LoopOK slices_Equal_Lint64_int64.ctx 26 slices_Equal_Lint64_int64.c0 0 slices_Equal_Lint64_int64.keep0 slices_Equal_Lint64_int64.outs0 := by
  refine loop_ok (n := slices_Equal_Lint64_int64.a0) slices_Equal_Lint64_int64.ok (by kernel_rfl) (loops_ok (l := []) (by kernel_rfl) ?_) slices_Equal_Lint64_int64.r0 ?_ ?_ (fun vs h K hh => hh)
  · exact trivial
  · intro K vs h hh
    unfold slices_Equal_Lint64_int64.r0 at hh
    split at hh
    · exact hh
    · exact hh
  · intro K m vs h hh
    unfold slices_Equal_Lint64_int64.r0 at hh
    split at hh
    · exact cast (by kernel_rfl) hh
    · exact hh.elim
set_option maxRecDepth 100000 in
theorem slices_Equal_Lint64_int64.eq (a1 : Option Addr) (a1l : Nat) (a1c : Nat) (a2 : Option Addr) (a2l : Nat) (a2c : Nat) (h : Heap) (K : Bool → Heap → Prop) : evF slices_Equal_Lint64_int64.ctx Tryd.f16 slices_Equal_Lint64_int64.ann [(.slice a1 a1l a1c), (.slice a2 a2l a2c)] h (slices_Equal_Lint64_int64.ret K) = slices_Equal_Lint64_int64 a1 a1l a1c a2 a2l a2c h K := by kernel_rfl
set_option maxRecDepth 100000 in
theorem slices_Equal_Lint64_int64.calls [DKc] {a1 : Option Addr} {a1l : Nat} {a1c : Nat} {a2 : Option Addr} {a2l : Nat} {a2c : Nat} {h : Heap} {K : Bool → Heap → Prop} (hh : slices_Equal_Lint64_int64 a1 a1l a1c a2 a2l a2c h K) (w : World) (hw : w.heap = h) :
    (callFunc 16 #[(.slice a1 a1l a1c), (.slice a2 a2l a2c)]).run Tryd.prog w = .ok (.enter 16 #[(.slice a1 a1l a1c), (.slice a2 a2l a2c)]) w ∧ Calls Tryd.prog 16 #[(.slice a1 a1l a1c), (.slice a2 a2l a2c)] w fun e w' => ∃ v, e = .returned v ∧ Out w w' ∧ slices_Equal_Lint64_int64.ret K v w'.heap := by
  rw [← slices_Equal_Lint64_int64.eq] at hh
  exact fn_calls (args := [(.slice a1 a1l a1c), (.slice a2 a2l a2c)]) (c := slices_Equal_Lint64_int64.code) slices_Equal_Lint64_int64.ok Tryd.func16 (by kernel_rfl) (by kernel_rfl) (by kernel_rfl) (by kernel_rfl) (loops_ok (l := [(slices_Equal_Lint64_int64.c0, none, 0, slices_Equal_Lint64_int64.keep0, slices_Equal_Lint64_int64.outs0)]) (by kernel_rfl) ⟨slices_Equal_Lint64_int64.L0, trivial⟩) hh w hw

/-! ### slices.Equal[[]int,int]: function 17 -/
def slices_Equal_Lint_int.b0 (K0 : Bool → Heap → Prop) (K2 : Heap → Prop) (cont : (Option Addr) → Nat → Nat → (Option Addr) → Nat → Nat → Int → Int → Heap → Prop) (c0_1001 : Option Addr) (c0_1002 : Nat) (c0_1003 : Nat) (c1_1004 : Option Addr) (c1_1005 : Nat) (c1_1006 : Nat) (c12_1007 : Int) (v13_1008 : Int) (h1009 : Heap) : Prop :=
  (iteB (decide (v13_1008 < c12_1007)) (((chkP c0_1001 fun a1010 => (0 ≤ v13_1008 ∧ v13_1008 < (c0_1002 : Int)) ∧ ∃ (x1011 : Int), cell h1009 (a1010.add (v13_1008.toNat * 1)) = some (.int .i64 x1011) ∧ chkP c1_1004 fun a1012 => (0 ≤ v13_1008 ∧ v13_1008 < (c1_1005 : Int)) ∧ ∃ (x1013 : Int), cell h1009 (a1012.add (v13_1008.toNat * 1)) = some (.int .i64 x1013) ∧ (iteB (x1011 != x1013) (K0 false h1009) (((cont c0_1001 c0_1002 c0_1003 c1_1004 c1_1005 c1_1006 c12_1007 (IntKind.i64.wrap (v13_1008 + 1)) h1009))))))) (K2 h1009))
def slices_Equal_Lint_int.l0 (K0 : Bool → Heap → Prop) (K2 : Heap → Prop) : Nat → (Option Addr) → Nat → Nat → (Option Addr) → Nat → Nat → Int → Int → Heap → Prop
  | 0, _, _, _, _, _, _, _, _, _ => False
  | m + 1, c0_1001, c0_1002, c0_1003, c1_1004, c1_1005, c1_1006, c12_1007, v13_1008, h => slices_Equal_Lint_int.b0 K0 K2 (slices_Equal_Lint_int.l0 K0 K2 m) c0_1001 c0_1002 c0_1003 c1_1004 c1_1005 c1_1006 c12_1007 v13_1008 h
def slices_Equal_Lint_int (a1 : Option Addr) (a1l : Nat) (a1c : Nat) (a2 : Option Addr) (a2l : Nat) (a2c : Nat) (h : Heap) (K : Bool → Heap → Prop) : Prop :=
  ((iteB ((a1l : Int) != (a2l : Int)) (K false h) (((∃ m6, slices_Equal_Lint_int.l0 (fun z3 h4 => K z3 h4) (fun h5 => (K true h5)) m6 a1 a1l a1c a2 a2l a2c (a1l : Int) 0 h)))))
def slices_Equal_Lint_int.ret (K : Bool → Heap → Prop) (v : Value) (h : Heap) : Prop := match v with
  | (.bool r7) => K r7 h
  | _ => False
theorem slices_Equal_Lint_int.ret_elim {K : Bool → Heap → Prop} {K' : Value → Heap → Prop} {v : Value} {h : Heap} (hk : ∀ r7 h, K r7 h → K' (.bool r7) h) (hh : slices_Equal_Lint_int.ret K v h) : K' v h := by
  unfold slices_Equal_Lint_int.ret at hh
  split at hh
  · exact hk _ _ hh
  · exact hh.elim
def slices_Equal_Lint_int.r0 (K : Nat → List Value → Heap → Prop) (m : Nat) (vs : List Value) (h : Heap) : Prop := match vs with
  | [(.slice c0_1001 c0_1002 c0_1003), (.slice c1_1004 c1_1005 c1_1006), (.int .i64 c12_1007), (.int .i64 v13_1008)] => slices_Equal_Lint_int.l0 (fun z8 h' => K 0 [(.bool z8)] h') (fun h' => K 2 [] h') m c0_1001 c0_1002 c0_1003 c1_1004 c1_1005 c1_1006 c12_1007 v13_1008 h
  | _ => False
def slices_Equal_Lint_int.loop (i : Nat) (vs : List Value) (h : Heap) (K : Nat → List Value → Heap → Prop) : Prop := match i with
  | 0 => ∃ m, slices_Equal_Lint_int.r0 K m vs h
  | _ => False
noncomputable def slices_Equal_Lint_int.ctx : Ctx := { P := Tryd.prog, call := fun _ _ _ _ => False, qcall := fun _ _ _ _ => False, quiet := fun f => Nat.beq f 2000025, loop := slices_Equal_Lint_int.loop }
theorem slices_Equal_Lint_int.ok [DKc] : slices_Equal_Lint_int.ctx.OK where
  mixed := by kernel_rfl
  mono := fun hh _ => hh.elim
  call := fun hh => hh.elim
  qmono := fun hh _ => hh.elim
  qval := fun hh => hh.elim
  qcall := fun hh => hh.elim
noncomputable def slices_Equal_Lint_int.code : Code := (Tryd.f17.body).getD .skip
def slices_Equal_Lint_int.ann : Ann := (.two .auto (.two .auto (.two (.two .auto (.two (.loop 0 [0, 1, 12, 13] [(2, []), (0, [4])] (.two .auto (.two .auto (.two (.two (.two .auto (.two (.reg [0, 0, 3, 7, 0, 0, 48, 112, 255] (.take 0 (.take 1 (.take 2 (.take 3 (.take 4 (.take 5 (.take 6 (.take 7 (.take 8 .done)))))))))) .auto)) .auto) .auto)))) .auto)) .auto)))
noncomputable def slices_Equal_Lint_int.c0 : Code := sub slices_Equal_Lint_int.code [1, 1, 0, 1, 0, 0]
def slices_Equal_Lint_int.a0 : Ann := (.two .auto (.two .auto (.two (.two (.two .auto (.two (.reg [0, 0, 3, 7, 0, 0, 48, 112, 255] (.take 0 (.take 1 (.take 2 (.take 3 (.take 4 (.take 5 (.take 6 (.take 7 (.take 8 .done)))))))))) .auto)) .auto) .auto)))
def slices_Equal_Lint_int.keep0 : List Nat := [0, 1, 12, 13]
def slices_Equal_Lint_int.outs0 : List (Nat × List Nat) := [(2, []), (0, [4])]
set_option maxRecDepth 100000 in
theorem slices_Equal_Lint_int.L0 [DKc] : LoopOK slices_Equal_Lint_int.ctx 26 slices_Equal_Lint_int.c0 0 slices_Equal_Lint_int.keep0 slices_Equal_Lint_int.outs0 := by
  refine loop_ok (n := slices_Equal_Lint_int.a0) slices_Equal_Lint_int.ok (by kernel_rfl) (loops_ok (l := []) (by kernel_rfl) ?_) slices_Equal_Lint_int.r0 ?_ ?_ (fun vs h K hh => hh)
  · exact trivial
  · intro K vs h hh
    unfold slices_Equal_Lint_int.r0 at hh
    split at hh
    · exact hh
    · exact hh
  · intro K m vs h hh
    unfold slices_Equal_Lint_int.r0 at hh
    split at hh
    · exact cast (by kernel_rfl) hh
    · exact hh.elim
set_option maxRecDepth 100000 in
theorem slices_Equal_Lint_int.eq (a1 : Option Addr) (a1l : Nat) (a1c : Nat) (a2 : Option Addr) (a2l : Nat) (a2c : Nat) (h : Heap) (K : Bool → Heap → Prop) : evF slices_Equal_Lint_int.ctx Tryd.f17 slices_Equal_Lint_int.ann [(.slice a1 a1l a1c), (.slice a2 a2l a2c)] h (slices_Equal_Lint_int.ret K) = slices_Equal_Lint_int a1 a1l a1c a2 a2l a2c h K := by kernel_rfl
set_option maxRecDepth 100000 in
theorem slices_Equal_Lint_int.calls [DKc] {a1 : Option Addr} {a1l : Nat} {a1c : Nat} {a2 : Option Addr} {a2l : Nat} {a2c : Nat} {h : Heap} {K : Bool → Heap → Prop} (hh : slices_Equal_Lint_int a1 a1l a1c a2 a2l a2c h K) (w : World) (hw : w.heap = h) :
    (callFunc 17 #[(.slice a1 a1l a1c), (.slice a2 a2l a2c)]).run Tryd.prog w = .ok (.enter 17 #[(.slice a1 a1l a1c), (.slice a2 a2l a2c)]) w ∧ Calls Tryd.prog 17 #[(.slice a1 a1l a1c), (.slice a2 a2l a2c)] w fun e w' => ∃ v, e = .returned v ∧ Out w w' ∧ slices_Equal_Lint_int.ret K v w'.heap := by
  rw [← slices_Equal_Lint_int.eq] at hh
  exact fn_calls (args := [(.slice a1 a1l a1c), (.slice a2 a2l a2c)]) (c := slices_Equal_Lint_int.code) slices_Equal_Lint_int.ok Tryd.func17 (by kernel_rfl) (by kernel_rfl) (by kernel_rfl) (by kernel_rfl) (loops_ok (l := [(slices_Equal_Lint_int.c0, none, 0, slices_Equal_Lint_int.keep0, slices_Equal_Lint_int.outs0)]) (by kernel_rfl) ⟨slices_Equal_Lint_int.L0, trivial⟩) hh w hw

/-! ### slices.Equal[[]byte,byte]: function 18 -/
def slices_Equal_Lbyte_byte.b0 (K0 : Bool → Heap → Prop) (K2 : Heap → Prop) (cont : (Option Addr) → Nat → Nat → (Option Addr) → Nat → Nat → Int → Int → Heap → Prop) (c0_1001 : Option Addr) (c0_1002 : Nat) (c0_1003 : Nat) (c1_1004 : Option Addr) (c1_1005 : Nat) (c1_1006 : Nat) (c12_1007 : Int) (v13_1008 : Int) (h1009 : Heap) : Prop :=
  (iteB (decide (v13_1008 < c12_1007)) (((chkP c0_1001 fun a1010 => (0 ≤ v13_1008 ∧ v13_1008 < (c0_1002 : Int)) ∧ ∃ (x1011 : Int), cell h1009 (a1010.add (v13_1008.toNat * 1)) = some (.int .u8 x1011) ∧ chkP c1_1004 fun a1012 => (0 ≤ v13_1008 ∧ v13_1008 < (c1_1005 : Int)) ∧ ∃ (x1013 : Int), cell h1009 (a1012.add (v13_1008.toNat * 1)) = some (.int .u8 x1013) ∧ (iteB (x1011 != x1013) (K0 false h1009) (((cont c0_1001 c0_1002 c0_1003 c1_1004 c1_1005 c1_1006 c12_1007 (IntKind.i64.wrap (v13_1008 + 1)) h1009))))))) (K2 h1009))
def slices_Equal_Lbyte_byte.l0 (K0 : Bool → Heap → Prop) (K2 : Heap → Prop) : Nat → (Option Addr) → Nat → Nat → (Option Addr) → Nat → Nat → Int → Int → Heap → Prop
  | 0, _, _, _, _, _, _, _, _, _ => False
  | m + 1, c0_1001, c0_1002, c0_1003, c1_1004, c1_1005, c1_1006, c12_1007, v13_1008, h => slices_Equal_Lbyte_byte.b0 K0 K2 (slices_Equal_Lbyte_byte.l0 K0 K2 m) c0_1001 c0_1002 c0_1003 c1_1004 c1_1005 c1_1006 c12_1007 v13_1008 h
def slices_Equal_Lbyte_byte (a1 : Option Addr) (a1l : Nat) (a1c : Nat) (a2 : Option Addr) (a2l : Nat) (a2c : Nat) (h : Heap) (K : Bool → Heap → Prop) : Prop :=
  ((iteB ((a1l : Int) != (a2l : Int)) (K false h) (((∃ m6, slices_Equal_Lbyte_byte.l0 (fun z3 h4 => K z3 h4) (fun h5 => (K true h5)) m6 a1 a1l a1c a2 a2l a2c (a1l : Int) 0 h)))))
def slices_Equal_Lbyte_byte.ret (K : Bool → Heap → Prop) (v : Value) (h : Heap) : Prop := match v with
  | (.bool r7) => K r7 h
  | _ => False
theorem slices_Equal_Lbyte_byte.ret_elim {K : Bool → Heap → Prop} {K' : Value → Heap → Prop} {v : Value} {h : Heap} (hk : ∀ r7 h, K r7 h → K' (.bool r7) h) (hh : slices_Equal_Lbyte_byte.ret K v h) : K' v h := by
  unfold slices_Equal_Lbyte_byte.ret at hh
  split at hh
  · exact hk _ _ hh
  · exact hh.elim
def slices_Equal_Lbyte_byte.r0 (K : Nat → List Value → Heap → Prop) (m : Nat) (vs : List Value) (h : Heap) : Prop := match vs with
  | [(.slice c0_1001 c0_1002 c0_1003), (.slice c1_1004 c1_1005 c1_1006), (.int .i64 c12_1007), (.int .i64 v13_1008)] => slices_Equal_Lbyte_byte.l0 (fun z8 h' => K 0 [(.bool z8)] h') (fun h' => K 2 [] h') m c0_1001 c0_1002 c0_1003 c1_1004 c1_1005 c1_1006 c12_1007 v13_1008 h
  | _ => False
def slices_Equal_Lbyte_byte.loop (i : Nat) (vs : List Value) (h : Heap) (K : Nat → List Value → Heap → Prop) : Prop := match i with
  | 0 => ∃ m, slices_Equal_Lbyte_byte.r0 K m vs h
  | _ => False
noncomputable def slices_Equal_Lbyte_byte.ctx : Ctx := { P := Tryd.prog, call := fun _ _ _ _ => False, qcall := fun _ _ _ _ => False, quiet := fun f => Nat.beq f 2000025, loop := slices_Equal_Lbyte_byte.loop }
theorem slices_Equal_Lbyte_byte.ok [DKc] : slices_Equal_Lbyte_byte.ctx.OK where
  mixed := by kernel_rfl
  mono := fun hh _ => hh.elim
  call := fun hh => hh.elim
  qmono := fun hh _ => hh.elim
  qval := fun hh => hh.elim
  qcall := fun hh => hh.elim
noncomputable def slices_Equal_Lbyte_byte.code : Code := (Tryd.f18.body).getD .skip
def slices_Equal_Lbyte_byte.ann : Ann := (.two .auto (.two .auto (.two (.two .auto (.two (.loop 0 [0, 1, 12, 13] [(2, []), (0, [4])] (.two .auto (.two .auto (.two (.two (.two .auto (.two (.reg [0, 0, 3, 7, 0, 0, 48, 112, 255] (.take 0 (.take 1 (.take 2 (.take 3 (.take 4 (.take 5 (.take 6 (.take 7 (.take 8 .done)))))))))) .auto)) .auto) .auto)))) .auto)) .auto)))
noncomputable def slices_Equal_Lbyte_byte.c0 : Code := sub slices_Equal_Lbyte_byte.code [1, 1, 0, 1, 0, 0]
def slices_Equal_Lbyte_byte.a0 : Ann := (.two .auto (.two .auto (.two (.two (.two .auto (.two (.reg [0, 0, 3, 7, 0, 0, 48, 112, 255] (.take 0 (.take 1 (.take 2 (.take 3 (.take 4 (.take 5 (.take 6 (.take 7 (.take 8 .done)))))))))) .auto)) .auto) .auto)))
def slices_Equal_Lbyte_byte.keep0 : List Nat := [0, 1, 12, 13]
def slices_Equal_Lbyte_byte.outs0 : List (Nat × List Nat) := [(2, []), (0, [4])]
set_option maxRecDepth 100000 in
theorem slices_Equal_Lbyte_byte.L0 [DKc] : LoopOK slices_Equal_Lbyte_byte.ctx 26 slices_Equal_Lbyte_byte.c0 0 slices_Equal_Lbyte_byte.keep0 slices_Equal_Lbyte_byte.outs0 := by
  refine loop_ok (n := slices_Equal_Lbyte_byte.a0) slices_Equal_Lbyte_byte.ok (by kernel_rfl) (loops_ok (l := []) (by kernel_rfl) ?_) slices_Equal_Lbyte_byte.r0 ?_ ?_ (fun vs h K hh => hh)
  · exact trivial
  · intro K vs h hh
    unfold slices_Equal_Lbyte_byte.r0 at hh
    split at hh
    · exact hh
    · exact hh
  · intro K m vs h hh
    unfold slices_Equal_Lbyte_byte.r0 at hh
    split at hh
    · exact cast (by kernel_rfl) hh
    · exact hh.elim
set_option maxRecDepth 100000 in
theorem slices_Equal_Lbyte_byte.eq (a1 : Option Addr) (a1l : Nat) (a1c : Nat) (a2 : Option Addr) (a2l : Nat) (a2c : Nat) (h : Heap) (K : Bool → Heap → Prop) : evF slices_Equal_Lbyte_byte.ctx Tryd.f18 slices_Equal_Lbyte_byte.ann [(.slice a1 a1l a1c), (.slice a2 a2l a2c)] h (slices_Equal_Lbyte_byte.ret K) = slices_Equal_Lbyte_byte a1 a1l a1c a2 a2l a2c h K := by kernel_rfl
set_option maxRecDepth 100000 in
theorem slices_Equal_Lbyte_byte.calls [DKc] {a1 : Option Addr} {a1l : Nat} {a1c : Nat} {a2 : Option Addr} {a2l : Nat} {a2c : Nat} {h : Heap} {K : Bool → Heap → Prop} (hh : slices_Equal_Lbyte_byte a1 a1l a1c a2 a2l a2c h K) (w : World) (hw : w.heap = h) :
    (callFunc 18 #[(.slice a1 a1l a1c), (.slice a2 a2l a2c)]).run Tryd.prog w = .ok (.enter 18 #[(.slice a1 a1l a1c), (.slice a2 a2l a2c)]) w ∧ Calls Tryd.prog 18 #[(.slice a1 a1l a1c), (.slice a2 a2l a2c)] w fun e w' => ∃ v, e = .returned v ∧ Out w w' ∧ slices_Equal_Lbyte_byte.ret K v w'.heap := by
  rw [← slices_Equal_Lbyte_byte.eq] at hh
  exact fn_calls (args := [(.slice a1 a1l a1c), (.slice a2 a2l a2c)]) (c := slices_Equal_Lbyte_byte.code) slices_Equal_Lbyte_byte.ok Tryd.func18 (by kernel_rfl) (by kernel_rfl) (by kernel_rfl) (by kernel_rfl) (loops_ok (l := [(slices_Equal_Lbyte_byte.c0, none, 0, slices_Equal_Lbyte_byte.keep0, slices_Equal_Lbyte_byte.outs0)]) (by kernel_rfl) ⟨slices_Equal_Lbyte_byte.L0, trivial⟩) hh w hw

/-! ### strait/answer.Same: function 7 -/
def answer_Same (a1 : Int) (a2 : Option Addr) (a2l : Nat) (a2c : Nat) (a3 : Option Addr) (a3l : Nat) (a3c : Nat) (a4 : Option Addr) (a4l : Nat) (a4c : Nat) (a5 : Int) (a6 : Option Addr) (a6l : Nat) (a6c : Nat) (a7 : Option Addr) (a7l : Nat) (a7c : Nat) (a8 : Option Addr) (a8l : Nat) (a8c : Nat) (h : Heap) (K : Bool → Heap → Prop) : Prop :=
  newP h (.cells #[(.int .i64 a1), (.slice a2 a2l a2c), (.slice a3 a3l a3c), (.slice a4 a4l a4c)] 27) fun a9 h10 => newP h10 (.cells #[(.int .i64 a5), (.slice a6 a6l a6c), (.slice a7 a7l a7c), (.slice a8 a8l a8c)] 27) fun a11 h12 => (∃ (x13 : Int), cell h12 a9 = some (.int .i64 x13) ∧ ∃ (x14 : Int), cell h12 a11 = some (.int .i64 x14) ∧ iteB (x13 == x14) (∃ (x15 : Option Addr) (x15l : Nat) (x15c : Nat), cell h12 (a9.add 1) = some (.slice x15 x15l x15c) ∧ ∃ (x16 : Option Addr) (x16l : Nat) (x16c : Nat), cell h12 (a11.add 1) = some (.slice x16 x16l x16c) ∧ qcallP1 h12 (slices_Equal_Lint64_int64 x15 x15l x15c x16 x16l x16c h12) fun x17 => iteB x17 (∃ (x18 : Option Addr) (x18l : Nat) (x18c : Nat), cell h12 (a9.add 2) = some (.slice x18 x18l x18c) ∧ ∃ (x19 : Option Addr) (x19l : Nat) (x19c : Nat), cell h12 (a11.add 2) = some (.slice x19 x19l x19c) ∧ qcallP1 h12 (slices_Equal_Lint_int x18 x18l x18c x19 x19l x19c h12) fun x20 => iteB x20 (∃ (x21 : Option Addr) (x21l : Nat) (x21c : Nat), cell h12 (a9.add 3) = some (.slice x21 x21l x21c) ∧ ∃ (x22 : Option Addr) (x22l : Nat) (x22c : Nat), cell h12 (a11.add 3) = some (.slice x22 x22l x22c) ∧ qcallP1 h12 (slices_Equal_Lbyte_byte x21 x21l x21c x22 x22l x22c h12) fun x23 => K x23 h12) (K false h12)) (K false h12)) (K false h12))
def answer_Same.ret (K : Bool → Heap → Prop) (v : Value) (h : Heap) : Prop := match v with
  | (.bool r25) => K r25 h
  | _ => False
theorem answer_Same.ret_elim {K : Bool → Heap → Prop} {K' : Value → Heap → Prop} {v : Value} {h : Heap} (hk : ∀ r25 h, K r25 h → K' (.bool r25) h) (hh : answer_Same.ret K v h) : K' v h := by
  unfold answer_Same.ret at hh
  split at hh
  · exact hk _ _ hh
  · exact hh.elim
def answer_Same.qcall (f : FuncId) (vs : List Value) (h : Heap) (K : Value → Prop) : Prop := match f, vs with
  | 16, [(.slice a1 a1l a1c), (.slice a2 a2l a2c)] => qcallP1 h (slices_Equal_Lint64_int64 a1 a1l a1c a2 a2l a2c h) fun r7 => K (.bool r7)
  | 17, [(.slice a1 a1l a1c), (.slice a2 a2l a2c)] => qcallP1 h (slices_Equal_Lint_int a1 a1l a1c a2 a2l a2c h) fun r7 => K (.bool r7)
  | 18, [(.slice a1 a1l a1c), (.slice a2 a2l a2c)] => qcallP1 h (slices_Equal_Lbyte_byte a1 a1l a1c a2 a2l a2c h) fun r7 => K (.bool r7)
  | _, _ => False
noncomputable def answer_Same.ctx : Ctx := { P := Tryd.prog, call := fun _ _ _ _ => False, qcall := answer_Same.qcall, quiet := fun f => Nat.beq f 16 || Nat.beq f 17 || Nat.beq f 18 || Nat.beq f 2000025, loop := fun _ _ _ _ => False }
theorem answer_Same.ok [DKc] : answer_Same.ctx.OK where
  mixed := by kernel_rfl
  mono := fun hh _ => hh.elim
  call := fun hh => hh.elim
  qmono := by
    intro f args h K K' hh hk
    change answer_Same.qcall f args h K at hh
    change answer_Same.qcall f args h K'
    unfold answer_Same.qcall at hh ⊢
    split at hh
    · obtain ⟨x0, h1, h2⟩ := hh
      exact ⟨x0, h1, hk _ h2⟩
    · obtain ⟨x0, h1, h2⟩ := hh
      exact ⟨x0, h1, hk _ h2⟩
    · obtain ⟨x0, h1, h2⟩ := hh
      exact ⟨x0, h1, hk _ h2⟩
    · exact hh.elim
  qval := by
    intro f args h K hh
    change answer_Same.qcall f args h K at hh
    suffices H : ∃ v, K v ∧ answer_Same.qcall f args h (· = v) from H
    unfold answer_Same.qcall at hh ⊢
    split at hh
    · obtain ⟨x0, h1, h2⟩ := hh
      exact ⟨_, h2, x0, h1, rfl⟩
    · obtain ⟨x0, h1, h2⟩ := hh
      exact ⟨_, h2, x0, h1, rfl⟩
    · obtain ⟨x0, h1, h2⟩ := hh
      exact ⟨_, h2, x0, h1, rfl⟩
    · exact hh.elim
  qcall := by
    intro f args h v hh w hw
    change answer_Same.qcall f args h (· = v) at hh
    unfold answer_Same.qcall at hh
    split at hh
    · obtain ⟨x0, h1, h2⟩ := hh
      obtain ⟨g1, g2⟩ := slices_Equal_Lint64_int64.calls h1 w hw
      refine .inl ⟨g1, g2.mono fun e w' ⟨u, he, ho, hr⟩ => ?_⟩
      have hq := slices_Equal_Lint64_int64.ret_elim (K' := fun u h' => u = v ∧ h' = h) (fun _ h' hr => by obtain ⟨rfl, rfl⟩ := hr; exact ⟨h2, rfl⟩) hr
      exact ⟨hq.1 ▸ he, ho, hq.2⟩
    · obtain ⟨x0, h1, h2⟩ := hh
      obtain ⟨g1, g2⟩ := slices_Equal_Lint_int.calls h1 w hw
      refine .inl ⟨g1, g2.mono fun e w' ⟨u, he, ho, hr⟩ => ?_⟩
      have hq := slices_Equal_Lint_int.ret_elim (K' := fun u h' => u = v ∧ h' = h) (fun _ h' hr => by obtain ⟨rfl, rfl⟩ := hr; exact ⟨h2, rfl⟩) hr
      exact ⟨hq.1 ▸ he, ho, hq.2⟩
    · obtain ⟨x0, h1, h2⟩ := hh
      obtain ⟨g1, g2⟩ := slices_Equal_Lbyte_byte.calls h1 w hw
      refine .inl ⟨g1, g2.mono fun e w' ⟨u, he, ho, hr⟩ => ?_⟩
      have hq := slices_Equal_Lbyte_byte.ret_elim (K' := fun u h' => u = v ∧ h' = h) (fun _ h' hr => by obtain ⟨rfl, rfl⟩ := hr; exact ⟨h2, rfl⟩) hr
      exact ⟨hq.1 ▸ he, ho, hq.2⟩
    · exact hh.elim
noncomputable def answer_Same.code : Code := (Tryd.f7.body).getD .skip
def answer_Same.ann : Ann := .auto
set_option maxRecDepth 100000 in
theorem answer_Same.eq (a1 : Int) (a2 : Option Addr) (a2l : Nat) (a2c : Nat) (a3 : Option Addr) (a3l : Nat) (a3c : Nat) (a4 : Option Addr) (a4l : Nat) (a4c : Nat) (a5 : Int) (a6 : Option Addr) (a6l : Nat) (a6c : Nat) (a7 : Option Addr) (a7l : Nat) (a7c : Nat) (a8 : Option Addr) (a8l : Nat) (a8c : Nat) (h : Heap) (K : Bool → Heap → Prop) : evF answer_Same.ctx Tryd.f7 answer_Same.ann [(.agg #[(.int .i64 a1), (.slice a2 a2l a2c), (.slice a3 a3l a3c), (.slice a4 a4l a4c)]), (.agg #[(.int .i64 a5), (.slice a6 a6l a6c), (.slice a7 a7l a7c), (.slice a8 a8l a8c)])] h (answer_Same.ret K) = answer_Same a1 a2 a2l a2c a3 a3l a3c a4 a4l a4c a5 a6 a6l a6c a7 a7l a7c a8 a8l a8c h K := by kernel_rfl
set_option maxRecDepth 100000 in
theorem answer_Same.calls [DKc] {a1 : Int} {a2 : Option Addr} {a2l : Nat} {a2c : Nat} {a3 : Option Addr} {a3l : Nat} {a3c : Nat} {a4 : Option Addr} {a4l : Nat} {a4c : Nat} {a5 : Int} {a6 : Option Addr} {a6l : Nat} {a6c : Nat} {a7 : Option Addr} {a7l : Nat} {a7c : Nat} {a8 : Option Addr} {a8l : Nat} {a8c : Nat} {h : Heap} {K : Bool → Heap → Prop} (hh : answer_Same a1 a2 a2l a2c a3 a3l a3c a4 a4l a4c a5 a6 a6l a6c a7 a7l a7c a8 a8l a8c h K) (w : World) (hw : w.heap = h) :
    (callFunc 7 #[(.agg #[(.int .i64 a1), (.slice a2 a2l a2c), (.slice a3 a3l a3c), (.slice a4 a4l a4c)]), (.agg #[(.int .i64 a5), (.slice a6 a6l a6c), (.slice a7 a7l a7c), (.slice a8 a8l a8c)])]).run Tryd.prog w = .ok (.enter 7 #[(.agg #[(.int .i64 a1), (.slice a2 a2l a2c), (.slice a3 a3l a3c), (.slice a4 a4l a4c)]), (.agg #[(.int .i64 a5), (.slice a6 a6l a6c), (.slice a7 a7l a7c), (.slice a8 a8l a8c)])]) w ∧ Calls Tryd.prog 7 #[(.agg #[(.int .i64 a1), (.slice a2 a2l a2c), (.slice a3 a3l a3c), (.slice a4 a4l a4c)]), (.agg #[(.int .i64 a5), (.slice a6 a6l a6c), (.slice a7 a7l a7c), (.slice a8 a8l a8c)])] w fun e w' => ∃ v, e = .returned v ∧ Out w w' ∧ answer_Same.ret K v w'.heap := by
  rw [← answer_Same.eq] at hh
  exact fn_calls (args := [(.agg #[(.int .i64 a1), (.slice a2 a2l a2c), (.slice a3 a3l a3c), (.slice a4 a4l a4c)]), (.agg #[(.int .i64 a5), (.slice a6 a6l a6c), (.slice a7 a7l a7c), (.slice a8 a8l a8c)])]) (c := answer_Same.code) answer_Same.ok Tryd.func7 (by kernel_rfl) (by kernel_rfl) (by kernel_rfl) (by kernel_rfl) (loops_ok (l := []) (by kernel_rfl) trivial) hh w hw

/-! ### strait/straitref04.Same: function 19 -/
def straitref04_Same.b0 (K0 : Bool → Heap → Prop) (K2 : Heap → Prop) (cont : (Option Addr) → Nat → Nat → (Option Addr) → Nat → Nat → Int → Heap → Prop) (c0_1001 : Option Addr) (c0_1002 : Nat) (c0_1003 : Nat) (c1_1004 : Option Addr) (c1_1005 : Nat) (c1_1006 : Nat) (v5_1007 : Int) (h1008 : Heap) : Prop :=
  (iteB (decide (v5_1007 < (c0_1002 : Int))) ((chkP c0_1001 fun a1009 => (0 ≤ v5_1007 ∧ v5_1007 < (c0_1002 : Int)) ∧ ∃ (x1010 : Int), cell h1008 (a1009.add (v5_1007.toNat * 1)) = some (.int .i64 x1010) ∧ chkP c1_1004 fun a1011 => (0 ≤ v5_1007 ∧ v5_1007 < (c1_1005 : Int)) ∧ ∃ (x1012 : Int), cell h1008 (a1011.add (v5_1007.toNat * 1)) = some (.int .i64 x1012) ∧ (iteB (x1010 != x1012) (K0 false h1008) (((cont c0_1001 c0_1002 c0_1003 c1_1004 c1_1005 c1_1006 (IntKind.i64.wrap (v5_1007 + 1)) h1008)))))) (K2 h1008))
def straitref04_Same.l0 (K0 : Bool → Heap → Prop) (K2 : Heap → Prop) : Nat → (Option Addr) → Nat → Nat → (Option Addr) → Nat → Nat → Int → Heap → Prop
  | 0, _, _, _, _, _, _, _, _ => False
  | m + 1, c0_1001, c0_1002, c0_1003, c1_1004, c1_1005, c1_1006, v5_1007, h => straitref04_Same.b0 K0 K2 (straitref04_Same.l0 K0 K2 m) c0_1001 c0_1002 c0_1003 c1_1004 c1_1005 c1_1006 v5_1007 h
def straitref04_Same (a1 : Option Addr) (a1l : Nat) (a1c : Nat) (a2 : Option Addr) (a2l : Nat) (a2c : Nat) (h : Heap) (K : Bool → Heap → Prop) : Prop :=
  ((iteB ((a1l : Int) != (a2l : Int)) (K false h) (((∃ m6, straitref04_Same.l0 (fun z3 h4 => K z3 h4) (fun h5 => (K true h5)) m6 a1 a1l a1c a2 a2l a2c 0 h)))))
def straitref04_Same.ret (K : Bool → Heap → Prop) (v : Value) (h : Heap) : Prop := match v with
  | (.bool r7) => K r7 h
  | _ => False
theorem straitref04_Same.ret_elim {K : Bool → Heap → Prop} {K' : Value → Heap → Prop} {v : Value} {h : Heap} (hk : ∀ r7 h, K r7 h → K' (.bool r7) h) (hh : straitref04_Same.ret K v h) : K' v h := by
  unfold straitref04_Same.ret at hh
  split at hh
  · exact hk _ _ hh
  · exact hh.elim
def straitref04_Same.r0 (K : Nat → List Value → Heap → Prop) (m : Nat) (vs : List Value) (h : Heap) : Prop := match vs with
  | [(.slice c0_1001 c0_1002 c0_1003), (.slice c1_1004 c1_1005 c1_1006), (.int .i64 v5_1007)] => straitref04_Same.l0 (fun z8 h' => K 0 [(.bool z8)] h') (fun h' => K 2 [] h') m c0_1001 c0_1002 c0_1003 c1_1004 c1_1005 c1_1006 v5_1007 h
  | _ => False
def straitref04_Same.loop (i : Nat) (vs : List Value) (h : Heap) (K : Nat → List Value → Heap → Prop) : Prop := match i with
  | 0 => ∃ m, straitref04_Same.r0 K m vs h
  | _ => False
noncomputable def straitref04_Same.ctx : Ctx := { P := Tryd.prog, call := fun _ _ _ _ => False, qcall := fun _ _ _ _ => False, quiet := fun f => Nat.beq f 2000025, loop := straitref04_Same.loop }
theorem straitref04_Same.ok [DKc] : straitref04_Same.ctx.OK where
  mixed := by kernel_rfl
  mono := fun hh _ => hh.elim
  call := fun hh => hh.elim
  qmono := fun hh _ => hh.elim
  qval := fun hh => hh.elim
  qcall := fun hh => hh.elim
noncomputable def straitref04_Same.code : Code := (Tryd.f19.body).getD .skip
def straitref04_Same.ann : Ann := (.two .auto (.two .auto (.two (.two .auto (.two (.loop 0 [0, 1, 5] [(2, []), (0, [4])] (.two .auto (.two (.two (.two (.reg [0, 0, 3, 7, 0, 0, 48, 112, 255] (.take 0 (.take 1 (.take 2 (.take 3 (.take 4 (.take 5 (.take 6 (.take 7 (.take 8 .done)))))))))) .auto) .auto) .auto))) .auto)) .auto)))
noncomputable def straitref04_Same.c0 : Code := sub straitref04_Same.code [1, 1, 0, 1, 0, 0]
def straitref04_Same.a0 : Ann := (.two .auto (.two (.two (.two (.reg [0, 0, 3, 7, 0, 0, 48, 112, 255] (.take 0 (.take 1 (.take 2 (.take 3 (.take 4 (.take 5 (.take 6 (.take 7 (.take 8 .done)))))))))) .auto) .auto) .auto))
def straitref04_Same.keep0 : List Nat := [0, 1, 5]
def straitref04_Same.outs0 : List (Nat × List Nat) := [(2, []), (0, [4])]
set_option maxRecDepth 100000 in
theorem straitref04_Same.L0 [DKc] : LoopOK straitref04_Same.ctx 26 straitref04_Same.c0 0 straitref04_Same.keep0 straitref04_Same.outs0 := by
  refine loop_ok (n := straitref04_Same.a0) straitref04_Same.ok (by kernel_rfl) (loops_ok (l := []) (by kernel_rfl) ?_) straitref04_Same.r0 ?_ ?_ (fun vs h K hh => hh)
  · exact trivial
  · intro K vs h hh
    unfold straitref04_Same.r0 at hh
    split at hh
    · exact hh
    · exact hh
  · intro K m vs h hh
    unfold straitref04_Same.r0 at hh
    split at hh
    · exact cast (by kernel_rfl) hh
    · exact hh.elim
set_option maxRecDepth 100000 in
theorem straitref04_Same.eq (a1 : Option Addr) (a1l : Nat) (a1c : Nat) (a2 : Option Addr) (a2l : Nat) (a2c : Nat) (h : Heap) (K : Bool → Heap → Prop) : evF straitref04_Same.ctx Tryd.f19 straitref04_Same.ann [(.slice a1 a1l a1c), (.slice a2 a2l a2c)] h (straitref04_Same.ret K) = straitref04_Same a1 a1l a1c a2 a2l a2c h K := by kernel_rfl
set_option maxRecDepth 100000 in
theorem straitref04_Same.calls [DKc] {a1 : Option Addr} {a1l : Nat} {a1c : Nat} {a2 : Option Addr} {a2l : Nat} {a2c : Nat} {h : Heap} {K : Bool → Heap → Prop} (hh : straitref04_Same a1 a1l a1c a2 a2l a2c h K) (w : World) (hw : w.heap = h) :
    (callFunc 19 #[(.slice a1 a1l a1c), (.slice a2 a2l a2c)]).run Tryd.prog w = .ok (.enter 19 #[(.slice a1 a1l a1c), (.slice a2 a2l a2c)]) w ∧ Calls Tryd.prog 19 #[(.slice a1 a1l a1c), (.slice a2 a2l a2c)] w fun e w' => ∃ v, e = .returned v ∧ Out w w' ∧ straitref04_Same.ret K v w'.heap := by
  rw [← straitref04_Same.eq] at hh
  exact fn_calls (args := [(.slice a1 a1l a1c), (.slice a2 a2l a2c)]) (c := straitref04_Same.code) straitref04_Same.ok Tryd.func19 (by kernel_rfl) (by kernel_rfl) (by kernel_rfl) (by kernel_rfl) (loops_ok (l := [(straitref04_Same.c0, none, 0, straitref04_Same.keep0, straitref04_Same.outs0)]) (by kernel_rfl) ⟨straitref04_Same.L0, trivial⟩) hh w hw

/-! ### strait/straitref09.Ints: function 20 -/
def straitref09_Ints.b0 (K0 : Bool → Heap → Prop) (K2 : Heap → Prop) (cont : (Option Addr) → Nat → Nat → (Option Addr) → Nat → Nat → Int → Heap → Prop) (c0_1001 : Option Addr) (c0_1002 : Nat) (c0_1003 : Nat) (c1_1004 : Option Addr) (c1_1005 : Nat) (c1_1006 : Nat) (v5_1007 : Int) (h1008 : Heap) : Prop :=
  (iteB (decide (v5_1007 < (c0_1002 : Int))) ((chkP c0_1001 fun a1009 => (0 ≤ v5_1007 ∧ v5_1007 < (c0_1002 : Int)) ∧ ∃ (x1010 : Int), cell h1008 (a1009.add (v5_1007.toNat * 1)) = some (.int .i64 x1010) ∧ chkP c1_1004 fun a1011 => (0 ≤ v5_1007 ∧ v5_1007 < (c1_1005 : Int)) ∧ ∃ (x1012 : Int), cell h1008 (a1011.add (v5_1007.toNat * 1)) = some (.int .i64 x1012) ∧ (iteB (x1010 != x1012) (K0 false h1008) (((cont c0_1001 c0_1002 c0_1003 c1_1004 c1_1005 c1_1006 (IntKind.i64.wrap (v5_1007 + 1)) h1008)))))) (K2 h1008))
def straitref09_Ints.l0 (K0 : Bool → Heap → Prop) (K2 : Heap → Prop) : Nat → (Option Addr) → Nat → Nat → (Option Addr) → Nat → Nat → Int → Heap → Prop
  | 0, _, _, _, _, _, _, _, _ => False
  | m + 1, c0_1001, c0_1002, c0_1003, c1_1004, c1_1005, c1_1006, v5_1007, h => straitref09_Ints.b0 K0 K2 (straitref09_Ints.l0 K0 K2 m) c0_1001 c0_1002 c0_1003 c1_1004 c1_1005 c1_1006 v5_1007 h
def straitref09_Ints (a1 : Option Addr) (a1l : Nat) (a1c : Nat) (a2 : Option Addr) (a2l : Nat) (a2c : Nat) (h : Heap) (K : Bool → Heap → Prop) : Prop :=
  ((iteB ((a1l : Int) != (a2l : Int)) (K false h) (((∃ m6, straitref09_Ints.l0 (fun z3 h4 => K z3 h4) (fun h5 => (K true h5)) m6 a1 a1l a1c a2 a2l a2c 0 h)))))
def straitref09_Ints.ret (K : Bool → Heap → Prop) (v : Value) (h : Heap) : Prop := match v with
  | (.bool r7) => K r7 h
  | _ => False
theorem straitref09_Ints.ret_elim {K : Bool → Heap → Prop} {K' : Value → Heap → Prop} {v : Value} {h : Heap} (hk : ∀ r7 h, K r7 h → K' (.bool r7) h) (hh : straitref09_Ints.ret K v h) : K' v h := by
  unfold straitref09_Ints.ret at hh
  split at hh
  · exact hk _ _ hh
  · exact hh.elim
def straitref09_Ints.r0 (K : Nat → List Value → Heap → Prop) (m : Nat) (vs : List Value) (h : Heap) : Prop := match vs with
  | [(.slice c0_1001 c0_1002 c0_1003), (.slice c1_1004 c1_1005 c1_1006), (.int .i64 v5_1007)] => straitref09_Ints.l0 (fun z8 h' => K 0 [(.bool z8)] h') (fun h' => K 2 [] h') m c0_1001 c0_1002 c0_1003 c1_1004 c1_1005 c1_1006 v5_1007 h
  | _ => False
def straitref09_Ints.loop (i : Nat) (vs : List Value) (h : Heap) (K : Nat → List Value → Heap → Prop) : Prop := match i with
  | 0 => ∃ m, straitref09_Ints.r0 K m vs h
  | _ => False
noncomputable def straitref09_Ints.ctx : Ctx := { P := Tryd.prog, call := fun _ _ _ _ => False, qcall := fun _ _ _ _ => False, quiet := fun f => Nat.beq f 2000025, loop := straitref09_Ints.loop }
theorem straitref09_Ints.ok [DKc] : straitref09_Ints.ctx.OK where
  mixed := by kernel_rfl
  mono := fun hh _ => hh.elim
  call := fun hh => hh.elim
  qmono := fun hh _ => hh.elim
  qval := fun hh => hh.elim
  qcall := fun hh => hh.elim
noncomputable def straitref09_Ints.code : Code := (Tryd.f20.body).getD .skip
def straitref09_Ints.ann : Ann := (.two .auto (.two .auto (.two (.two .auto (.two (.loop 0 [0, 1, 5] [(2, []), (0, [4])] (.two .auto (.two (.two (.two (.reg [0, 0, 3, 7, 0, 0, 48, 112, 255] (.take 0 (.take 1 (.take 2 (.take 3 (.take 4 (.take 5 (.take 6 (.take 7 (.take 8 .done)))))))))) .auto) .auto) .auto))) .auto)) .auto)))
noncomputable def straitref09_Ints.c0 : Code := sub straitref09_Ints.code [1, 1, 0, 1, 0, 0]
def straitref09_Ints.a0 : Ann := (.two .auto (.two (.two (.two (.reg [0, 0, 3, 7, 0, 0, 48, 112, 255] (.take 0 (.take 1 (.take 2 (.take 3 (.take 4 (.take 5 (.take 6 (.take 7 (.take 8 .done)))))))))) .auto) .auto) .auto))
def straitref09_Ints.keep0 : List Nat := [0, 1, 5]
def straitref09_Ints.outs0 : List (Nat × List Nat) := [(2, []), (0, [4])]
set_option maxRecDepth 100000 in
theorem straitref09_Ints.L0 [DKc] : LoopOK straitref09_Ints.ctx 26 straitref09_Ints.c0 0 straitref09_Ints.keep0 straitref09_Ints.outs0 := by
  refine loop_ok (n := straitref09_Ints.a0) straitref09_Ints.ok (by kernel_rfl) (loops_ok (l := []) (by kernel_rfl) ?_) straitref09_Ints.r0 ?_ ?_ (fun vs h K hh => hh)
  · exact trivial
  · intro K vs h hh
    unfold straitref09_Ints.r0 at hh
    split at hh
    · exact hh
    · exact hh
  · intro K m vs h hh
    unfold straitref09_Ints.r0 at hh
    split at hh
    · exact cast (by kernel_rfl) hh
    · exact hh.elim
set_option maxRecDepth 100000 in
theorem straitref09_Ints.eq (a1 : Option Addr) (a1l : Nat) (a1c : Nat) (a2 : Option Addr) (a2l : Nat) (a2c : Nat) (h : Heap) (K : Bool → Heap → Prop) : evF straitref09_Ints.ctx Tryd.f20 straitref09_Ints.ann [(.slice a1 a1l a1c), (.slice a2 a2l a2c)] h (straitref09_Ints.ret K) = straitref09_Ints a1 a1l a1c a2 a2l a2c h K := by kernel_rfl
set_option maxRecDepth 100000 in
theorem straitref09_Ints.calls [DKc] {a1 : Option Addr} {a1l : Nat} {a1c : Nat} {a2 : Option Addr} {a2l : Nat} {a2c : Nat} {h : Heap} {K : Bool → Heap → Prop} (hh : straitref09_Ints a1 a1l a1c a2 a2l a2c h K) (w : World) (hw : w.heap = h) :
    (callFunc 20 #[(.slice a1 a1l a1c), (.slice a2 a2l a2c)]).run Tryd.prog w = .ok (.enter 20 #[(.slice a1 a1l a1c), (.slice a2 a2l a2c)]) w ∧ Calls Tryd.prog 20 #[(.slice a1 a1l a1c), (.slice a2 a2l a2c)] w fun e w' => ∃ v, e = .returned v ∧ Out w w' ∧ straitref09_Ints.ret K v w'.heap := by
  rw [← straitref09_Ints.eq] at hh
  exact fn_calls (args := [(.slice a1 a1l a1c), (.slice a2 a2l a2c)]) (c := straitref09_Ints.code) straitref09_Ints.ok Tryd.func20 (by kernel_rfl) (by kernel_rfl) (by kernel_rfl) (by kernel_rfl) (loops_ok (l := [(straitref09_Ints.c0, none, 0, straitref09_Ints.keep0, straitref09_Ints.outs0)]) (by kernel_rfl) ⟨straitref09_Ints.L0, trivial⟩) hh w hw

/-! ### strait/straitref49.Same: function 8 -/
def straitref49_Same (a1 : Int) (a2 : Option Addr) (a2l : Nat) (a2c : Nat) (a3 : Option Addr) (a3l : Nat) (a3c : Nat) (a4 : Option Addr) (a4l : Nat) (a4c : Nat) (a5 : Int) (a6 : Option Addr) (a6l : Nat) (a6c : Nat) (a7 : Option Addr) (a7l : Nat) (a7c : Nat) (a8 : Option Addr) (a8l : Nat) (a8c : Nat) (h : Heap) (K : Bool → Heap → Prop) : Prop :=
  newP h (.cells #[(.int .i64 a1), (.slice a2 a2l a2c), (.slice a3 a3l a3c), (.slice a4 a4l a4c)] 29) fun a9 h10 => newP h10 (.cells #[(.int .i64 a5), (.slice a6 a6l a6c), (.slice a7 a7l a7c), (.slice a8 a8l a8c)] 29) fun a11 h12 => (∃ (x13 : Int), cell h12 a9 = some (.int .i64 x13) ∧ ∃ (x14 : Int), cell h12 a11 = some (.int .i64 x14) ∧ iteB (x13 == x14) (∃ (x15 : Option Addr) (x15l : Nat) (x15c : Nat), cell h12 (a9.add 1) = some (.slice x15 x15l x15c) ∧ ∃ (x16 : Option Addr) (x16l : Nat) (x16c : Nat), cell h12 (a11.add 1) = some (.slice x16 x16l x16c) ∧ qcallP1 h12 (straitref04_Same x15 x15l x15c x16 x16l x16c h12) fun x17 => iteB x17 (∃ (x18 : Option Addr) (x18l : Nat) (x18c : Nat), cell h12 (a9.add 2) = some (.slice x18 x18l x18c) ∧ ∃ (x19 : Option Addr) (x19l : Nat) (x19c : Nat), cell h12 (a11.add 2) = some (.slice x19 x19l x19c) ∧ qcallP1 h12 (straitref09_Ints x18 x18l x18c x19 x19l x19c h12) fun x20 => iteB x20 (∃ (x21 : Option Addr) (x21l : Nat) (x21c : Nat), cell h12 (a9.add 3) = some (.slice x21 x21l x21c) ∧ ∃ l22 : List UInt8, bytesAt h12 x21 x21l l22 ∧ ∃ (x23 : Option Addr) (x23l : Nat) (x23c : Nat), cell h12 (a11.add 3) = some (.slice x23 x23l x23c) ∧ ∃ l24 : List UInt8, bytesAt h12 x23 x23l l24 ∧ (K ((⟨l22.toArray⟩ : ByteArray).toList == (⟨l24.toArray⟩ : ByteArray).toList) h12)) (K false h12)) (K false h12)) (K false h12))
def straitref49_Same.ret (K : Bool → Heap → Prop) (v : Value) (h : Heap) : Prop := match v with
  | (.bool r26) => K r26 h
  | _ => False
theorem straitref49_Same.ret_elim {K : Bool → Heap → Prop} {K' : Value → Heap → Prop} {v : Value} {h : Heap} (hk : ∀ r26 h, K r26 h → K' (.bool r26) h) (hh : straitref49_Same.ret K v h) : K' v h := by
  unfold straitref49_Same.ret at hh
  split at hh
  · exact hk _ _ hh
  · exact hh.elim
def straitref49_Same.qcall (f : FuncId) (vs : List Value) (h : Heap) (K : Value → Prop) : Prop := match f, vs with
  | 19, [(.slice a1 a1l a1c), (.slice a2 a2l a2c)] => qcallP1 h (straitref04_Same a1 a1l a1c a2 a2l a2c h) fun r7 => K (.bool r7)
  | 20, [(.slice a1 a1l a1c), (.slice a2 a2l a2c)] => qcallP1 h (straitref09_Ints a1 a1l a1c a2 a2l a2c h) fun r7 => K (.bool r7)
  | _, _ => False
noncomputable def straitref49_Same.ctx : Ctx := { P := Tryd.prog, call := fun _ _ _ _ => False, qcall := straitref49_Same.qcall, quiet := fun f => Nat.beq f 19 || Nat.beq f 20 || Nat.beq f 2000025, loop := fun _ _ _ _ => False }
theorem straitref49_Same.ok [DKc] : straitref49_Same.ctx.OK where
  mixed := by kernel_rfl
  mono := fun hh _ => hh.elim
  call := fun hh => hh.elim
  qmono := by
    intro f args h K K' hh hk
    change straitref49_Same.qcall f args h K at hh
    change straitref49_Same.qcall f args h K'
    unfold straitref49_Same.qcall at hh ⊢
    split at hh
    · obtain ⟨x0, h1, h2⟩ := hh
      exact ⟨x0, h1, hk _ h2⟩
    · obtain ⟨x0, h1, h2⟩ := hh
      exact ⟨x0, h1, hk _ h2⟩
    · exact hh.elim
  qval := by
    intro f args h K hh
    change straitref49_Same.qcall f args h K at hh
    suffices H : ∃ v, K v ∧ straitref49_Same.qcall f args h (· = v) from H
    unfold straitref49_Same.qcall at hh ⊢
    split at hh
    · obtain ⟨x0, h1, h2⟩ := hh
      exact ⟨_, h2, x0, h1, rfl⟩
    · obtain ⟨x0, h1, h2⟩ := hh
      exact ⟨_, h2, x0, h1, rfl⟩
    · exact hh.elim
  qcall := by
    intro f args h v hh w hw
    change straitref49_Same.qcall f args h (· = v) at hh
    unfold straitref49_Same.qcall at hh
    split at hh
    · obtain ⟨x0, h1, h2⟩ := hh
      obtain ⟨g1, g2⟩ := straitref04_Same.calls h1 w hw
      refine .inl ⟨g1, g2.mono fun e w' ⟨u, he, ho, hr⟩ => ?_⟩
      have hq := straitref04_Same.ret_elim (K' := fun u h' => u = v ∧ h' = h) (fun _ h' hr => by obtain ⟨rfl, rfl⟩ := hr; exact ⟨h2, rfl⟩) hr
      exact ⟨hq.1 ▸ he, ho, hq.2⟩
    · obtain ⟨x0, h1, h2⟩ := hh
      obtain ⟨g1, g2⟩ := straitref09_Ints.calls h1 w hw
      refine .inl ⟨g1, g2.mono fun e w' ⟨u, he, ho, hr⟩ => ?_⟩
      have hq := straitref09_Ints.ret_elim (K' := fun u h' => u = v ∧ h' = h) (fun _ h' hr => by obtain ⟨rfl, rfl⟩ := hr; exact ⟨h2, rfl⟩) hr
      exact ⟨hq.1 ▸ he, ho, hq.2⟩
    · exact hh.elim
noncomputable def straitref49_Same.code : Code := (Tryd.f8.body).getD .skip
def straitref49_Same.ann : Ann := .auto
set_option maxRecDepth 100000 in
theorem straitref49_Same.eq (a1 : Int) (a2 : Option Addr) (a2l : Nat) (a2c : Nat) (a3 : Option Addr) (a3l : Nat) (a3c : Nat) (a4 : Option Addr) (a4l : Nat) (a4c : Nat) (a5 : Int) (a6 : Option Addr) (a6l : Nat) (a6c : Nat) (a7 : Option Addr) (a7l : Nat) (a7c : Nat) (a8 : Option Addr) (a8l : Nat) (a8c : Nat) (h : Heap) (K : Bool → Heap → Prop) : evF straitref49_Same.ctx Tryd.f8 straitref49_Same.ann [(.agg #[(.int .i64 a1), (.slice a2 a2l a2c), (.slice a3 a3l a3c), (.slice a4 a4l a4c)]), (.agg #[(.int .i64 a5), (.slice a6 a6l a6c), (.slice a7 a7l a7c), (.slice a8 a8l a8c)])] h (straitref49_Same.ret K) = straitref49_Same a1 a2 a2l a2c a3 a3l a3c a4 a4l a4c a5 a6 a6l a6c a7 a7l a7c a8 a8l a8c h K := by kernel_rfl
set_option maxRecDepth 100000 in
theorem straitref49_Same.calls [DKc] {a1 : Int} {a2 : Option Addr} {a2l : Nat} {a2c : Nat} {a3 : Option Addr} {a3l : Nat} {a3c : Nat} {a4 : Option Addr} {a4l : Nat} {a4c : Nat} {a5 : Int} {a6 : Option Addr} {a6l : Nat} {a6c : Nat} {a7 : Option Addr} {a7l : Nat} {a7c : Nat} {a8 : Option Addr} {a8l : Nat} {a8c : Nat} {h : Heap} {K : Bool → Heap → Prop} (hh : straitref49_Same a1 a2 a2l a2c a3 a3l a3c a4 a4l a4c a5 a6 a6l a6c a7 a7l a7c a8 a8l a8c h K) (w : World) (hw : w.heap = h) :
    (callFunc 8 #[(.agg #[(.int .i64 a1), (.slice a2 a2l a2c), (.slice a3 a3l a3c), (.slice a4 a4l a4c)]), (.agg #[(.int .i64 a5), (.slice a6 a6l a6c), (.slice a7 a7l a7c), (.slice a8 a8l a8c)])]).run Tryd.prog w = .ok (.enter 8 #[(.agg #[(.int .i64 a1), (.slice a2 a2l a2c), (.slice a3 a3l a3c), (.slice a4 a4l a4c)]), (.agg #[(.int .i64 a5), (.slice a6 a6l a6c), (.slice a7 a7l a7c), (.slice a8 a8l a8c)])]) w ∧ Calls Tryd.prog 8 #[(.agg #[(.int .i64 a1), (.slice a2 a2l a2c), (.slice a3 a3l a3c), (.slice a4 a4l a4c)]), (.agg #[(.int .i64 a5), (.slice a6 a6l a6c), (.slice a7 a7l a7c), (.slice a8 a8l a8c)])] w fun e w' => ∃ v, e = .returned v ∧ Out w w' ∧ straitref49_Same.ret K v w'.heap := by
  rw [← straitref49_Same.eq] at hh
  exact fn_calls (args := [(.agg #[(.int .i64 a1), (.slice a2 a2l a2c), (.slice a3 a3l a3c), (.slice a4 a4l a4c)]), (.agg #[(.int .i64 a5), (.slice a6 a6l a6c), (.slice a7 a7l a7c), (.slice a8 a8l a8c)])]) (c := straitref49_Same.code) straitref49_Same.ok Tryd.func8 (by kernel_rfl) (by kernel_rfl) (by kernel_rfl) (by kernel_rfl) (loops_ok (l := []) (by kernel_rfl) trivial) hh w hw

/-! ### strait/straitlaw49.AnswerPuts: function 3 -/
section
variable [DKc]
def straitlaw49_AnswerPuts (a1 : Int) (a2 : Option Addr) (a2l : Nat) (a2c : Nat) (a3 : Option Addr) (a3l : Nat) (a3c : Nat) (a4 : Option Addr) (a4l : Nat) (a4c : Nat) (a5 : Int) (a6 : Option Addr) (a6l : Nat) (a6c : Nat) (a7 : Option Addr) (a7l : Nat) (a7c : Nat) (a8 : Option Addr) (a8l : Nat) (a8c : Nat) (h : Heap) (K : Bool → Heap → Prop) : Prop :=
  newP h (.cells #[(.int .i64 a1), (.slice a2 a2l a2c), (.slice a3 a3l a3c), (.slice a4 a4l a4c)] 27) fun a9 h10 => newP h10 (.cells #[(.int .i64 a5), (.slice a6 a6l a6c), (.slice a7 a7l a7c), (.slice a8 a8l a8c)] 27) fun a11 h12 => (let j22 := (fun (y19 : Bool) => iteB y19 (callP1 (straitlaw49_awake h12) fun x20 h21 => K x20 h21) ((let j159 := (fun (y95 : Addr) (y96 : Addr) (h97 : Heap) => ∃ (x98 : Int), cell h97 a9 = some (.int .i64 x98) ∧ ∃ (x99 : Option Addr) (x99l : Nat) (x99c : Nat), cell h97 (a9.add 1) = some (.slice x99 x99l x99c) ∧ ∃ (x100 : Option Addr) (x100l : Nat) (x100c : Nat), cell h97 (a9.add 2) = some (.slice x100 x100l x100c) ∧ ∃ (x101 : Option Addr) (x101l : Nat) (x101c : Nat), cell h97 (a9.add 3) = some (.slice x101 x101l x101c) ∧ ∃ (x102 : Int), cell h97 a9 = some (.int .i64 x102) ∧ ∃ (x103 : Option Addr) (x103l : Nat) (x103c : Nat), cell h97 (a9.add 1) = some (.slice x103 x103l x103c) ∧ ∃ (x104 : Option Addr) (x104l : Nat) (x104c : Nat), cell h97 (a9.add 2) = some (.slice x104 x104l x104c) ∧ ∃ (x105 : Option Addr) (x105l : Nat) (x105c : Nat), cell h97 (a9.add 3) = some (.slice x105 x105l x105c) ∧ callP1 (answer_Print x98 x99 x99l x99c x100 x100l x100c x101 x101l x101c h97) fun x106 h107 => (∃ (x108 : Option Addr) (x108l : Nat) (x108c : Nat), cell h107 (a9.add 3) = some (.slice x108 x108l x108c) ∧ ((.slice x108 x108l x108c) : Value) = (.slice x105 x105l x105c)) ∧ (∃ (x109 : Option Addr) (x109l : Nat) (x109c : Nat), cell h107 (a9.add 2) = some (.slice x109 x109l x109c) ∧ ((.slice x109 x109l x109c) : Value) = (.slice x104 x104l x104c)) ∧ (∃ (x110 : Option Addr) (x110l : Nat) (x110c : Nat), cell h107 (a9.add 1) = some (.slice x110 x110l x110c) ∧ ((.slice x110 x110l x110c) : Value) = (.slice x103 x103l x103c)) ∧ (∃ (x111 : Int), cell h107 a9 = some (.int .i64 x111) ∧ ((.int .i64 x111) : Value) = (.int .i64 x102)) ∧ callP1 (straitref49_Print x102 x103 x103l x103c x104 x104l x104c x105 x105l x105c h107) fun x112 h113 => iteB (x106.toList == x112.toList) (∃ (x114 : Int), cell h113 a9 = some (.int .i64 x114) ∧ ∃ (x115 : Option Addr) (x115l : Nat) (x115c : Nat), cell h113 (a9.add 1) = some (.slice x115 x115l x115c) ∧ ∃ (x116 : Option Addr) (x116l : Nat) (x116c : Nat), cell h113 (a9.add 2) = some (.slice x116 x116l x116c) ∧ ∃ (x117 : Option Addr) (x117l : Nat) (x117c : Nat), cell h113 (a9.add 3) = some (.slice x117 x117l x117c) ∧ ∃ (x118 : Int), cell h113 a11 = some (.int .i64 x118) ∧ ∃ (x119 : Option Addr) (x119l : Nat) (x119c : Nat), cell h113 (a11.add 1) = some (.slice x119 x119l x119c) ∧ ∃ (x120 : Option Addr) (x120l : Nat) (x120c : Nat), cell h113 (a11.add 2) = some (.slice x120 x120l x120c) ∧ ∃ (x121 : Option Addr) (x121l : Nat) (x121c : Nat), cell h113 (a11.add 3) = some (.slice x121 x121l x121c) ∧ ∃ (x122 : Int), cell h113 y95 = some (.int .i64 x122) ∧ ∃ (x123 : Option Addr) (x123l : Nat) (x123c : Nat), cell h113 (y95.add 1) = some (.slice x123 x123l x123c) ∧ ∃ (x124 : Option Addr) (x124l : Nat) (x124c : Nat), cell h113 (y95.add 2) = some (.slice x124 x124l x124c) ∧ ∃ (x125 : Option Addr) (x125l : Nat) (x125c : Nat), cell h113 (y95.add 3) = some (.slice x125 x125l x125c) ∧ ∃ (x126 : Int), cell h113 y96 = some (.int .i64 x126) ∧ ∃ (x127 : Option Addr) (x127l : Nat) (x127c : Nat), cell h113 (y96.add 1) = some (.slice x127 x127l x127c) ∧ ∃ (x128 : Option Addr) (x128l : Nat) (x128c : Nat), cell h113 (y96.add 2) = some (.slice x128 x128l x128c) ∧ ∃ (x129 : Option Addr) (x129l : Nat) (x129c : Nat), cell h113 (y96.add 3) = some (.slice x129 x129l x129c) ∧ callP1 (answer_Same x114 x115 x115l x115c x116 x116l x116c x117 x117l x117c x118 x119 x119l x119c x120 x120l x120c x121 x121l x121c h113) fun x130 h131 => (∃ (x132 : Int), cell h131 y96 = some (.int .i64 x132) ∧ ∃ (x133 : Option Addr) (x133l : Nat) (x133c : Nat), cell h131 (y96.add 1) = some (.slice x133 x133l x133c) ∧ ∃ (x134 : Option Addr) (x134l : Nat) (x134c : Nat), cell h131 (y96.add 2) = some (.slice x134 x134l x134c) ∧ ∃ (x135 : Option Addr) (x135l : Nat) (x135c : Nat), cell h131 (y96.add 3) = some (.slice x135 x135l x135c) ∧ ((.agg #[(.int .i64 x132), (.slice x133 x133l x133c), (.slice x134 x134l x134c), (.slice x135 x135l x135c)]) : Value) = (.agg #[(.int .i64 x126), (.slice x127 x127l x127c), (.slice x128 x128l x128c), (.slice x129 x129l x129c)])) ∧ (∃ (x136 : Int), cell h131 y95 = some (.int .i64 x136) ∧ ∃ (x137 : Option Addr) (x137l : Nat) (x137c : Nat), cell h131 (y95.add 1) = some (.slice x137 x137l x137c) ∧ ∃ (x138 : Option Addr) (x138l : Nat) (x138c : Nat), cell h131 (y95.add 2) = some (.slice x138 x138l x138c) ∧ ∃ (x139 : Option Addr) (x139l : Nat) (x139c : Nat), cell h131 (y95.add 3) = some (.slice x139 x139l x139c) ∧ ((.agg #[(.int .i64 x136), (.slice x137 x137l x137c), (.slice x138 x138l x138c), (.slice x139 x139l x139c)]) : Value) = (.agg #[(.int .i64 x122), (.slice x123 x123l x123c), (.slice x124 x124l x124c), (.slice x125 x125l x125c)])) ∧ callP1 (straitref49_Same x122 x123 x123l x123c x124 x124l x124c x125 x125l x125c x126 x127 x127l x127c x128 x128l x128c x129 x129l x129c h131) fun x140 h141 => iteB (x130 == x140) (∃ (x142 : Int), cell h141 a9 = some (.int .i64 x142) ∧ ∃ (x143 : Option Addr) (x143l : Nat) (x143c : Nat), cell h141 (a9.add 1) = some (.slice x143 x143l x143c) ∧ ∃ (x144 : Int), cell h141 a9 = some (.int .i64 x144) ∧ ∃ (x145 : Option Addr) (x145l : Nat) (x145c : Nat), cell h141 (a9.add 1) = some (.slice x145 x145l x145c) ∧ callP10 (answer_Fail x142 x143 x143l x143c h141) fun x146 x147 x147l x147c x148 x148l x148c x149 x149l x149c h150 => (∃ (x151 : Option Addr) (x151l : Nat) (x151c : Nat), cell h150 (a9.add 1) = some (.slice x151 x151l x151c) ∧ ((.slice x151 x151l x151c) : Value) = (.slice x145 x145l x145c)) ∧ (∃ (x152 : Int), cell h150 a9 = some (.int .i64 x152) ∧ ((.int .i64 x152) : Value) = (.int .i64 x144)) ∧ callP1 (answer_Same x146 x147 x147l x147c x148 x148l x148c x149 x149l x149c x144 x145 x145l x145c none 0 0 none 0 0 h150) fun x153 h154 => iteB x153 (callP1 (straitlaw49_awake h154) fun x155 h156 => K x155 h156) (K false h154)) (True ∧ True ∧ K false h141)) (True ∧ True ∧ True ∧ True ∧ K false h113));
  ∃ (x23 : Int), cell h12 a9 = some (.int .i64 x23) ∧ ∃ (x24 : Option Addr) (x24l : Nat) (x24c : Nat), cell h12 (a9.add 1) = some (.slice x24 x24l x24c) ∧ ∃ (x25 : Option Addr) (x25l : Nat) (x25c : Nat), cell h12 (a9.add 2) = some (.slice x25 x25l x25c) ∧ ∃ (x26 : Option Addr) (x26l : Nat) (x26c : Nat), cell h12 (a9.add 3) = some (.slice x26 x26l x26c) ∧ ∃ (x27 : Int), cell h12 a11 = some (.int .i64 x27) ∧ ∃ (x28 : Option Addr) (x28l : Nat) (x28c : Nat), cell h12 (a11.add 1) = some (.slice x28 x28l x28c) ∧ ∃ (x29 : Option Addr) (x29l : Nat) (x29c : Nat), cell h12 (a11.add 2) = some (.slice x29 x29l x29c) ∧ ∃ (x30 : Option Addr) (x30l : Nat) (x30c : Nat), cell h12 (a11.add 3) = some (.slice x30 x30l x30c) ∧ (newP h12 (.cells #[(.int .i64 0), (.slice none 0 0), (.slice none 0 0), (.slice none 0 0)] 29) fun a31 h32 => (∃ (x33 : Int), cell h32 a11 = some (.int .i64 x33) ∧ ∃ (x34 : Option Addr) (x34l : Nat) (x34c : Nat), cell h32 (a11.add 1) = some (.slice x34 x34l x34c) ∧ ∃ (x35 : Option Addr) (x35l : Nat) (x35c : Nat), cell h32 (a11.add 2) = some (.slice x35 x35l x35c) ∧ ∃ (x36 : Option Addr) (x36l : Nat) (x36c : Nat), cell h32 (a11.add 3) = some (.slice x36 x36l x36c) ∧ ((.agg #[(.int .i64 x33), (.slice x34 x34l x34c), (.slice x35 x35l x35c), (.slice x36 x36l x36c)]) : Value) = (.agg #[(.int .i64 x27), (.slice x28 x28l x28c), (.slice x29 x29l x29c), (.slice x30 x30l x30c)])) ∧ (∃ (x37 : Int), cell h32 a9 = some (.int .i64 x37) ∧ ∃ (x38 : Option Addr) (x38l : Nat) (x38c : Nat), cell h32 (a9.add 1) = some (.slice x38 x38l x38c) ∧ ∃ (x39 : Option Addr) (x39l : Nat) (x39c : Nat), cell h32 (a9.add 2) = some (.slice x39 x39l x39c) ∧ ∃ (x40 : Option Addr) (x40l : Nat) (x40c : Nat), cell h32 (a9.add 3) = some (.slice x40 x40l x40c) ∧ ((.agg #[(.int .i64 x37), (.slice x38 x38l x38c), (.slice x39 x39l x39c), (.slice x40 x40l x40c)]) : Value) = (.agg #[(.int .i64 x23), (.slice x24 x24l x24c), (.slice x25 x25l x25c), (.slice x26 x26l x26c)])) ∧ newP h32 (.cells #[(.int .i64 0), (.slice none 0 0), (.slice none 0 0), (.slice none 0 0)] 29) fun a41 h42 => (∃ (x43 : Int), cell h42 a11 = some (.int .i64 x43) ∧ ∃ (x44 : Option Addr) (x44l : Nat) (x44c : Nat), cell h42 (a11.add 1) = some (.slice x44 x44l x44c) ∧ ∃ (x45 : Option Addr) (x45l : Nat) (x45c : Nat), cell h42 (a11.add 2) = some (.slice x45 x45l x45c) ∧ ∃ (x46 : Option Addr) (x46l : Nat) (x46c : Nat), cell h42 (a11.add 3) = some (.slice x46 x46l x46c) ∧ ((.agg #[(.int .i64 x43), (.slice x44 x44l x44c), (.slice x45 x45l x45c), (.slice x46 x46l x46c)]) : Value) = (.agg #[(.int .i64 x27), (.slice x28 x28l x28c), (.slice x29 x29l x29c), (.slice x30 x30l x30c)])) ∧ (∃ (x47 : Int), cell h42 a9 = some (.int .i64 x47) ∧ ∃ (x48 : Option Addr) (x48l : Nat) (x48c : Nat), cell h42 (a9.add 1) = some (.slice x48 x48l x48c) ∧ ∃ (x49 : Option Addr) (x49l : Nat) (x49c : Nat), cell h42 (a9.add 2) = some (.slice x49 x49l x49c) ∧ ∃ (x50 : Option Addr) (x50l : Nat) (x50c : Nat), cell h42 (a9.add 3) = some (.slice x50 x50l x50c) ∧ ((.agg #[(.int .i64 x47), (.slice x48 x48l x48c), (.slice x49 x49l x49c), (.slice x50 x50l x50c)]) : Value) = (.agg #[(.int .i64 x23), (.slice x24 x24l x24c), (.slice x25 x25l x25c), (.slice x26 x26l x26c)])) ∧ stC h42 a31 (.int .i64 x23) fun h51 => stC h51 (a31.add 1) (.slice x24 x24l x24c) fun h52 => stC h52 (a31.add 2) (.slice x25 x25l x25c) fun h53 => stC h53 (a31.add 3) (.slice x26 x26l x26c) fun h54 => (∃ (x55 : Int), cell h54 a11 = some (.int .i64 x55) ∧ ∃ (x56 : Option Addr) (x56l : Nat) (x56c : Nat), cell h54 (a11.add 1) = some (.slice x56 x56l x56c) ∧ ∃ (x57 : Option Addr) (x57l : Nat) (x57c : Nat), cell h54 (a11.add 2) = some (.slice x57 x57l x57c) ∧ ∃ (x58 : Option Addr) (x58l : Nat) (x58c : Nat), cell h54 (a11.add 3) = some (.slice x58 x58l x58c) ∧ ((.agg #[(.int .i64 x55), (.slice x56 x56l x56c), (.slice x57 x57l x57c), (.slice x58 x58l x58c)]) : Value) = (.agg #[(.int .i64 x27), (.slice x28 x28l x28c), (.slice x29 x29l x29c), (.slice x30 x30l x30c)])) ∧ stC h54 a41 (.int .i64 x27) fun h59 => stC h59 (a41.add 1) (.slice x28 x28l x28c) fun h60 => stC h60 (a41.add 2) (.slice x29 x29l x29c) fun h61 => stC h61 (a41.add 3) (.slice x30 x30l x30c) fun h62 => (j159 a31 a41 h62)) ∧ (newP h12 (.cells #[(.int .i64 0), (.slice none 0 0), (.slice none 0 0), (.slice none 0 0)] 29) fun a63 h64 => (∃ (x65 : Int), cell h64 a11 = some (.int .i64 x65) ∧ ∃ (x66 : Option Addr) (x66l : Nat) (x66c : Nat), cell h64 (a11.add 1) = some (.slice x66 x66l x66c) ∧ ∃ (x67 : Option Addr) (x67l : Nat) (x67c : Nat), cell h64 (a11.add 2) = some (.slice x67 x67l x67c) ∧ ∃ (x68 : Option Addr) (x68l : Nat) (x68c : Nat), cell h64 (a11.add 3) = some (.slice x68 x68l x68c) ∧ ((.agg #[(.int .i64 x65), (.slice x66 x66l x66c), (.slice x67 x67l x67c), (.slice x68 x68l x68c)]) : Value) = (.agg #[(.int .i64 x27), (.slice x28 x28l x28c), (.slice x29 x29l x29c), (.slice x30 x30l x30c)])) ∧ (∃ (x69 : Int), cell h64 a9 = some (.int .i64 x69) ∧ ∃ (x70 : Option Addr) (x70l : Nat) (x70c : Nat), cell h64 (a9.add 1) = some (.slice x70 x70l x70c) ∧ ∃ (x71 : Option Addr) (x71l : Nat) (x71c : Nat), cell h64 (a9.add 2) = some (.slice x71 x71l x71c) ∧ ∃ (x72 : Option Addr) (x72l : Nat) (x72c : Nat), cell h64 (a9.add 3) = some (.slice x72 x72l x72c) ∧ ((.agg #[(.int .i64 x69), (.slice x70 x70l x70c), (.slice x71 x71l x71c), (.slice x72 x72l x72c)]) : Value) = (.agg #[(.int .i64 x23), (.slice x24 x24l x24c), (.slice x25 x25l x25c), (.slice x26 x26l x26c)])) ∧ newP h64 (.cells #[(.int .i64 0), (.slice none 0 0), (.slice none 0 0), (.slice none 0 0)] 29) fun a73 h74 => (∃ (x75 : Int), cell h74 a11 = some (.int .i64 x75) ∧ ∃ (x76 : Option Addr) (x76l : Nat) (x76c : Nat), cell h74 (a11.add 1) = some (.slice x76 x76l x76c) ∧ ∃ (x77 : Option Addr) (x77l : Nat) (x77c : Nat), cell h74 (a11.add 2) = some (.slice x77 x77l x77c) ∧ ∃ (x78 : Option Addr) (x78l : Nat) (x78c : Nat), cell h74 (a11.add 3) = some (.slice x78 x78l x78c) ∧ ((.agg #[(.int .i64 x75), (.slice x76 x76l x76c), (.slice x77 x77l x77c), (.slice x78 x78l x78c)]) : Value) = (.agg #[(.int .i64 x27), (.slice x28 x28l x28c), (.slice x29 x29l x29c), (.slice x30 x30l x30c)])) ∧ (∃ (x79 : Int), cell h74 a9 = some (.int .i64 x79) ∧ ∃ (x80 : Option Addr) (x80l : Nat) (x80c : Nat), cell h74 (a9.add 1) = some (.slice x80 x80l x80c) ∧ ∃ (x81 : Option Addr) (x81l : Nat) (x81c : Nat), cell h74 (a9.add 2) = some (.slice x81 x81l x81c) ∧ ∃ (x82 : Option Addr) (x82l : Nat) (x82c : Nat), cell h74 (a9.add 3) = some (.slice x82 x82l x82c) ∧ ((.agg #[(.int .i64 x79), (.slice x80 x80l x80c), (.slice x81 x81l x81c), (.slice x82 x82l x82c)]) : Value) = (.agg #[(.int .i64 x23), (.slice x24 x24l x24c), (.slice x25 x25l x25c), (.slice x26 x26l x26c)])) ∧ stC h74 a73 (.int .i64 x23) fun h83 => stC h83 (a73.add 1) (.slice x24 x24l x24c) fun h84 => stC h84 (a73.add 2) (.slice x25 x25l x25c) fun h85 => stC h85 (a73.add 3) (.slice x26 x26l x26c) fun h86 => (∃ (x87 : Int), cell h86 a11 = some (.int .i64 x87) ∧ ∃ (x88 : Option Addr) (x88l : Nat) (x88c : Nat), cell h86 (a11.add 1) = some (.slice x88 x88l x88c) ∧ ∃ (x89 : Option Addr) (x89l : Nat) (x89c : Nat), cell h86 (a11.add 2) = some (.slice x89 x89l x89c) ∧ ∃ (x90 : Option Addr) (x90l : Nat) (x90c : Nat), cell h86 (a11.add 3) = some (.slice x90 x90l x90c) ∧ ((.agg #[(.int .i64 x87), (.slice x88 x88l x88c), (.slice x89 x89l x89c), (.slice x90 x90l x90c)]) : Value) = (.agg #[(.int .i64 x27), (.slice x28 x28l x28c), (.slice x29 x29l x29c), (.slice x30 x30l x30c)])) ∧ stC h86 a63 (.int .i64 x27) fun h91 => stC h91 (a63.add 1) (.slice x28 x28l x28c) fun h92 => stC h92 (a63.add 2) (.slice x29 x29l x29c) fun h93 => stC h93 (a63.add 3) (.slice x30 x30l x30c) fun h94 => (j159 a73 a63 h94)))));
  ∃ (x13 : Option Addr) (x13l : Nat) (x13c : Nat), cell h12 (a9.add 1) = some (.slice x13 x13l x13c) ∧ iteB (decide ((x13l : Int) > (100 : Int))) ((j22 true)) (∃ (x14 : Option Addr) (x14l : Nat) (x14c : Nat), cell h12 (a9.add 2) = some (.slice x14 x14l x14c) ∧ iteB (decide ((x14l : Int) > (100 : Int))) ((j22 true)) (∃ (x15 : Option Addr) (x15l : Nat) (x15c : Nat), cell h12 (a9.add 3) = some (.slice x15 x15l x15c) ∧ iteB (decide ((x15l : Int) > (300 : Int))) ((j22 true)) (∃ (x16 : Option Addr) (x16l : Nat) (x16c : Nat), cell h12 (a11.add 1) = some (.slice x16 x16l x16c) ∧ iteB (decide ((x16l : Int) > (100 : Int))) ((j22 true)) (∃ (x17 : Option Addr) (x17l : Nat) (x17c : Nat), cell h12 (a11.add 2) = some (.slice x17 x17l x17c) ∧ iteB (decide ((x17l : Int) > (100 : Int))) ((j22 true)) (∃ (x18 : Option Addr) (x18l : Nat) (x18c : Nat), cell h12 (a11.add 3) = some (.slice x18 x18l x18c) ∧ (j22 (decide ((x18l : Int) > (300 : Int))))))))))
def straitlaw49_AnswerPuts.ret (K : Bool → Heap → Prop) (v : Value) (h : Heap) : Prop := match v with
  | (.bool r160) => K r160 h
  | _ => False
theorem straitlaw49_AnswerPuts.ret_elim {K : Bool → Heap → Prop} {K' : Value → Heap → Prop} {v : Value} {h : Heap} (hk : ∀ r160 h, K r160 h → K' (.bool r160) h) (hh : straitlaw49_AnswerPuts.ret K v h) : K' v h := by
  unfold straitlaw49_AnswerPuts.ret at hh
  split at hh
  · exact hk _ _ hh
  · exact hh.elim
def straitlaw49_AnswerPuts.call (f : FuncId) (vs : List Value) (h : Heap) (K : Value → Heap → Prop) : Prop := match f, vs with
  | 4, [] => callP1 (straitlaw49_awake h) fun r26 h' => K (.bool r26) h'
  | 5, [(.agg ⟨[(.int .i64 a1), (.slice a2 a2l a2c), (.slice a3 a3l a3c), (.slice a4 a4l a4c)]⟩)] => callP1 (answer_Print a1 a2 a2l a2c a3 a3l a3c a4 a4l a4c h) fun r56 h' => K (.string r56) h'
  | 6, [(.int .i64 a1), (.slice a2 a2l a2c), (.slice a3 a3l a3c), (.slice a4 a4l a4c)] => callP1 (straitref49_Print a1 a2 a2l a2c a3 a3l a3c a4 a4l a4c h) fun r20 h' => K (.string r20) h'
  | 7, [(.agg ⟨[(.int .i64 a1), (.slice a2 a2l a2c), (.slice a3 a3l a3c), (.slice a4 a4l a4c)]⟩), (.agg ⟨[(.int .i64 a5), (.slice a6 a6l a6c), (.slice a7 a7l a7c), (.slice a8 a8l a8c)]⟩)] => callP1 (answer_Same a1 a2 a2l a2c a3 a3l a3c a4 a4l a4c a5 a6 a6l a6c a7 a7l a7c a8 a8l a8c h) fun r25 h' => K (.bool r25) h'
  | 8, [(.agg ⟨[(.int .i64 a1), (.slice a2 a2l a2c), (.slice a3 a3l a3c), (.slice a4 a4l a4c)]⟩), (.agg ⟨[(.int .i64 a5), (.slice a6 a6l a6c), (.slice a7 a7l a7c), (.slice a8 a8l a8c)]⟩)] => callP1 (straitref49_Same a1 a2 a2l a2c a3 a3l a3c a4 a4l a4c a5 a6 a6l a6c a7 a7l a7c a8 a8l a8c h) fun r26 h' => K (.bool r26) h'
  | 9, [(.int .i64 a1), (.slice a2 a2l a2c)] => callP10 (answer_Fail a1 a2 a2l a2c h) fun r15 r16 r16l r16c r17 r17l r17c r18 r18l r18c h' => K (.agg #[(.int .i64 r15), (.slice r16 r16l r16c), (.slice r17 r17l r17c), (.slice r18 r18l r18c)]) h'
  | _, _ => False
noncomputable def straitlaw49_AnswerPuts.ctx : Ctx := { P := Tryd.prog, call := straitlaw49_AnswerPuts.call, qcall := fun _ _ _ _ => False, quiet := fun f => Nat.beq f 2000025, loop := fun _ _ _ _ => False }
theorem straitlaw49_AnswerPuts.ok : straitlaw49_AnswerPuts.ctx.OK where
  mixed := by kernel_rfl
  mono := by
    intro f args h K K' hh hk
    change straitlaw49_AnswerPuts.call f args h K at hh
    change straitlaw49_AnswerPuts.call f args h K'
    unfold straitlaw49_AnswerPuts.call at hh ⊢
    split at hh
    · obtain ⟨R, h1, h2⟩ := hh
      exact ⟨R, h1, fun _ x hr => hk _ _ (h2 _ x hr)⟩
    · obtain ⟨R, h1, h2⟩ := hh
      exact ⟨R, h1, fun _ x hr => hk _ _ (h2 _ x hr)⟩
    · obtain ⟨R, h1, h2⟩ := hh
      exact ⟨R, h1, fun _ x hr => hk _ _ (h2 _ x hr)⟩
    · obtain ⟨R, h1, h2⟩ := hh
      exact ⟨R, h1, fun _ x hr => hk _ _ (h2 _ x hr)⟩
    · obtain ⟨R, h1, h2⟩ := hh
      exact ⟨R, h1, fun _ x hr => hk _ _ (h2 _ x hr)⟩
    · obtain ⟨R, h1, h2⟩ := hh
      exact ⟨R, h1, fun _ _ _ _ _ _ _ _ _ _ x hr => hk _ _ (h2 _ _ _ _ _ _ _ _ _ _ x hr)⟩
    · exact hh.elim
  call := by
    intro f args h K hh w hw
    change straitlaw49_AnswerPuts.call f args h K at hh
    unfold straitlaw49_AnswerPuts.call at hh
    split at hh
    · obtain ⟨R, h1, h2⟩ := hh
      obtain ⟨g1, g2⟩ := straitlaw49_awake.calls h1 w hw
      exact ⟨g1, g2.mono fun e w' ⟨v, he, ho, hr⟩ => ⟨v, he, ho, straitlaw49_awake.ret_elim h2 hr⟩⟩
    · obtain ⟨R, h1, h2⟩ := hh
      obtain ⟨g1, g2⟩ := answer_Print.calls h1 w hw
      exact ⟨g1, g2.mono fun e w' ⟨v, he, ho, hr⟩ => ⟨v, he, ho, answer_Print.ret_elim h2 hr⟩⟩
    · obtain ⟨R, h1, h2⟩ := hh
      obtain ⟨g1, g2⟩ := straitref49_Print.calls h1 w hw
      exact ⟨g1, g2.mono fun e w' ⟨v, he, ho, hr⟩ => ⟨v, he, ho, straitref49_Print.ret_elim h2 hr⟩⟩
    · obtain ⟨R, h1, h2⟩ := hh
      obtain ⟨g1, g2⟩ := answer_Same.calls h1 w hw
      exact ⟨g1, g2.mono fun e w' ⟨v, he, ho, hr⟩ => ⟨v, he, ho, answer_Same.ret_elim h2 hr⟩⟩
    · obtain ⟨R, h1, h2⟩ := hh
      obtain ⟨g1, g2⟩ := straitref49_Same.calls h1 w hw
      exact ⟨g1, g2.mono fun e w' ⟨v, he, ho, hr⟩ => ⟨v, he, ho, straitref49_Same.ret_elim h2 hr⟩⟩
    · obtain ⟨R, h1, h2⟩ := hh
      obtain ⟨g1, g2⟩ := answer_Fail.calls h1 w hw
      exact ⟨g1, g2.mono fun e w' ⟨v, he, ho, hr⟩ => ⟨v, he, ho, answer_Fail.ret_elim h2 hr⟩⟩
    · exact hh.elim
  qmono := fun hh _ => hh.elim
  qval := fun hh => hh.elim
  qcall := fun hh => hh.elim
noncomputable def straitlaw49_AnswerPuts.code : Code := (Tryd.f3.body).getD .skip
def straitlaw49_AnswerPuts.ann : Ann := (.two .auto (.two .auto (.two (.reg [0, 0, 0, 0, 13, 31] (.early 0 (.early 1 (.alt 2 (.alt 3 (.alt 4 (.alt 5 .done .noalt) .noalt) .noalt) (.alt 3 (.alt 2 (.alt 4 (.alt 5 .done .noalt) .noalt) .noalt) .noalt))))) (.two (.reg [0, 1, 0, 4, 0, 16, 0, 64, 0, 256, 1023, 2047, 4095, 8191, 8191, 32767, 8191, 8191, 262143, 524287, 1048575, 2097151, 4194303, 8388607, 4194303, 20971519, 67108863, 4194303, 138412031, 4194303, 541065215, 2017460223, 4294967295, 8589934591, 17179869183, 34359738367, 68719476735, 137438953471] (.take 0 (.take 2 (.take 4 (.take 6 (.take 8 (.early 3 (.early 5 (.early 7 (.early 9 (.alt 1 (.alt 10 (.take 11 (.take 12 (.take 13 (.take 14 (.early 16 (.early 17 (.alt 15 (.alt 18 (.take 19 (.take 20 (.take 21 (.take 22 (.take 23 (.take 24 (.take 25 (.take 27 (.take 29 (.early 28 (.early 30 (.take 31 (.alt 26 (.alt 32 (.take 33 (.take 34 (.alt 35 (.take 36 (.take 37 .done)) .noalt))) .noalt) .noalt))))))))))))) .noalt) .noalt))))))) .noalt) .noalt))))))))))) .auto))))
set_option maxRecDepth 100000 in
theorem straitlaw49_AnswerPuts.eq (a1 : Int) (a2 : Option Addr) (a2l : Nat) (a2c : Nat) (a3 : Option Addr) (a3l : Nat) (a3c : Nat) (a4 : Option Addr) (a4l : Nat) (a4c : Nat) (a5 : Int) (a6 : Option Addr) (a6l : Nat) (a6c : Nat) (a7 : Option Addr) (a7l : Nat) (a7c : Nat) (a8 : Option Addr) (a8l : Nat) (a8c : Nat) (h : Heap) (K : Bool → Heap → Prop) : evF straitlaw49_AnswerPuts.ctx Tryd.f3 straitlaw49_AnswerPuts.ann [(.agg #[(.int .i64 a1), (.slice a2 a2l a2c), (.slice a3 a3l a3c), (.slice a4 a4l a4c)]), (.agg #[(.int .i64 a5), (.slice a6 a6l a6c), (.slice a7 a7l a7c), (.slice a8 a8l a8c)])] h (straitlaw49_AnswerPuts.ret K) = straitlaw49_AnswerPuts a1 a2 a2l a2c a3 a3l a3c a4 a4l a4c a5 a6 a6l a6c a7 a7l a7c a8 a8l a8c h K := by kernel_rfl
set_option maxRecDepth 100000 in
theorem straitlaw49_AnswerPuts.calls {a1 : Int} {a2 : Option Addr} {a2l : Nat} {a2c : Nat} {a3 : Option Addr} {a3l : Nat} {a3c : Nat} {a4 : Option Addr} {a4l : Nat} {a4c : Nat} {a5 : Int} {a6 : Option Addr} {a6l : Nat} {a6c : Nat} {a7 : Option Addr} {a7l : Nat} {a7c : Nat} {a8 : Option Addr} {a8l : Nat} {a8c : Nat} {h : Heap} {K : Bool → Heap → Prop} (hh : straitlaw49_AnswerPuts a1 a2 a2l a2c a3 a3l a3c a4 a4l a4c a5 a6 a6l a6c a7 a7l a7c a8 a8l a8c h K) (w : World) (hw : w.heap = h) :
    (callFunc 3 #[(.agg #[(.int .i64 a1), (.slice a2 a2l a2c), (.slice a3 a3l a3c), (.slice a4 a4l a4c)]), (.agg #[(.int .i64 a5), (.slice a6 a6l a6c), (.slice a7 a7l a7c), (.slice a8 a8l a8c)])]).run Tryd.prog w = .ok (.enter 3 #[(.agg #[(.int .i64 a1), (.slice a2 a2l a2c), (.slice a3 a3l a3c), (.slice a4 a4l a4c)]), (.agg #[(.int .i64 a5), (.slice a6 a6l a6c), (.slice a7 a7l a7c), (.slice a8 a8l a8c)])]) w ∧ Calls Tryd.prog 3 #[(.agg #[(.int .i64 a1), (.slice a2 a2l a2c), (.slice a3 a3l a3c), (.slice a4 a4l a4c)]), (.agg #[(.int .i64 a5), (.slice a6 a6l a6c), (.slice a7 a7l a7c), (.slice a8 a8l a8c)])] w fun e w' => ∃ v, e = .returned v ∧ Out w w' ∧ straitlaw49_AnswerPuts.ret K v w'.heap := by
  rw [← straitlaw49_AnswerPuts.eq] at hh
  exact fn_calls (args := [(.agg #[(.int .i64 a1), (.slice a2 a2l a2c), (.slice a3 a3l a3c), (.slice a4 a4l a4c)]), (.agg #[(.int .i64 a5), (.slice a6 a6l a6c), (.slice a7 a7l a7c), (.slice a8 a8l a8c)])]) (c := straitlaw49_AnswerPuts.code) straitlaw49_AnswerPuts.ok Tryd.func3 (by kernel_rfl) (by kernel_rfl) (by kernel_rfl) (by kernel_rfl) (loops_ok (l := []) (by kernel_rfl) trivial) hh w hw
end

end Go.Proofs.YtmejnpadgbdhaaaDoor
