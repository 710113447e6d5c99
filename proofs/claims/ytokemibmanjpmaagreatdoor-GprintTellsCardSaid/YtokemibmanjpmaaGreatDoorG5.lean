/- WRITTEN BY A PROGRAM OF THIS SESSION (gen.py): what each function asks of memory, and that the model's run comes to it. -/
import Derived.Test.YtokemibmanjpmaaGreatDoorProg
import Derived.Test.YtokemibmanjpmaaGreatDoorFw8
import Derived.Test.YtokemibmanjpmaaGreatDoorG4
namespace Go.Proofs.YtokemibmanjpmaaGreatDoor
open Go.Hp
set_option linter.unusedVariables false
set_option linter.unusedSimpArgs false
set_option linter.unusedSectionVars false

/-! ### strait/straitref04.Int: function 115 -/
def straitref04_Int.b0 (K0 : Heap → Prop) (K3 : Int → Heap → Prop) (cont : Int → Addr → Addr → Int → Int → Heap → Prop) (c0_1001 : Int) (c2_1002 : Addr) (c3_1003 : Addr) (v4_1004 : Int) (v5_1005 : Int) (h1006 : Heap) : Prop :=
  ∃ (x1007 : Int), cell h1006 (c3_1003.add 1) = some (.int .i64 x1007) ∧ iteB (decide (v5_1005 < x1007)) (∃ (x1008 : Int), cell h1006 c3_1003 = some (.int .u64 x1008) ∧ (iteB (decide (x1008 > (0 : Int))) (((iteB (decide (v4_1004 ≥ (9223372036854775808 : Int))) (stC h1006 c2_1002 (.int .i64 0) fun h1014 => stC h1014 (c2_1002.add 1) (.int .i64 10) fun h1015 => K0 h1015) ((((cont c0_1001 c2_1002 c3_1003 (IntKind.u64.wrap (v4_1004 * 2)) (IntKind.i64.wrap (v5_1005 + 1)) h1006))))))) (K3 v4_1004 h1006))) (K3 v4_1004 h1006)
def straitref04_Int.l0 (K0 : Heap → Prop) (K3 : Int → Heap → Prop) : Nat → Int → Addr → Addr → Int → Int → Heap → Prop
  | 0, _, _, _, _, _, _ => False
  | m + 1, c0_1001, c2_1002, c3_1003, v4_1004, v5_1005, h => straitref04_Int.b0 K0 K3 (straitref04_Int.l0 K0 K3 m) c0_1001 c2_1002 c3_1003 v4_1004 v5_1005 h
def straitref04_Int (a1 : Int) (h : Heap) (K : Int → Int → Heap → Prop) : Prop :=
  newP h (.cells #[(.int .i64 0), (.int .i64 0)] 81) fun a2 h3 => (qcallP1 h3 (straitref02_Kind a1 h3) fun x4 => ((iteB (x4 == (0 : Int)) (stC h3 a2 (.int .i64 0) fun h5 => stC h5 (a2.add 1) (.int .i64 11) fun h6 => (∃ (x7 : Int), cell h6 a2 = some (.int .i64 x7) ∧ ∃ (x8 : Int), cell h6 (a2.add 1) = some (.int .i64 x8) ∧ K x7 x8 h6)) ((iteB (x4 == (1 : Int)) (stC h3 a2 (.int .i64 0) fun h9 => stC h9 (a2.add 1) (.int .i64 12) fun h10 => (∃ (x11 : Int), cell h10 a2 = some (.int .i64 x11) ∧ ∃ (x12 : Int), cell h10 (a2.add 1) = some (.int .i64 x12) ∧ K x11 x12 h10)) (((callP3 (straitref02_Parts a1 h3) fun x13 x14 x15 h16 => newP h16 (.cells #[(.int .u64 0), (.int .i64 0), (.bool false)] 206) fun a17 h18 => stC h18 a17 (.int .u64 x13) fun h19 => stC h19 (a17.add 1) (.int .i64 x14) fun h20 => stC h20 (a17.add 2) (.bool x15) fun h21 => (∃ (x22 : Int), cell h21 (a17.add 1) = some (.int .i64 x22) ∧ (iteB (decide (x22 < (0 : Int))) (stC h21 a2 (.int .i64 0) fun h23 => stC h23 (a2.add 1) (.int .i64 13) fun h24 => (∃ (x25 : Int), cell h24 a2 = some (.int .i64 x25) ∧ ∃ (x26 : Int), cell h24 (a2.add 1) = some (.int .i64 x26) ∧ K x25 x26 h24)) ((∃ (x27 : Int), cell h21 a17 = some (.int .u64 x27) ∧ ((∃ m33, straitref04_Int.l0 (fun h28 => ∃ (x29 : Int), cell h28 a2 = some (.int .i64 x29) ∧ ∃ (x30 : Int), cell h28 (a2.add 1) = some (.int .i64 x30) ∧ K x29 x30 h28) (fun z31 h32 => ((qcallP1 h32 (straitref02_Neg a1 h32) fun x34 => (iteB x34 ((iteB (decide (z31 > (9223372036854775808 : Int))) (stC h32 a2 (.int .i64 0) fun h35 => stC h35 (a2.add 1) (.int .i64 10) fun h36 => (∃ (x37 : Int), cell h36 a2 = some (.int .i64 x37) ∧ ∃ (x38 : Int), cell h36 (a2.add 1) = some (.int .i64 x38) ∧ K x37 x38 h36)) ((bindV (IntKind.i64.wrap (0 - (IntKind.i64.wrap z31))) fun n39 => stC h32 a2 (.int .i64 n39) fun h40 => stC h40 (a2.add 1) (.int .i64 0) fun h41 => (∃ (x42 : Int), cell h41 a2 = some (.int .i64 x42) ∧ ∃ (x43 : Int), cell h41 (a2.add 1) = some (.int .i64 x43) ∧ K x42 x43 h41))))) (((iteB (decide (z31 ≥ (9223372036854775808 : Int))) (stC h32 a2 (.int .i64 0) fun h44 => stC h44 (a2.add 1) (.int .i64 10) fun h45 => (∃ (x46 : Int), cell h45 a2 = some (.int .i64 x46) ∧ ∃ (x47 : Int), cell h45 (a2.add 1) = some (.int .i64 x47) ∧ K x46 x47 h45)) ((stC h32 a2 (.int .i64 (IntKind.i64.wrap z31)) fun h48 => stC h48 (a2.add 1) (.int .i64 0) fun h49 => (∃ (x50 : Int), cell h49 a2 = some (.int .i64 x50) ∧ ∃ (x51 : Int), cell h49 (a2.add 1) = some (.int .i64 x51) ∧ K x50 x51 h49)))))))))) m33 a1 a2 a17 x27 0 h21))))))))))))))
def straitref04_Int.ret (K : Int → Int → Heap → Prop) (v : Value) (h : Heap) : Prop := match v with
  | (.agg ⟨[(.int .i64 r52), (.int .i64 r53)]⟩) => K r52 r53 h
  | _ => False
theorem straitref04_Int.ret_elim {K : Int → Int → Heap → Prop} {K' : Value → Heap → Prop} {v : Value} {h : Heap} (hk : ∀ r52 r53 h, K r52 r53 h → K' (.agg #[(.int .i64 r52), (.int .i64 r53)]) h) (hh : straitref04_Int.ret K v h) : K' v h := by
  unfold straitref04_Int.ret at hh
  split at hh
  · exact hk _ _ _ hh
  · exact hh.elim
def straitref04_Int.call (f : FuncId) (vs : List Value) (h : Heap) (K : Value → Heap → Prop) : Prop := match f, vs with
  | 144, [(.int .u64 a1)] => callP3 (straitref02_Parts a1 h) fun r34 r35 r36 h' => K (.agg #[(.int .u64 r34), (.int .i64 r35), (.bool r36)]) h'
  | _, _ => False
def straitref04_Int.qcall (f : FuncId) (vs : List Value) (h : Heap) (K : Value → Prop) : Prop := match f, vs with
  | 143, [(.int .u64 a1)] => qcallP1 h (straitref02_Kind a1 h) fun r9 => K (.int .i64 r9)
  | 145, [(.int .u64 a1)] => qcallP1 h (straitref02_Neg a1 h) fun r4 => K (.bool r4)
  | _, _ => False
def straitref04_Int.r0 (K : Nat → List Value → Heap → Prop) (m : Nat) (vs : List Value) (h : Heap) : Prop := match vs with
  | [(.int .u64 c0_1001), (.pointer (some c2_1002)), (.pointer (some c3_1003)), (.int .u64 v4_1004), (.int .i64 v5_1005)] => straitref04_Int.l0 (fun h' => K 0 [(.pointer (some c2_1002))] h') (fun z54 h' => K 3 [(.int .u64 c0_1001), (.pointer (some c2_1002)), (.int .u64 z54)] h') m c0_1001 c2_1002 c3_1003 v4_1004 v5_1005 h
  | _ => False
def straitref04_Int.loop (i : Nat) (vs : List Value) (h : Heap) (K : Nat → List Value → Heap → Prop) : Prop := match i with
  | 0 => ∃ m, straitref04_Int.r0 K m vs h
  | _ => False
noncomputable def straitref04_Int.ctx : Ctx := { P := Tryz.prog, call := straitref04_Int.call, qcall := straitref04_Int.qcall, quiet := fun f => Nat.beq f 143 || Nat.beq f 145 || Nat.beq f 1000138 || Nat.beq f 2000157, loop := straitref04_Int.loop }
theorem straitref04_Int.ok [DKc] : straitref04_Int.ctx.OK where
  mixed := by kernel_rfl
  mono := by
    intro f args h K K' hh hk
    change straitref04_Int.call f args h K at hh
    change straitref04_Int.call f args h K'
    unfold straitref04_Int.call at hh ⊢
    split at hh
    · obtain ⟨R, h1, h2⟩ := hh
      exact ⟨R, h1, fun _ _ _ x hr => hk _ _ (h2 _ _ _ x hr)⟩
    · exact hh.elim
  call := by
    intro f args h K hh w hw
    change straitref04_Int.call f args h K at hh
    unfold straitref04_Int.call at hh
    split at hh
    · obtain ⟨R, h1, h2⟩ := hh
      obtain ⟨g1, g2⟩ := straitref02_Parts.calls h1 w hw
      exact ⟨g1, g2.mono fun e w' ⟨v, he, ho, hr⟩ => ⟨v, he, ho, straitref02_Parts.ret_elim h2 hr⟩⟩
    · exact hh.elim
  qmono := by
    intro f args h K K' hh hk
    change straitref04_Int.qcall f args h K at hh
    change straitref04_Int.qcall f args h K'
    unfold straitref04_Int.qcall at hh ⊢
    split at hh
    · obtain ⟨x0, h1, h2⟩ := hh
      exact ⟨x0, h1, hk _ h2⟩
    · obtain ⟨x0, h1, h2⟩ := hh
      exact ⟨x0, h1, hk _ h2⟩
    · exact hh.elim
  qval := by
    intro f args h K hh
    change straitref04_Int.qcall f args h K at hh
    suffices H : ∃ v, K v ∧ straitref04_Int.qcall f args h (· = v) from H
    unfold straitref04_Int.qcall at hh ⊢
    split at hh
    · obtain ⟨x0, h1, h2⟩ := hh
      exact ⟨_, h2, x0, h1, rfl⟩
    · obtain ⟨x0, h1, h2⟩ := hh
      exact ⟨_, h2, x0, h1, rfl⟩
    · exact hh.elim
  qcall := by
    intro f args h v hh w hw
    change straitref04_Int.qcall f args h (· = v) at hh
    unfold straitref04_Int.qcall at hh
    split at hh
    · obtain ⟨x0, h1, h2⟩ := hh
      obtain ⟨g1, g2⟩ := straitref02_Kind.calls h1 w hw
      refine .inl ⟨g1, g2.mono fun e w' ⟨u, he, ho, hr⟩ => ?_⟩
      have hq := straitref02_Kind.ret_elim (K' := fun u h' => u = v ∧ h' = h) (fun _ h' hr => by obtain ⟨rfl, rfl⟩ := hr; exact ⟨h2, rfl⟩) hr
      exact ⟨hq.1 ▸ he, ho, hq.2⟩
    · obtain ⟨x0, h1, h2⟩ := hh
      obtain ⟨g1, g2⟩ := straitref02_Neg.calls h1 w hw
      refine .inl ⟨g1, g2.mono fun e w' ⟨u, he, ho, hr⟩ => ?_⟩
      have hq := straitref02_Neg.ret_elim (K' := fun u h' => u = v ∧ h' = h) (fun _ h' hr => by obtain ⟨rfl, rfl⟩ := hr; exact ⟨h2, rfl⟩) hr
      exact ⟨hq.1 ▸ he, ho, hq.2⟩
    · exact hh.elim
noncomputable def straitref04_Int.code : Code := (Tryz.f115.body).getD .skip
def straitref04_Int.ann : Ann := (.two .auto (.two .auto (.two .auto (.two .auto (.two .auto (.two (.two .auto (.two (.loop 0 [0, 2, 3, 4, 5] [(3, [0, 2, 4]), (0, [2])] .auto) .auto)) .auto))))))
noncomputable def straitref04_Int.c0 : Code := sub straitref04_Int.code [1, 1, 1, 1, 1, 0, 1, 0, 0]
def straitref04_Int.a0 : Ann := .auto
def straitref04_Int.keep0 : List Nat := [0, 2, 3, 4, 5]
def straitref04_Int.outs0 : List (Nat × List Nat) := [(3, [0, 2, 4]), (0, [2])]
set_option maxRecDepth 100000 in
theorem straitref04_Int.L0 [DKc] : LoopOK straitref04_Int.ctx 53 straitref04_Int.c0 0 straitref04_Int.keep0 straitref04_Int.outs0 := by
  refine loop_ok (n := straitref04_Int.a0) straitref04_Int.ok (by kernel_rfl) (loops_ok (l := []) (by kernel_rfl) ?_) straitref04_Int.r0 ?_ ?_ (fun vs h K hh => hh)
  · exact trivial
  · intro K vs h hh
    unfold straitref04_Int.r0 at hh
    split at hh
    · exact hh
    · exact hh
  · intro K m vs h hh
    unfold straitref04_Int.r0 at hh
    split at hh
    · exact cast (by kernel_rfl) hh
    · exact hh.elim
set_option maxRecDepth 100000 in
theorem straitref04_Int.eq (a1 : Int) (h : Heap) (K : Int → Int → Heap → Prop) : evF straitref04_Int.ctx Tryz.f115 straitref04_Int.ann [(.int .u64 a1)] h (straitref04_Int.ret K) = straitref04_Int a1 h K := by kernel_rfl
set_option maxRecDepth 100000 in
theorem straitref04_Int.calls [DKc] {a1 : Int} {h : Heap} {K : Int → Int → Heap → Prop} (hh : straitref04_Int a1 h K) (w : World) (hw : w.heap = h) :
    (callFunc 115 #[(.int .u64 a1)]).run Tryz.prog w = .ok (.enter 115 #[(.int .u64 a1)]) w ∧ Calls Tryz.prog 115 #[(.int .u64 a1)] w fun e w' => ∃ v, e = .returned v ∧ Out w w' ∧ straitref04_Int.ret K v w'.heap := by
  rw [← straitref04_Int.eq] at hh
  exact fn_calls (args := [(.int .u64 a1)]) (c := straitref04_Int.code) straitref04_Int.ok Tryz.func115 (by kernel_rfl) (by kernel_rfl) (by kernel_rfl) (by kernel_rfl) (loops_ok (l := [(straitref04_Int.c0, none, 0, straitref04_Int.keep0, straitref04_Int.outs0)]) (by kernel_rfl) ⟨straitref04_Int.L0, trivial⟩) hh w hw

/-! ### strait/straitref04.Weight: function 81 -/
def straitref04_Weight (a1 : Int) (h : Heap) (K : Int → Int → Heap → Prop) : Prop :=
  newP h (.cells #[(.int .i64 0), (.int .i64 0)] 81) fun a2 h3 => (callP2 (straitref04_Int a1 h3) fun x4 x5 h6 => newP h6 (.cells #[(.int .i64 0), (.int .i64 0)] 81) fun a7 h8 => stC h8 a7 (.int .i64 x4) fun h9 => stC h9 (a7.add 1) (.int .i64 x5) fun h10 => (let j19 := (fun (y14 : Bool) => iteB y14 (stC h10 a2 (.int .i64 0) fun h15 => stC h15 (a2.add 1) (.int .i64 5) fun h16 => (∃ (x17 : Int), cell h16 a2 = some (.int .i64 x17) ∧ ∃ (x18 : Int), cell h16 (a2.add 1) = some (.int .i64 x18) ∧ K x17 x18 h16)) ((∃ (x20 : Int), cell h10 a7 = some (.int .i64 x20) ∧ ∃ (x21 : Int), cell h10 (a7.add 1) = some (.int .i64 x21) ∧ stC h10 a2 (.int .i64 x20) fun h22 => stC h22 (a2.add 1) (.int .i64 x21) fun h23 => (∃ (x24 : Int), cell h23 a2 = some (.int .i64 x24) ∧ ∃ (x25 : Int), cell h23 (a2.add 1) = some (.int .i64 x25) ∧ K x24 x25 h23))));
  ∃ (x11 : Int), cell h10 (a7.add 1) = some (.int .i64 x11) ∧ iteB (x11 == (0 : Int)) (∃ (x12 : Int), cell h10 a7 = some (.int .i64 x12) ∧ iteB (decide (x12 < (0 : Int))) ((j19 true)) (∃ (x13 : Int), cell h10 a7 = some (.int .i64 x13) ∧ (j19 (decide (x13 > (2147483648 : Int)))))) ((j19 false))))
def straitref04_Weight.ret (K : Int → Int → Heap → Prop) (v : Value) (h : Heap) : Prop := match v with
  | (.agg ⟨[(.int .i64 r26), (.int .i64 r27)]⟩) => K r26 r27 h
  | _ => False
theorem straitref04_Weight.ret_elim {K : Int → Int → Heap → Prop} {K' : Value → Heap → Prop} {v : Value} {h : Heap} (hk : ∀ r26 r27 h, K r26 r27 h → K' (.agg #[(.int .i64 r26), (.int .i64 r27)]) h) (hh : straitref04_Weight.ret K v h) : K' v h := by
  unfold straitref04_Weight.ret at hh
  split at hh
  · exact hk _ _ _ hh
  · exact hh.elim
def straitref04_Weight.call (f : FuncId) (vs : List Value) (h : Heap) (K : Value → Heap → Prop) : Prop := match f, vs with
  | 115, [(.int .u64 a1)] => callP2 (straitref04_Int a1 h) fun r52 r53 h' => K (.agg #[(.int .i64 r52), (.int .i64 r53)]) h'
  | _, _ => False
noncomputable def straitref04_Weight.ctx : Ctx := { P := Tryz.prog, call := straitref04_Weight.call, qcall := fun _ _ _ _ => False, quiet := fun f => Nat.beq f 1000138 || Nat.beq f 2000157, loop := fun _ _ _ _ => False }
theorem straitref04_Weight.ok [DKc] : straitref04_Weight.ctx.OK where
  mixed := by kernel_rfl
  mono := by
    intro f args h K K' hh hk
    change straitref04_Weight.call f args h K at hh
    change straitref04_Weight.call f args h K'
    unfold straitref04_Weight.call at hh ⊢
    split at hh
    · obtain ⟨R, h1, h2⟩ := hh
      exact ⟨R, h1, fun _ _ x hr => hk _ _ (h2 _ _ x hr)⟩
    · exact hh.elim
  call := by
    intro f args h K hh w hw
    change straitref04_Weight.call f args h K at hh
    unfold straitref04_Weight.call at hh
    split at hh
    · obtain ⟨R, h1, h2⟩ := hh
      obtain ⟨g1, g2⟩ := straitref04_Int.calls h1 w hw
      exact ⟨g1, g2.mono fun e w' ⟨v, he, ho, hr⟩ => ⟨v, he, ho, straitref04_Int.ret_elim h2 hr⟩⟩
    · exact hh.elim
  qmono := fun hh _ => hh.elim
  qval := fun hh => hh.elim
  qcall := fun hh => hh.elim
noncomputable def straitref04_Weight.code : Code := (Tryz.f81.body).getD .skip
def straitref04_Weight.ann : Ann := .auto
set_option maxRecDepth 100000 in
theorem straitref04_Weight.eq (a1 : Int) (h : Heap) (K : Int → Int → Heap → Prop) : evF straitref04_Weight.ctx Tryz.f81 straitref04_Weight.ann [(.int .u64 a1)] h (straitref04_Weight.ret K) = straitref04_Weight a1 h K := by kernel_rfl
set_option maxRecDepth 100000 in
theorem straitref04_Weight.calls [DKc] {a1 : Int} {h : Heap} {K : Int → Int → Heap → Prop} (hh : straitref04_Weight a1 h K) (w : World) (hw : w.heap = h) :
    (callFunc 81 #[(.int .u64 a1)]).run Tryz.prog w = .ok (.enter 81 #[(.int .u64 a1)]) w ∧ Calls Tryz.prog 81 #[(.int .u64 a1)] w fun e w' => ∃ v, e = .returned v ∧ Out w w' ∧ straitref04_Weight.ret K v w'.heap := by
  rw [← straitref04_Weight.eq] at hh
  exact fn_calls (args := [(.int .u64 a1)]) (c := straitref04_Weight.code) straitref04_Weight.ok Tryz.func81 (by kernel_rfl) (by kernel_rfl) (by kernel_rfl) (by kernel_rfl) (loops_ok (l := []) (by kernel_rfl) trivial) hh w hw

/-! ### strait/straitref04.Weights: function 46 -/
def straitref04_Weights.b0 (K0 : Heap → Prop) (K2 : (Option Addr) → Nat → Nat → Heap → Prop) (cont : (Option Addr) → Nat → Nat → Addr → (Option Addr) → Nat → Nat → Int → Heap → Prop) (c0_1001 : Option Addr) (c0_1002 : Nat) (c0_1003 : Nat) (c2_1004 : Addr) (v3_1005 : Option Addr) (v3_1005l : Nat) (v3_1005c : Nat) (v4_1006 : Int) (h1007 : Heap) : Prop :=
  (iteB (decide (v4_1006 < (c0_1002 : Int))) ((chkP c0_1001 fun a1008 => (0 ≤ v4_1006 ∧ v4_1006 < (c0_1002 : Int)) ∧ ∃ (x1009 : Int), cell h1007 (a1008.add (v4_1006.toNat * 1)) = some (.int .u64 x1009) ∧ callP2 (straitref04_Weight x1009 h1007) fun x1010 x1011 h1012 => newP h1012 (.cells #[(.int .i64 0), (.int .i64 0)] 81) fun a1013 h1014 => stC h1014 a1013 (.int .i64 x1010) fun h1015 => stC h1015 (a1013.add 1) (.int .i64 x1011) fun h1016 => (∃ (x1017 : Int), cell h1016 (a1013.add 1) = some (.int .i64 x1017) ∧ (iteB (x1017 != (0 : Int)) (∃ (x1018 : Int), cell h1016 (a1013.add 1) = some (.int .i64 x1018) ∧ stC h1016 c2_1004 (.slice none 0 0) fun h1019 => stC h1019 (c2_1004.add 1) (.int .i64 x1018) fun h1020 => stC h1020 (c2_1004.add 2) (.int .i64 v4_1006) fun h1021 => K0 h1021) ((∃ (x1022 : Int), cell h1016 a1013 = some (.int .i64 x1022) ∧ newP h1016 (.cells #[(.int .i64 x1022)] 2) fun a1023 h1024 => ∃ n1029, cellsAt h1024 (some a1023) (1 * 1) n1029 ∧ appP 2 1 8 [(.int .i64 0)] v3_1005 v3_1005l v3_1005c 1 n1029 h1024 fun q1025 l1026 c1027 h1028 => ((cont c0_1001 c0_1002 c0_1003 c2_1004 q1025 l1026 c1027 (IntKind.i64.wrap (v4_1006 + 1)) h1028)))))))) (K2 v3_1005 v3_1005l v3_1005c h1007))
def straitref04_Weights.l0 (K0 : Heap → Prop) (K2 : (Option Addr) → Nat → Nat → Heap → Prop) : Nat → (Option Addr) → Nat → Nat → Addr → (Option Addr) → Nat → Nat → Int → Heap → Prop
  | 0, _, _, _, _, _, _, _, _, _ => False
  | m + 1, c0_1001, c0_1002, c0_1003, c2_1004, v3_1005, v3_1005l, v3_1005c, v4_1006, h => straitref04_Weights.b0 K0 K2 (straitref04_Weights.l0 K0 K2 m) c0_1001 c0_1002 c0_1003 c2_1004 v3_1005 v3_1005l v3_1005c v4_1006 h
def straitref04_Weights (a1 : Option Addr) (a1l : Nat) (a1c : Nat) (h : Heap) (K : (Option Addr) → Nat → Nat → Int → Int → Heap → Prop) : Prop :=
  newP h (.cells #[(.slice none 0 0), (.int .i64 0), (.int .i64 0)] 102) fun a2 h3 => (((∃ m10, straitref04_Weights.l0 (fun h4 => ∃ (x5 : Option Addr) (x5l : Nat) (x5c : Nat), cell h4 a2 = some (.slice x5 x5l x5c) ∧ ∃ (x6 : Int), cell h4 (a2.add 1) = some (.int .i64 x6) ∧ ∃ (x7 : Int), cell h4 (a2.add 2) = some (.int .i64 x7) ∧ K x5 x5l x5c x6 x7 h4) (fun z8 z8l z8c h9 => ((stC h9 a2 (.slice z8 z8l z8c) fun h11 => stC h11 (a2.add 1) (.int .i64 0) fun h12 => stC h12 (a2.add 2) (.int .i64 0) fun h13 => (∃ (x14 : Option Addr) (x14l : Nat) (x14c : Nat), cell h13 a2 = some (.slice x14 x14l x14c) ∧ ∃ (x15 : Int), cell h13 (a2.add 1) = some (.int .i64 x15) ∧ ∃ (x16 : Int), cell h13 (a2.add 2) = some (.int .i64 x16) ∧ K x14 x14l x14c x15 x16 h13)))) m10 a1 a1l a1c a2 none 0 0 0 h3)))
def straitref04_Weights.ret (K : (Option Addr) → Nat → Nat → Int → Int → Heap → Prop) (v : Value) (h : Heap) : Prop := match v with
  | (.agg ⟨[(.slice r17 r17l r17c), (.int .i64 r18), (.int .i64 r19)]⟩) => K r17 r17l r17c r18 r19 h
  | _ => False
theorem straitref04_Weights.ret_elim {K : (Option Addr) → Nat → Nat → Int → Int → Heap → Prop} {K' : Value → Heap → Prop} {v : Value} {h : Heap} (hk : ∀ r17 r17l r17c r18 r19 h, K r17 r17l r17c r18 r19 h → K' (.agg #[(.slice r17 r17l r17c), (.int .i64 r18), (.int .i64 r19)]) h) (hh : straitref04_Weights.ret K v h) : K' v h := by
  unfold straitref04_Weights.ret at hh
  split at hh
  · exact hk _ _ _ _ _ _ hh
  · exact hh.elim
def straitref04_Weights.call (f : FuncId) (vs : List Value) (h : Heap) (K : Value → Heap → Prop) : Prop := match f, vs with
  | 81, [(.int .u64 a1)] => callP2 (straitref04_Weight a1 h) fun r26 r27 h' => K (.agg #[(.int .i64 r26), (.int .i64 r27)]) h'
  | _, _ => False
def straitref04_Weights.r0 (K : Nat → List Value → Heap → Prop) (m : Nat) (vs : List Value) (h : Heap) : Prop := match vs with
  | [(.slice c0_1001 c0_1002 c0_1003), (.pointer (some c2_1004)), (.slice v3_1005 v3_1005l v3_1005c), (.int .i64 v4_1006)] => straitref04_Weights.l0 (fun h' => K 0 [(.pointer (some c2_1004))] h') (fun z20 z20l z20c h' => K 2 [(.pointer (some c2_1004)), (.slice z20 z20l z20c)] h') m c0_1001 c0_1002 c0_1003 c2_1004 v3_1005 v3_1005l v3_1005c v4_1006 h
  | _ => False
def straitref04_Weights.loop (i : Nat) (vs : List Value) (h : Heap) (K : Nat → List Value → Heap → Prop) : Prop := match i with
  | 0 => ∃ m, straitref04_Weights.r0 K m vs h
  | _ => False
noncomputable def straitref04_Weights.ctx : Ctx := { P := Tryz.prog, call := straitref04_Weights.call, qcall := fun _ _ _ _ => False, quiet := fun f => Nat.beq f 1000138 || Nat.beq f 2000157, loop := straitref04_Weights.loop }
theorem straitref04_Weights.ok [DKc] : straitref04_Weights.ctx.OK where
  mixed := by kernel_rfl
  mono := by
    intro f args h K K' hh hk
    change straitref04_Weights.call f args h K at hh
    change straitref04_Weights.call f args h K'
    unfold straitref04_Weights.call at hh ⊢
    split at hh
    · obtain ⟨R, h1, h2⟩ := hh
      exact ⟨R, h1, fun _ _ x hr => hk _ _ (h2 _ _ x hr)⟩
    · exact hh.elim
  call := by
    intro f args h K hh w hw
    change straitref04_Weights.call f args h K at hh
    unfold straitref04_Weights.call at hh
    split at hh
    · obtain ⟨R, h1, h2⟩ := hh
      obtain ⟨g1, g2⟩ := straitref04_Weight.calls h1 w hw
      exact ⟨g1, g2.mono fun e w' ⟨v, he, ho, hr⟩ => ⟨v, he, ho, straitref04_Weight.ret_elim h2 hr⟩⟩
    · exact hh.elim
  qmono := fun hh _ => hh.elim
  qval := fun hh => hh.elim
  qcall := fun hh => hh.elim
noncomputable def straitref04_Weights.code : Code := (Tryz.f46.body).getD .skip
def straitref04_Weights.ann : Ann := (.two .auto (.two .auto (.two (.two .auto (.two (.loop 0 [0, 2, 3, 4] [(2, [2, 3]), (0, [2])] .auto) .auto)) .auto)))
noncomputable def straitref04_Weights.c0 : Code := sub straitref04_Weights.code [1, 1, 0, 1, 0, 0]
def straitref04_Weights.a0 : Ann := .auto
def straitref04_Weights.keep0 : List Nat := [0, 2, 3, 4]
def straitref04_Weights.outs0 : List (Nat × List Nat) := [(2, [2, 3]), (0, [2])]
set_option maxRecDepth 100000 in
theorem straitref04_Weights.L0 [DKc] : LoopOK straitref04_Weights.ctx 31 straitref04_Weights.c0 0 straitref04_Weights.keep0 straitref04_Weights.outs0 := by
  refine loop_ok (n := straitref04_Weights.a0) straitref04_Weights.ok (by kernel_rfl) (loops_ok (l := []) (by kernel_rfl) ?_) straitref04_Weights.r0 ?_ ?_ (fun vs h K hh => hh)
  · exact trivial
  · intro K vs h hh
    unfold straitref04_Weights.r0 at hh
    split at hh
    · exact hh
    · exact hh
  · intro K m vs h hh
    unfold straitref04_Weights.r0 at hh
    split at hh
    · exact cast (by kernel_rfl) hh
    · exact hh.elim
set_option maxRecDepth 100000 in
theorem straitref04_Weights.eq (a1 : Option Addr) (a1l : Nat) (a1c : Nat) (h : Heap) (K : (Option Addr) → Nat → Nat → Int → Int → Heap → Prop) : evF straitref04_Weights.ctx Tryz.f46 straitref04_Weights.ann [(.slice a1 a1l a1c)] h (straitref04_Weights.ret K) = straitref04_Weights a1 a1l a1c h K := by kernel_rfl
set_option maxRecDepth 100000 in
theorem straitref04_Weights.calls [DKc] {a1 : Option Addr} {a1l : Nat} {a1c : Nat} {h : Heap} {K : (Option Addr) → Nat → Nat → Int → Int → Heap → Prop} (hh : straitref04_Weights a1 a1l a1c h K) (w : World) (hw : w.heap = h) :
    (callFunc 46 #[(.slice a1 a1l a1c)]).run Tryz.prog w = .ok (.enter 46 #[(.slice a1 a1l a1c)]) w ∧ Calls Tryz.prog 46 #[(.slice a1 a1l a1c)] w fun e w' => ∃ v, e = .returned v ∧ Out w w' ∧ straitref04_Weights.ret K v w'.heap := by
  rw [← straitref04_Weights.eq] at hh
  exact fn_calls (args := [(.slice a1 a1l a1c)]) (c := straitref04_Weights.code) straitref04_Weights.ok Tryz.func46 (by kernel_rfl) (by kernel_rfl) (by kernel_rfl) (by kernel_rfl) (loops_ok (l := [(straitref04_Weights.c0, none, 0, straitref04_Weights.keep0, straitref04_Weights.outs0)]) (by kernel_rfl) ⟨straitref04_Weights.L0, trivial⟩) hh w hw

/-! ### strait/straitref18.Floats: function 22 -/
section
variable [DKc]
def straitref18_Floats.b0 (K0 : Heap → Prop) (K2 : (Option Addr) → Nat → Nat → Heap → Prop) (cont : Int → (Option Addr) → Nat → Nat → Addr → Addr → (Option Addr) → Nat → Nat → Int → Heap → Prop) (c0_1001 : Int) (c1_1002 : Option Addr) (c1_1003 : Nat) (c1_1004 : Nat) (c6_1005 : Addr) (c7_1006 : Addr) (v8_1007 : Option Addr) (v8_1007l : Nat) (v8_1007c : Nat) (v9_1008 : Int) (h1009 : Heap) : Prop :=
  (iteB (decide (v9_1008 < (c1_1003 : Int))) ((chkP c1_1002 fun a1010 => (0 ≤ v9_1008 ∧ v9_1008 < (c1_1003 : Int)) ∧ chkP c1_1002 fun a1011 => (0 ≤ v9_1008 ∧ v9_1008 < (c1_1003 : Int)) ∧ ∃ (x1012 : Int), cell h1009 (a1010.add (v9_1008.toNat * 3)) = some (.int .i64 x1012) ∧ ∃ (x1013 : Int), cell h1009 ((a1011.add (v9_1008.toNat * 3)).add 1) = some (.int .i64 x1013) ∧ ∃ (x1014 : Option Addr) (x1014l : Nat) (x1014c : Nat), cell h1009 c7_1006 = some (.slice x1014 x1014l x1014c) ∧ chkP x1014 fun a1015 => (0 ≤ v9_1008 ∧ v9_1008 < (x1014l : Int)) ∧ ∃ (x1016 : Int), cell h1009 (a1015.add (v9_1008.toNat * 1)) = some (.int .i64 x1016) ∧ newP h1009 (.cells #[(.int .i64 0), (.int .i64 0), (.int .i64 0)] 27) fun a1017 h1018 => (∃ (x1019 : Int), cell h1018 (a1015.add (v9_1008.toNat * 1)) = some (.int .i64 x1019) ∧ ((.int .i64 x1019) : Value) = (.int .i64 x1016)) ∧ (∃ (x1020 : Option Addr) (x1020l : Nat) (x1020c : Nat), cell h1018 c7_1006 = some (.slice x1020 x1020l x1020c) ∧ ((.slice x1020 x1020l x1020c) : Value) = (.slice x1014 x1014l x1014c)) ∧ (∃ (x1021 : Int), cell h1018 ((a1011.add (v9_1008.toNat * 3)).add 1) = some (.int .i64 x1021) ∧ ((.int .i64 x1021) : Value) = (.int .i64 x1013)) ∧ (∃ (x1022 : Int), cell h1018 (a1010.add (v9_1008.toNat * 3)) = some (.int .i64 x1022) ∧ ((.int .i64 x1022) : Value) = (.int .i64 x1012)) ∧ stC h1018 a1017 (.int .i64 x1012) fun h1023 => stC h1023 (a1017.add 1) (.int .i64 x1013) fun h1024 => stC h1024 (a1017.add 2) (.int .i64 x1016) fun h1025 => (∃ (x1026 : Int), cell h1025 a1017 = some (.int .i64 x1026) ∧ ∃ (x1027 : Int), cell h1025 (a1017.add 1) = some (.int .i64 x1027) ∧ ∃ (x1028 : Int), cell h1025 (a1017.add 2) = some (.int .i64 x1028) ∧ callP1 (straitref15_Check c0_1001 x1026 x1027 x1028 h1025) fun x1029 h1030 => (iteB (x1029 != (0 : Int)) (stC h1030 c6_1005 (.string (⟨#[]⟩ : ByteArray)) fun h1031 => stC h1031 (c6_1005.add 1) (.int .i64 4) fun h1032 => stC h1032 (c6_1005.add 2) (.int .i64 v9_1008) fun h1033 => K0 h1033) ((∃ (x1034 : Int), cell h1030 a1017 = some (.int .i64 x1034) ∧ ∃ (x1035 : Int), cell h1030 (a1017.add 1) = some (.int .i64 x1035) ∧ ∃ (x1036 : Int), cell h1030 (a1017.add 2) = some (.int .i64 x1036) ∧ newP h1030 (.cells #[(.int .i64 x1034), (.int .i64 x1035), (.int .i64 x1036)] 27) fun a1037 h1038 => ∃ n1043, cellsAt h1038 (some a1037) (1 * 3) n1043 ∧ appP 27 3 24 [(.int .i64 0), (.int .i64 0), (.int .i64 0)] v8_1007 v8_1007l v8_1007c 1 n1043 h1038 fun q1039 l1040 c1041 h1042 => ((cont c0_1001 c1_1002 c1_1003 c1_1004 c6_1005 c7_1006 q1039 l1040 c1041 (IntKind.i64.wrap (v9_1008 + 1)) h1042)))))))) (K2 v8_1007 v8_1007l v8_1007c h1009))
def straitref18_Floats.l0 (K0 : Heap → Prop) (K2 : (Option Addr) → Nat → Nat → Heap → Prop) : Nat → Int → (Option Addr) → Nat → Nat → Addr → Addr → (Option Addr) → Nat → Nat → Int → Heap → Prop
  | 0, _, _, _, _, _, _, _, _, _, _, _ => False
  | m + 1, c0_1001, c1_1002, c1_1003, c1_1004, c6_1005, c7_1006, v8_1007, v8_1007l, v8_1007c, v9_1008, h => straitref18_Floats.b0 K0 K2 (straitref18_Floats.l0 K0 K2 m) c0_1001 c1_1002 c1_1003 c1_1004 c6_1005 c7_1006 v8_1007 v8_1007l v8_1007c v9_1008 h
def straitref18_Floats (a1 : Int) (a2 : Option Addr) (a2l : Nat) (a2c : Nat) (a3 : Option Addr) (a3l : Nat) (a3c : Nat) (h : Heap) (K : ByteArray → Int → Int → Heap → Prop) : Prop :=
  newP h (.cells #[(.string (⟨#[]⟩ : ByteArray)), (.int .i64 0), (.int .i64 0)] 59) fun a4 h5 => ((iteB ((a2l : Int) != (a3l : Int)) (stC h5 a4 (.string (⟨#[]⟩ : ByteArray)) fun h6 => stC h6 (a4.add 1) (.int .i64 1) fun h7 => stC h7 (a4.add 2) (.int .i64 0) fun h8 => (∃ (x9 : ByteArray), cell h8 a4 = some (.string x9) ∧ ∃ (x10 : Int), cell h8 (a4.add 1) = some (.int .i64 x10) ∧ ∃ (x11 : Int), cell h8 (a4.add 2) = some (.int .i64 x11) ∧ K x9 x10 x11 h8)) ((callP5 (straitref04_Weights a3 a3l a3c h5) fun x12 x12l x12c x13 x14 h15 => newP h15 (.cells #[(.slice none 0 0), (.int .i64 0), (.int .i64 0)] 102) fun a16 h17 => stC h17 a16 (.slice x12 x12l x12c) fun h18 => stC h18 (a16.add 1) (.int .i64 x13) fun h19 => stC h19 (a16.add 2) (.int .i64 x14) fun h20 => (∃ (x21 : Int), cell h20 (a16.add 1) = some (.int .i64 x21) ∧ (iteB (x21 != (0 : Int)) (∃ (x22 : Int), cell h20 (a16.add 1) = some (.int .i64 x22) ∧ ∃ (x23 : Int), cell h20 (a16.add 2) = some (.int .i64 x23) ∧ stC h20 a4 (.string (⟨#[]⟩ : ByteArray)) fun h24 => stC h24 (a4.add 1) (.int .i64 x22) fun h25 => stC h25 (a4.add 2) (.int .i64 x23) fun h26 => (∃ (x27 : ByteArray), cell h26 a4 = some (.string x27) ∧ ∃ (x28 : Int), cell h26 (a4.add 1) = some (.int .i64 x28) ∧ ∃ (x29 : Int), cell h26 (a4.add 2) = some (.int .i64 x29) ∧ K x27 x28 x29 h26)) (((iteB (decide (a1 < (0 : Int))) (stC h20 a4 (.string (⟨#[]⟩ : ByteArray)) fun h30 => stC h30 (a4.add 1) (.int .i64 1) fun h31 => stC h31 (a4.add 2) (.int .i64 0) fun h32 => (∃ (x33 : ByteArray), cell h32 a4 = some (.string x33) ∧ ∃ (x34 : Int), cell h32 (a4.add 1) = some (.int .i64 x34) ∧ ∃ (x35 : Int), cell h32 (a4.add 2) = some (.int .i64 x35) ∧ K x33 x34 x35 h32)) ((let j43 := (fun (y36 : Bool) => iteB y36 (stC h20 a4 (.string (⟨#[]⟩ : ByteArray)) fun h37 => stC h37 (a4.add 1) (.int .i64 3) fun h38 => stC h38 (a4.add 2) (.int .i64 0) fun h39 => (∃ (x40 : ByteArray), cell h39 a4 = some (.string x40) ∧ ∃ (x41 : Int), cell h39 (a4.add 1) = some (.int .i64 x41) ∧ ∃ (x42 : Int), cell h39 (a4.add 2) = some (.int .i64 x42) ∧ K x40 x41 x42 h39)) ((((∃ m50, straitref18_Floats.l0 (fun h44 => ∃ (x45 : ByteArray), cell h44 a4 = some (.string x45) ∧ ∃ (x46 : Int), cell h44 (a4.add 1) = some (.int .i64 x46) ∧ ∃ (x47 : Int), cell h44 (a4.add 2) = some (.int .i64 x47) ∧ K x45 x46 x47 h44) (fun z48 z48l z48c h49 => ((callP1 (straitref18_Text a1 z48 z48l z48c h49) fun x51 h52 => stC h52 a4 (.string x51) fun h53 => stC h53 (a4.add 1) (.int .i64 0) fun h54 => stC h54 (a4.add 2) (.int .i64 0) fun h55 => (∃ (x56 : ByteArray), cell h55 a4 = some (.string x56) ∧ ∃ (x57 : Int), cell h55 (a4.add 1) = some (.int .i64 x57) ∧ ∃ (x58 : Int), cell h55 (a4.add 2) = some (.int .i64 x58) ∧ K x56 x57 x58 h55)))) m50 a1 a2 a2l a2c a4 a16 none 0 0 0 h20)))));
  iteB (decide (a1 > (4096 : Int))) ((j43 true)) ((j43 (decide ((a2l : Int) > (1048576 : Int))))))))))))))))
def straitref18_Floats.ret (K : ByteArray → Int → Int → Heap → Prop) (v : Value) (h : Heap) : Prop := match v with
  | (.agg ⟨[(.string r59), (.int .i64 r60), (.int .i64 r61)]⟩) => K r59 r60 r61 h
  | _ => False
theorem straitref18_Floats.ret_elim {K : ByteArray → Int → Int → Heap → Prop} {K' : Value → Heap → Prop} {v : Value} {h : Heap} (hk : ∀ r59 r60 r61 h, K r59 r60 r61 h → K' (.agg #[(.string r59), (.int .i64 r60), (.int .i64 r61)]) h) (hh : straitref18_Floats.ret K v h) : K' v h := by
  unfold straitref18_Floats.ret at hh
  split at hh
  · exact hk _ _ _ _ hh
  · exact hh.elim
def straitref18_Floats.call (f : FuncId) (vs : List Value) (h : Heap) (K : Value → Heap → Prop) : Prop := match f, vs with
  | 46, [(.slice a1 a1l a1c)] => callP5 (straitref04_Weights a1 a1l a1c h) fun r17 r17l r17c r18 r19 h' => K (.agg #[(.slice r17 r17l r17c), (.int .i64 r18), (.int .i64 r19)]) h'
  | 47, [(.int .i64 a1), (.agg ⟨[(.int .i64 a2), (.int .i64 a3), (.int .i64 a4)]⟩)] => callP1 (straitref15_Check a1 a2 a3 a4 h) fun r21 h' => K (.int .i64 r21) h'
  | 48, [(.int .i64 a1), (.slice a2 a2l a2c)] => callP1 (straitref18_Text a1 a2 a2l a2c h) fun r9 h' => K (.string r9) h'
  | _, _ => False
def straitref18_Floats.r0 (K : Nat → List Value → Heap → Prop) (m : Nat) (vs : List Value) (h : Heap) : Prop := match vs with
  | [(.int .i64 c0_1001), (.slice c1_1002 c1_1003 c1_1004), (.pointer (some c6_1005)), (.pointer (some c7_1006)), (.slice v8_1007 v8_1007l v8_1007c), (.int .i64 v9_1008)] => straitref18_Floats.l0 (fun h' => K 0 [(.pointer (some c6_1005))] h') (fun z62 z62l z62c h' => K 2 [(.int .i64 c0_1001), (.pointer (some c6_1005)), (.slice z62 z62l z62c)] h') m c0_1001 c1_1002 c1_1003 c1_1004 c6_1005 c7_1006 v8_1007 v8_1007l v8_1007c v9_1008 h
  | _ => False
def straitref18_Floats.loop (i : Nat) (vs : List Value) (h : Heap) (K : Nat → List Value → Heap → Prop) : Prop := match i with
  | 0 => ∃ m, straitref18_Floats.r0 K m vs h
  | _ => False
noncomputable def straitref18_Floats.ctx : Ctx := { P := Tryz.prog, call := straitref18_Floats.call, qcall := fun _ _ _ _ => False, quiet := fun f => Nat.beq f 1000138 || Nat.beq f 2000157, loop := straitref18_Floats.loop }
theorem straitref18_Floats.ok : straitref18_Floats.ctx.OK where
  mixed := by kernel_rfl
  mono := by
    intro f args h K K' hh hk
    change straitref18_Floats.call f args h K at hh
    change straitref18_Floats.call f args h K'
    unfold straitref18_Floats.call at hh ⊢
    split at hh
    · obtain ⟨R, h1, h2⟩ := hh
      exact ⟨R, h1, fun _ _ _ _ _ x hr => hk _ _ (h2 _ _ _ _ _ x hr)⟩
    · obtain ⟨R, h1, h2⟩ := hh
      exact ⟨R, h1, fun _ x hr => hk _ _ (h2 _ x hr)⟩
    · obtain ⟨R, h1, h2⟩ := hh
      exact ⟨R, h1, fun _ x hr => hk _ _ (h2 _ x hr)⟩
    · exact hh.elim
  call := by
    intro f args h K hh w hw
    change straitref18_Floats.call f args h K at hh
    unfold straitref18_Floats.call at hh
    split at hh
    · obtain ⟨R, h1, h2⟩ := hh
      obtain ⟨g1, g2⟩ := straitref04_Weights.calls h1 w hw
      exact ⟨g1, g2.mono fun e w' ⟨v, he, ho, hr⟩ => ⟨v, he, ho, straitref04_Weights.ret_elim h2 hr⟩⟩
    · obtain ⟨R, h1, h2⟩ := hh
      obtain ⟨g1, g2⟩ := straitref15_Check.calls h1 w hw
      exact ⟨g1, g2.mono fun e w' ⟨v, he, ho, hr⟩ => ⟨v, he, ho, straitref15_Check.ret_elim h2 hr⟩⟩
    · obtain ⟨R, h1, h2⟩ := hh
      obtain ⟨g1, g2⟩ := straitref18_Text.calls h1 w hw
      exact ⟨g1, g2.mono fun e w' ⟨v, he, ho, hr⟩ => ⟨v, he, ho, straitref18_Text.ret_elim h2 hr⟩⟩
    · exact hh.elim
  qmono := fun hh _ => hh.elim
  qval := fun hh => hh.elim
  qcall := fun hh => hh.elim
noncomputable def straitref18_Floats.code : Code := (Tryz.f22.body).getD .skip
def straitref18_Floats.ann : Ann := (.two .auto (.two .auto (.two .auto (.two .auto (.two .auto (.two .auto (.two .auto (.two (.two .auto (.two (.loop 0 [0, 1, 6, 7, 8, 9] [(2, [0, 6, 8]), (0, [6])] (.two .auto (.two (.two (.two (.reg [0, 0, 3, 7, 15, 0, 0, 96, 224, 480, 0, 1024, 0, 7168, 15360, 32767, 0, 131071] (.take 0 (.take 1 (.take 2 (.take 3 (.take 5 (.take 6 (.take 7 (.take 8 (.take 10 (.take 12 (.early 4 (.early 9 (.early 11 (.take 13 (.early 14 (.take 15 (.alt 16 (.alt 17 .done .noalt) .noalt)))))))))))))))))) .auto) .auto) .auto))) .auto)) .auto))))))))
noncomputable def straitref18_Floats.c0 : Code := sub straitref18_Floats.code [1, 1, 1, 1, 1, 1, 1, 0, 1, 0, 0]
def straitref18_Floats.a0 : Ann := (.two .auto (.two (.two (.two (.reg [0, 0, 3, 7, 15, 0, 0, 96, 224, 480, 0, 1024, 0, 7168, 15360, 32767, 0, 131071] (.take 0 (.take 1 (.take 2 (.take 3 (.take 5 (.take 6 (.take 7 (.take 8 (.take 10 (.take 12 (.early 4 (.early 9 (.early 11 (.take 13 (.early 14 (.take 15 (.alt 16 (.alt 17 .done .noalt) .noalt)))))))))))))))))) .auto) .auto) .auto))
def straitref18_Floats.keep0 : List Nat := [0, 1, 6, 7, 8, 9]
def straitref18_Floats.outs0 : List (Nat × List Nat) := [(2, [0, 6, 8]), (0, [6])]
set_option maxRecDepth 100000 in
theorem straitref18_Floats.L0 : LoopOK straitref18_Floats.ctx 74 straitref18_Floats.c0 0 straitref18_Floats.keep0 straitref18_Floats.outs0 := by
  refine loop_ok (n := straitref18_Floats.a0) straitref18_Floats.ok (by kernel_rfl) (loops_ok (l := []) (by kernel_rfl) ?_) straitref18_Floats.r0 ?_ ?_ (fun vs h K hh => hh)
  · exact trivial
  · intro K vs h hh
    unfold straitref18_Floats.r0 at hh
    split at hh
    · exact hh
    · exact hh
  · intro K m vs h hh
    unfold straitref18_Floats.r0 at hh
    split at hh
    · exact cast (by kernel_rfl) hh
    · exact hh.elim
set_option maxRecDepth 100000 in
theorem straitref18_Floats.eq (a1 : Int) (a2 : Option Addr) (a2l : Nat) (a2c : Nat) (a3 : Option Addr) (a3l : Nat) (a3c : Nat) (h : Heap) (K : ByteArray → Int → Int → Heap → Prop) : evF straitref18_Floats.ctx Tryz.f22 straitref18_Floats.ann [(.int .i64 a1), (.slice a2 a2l a2c), (.slice a3 a3l a3c)] h (straitref18_Floats.ret K) = straitref18_Floats a1 a2 a2l a2c a3 a3l a3c h K := by kernel_rfl
set_option maxRecDepth 100000 in
theorem straitref18_Floats.calls {a1 : Int} {a2 : Option Addr} {a2l : Nat} {a2c : Nat} {a3 : Option Addr} {a3l : Nat} {a3c : Nat} {h : Heap} {K : ByteArray → Int → Int → Heap → Prop} (hh : straitref18_Floats a1 a2 a2l a2c a3 a3l a3c h K) (w : World) (hw : w.heap = h) :
    (callFunc 22 #[(.int .i64 a1), (.slice a2 a2l a2c), (.slice a3 a3l a3c)]).run Tryz.prog w = .ok (.enter 22 #[(.int .i64 a1), (.slice a2 a2l a2c), (.slice a3 a3l a3c)]) w ∧ Calls Tryz.prog 22 #[(.int .i64 a1), (.slice a2 a2l a2c), (.slice a3 a3l a3c)] w fun e w' => ∃ v, e = .returned v ∧ Out w w' ∧ straitref18_Floats.ret K v w'.heap := by
  rw [← straitref18_Floats.eq] at hh
  exact fn_calls (args := [(.int .i64 a1), (.slice a2 a2l a2c), (.slice a3 a3l a3c)]) (c := straitref18_Floats.code) straitref18_Floats.ok Tryz.func22 (by kernel_rfl) (by kernel_rfl) (by kernel_rfl) (by kernel_rfl) (loops_ok (l := [(straitref18_Floats.c0, none, 0, straitref18_Floats.keep0, straitref18_Floats.outs0)]) (by kernel_rfl) ⟨straitref18_Floats.L0, trivial⟩) hh w hw
end

/-! ### strait/straitlaw18.GprintFloats: function 6 -/
section
variable [DKc]
def straitlaw18_GprintFloats.b0 (K2 : (Option Addr) → Nat → Nat → Heap → Prop) (cont : Int → (Option Addr) → Nat → Nat → (Option Addr) → Nat → Nat → (Option Addr) → Nat → Nat → Int → Heap → Prop) (c0_1001 : Int) (c1_1002 : Option Addr) (c1_1003 : Nat) (c1_1004 : Nat) (c2_1005 : Option Addr) (c2_1006 : Nat) (c2_1007 : Nat) (v7_1008 : Option Addr) (v7_1008l : Nat) (v7_1008c : Nat) (v8_1009 : Int) (h1010 : Heap) : Prop :=
  (iteB (decide (v8_1009 < (c2_1006 : Int))) ((chkP c2_1005 fun a1011 => (0 ≤ v8_1009 ∧ v8_1009 < (c2_1006 : Int)) ∧ ∃ (x1012 : Int), cell h1010 (a1011.add (v8_1009.toNat * 1)) = some (.int .u64 x1012) ∧ qcallP1 h1010 (fbit_Of x1012 h1010) fun x1013 => newP h1010 (.cells #[(.float .f64 x1013)] 53) fun a1014 h1015 => ∃ n1020, cellsAt h1015 (some a1014) (1 * 1) n1020 ∧ appP 53 1 8 [(.float .f64 0)] v7_1008 v7_1008l v7_1008c 1 n1020 h1015 fun q1016 l1017 c1018 h1019 => ((cont c0_1001 c1_1002 c1_1003 c1_1004 c2_1005 c2_1006 c2_1007 q1016 l1017 c1018 (IntKind.i64.wrap (v8_1009 + 1)) h1019)))) (K2 v7_1008 v7_1008l v7_1008c h1010))
def straitlaw18_GprintFloats.l0 (K2 : (Option Addr) → Nat → Nat → Heap → Prop) : Nat → Int → (Option Addr) → Nat → Nat → (Option Addr) → Nat → Nat → (Option Addr) → Nat → Nat → Int → Heap → Prop
  | 0, _, _, _, _, _, _, _, _, _, _, _, _ => False
  | m + 1, c0_1001, c1_1002, c1_1003, c1_1004, c2_1005, c2_1006, c2_1007, v7_1008, v7_1008l, v7_1008c, v8_1009, h => straitlaw18_GprintFloats.b0 K2 (straitlaw18_GprintFloats.l0 K2 m) c0_1001 c1_1002 c1_1003 c1_1004 c2_1005 c2_1006 c2_1007 v7_1008 v7_1008l v7_1008c v8_1009 h
def straitlaw18_GprintFloats (a1 : Int) (a2 : Option Addr) (a2l : Nat) (a2c : Nat) (a3 : Option Addr) (a3l : Nat) (a3c : Nat) (h : Heap) (K : Bool → Heap → Prop) : Prop :=
  (let j26 : Prop := (((∃ m13, straitlaw18_GprintFloats.l0 (fun z11 z11l z11c h12 => ((callP3 (gprint_Floats a1 a2 a2l a2c z11 z11l z11c h12) fun x14 x15 x16 h17 => (callP3 (straitref18_Floats a1 a2 a2l a2c a3 a3l a3c h17) fun x18 x19 x20 h21 => iteB (eqAll [(x18.toList == x14.toList), (x19 == x15), (x20 == x16)]) (callP1 (straitlaw18_awake h21) fun x22 h23 => K x22 h23) (K false h21))))) m13 a1 a2 a2l a2c a3 a3l a3c none 0 0 0 h)));
  iteB (decide ((a2l : Int) > (100 : Int))) ((callP1 (straitlaw18_awake h) fun x7 h8 => K x7 h8)) ((iteB (decide ((a3l : Int) > (100 : Int))) (callP1 (straitlaw18_awake h) fun x9 h10 => K x9 h10) ((j26)))))
def straitlaw18_GprintFloats.ret (K : Bool → Heap → Prop) (v : Value) (h : Heap) : Prop := match v with
  | (.bool r27) => K r27 h
  | _ => False
theorem straitlaw18_GprintFloats.ret_elim {K : Bool → Heap → Prop} {K' : Value → Heap → Prop} {v : Value} {h : Heap} (hk : ∀ r27 h, K r27 h → K' (.bool r27) h) (hh : straitlaw18_GprintFloats.ret K v h) : K' v h := by
  unfold straitlaw18_GprintFloats.ret at hh
  split at hh
  · exact hk _ _ hh
  · exact hh.elim
def straitlaw18_GprintFloats.call (f : FuncId) (vs : List Value) (h : Heap) (K : Value → Heap → Prop) : Prop := match f, vs with
  | 19, [] => callP1 (straitlaw18_awake h) fun r19 h' => K (.bool r19) h'
  | 21, [(.int .i64 a1), (.slice a2 a2l a2c), (.slice a3 a3l a3c)] => callP3 (gprint_Floats a1 a2 a2l a2c a3 a3l a3c h) fun r20 r21 r22 h' => K (.tuple #[(.string r20), (.int .i64 r21), (.int .i64 r22)]) h'
  | 22, [(.int .i64 a1), (.slice a2 a2l a2c), (.slice a3 a3l a3c)] => callP3 (straitref18_Floats a1 a2 a2l a2c a3 a3l a3c h) fun r59 r60 r61 h' => K (.agg #[(.string r59), (.int .i64 r60), (.int .i64 r61)]) h'
  | _, _ => False
def straitlaw18_GprintFloats.qcall (f : FuncId) (vs : List Value) (h : Heap) (K : Value → Prop) : Prop := match f, vs with
  | 20, [(.int .u64 a1)] => qcallP1 h (fbit_Of a1 h) fun r2 => K (.float .f64 r2)
  | _, _ => False
def straitlaw18_GprintFloats.r0 (K : Nat → List Value → Heap → Prop) (m : Nat) (vs : List Value) (h : Heap) : Prop := match vs with
  | [(.int .i64 c0_1001), (.slice c1_1002 c1_1003 c1_1004), (.slice c2_1005 c2_1006 c2_1007), (.slice v7_1008 v7_1008l v7_1008c), (.int .i64 v8_1009)] => straitlaw18_GprintFloats.l0 (fun z28 z28l z28c h' => K 2 [(.int .i64 c0_1001), (.slice c1_1002 c1_1003 c1_1004), (.slice c2_1005 c2_1006 c2_1007), (.slice z28 z28l z28c)] h') m c0_1001 c1_1002 c1_1003 c1_1004 c2_1005 c2_1006 c2_1007 v7_1008 v7_1008l v7_1008c v8_1009 h
  | _ => False
def straitlaw18_GprintFloats.loop (i : Nat) (vs : List Value) (h : Heap) (K : Nat → List Value → Heap → Prop) : Prop := match i with
  | 0 => ∃ m, straitlaw18_GprintFloats.r0 K m vs h
  | _ => False
noncomputable def straitlaw18_GprintFloats.ctx : Ctx := { P := Tryz.prog, call := straitlaw18_GprintFloats.call, qcall := straitlaw18_GprintFloats.qcall, quiet := fun f => Nat.beq f 20 || Nat.beq f 1000138 || Nat.beq f 2000157, loop := straitlaw18_GprintFloats.loop }
theorem straitlaw18_GprintFloats.ok : straitlaw18_GprintFloats.ctx.OK where
  mixed := by kernel_rfl
  mono := by
    intro f args h K K' hh hk
    change straitlaw18_GprintFloats.call f args h K at hh
    change straitlaw18_GprintFloats.call f args h K'
    unfold straitlaw18_GprintFloats.call at hh ⊢
    split at hh
    · obtain ⟨R, h1, h2⟩ := hh
      exact ⟨R, h1, fun _ x hr => hk _ _ (h2 _ x hr)⟩
    · obtain ⟨R, h1, h2⟩ := hh
      exact ⟨R, h1, fun _ _ _ x hr => hk _ _ (h2 _ _ _ x hr)⟩
    · obtain ⟨R, h1, h2⟩ := hh
      exact ⟨R, h1, fun _ _ _ x hr => hk _ _ (h2 _ _ _ x hr)⟩
    · exact hh.elim
  call := by
    intro f args h K hh w hw
    change straitlaw18_GprintFloats.call f args h K at hh
    unfold straitlaw18_GprintFloats.call at hh
    split at hh
    · obtain ⟨R, h1, h2⟩ := hh
      obtain ⟨g1, g2⟩ := straitlaw18_awake.calls h1 w hw
      exact ⟨g1, g2.mono fun e w' ⟨v, he, ho, hr⟩ => ⟨v, he, ho, straitlaw18_awake.ret_elim h2 hr⟩⟩
    · obtain ⟨R, h1, h2⟩ := hh
      obtain ⟨g1, g2⟩ := gprint_Floats.calls h1 w hw
      exact ⟨g1, g2.mono fun e w' ⟨v, he, ho, hr⟩ => ⟨v, he, ho, gprint_Floats.ret_elim h2 hr⟩⟩
    · obtain ⟨R, h1, h2⟩ := hh
      obtain ⟨g1, g2⟩ := straitref18_Floats.calls h1 w hw
      exact ⟨g1, g2.mono fun e w' ⟨v, he, ho, hr⟩ => ⟨v, he, ho, straitref18_Floats.ret_elim h2 hr⟩⟩
    · exact hh.elim
  qmono := by
    intro f args h K K' hh hk
    change straitlaw18_GprintFloats.qcall f args h K at hh
    change straitlaw18_GprintFloats.qcall f args h K'
    unfold straitlaw18_GprintFloats.qcall at hh ⊢
    split at hh
    · obtain ⟨x0, h1, h2⟩ := hh
      exact ⟨x0, h1, hk _ h2⟩
    · exact hh.elim
  qval := by
    intro f args h K hh
    change straitlaw18_GprintFloats.qcall f args h K at hh
    suffices H : ∃ v, K v ∧ straitlaw18_GprintFloats.qcall f args h (· = v) from H
    unfold straitlaw18_GprintFloats.qcall at hh ⊢
    split at hh
    · obtain ⟨x0, h1, h2⟩ := hh
      exact ⟨_, h2, x0, h1, rfl⟩
    · exact hh.elim
  qcall := by
    intro f args h v hh w hw
    change straitlaw18_GprintFloats.qcall f args h (· = v) at hh
    unfold straitlaw18_GprintFloats.qcall at hh
    split at hh
    · obtain ⟨x0, h1, h2⟩ := hh
      obtain ⟨g1, g2⟩ := fbit_Of.calls h1 w hw
      refine .inl ⟨g1, g2.mono fun e w' ⟨u, he, ho, hr⟩ => ?_⟩
      have hq := fbit_Of.ret_elim (K' := fun u h' => u = v ∧ h' = h) (fun _ h' hr => by obtain ⟨rfl, rfl⟩ := hr; exact ⟨h2, rfl⟩) hr
      exact ⟨hq.1 ▸ he, ho, hq.2⟩
    · exact hh.elim
noncomputable def straitlaw18_GprintFloats.code : Code := (Tryz.f6.body).getD .skip
def straitlaw18_GprintFloats.ann : Ann := (.two .auto (.two .auto (.two .auto (.two (.two .auto (.two (.loop 0 [0, 1, 2, 7, 8] [(2, [0, 1, 2, 7])] .auto) .auto)) .auto))))
noncomputable def straitlaw18_GprintFloats.c0 : Code := sub straitlaw18_GprintFloats.code [1, 1, 1, 0, 1, 0, 0]
def straitlaw18_GprintFloats.a0 : Ann := .auto
def straitlaw18_GprintFloats.keep0 : List Nat := [0, 1, 2, 7, 8]
def straitlaw18_GprintFloats.outs0 : List (Nat × List Nat) := [(2, [0, 1, 2, 7])]
set_option maxRecDepth 100000 in
theorem straitlaw18_GprintFloats.L0 : LoopOK straitlaw18_GprintFloats.ctx 55 straitlaw18_GprintFloats.c0 0 straitlaw18_GprintFloats.keep0 straitlaw18_GprintFloats.outs0 := by
  refine loop_ok (n := straitlaw18_GprintFloats.a0) straitlaw18_GprintFloats.ok (by kernel_rfl) (loops_ok (l := []) (by kernel_rfl) ?_) straitlaw18_GprintFloats.r0 ?_ ?_ (fun vs h K hh => hh)
  · exact trivial
  · intro K vs h hh
    unfold straitlaw18_GprintFloats.r0 at hh
    split at hh
    · exact hh
    · exact hh
  · intro K m vs h hh
    unfold straitlaw18_GprintFloats.r0 at hh
    split at hh
    · exact cast (by kernel_rfl) hh
    · exact hh.elim
set_option maxRecDepth 100000 in
theorem straitlaw18_GprintFloats.eq (a1 : Int) (a2 : Option Addr) (a2l : Nat) (a2c : Nat) (a3 : Option Addr) (a3l : Nat) (a3c : Nat) (h : Heap) (K : Bool → Heap → Prop) : evF straitlaw18_GprintFloats.ctx Tryz.f6 straitlaw18_GprintFloats.ann [(.int .i64 a1), (.slice a2 a2l a2c), (.slice a3 a3l a3c)] h (straitlaw18_GprintFloats.ret K) = straitlaw18_GprintFloats a1 a2 a2l a2c a3 a3l a3c h K := by kernel_rfl
set_option maxRecDepth 100000 in
theorem straitlaw18_GprintFloats.calls {a1 : Int} {a2 : Option Addr} {a2l : Nat} {a2c : Nat} {a3 : Option Addr} {a3l : Nat} {a3c : Nat} {h : Heap} {K : Bool → Heap → Prop} (hh : straitlaw18_GprintFloats a1 a2 a2l a2c a3 a3l a3c h K) (w : World) (hw : w.heap = h) :
    (callFunc 6 #[(.int .i64 a1), (.slice a2 a2l a2c), (.slice a3 a3l a3c)]).run Tryz.prog w = .ok (.enter 6 #[(.int .i64 a1), (.slice a2 a2l a2c), (.slice a3 a3l a3c)]) w ∧ Calls Tryz.prog 6 #[(.int .i64 a1), (.slice a2 a2l a2c), (.slice a3 a3l a3c)] w fun e w' => ∃ v, e = .returned v ∧ Out w w' ∧ straitlaw18_GprintFloats.ret K v w'.heap := by
  rw [← straitlaw18_GprintFloats.eq] at hh
  exact fn_calls (args := [(.int .i64 a1), (.slice a2 a2l a2c), (.slice a3 a3l a3c)]) (c := straitlaw18_GprintFloats.code) straitlaw18_GprintFloats.ok Tryz.func6 (by kernel_rfl) (by kernel_rfl) (by kernel_rfl) (by kernel_rfl) (loops_ok (l := [(straitlaw18_GprintFloats.c0, none, 0, straitlaw18_GprintFloats.keep0, straitlaw18_GprintFloats.outs0)]) (by kernel_rfl) ⟨straitlaw18_GprintFloats.L0, trivial⟩) hh w hw
end

end Go.Proofs.YtokemibmanjpmaaGreatDoor
