/- WRITTEN BY A PROGRAM OF THIS SESSION (gen.py): what each function asks of memory, and that the model's run comes to it. -/
import Derived.Test.YtbhndlpjfncliaaGreatProg
import Derived.Test.YtbhndlpjfncliaaGreatFw8
import Derived.Test.YtbhndlpjfncliaaGreatG2
namespace Go.Proofs.YtbhndlpjfncliaaGreat
open Go.Hp
set_option linter.unusedVariables false
set_option linter.unusedSimpArgs false
set_option linter.unusedSectionVars false

/-! ### strait/side.Check: function 114 -/
def side_Check.b0 (K0 : Int → Heap → Prop) (K2 : Heap → Prop) (cont : Int → (Option Addr) → Nat → Nat → Int → (Option Addr) → Nat → Nat → Int → Int → Heap → Prop) (c0_1001 : Int) (c1_1002 : Option Addr) (c1_1003 : Nat) (c1_1004 : Nat) (v5_1005 : Int) (c8_1006 : Option Addr) (c8_1007 : Nat) (c8_1008 : Nat) (c9_1009 : Int) (v10_1010 : Int) (h1011 : Heap) : Prop :=
  (iteB (decide (v10_1010 < c9_1009)) ((chkP c8_1006 fun a1012 => (0 ≤ v10_1010 ∧ v10_1010 < (c8_1007 : Int)) ∧ ∃ (x1013 : Int), cell h1011 (a1012.add (v10_1010.toNat * 1)) = some (.int .i64 x1013) ∧ (iteB (decide (x1013 ≤ v5_1005)) (K0 4 h1011) ((iteB (decide (x1013 ≥ c0_1001)) (K0 4 h1011) ((((cont c0_1001 c1_1002 c1_1003 c1_1004 x1013 c8_1006 c8_1007 c8_1008 c9_1009 (IntKind.i64.wrap (v10_1010 + 1)) h1011))))))))) (K2 h1011))
def side_Check.l0 (K0 : Int → Heap → Prop) (K2 : Heap → Prop) : Nat → Int → (Option Addr) → Nat → Nat → Int → (Option Addr) → Nat → Nat → Int → Int → Heap → Prop
  | 0, _, _, _, _, _, _, _, _, _, _, _ => False
  | m + 1, c0_1001, c1_1002, c1_1003, c1_1004, v5_1005, c8_1006, c8_1007, c8_1008, c9_1009, v10_1010, h => side_Check.b0 K0 K2 (side_Check.l0 K0 K2 m) c0_1001 c1_1002 c1_1003 c1_1004 v5_1005 c8_1006 c8_1007 c8_1008 c9_1009 v10_1010 h
def side_Check (a1 : Int) (a2 : Option Addr) (a2l : Nat) (a2c : Nat) (h : Heap) (K : Int → Heap → Prop) : Prop :=
  (((∃ m6, side_Check.l0 (fun z3 h4 => K z3 h4) (fun h5 => ((iteB ((a2l : Int) == (0 : Int)) (K 16 h5) ((iteB ((a2l : Int) == a1) (K 16 h5) (K 0 h5)))))) m6 a1 a2 a2l a2c (-1) a2 a2l a2c (a2l : Int) 0 h)))
def side_Check.ret (K : Int → Heap → Prop) (v : Value) (h : Heap) : Prop := match v with
  | (.int .i64 r8) => K r8 h
  | _ => False
theorem side_Check.ret_elim {K : Int → Heap → Prop} {K' : Value → Heap → Prop} {v : Value} {h : Heap} (hk : ∀ r8 h, K r8 h → K' (.int .i64 r8) h) (hh : side_Check.ret K v h) : K' v h := by
  unfold side_Check.ret at hh
  split at hh
  · exact hk _ _ hh
  · exact hh.elim
def side_Check.r0 (K : Nat → List Value → Heap → Prop) (m : Nat) (vs : List Value) (h : Heap) : Prop := match vs with
  | [(.int .i64 c0_1001), (.slice c1_1002 c1_1003 c1_1004), (.int .i64 v5_1005), (.slice c8_1006 c8_1007 c8_1008), (.int .i64 c9_1009), (.int .i64 v10_1010)] => side_Check.l0 (fun z9 h' => K 0 [(.int .i64 z9)] h') (fun h' => K 2 [(.int .i64 c0_1001), (.slice c1_1002 c1_1003 c1_1004)] h') m c0_1001 c1_1002 c1_1003 c1_1004 v5_1005 c8_1006 c8_1007 c8_1008 c9_1009 v10_1010 h
  | _ => False
def side_Check.loop (i : Nat) (vs : List Value) (h : Heap) (K : Nat → List Value → Heap → Prop) : Prop := match i with
  | 0 => ∃ m, side_Check.r0 K m vs h
  | _ => False
noncomputable def side_Check.ctx : Ctx := { P := Tryz.prog, call := fun _ _ _ _ => False, qcall := fun _ _ _ _ => False, quiet := fun f => Nat.beq f 1000131 || Nat.beq f 1000155, loop := side_Check.loop }
theorem side_Check.ok [DKc] : side_Check.ctx.OK where
  mixed := by kernel_rfl
  mono := fun hh _ => hh.elim
  call := fun hh => hh.elim
  qmono := fun hh _ => hh.elim
  qval := fun hh => hh.elim
  qcall := fun hh => hh.elim
noncomputable def side_Check.code : Code := (Tryz.f114.body).getD .skip
def side_Check.ann : Ann := (.two .auto (.two .auto (.two (.two .auto (.two (.loop 0 [0, 1, 5, 8, 9, 10] [(2, [0, 1]), (0, [4])] .auto) .auto)) .auto)))
noncomputable def side_Check.c0 : Code := sub side_Check.code [1, 1, 0, 1, 0, 0]
def side_Check.a0 : Ann := .auto
def side_Check.keep0 : List Nat := [0, 1, 5, 8, 9, 10]
def side_Check.outs0 : List (Nat × List Nat) := [(2, [0, 1]), (0, [4])]
set_option maxRecDepth 100000 in
theorem side_Check.L0 [DKc] : LoopOK side_Check.ctx 33 side_Check.c0 0 side_Check.keep0 side_Check.outs0 := by
  refine loop_ok (n := side_Check.a0) side_Check.ok (by kernel_rfl) (loops_ok (l := []) (by kernel_rfl) ?_) side_Check.r0 ?_ ?_ (fun vs h K hh => hh)
  · exact trivial
  · intro K vs h hh
    unfold side_Check.r0 at hh
    split at hh
    · exact hh
    · exact hh
  · intro K m vs h hh
    unfold side_Check.r0 at hh
    split at hh
    · exact cast (by kernel_rfl) hh
    · exact hh.elim
set_option maxRecDepth 100000 in
theorem side_Check.eq (a1 : Int) (a2 : Option Addr) (a2l : Nat) (a2c : Nat) (h : Heap) (K : Int → Heap → Prop) : evF side_Check.ctx Tryz.f114 side_Check.ann [(.int .i64 a1), (.slice a2 a2l a2c)] h (side_Check.ret K) = side_Check a1 a2 a2l a2c h K := by kernel_rfl
set_option maxRecDepth 100000 in
theorem side_Check.calls [DKc] {a1 : Int} {a2 : Option Addr} {a2l : Nat} {a2c : Nat} {h : Heap} {K : Int → Heap → Prop} (hh : side_Check a1 a2 a2l a2c h K) (w : World) (hw : w.heap = h) :
    (callFunc 114 #[(.int .i64 a1), (.slice a2 a2l a2c)]).run Tryz.prog w = .ok (.enter 114 #[(.int .i64 a1), (.slice a2 a2l a2c)]) w ∧ Calls Tryz.prog 114 #[(.int .i64 a1), (.slice a2 a2l a2c)] w fun e w' => ∃ v, e = .returned v ∧ Out w w' ∧ side_Check.ret K v w'.heap := by
  rw [← side_Check.eq] at hh
  exact fn_calls (args := [(.int .i64 a1), (.slice a2 a2l a2c)]) (c := side_Check.code) side_Check.ok Tryz.func114 (by kernel_rfl) (by kernel_rfl) (by kernel_rfl) (by kernel_rfl) (loops_ok (l := [(side_Check.c0, none, 0, side_Check.keep0, side_Check.outs0)]) (by kernel_rfl) ⟨side_Check.L0, trivial⟩) hh w hw

/-! ### strait/vset.New: function 141 -/
def vset_New (a1 : Int) (h : Heap) (K : (Option Addr) → Heap → Prop) : Prop :=
  (bindV (if 4096 < (if 0 > a1 then 0 else a1) then 4096 else (if 0 > a1 then 0 else a1)) fun n2 => (bindV (IntKind.i64.wrap ((IntKind.i64.wrap (n2 + 64)) - 1)) fun n3 => (64 : Int) ≠ 0 ∧ (0 ≤ (IntKind.i64.wrap (n3.tdiv 64)) ∧ (IntKind.i64.wrap (n3.tdiv 64)) ≤ (IntKind.i64.wrap (n3.tdiv 64)) ∧ (IntKind.i64.wrap (n3.tdiv 64)) * (8 : Nat) ≤ 2 ^ 47 ∧ (IntKind.i64.wrap (n3.tdiv 64)) ≤ 2 ^ 47) ∧ newP h (.cells (zeroRow [(.int .u64 0)] (IntKind.i64.wrap (n3.tdiv 64)).toNat).toArray 53) fun a4 h5 => newP h5 (.cells #[(.int .i64 n2), (.slice (some a4) ((IntKind.i64.wrap (n3.tdiv 64)).toNat) ((IntKind.i64.wrap (n3.tdiv 64)).toNat))] 218) fun a6 h7 => (K (some a6) h7)))
def vset_New.ret (K : (Option Addr) → Heap → Prop) (v : Value) (h : Heap) : Prop := match v with
  | (.pointer r8) => K r8 h
  | _ => False
theorem vset_New.ret_elim {K : (Option Addr) → Heap → Prop} {K' : Value → Heap → Prop} {v : Value} {h : Heap} (hk : ∀ r8 h, K r8 h → K' (.pointer r8) h) (hh : vset_New.ret K v h) : K' v h := by
  unfold vset_New.ret at hh
  split at hh
  · exact hk _ _ hh
  · exact hh.elim
noncomputable def vset_New.ctx : Ctx := { P := Tryz.prog, call := fun _ _ _ _ => False, qcall := fun _ _ _ _ => False, quiet := fun f => Nat.beq f 1000131 || Nat.beq f 1000155, loop := fun _ _ _ _ => False }
theorem vset_New.ok [DKc] : vset_New.ctx.OK where
  mixed := by kernel_rfl
  mono := fun hh _ => hh.elim
  call := fun hh => hh.elim
  qmono := fun hh _ => hh.elim
  qval := fun hh => hh.elim
  qcall := fun hh => hh.elim
noncomputable def vset_New.code : Code := (Tryz.f141.body).getD .skip
def vset_New.ann : Ann := .auto
set_option maxRecDepth 100000 in
theorem vset_New.eq (a1 : Int) (h : Heap) (K : (Option Addr) → Heap → Prop) : evF vset_New.ctx Tryz.f141 vset_New.ann [(.int .i64 a1)] h (vset_New.ret K) = vset_New a1 h K := by kernel_rfl
set_option maxRecDepth 100000 in
theorem vset_New.calls [DKc] {a1 : Int} {h : Heap} {K : (Option Addr) → Heap → Prop} (hh : vset_New a1 h K) (w : World) (hw : w.heap = h) :
    (callFunc 141 #[(.int .i64 a1)]).run Tryz.prog w = .ok (.enter 141 #[(.int .i64 a1)]) w ∧ Calls Tryz.prog 141 #[(.int .i64 a1)] w fun e w' => ∃ v, e = .returned v ∧ Out w w' ∧ vset_New.ret K v w'.heap := by
  rw [← vset_New.eq] at hh
  exact fn_calls (args := [(.int .i64 a1)]) (c := vset_New.code) vset_New.ok Tryz.func141 (by kernel_rfl) (by kernel_rfl) (by kernel_rfl) (by kernel_rfl) (loops_ok (l := []) (by kernel_rfl) trivial) hh w hw

/-! ### (*strait/vset.Set).Room: function 151 -/
def vset_Set_Room (a1 : Option Addr) (h : Heap) (K : Int → Heap → Prop) : Prop :=
  ((iteB a1.isNone (K 0 h) ((chkP a1 fun a2 => ∃ (x3 : Int), cell h a2 = some (.int .i64 x3) ∧ K x3 h))))
def vset_Set_Room.ret (K : Int → Heap → Prop) (v : Value) (h : Heap) : Prop := match v with
  | (.int .i64 r4) => K r4 h
  | _ => False
theorem vset_Set_Room.ret_elim {K : Int → Heap → Prop} {K' : Value → Heap → Prop} {v : Value} {h : Heap} (hk : ∀ r4 h, K r4 h → K' (.int .i64 r4) h) (hh : vset_Set_Room.ret K v h) : K' v h := by
  unfold vset_Set_Room.ret at hh
  split at hh
  · exact hk _ _ hh
  · exact hh.elim
noncomputable def vset_Set_Room.ctx : Ctx := { P := Tryz.prog, call := fun _ _ _ _ => False, qcall := fun _ _ _ _ => False, quiet := fun f => Nat.beq f 1000131 || Nat.beq f 1000155, loop := fun _ _ _ _ => False }
theorem vset_Set_Room.ok [DKc] : vset_Set_Room.ctx.OK where
  mixed := by kernel_rfl
  mono := fun hh _ => hh.elim
  call := fun hh => hh.elim
  qmono := fun hh _ => hh.elim
  qval := fun hh => hh.elim
  qcall := fun hh => hh.elim
noncomputable def vset_Set_Room.code : Code := (Tryz.f151.body).getD .skip
def vset_Set_Room.ann : Ann := .auto
set_option maxRecDepth 100000 in
theorem vset_Set_Room.eq (a1 : Option Addr) (h : Heap) (K : Int → Heap → Prop) : evF vset_Set_Room.ctx Tryz.f151 vset_Set_Room.ann [(.pointer a1)] h (vset_Set_Room.ret K) = vset_Set_Room a1 h K := by kernel_rfl
set_option maxRecDepth 100000 in
theorem vset_Set_Room.calls [DKc] {a1 : Option Addr} {h : Heap} {K : Int → Heap → Prop} (hh : vset_Set_Room a1 h K) (w : World) (hw : w.heap = h) :
    (callFunc 151 #[(.pointer a1)]).run Tryz.prog w = .ok (.enter 151 #[(.pointer a1)]) w ∧ Calls Tryz.prog 151 #[(.pointer a1)] w fun e w' => ∃ v, e = .returned v ∧ Out w w' ∧ vset_Set_Room.ret K v w'.heap := by
  rw [← vset_Set_Room.eq] at hh
  exact fn_calls (args := [(.pointer a1)]) (c := vset_Set_Room.code) vset_Set_Room.ok Tryz.func151 (by kernel_rfl) (by kernel_rfl) (by kernel_rfl) (by kernel_rfl) (loops_ok (l := []) (by kernel_rfl) trivial) hh w hw

/-! ### (*strait/vset.Set).bit: function 143 -/
def vset_Set_bit (a1 : Option Addr) (a2 : Int) (h : Heap) (K : (Option Addr) → Int → Bool → Heap → Prop) : Prop :=
  (let j9 : Prop := (chkP a1 fun a5 => ∃ (x6 : Option Addr) (x6l : Nat) (x6c : Nat), cell h (a5.add 1) = some (.slice x6 x6l x6c) ∧ (64 : Int) ≠ 0 ∧ chkP x6 fun a7 => (0 ≤ (IntKind.i64.wrap (a2.tdiv 64)) ∧ (IntKind.i64.wrap (a2.tdiv 64)) < (x6l : Int)) ∧ (64 : Int) ≠ 0 ∧ 0 ≤ (a2.tmod 64) ∧ bindV (IntKind.u64.wrap ((1 : Int) * 2 ^ (min (a2.tmod 64).toNat 64))) fun n8 => (K (some (a7.add ((IntKind.i64.wrap (a2.tdiv 64)).toNat * 1))) n8 true h));
  iteB (decide (a2 < (0 : Int))) (K none 0 false h) (qcallP1 h (vset_Set_Room a1 h) fun x3 => (iteB (decide (a2 ≥ x3)) (K none 0 false h) ((j9)))))
def vset_Set_bit.ret (K : (Option Addr) → Int → Bool → Heap → Prop) (v : Value) (h : Heap) : Prop := match v with
  | (.tuple ⟨[(.pointer r10), (.int .u64 r11), (.bool r12)]⟩) => K r10 r11 r12 h
  | _ => False
theorem vset_Set_bit.ret_elim {K : (Option Addr) → Int → Bool → Heap → Prop} {K' : Value → Heap → Prop} {v : Value} {h : Heap} (hk : ∀ r10 r11 r12 h, K r10 r11 r12 h → K' (.tuple #[(.pointer r10), (.int .u64 r11), (.bool r12)]) h) (hh : vset_Set_bit.ret K v h) : K' v h := by
  unfold vset_Set_bit.ret at hh
  split at hh
  · exact hk _ _ _ _ hh
  · exact hh.elim
def vset_Set_bit.qcall (f : FuncId) (vs : List Value) (h : Heap) (K : Value → Prop) : Prop := match f, vs with
  | 151, [(.pointer a1)] => qcallP1 h (vset_Set_Room a1 h) fun r4 => K (.int .i64 r4)
  | _, _ => False
noncomputable def vset_Set_bit.ctx : Ctx := { P := Tryz.prog, call := fun _ _ _ _ => False, qcall := vset_Set_bit.qcall, quiet := fun f => Nat.beq f 151 || Nat.beq f 1000131 || Nat.beq f 1000155, loop := fun _ _ _ _ => False }
theorem vset_Set_bit.ok [DKc] : vset_Set_bit.ctx.OK where
  mixed := by kernel_rfl
  mono := fun hh _ => hh.elim
  call := fun hh => hh.elim
  qmono := by
    intro f args h K K' hh hk
    change vset_Set_bit.qcall f args h K at hh
    change vset_Set_bit.qcall f args h K'
    unfold vset_Set_bit.qcall at hh ⊢
    split at hh
    · obtain ⟨x0, h1, h2⟩ := hh
      exact ⟨x0, h1, hk _ h2⟩
    · exact hh.elim
  qval := by
    intro f args h K hh
    change vset_Set_bit.qcall f args h K at hh
    suffices H : ∃ v, K v ∧ vset_Set_bit.qcall f args h (· = v) from H
    unfold vset_Set_bit.qcall at hh ⊢
    split at hh
    · obtain ⟨x0, h1, h2⟩ := hh
      exact ⟨_, h2, x0, h1, rfl⟩
    · exact hh.elim
  qcall := by
    intro f args h v hh w hw
    change vset_Set_bit.qcall f args h (· = v) at hh
    unfold vset_Set_bit.qcall at hh
    split at hh
    · obtain ⟨x0, h1, h2⟩ := hh
      obtain ⟨g1, g2⟩ := vset_Set_Room.calls h1 w hw
      refine .inl ⟨g1, g2.mono fun e w' ⟨u, he, ho, hr⟩ => ?_⟩
      have hq := vset_Set_Room.ret_elim (K' := fun u h' => u = v ∧ h' = h) (fun _ h' hr => by obtain ⟨rfl, rfl⟩ := hr; exact ⟨h2, rfl⟩) hr
      exact ⟨hq.1 ▸ he, ho, hq.2⟩
    · exact hh.elim
noncomputable def vset_Set_bit.code : Code := (Tryz.f143.body).getD .skip
def vset_Set_bit.ann : Ann := (.two .auto (.two .auto (.two (.reg [0, 1, 3, 7, 0, 16, 63, 0, 128, 384, 127, 2047, 4095] (.take 0 (.take 1 (.take 2 (.take 3 (.take 4 (.take 5 (.take 6 (.take 7 (.take 8 (.take 9 (.take 10 (.take 11 (.take 12 .done)))))))))))))) .auto)))
set_option maxRecDepth 100000 in
theorem vset_Set_bit.eq (a1 : Option Addr) (a2 : Int) (h : Heap) (K : (Option Addr) → Int → Bool → Heap → Prop) : evF vset_Set_bit.ctx Tryz.f143 vset_Set_bit.ann [(.pointer a1), (.int .i64 a2)] h (vset_Set_bit.ret K) = vset_Set_bit a1 a2 h K := by kernel_rfl
set_option maxRecDepth 100000 in
theorem vset_Set_bit.calls [DKc] {a1 : Option Addr} {a2 : Int} {h : Heap} {K : (Option Addr) → Int → Bool → Heap → Prop} (hh : vset_Set_bit a1 a2 h K) (w : World) (hw : w.heap = h) :
    (callFunc 143 #[(.pointer a1), (.int .i64 a2)]).run Tryz.prog w = .ok (.enter 143 #[(.pointer a1), (.int .i64 a2)]) w ∧ Calls Tryz.prog 143 #[(.pointer a1), (.int .i64 a2)] w fun e w' => ∃ v, e = .returned v ∧ Out w w' ∧ vset_Set_bit.ret K v w'.heap := by
  rw [← vset_Set_bit.eq] at hh
  exact fn_calls (args := [(.pointer a1), (.int .i64 a2)]) (c := vset_Set_bit.code) vset_Set_bit.ok Tryz.func143 (by kernel_rfl) (by kernel_rfl) (by kernel_rfl) (by kernel_rfl) (loops_ok (l := []) (by kernel_rfl) trivial) hh w hw

/-! ### (*strait/vset.Set).Put: function 142 -/
def vset_Set_Put (a1 : Option Addr) (a2 : Int) (h : Heap) (K : Bool → Heap → Prop) : Prop :=
  (qcallP3 h (vset_Set_bit a1 a2 h) fun x3 x4 x5 => (iteB (!x5) (K false h) (chkP x3 fun a6 => ∃ (x7 : Int), cell h a6 = some (.int .u64 x7) ∧ (iteB ((bits .and .u64 x7 x4) != (0 : Int)) (K false h) ((chkP x3 fun a17 => ∃ (x18 : Int), cell h a17 = some (.int .u64 x18) ∧ chkP x3 fun a19 => stC h a19 (.int .u64 (bits .or .u64 x18 x4)) fun h20 => K true h20))))))
def vset_Set_Put.ret (K : Bool → Heap → Prop) (v : Value) (h : Heap) : Prop := match v with
  | (.bool r21) => K r21 h
  | _ => False
theorem vset_Set_Put.ret_elim {K : Bool → Heap → Prop} {K' : Value → Heap → Prop} {v : Value} {h : Heap} (hk : ∀ r21 h, K r21 h → K' (.bool r21) h) (hh : vset_Set_Put.ret K v h) : K' v h := by
  unfold vset_Set_Put.ret at hh
  split at hh
  · exact hk _ _ hh
  · exact hh.elim
def vset_Set_Put.qcall (f : FuncId) (vs : List Value) (h : Heap) (K : Value → Prop) : Prop := match f, vs with
  | 143, [(.pointer a1), (.int .i64 a2)] => qcallP3 h (vset_Set_bit a1 a2 h) fun r10 r11 r12 => K (.tuple #[(.pointer r10), (.int .u64 r11), (.bool r12)])
  | _, _ => False
noncomputable def vset_Set_Put.ctx : Ctx := { P := Tryz.prog, call := fun _ _ _ _ => False, qcall := vset_Set_Put.qcall, quiet := fun f => Nat.beq f 143 || Nat.beq f 1000131 || Nat.beq f 1000155, loop := fun _ _ _ _ => False }
theorem vset_Set_Put.ok [DKc] : vset_Set_Put.ctx.OK where
  mixed := by kernel_rfl
  mono := fun hh _ => hh.elim
  call := fun hh => hh.elim
  qmono := by
    intro f args h K K' hh hk
    change vset_Set_Put.qcall f args h K at hh
    change vset_Set_Put.qcall f args h K'
    unfold vset_Set_Put.qcall at hh ⊢
    split at hh
    · obtain ⟨x0, x1, x2, h1, h2⟩ := hh
      exact ⟨x0, x1, x2, h1, hk _ h2⟩
    · exact hh.elim
  qval := by
    intro f args h K hh
    change vset_Set_Put.qcall f args h K at hh
    suffices H : ∃ v, K v ∧ vset_Set_Put.qcall f args h (· = v) from H
    unfold vset_Set_Put.qcall at hh ⊢
    split at hh
    · obtain ⟨x0, x1, x2, h1, h2⟩ := hh
      exact ⟨_, h2, x0, x1, x2, h1, rfl⟩
    · exact hh.elim
  qcall := by
    intro f args h v hh w hw
    change vset_Set_Put.qcall f args h (· = v) at hh
    unfold vset_Set_Put.qcall at hh
    split at hh
    · obtain ⟨x0, x1, x2, h1, h2⟩ := hh
      obtain ⟨g1, g2⟩ := vset_Set_bit.calls h1 w hw
      refine .inl ⟨g1, g2.mono fun e w' ⟨u, he, ho, hr⟩ => ?_⟩
      have hq := vset_Set_bit.ret_elim (K' := fun u h' => u = v ∧ h' = h) (fun _ _ _ h' hr => by obtain ⟨rfl, rfl, rfl, rfl⟩ := hr; exact ⟨h2, rfl⟩) hr
      exact ⟨hq.1 ▸ he, ho, hq.2⟩
    · exact hh.elim
noncomputable def vset_Set_Put.code : Code := (Tryz.f142.body).getD .skip
def vset_Set_Put.ann : Ann := .auto
set_option maxRecDepth 100000 in
theorem vset_Set_Put.eq (a1 : Option Addr) (a2 : Int) (h : Heap) (K : Bool → Heap → Prop) : evF vset_Set_Put.ctx Tryz.f142 vset_Set_Put.ann [(.pointer a1), (.int .i64 a2)] h (vset_Set_Put.ret K) = vset_Set_Put a1 a2 h K := by kernel_rfl
set_option maxRecDepth 100000 in
theorem vset_Set_Put.calls [DKc] {a1 : Option Addr} {a2 : Int} {h : Heap} {K : Bool → Heap → Prop} (hh : vset_Set_Put a1 a2 h K) (w : World) (hw : w.heap = h) :
    (callFunc 142 #[(.pointer a1), (.int .i64 a2)]).run Tryz.prog w = .ok (.enter 142 #[(.pointer a1), (.int .i64 a2)]) w ∧ Calls Tryz.prog 142 #[(.pointer a1), (.int .i64 a2)] w fun e w' => ∃ v, e = .returned v ∧ Out w w' ∧ vset_Set_Put.ret K v w'.heap := by
  rw [← vset_Set_Put.eq] at hh
  exact fn_calls (args := [(.pointer a1), (.int .i64 a2)]) (c := vset_Set_Put.code) vset_Set_Put.ok Tryz.func142 (by kernel_rfl) (by kernel_rfl) (by kernel_rfl) (by kernel_rfl) (loops_ok (l := []) (by kernel_rfl) trivial) hh w hw

/-! ### strait/vset.Of: function 115 -/
def vset_Of.b0 (K2 : Heap → Prop) (cont : (Option Addr) → (Option Addr) → Nat → Nat → Int → Int → Heap → Prop) (c5_1001 : Option Addr) (c10_1002 : Option Addr) (c10_1003 : Nat) (c10_1004 : Nat) (c11_1005 : Int) (v12_1006 : Int) (h1007 : Heap) : Prop :=
  (iteB (decide (v12_1006 < c11_1005)) ((chkP c10_1002 fun a1008 => (0 ≤ v12_1006 ∧ v12_1006 < (c10_1003 : Int)) ∧ ∃ (x1009 : Int), cell h1007 (a1008.add (v12_1006.toNat * 1)) = some (.int .i64 x1009) ∧ (callP1 (vset_Set_Put c5_1001 x1009 h1007) fun x1010 h1011 => ((cont c5_1001 c10_1002 c10_1003 c10_1004 c11_1005 (IntKind.i64.wrap (v12_1006 + 1)) h1011))))) (K2 h1007))
def vset_Of.l0 (K2 : Heap → Prop) : Nat → (Option Addr) → (Option Addr) → Nat → Nat → Int → Int → Heap → Prop
  | 0, _, _, _, _, _, _, _ => False
  | m + 1, c5_1001, c10_1002, c10_1003, c10_1004, c11_1005, v12_1006, h => vset_Of.b0 K2 (vset_Of.l0 K2 m) c5_1001 c10_1002 c10_1003 c10_1004 c11_1005 v12_1006 h
def vset_Of (a1 : Int) (a2 : Option Addr) (a2l : Nat) (a2c : Nat) (h : Heap) (K : (Option Addr) → Heap → Prop) : Prop :=
  (callP1 (vset_New a1 h) fun x3 h4 => ((∃ m6, vset_Of.l0 (fun h5 => (K x3 h5)) m6 x3 a2 a2l a2c (a2l : Int) 0 h4)))
def vset_Of.ret (K : (Option Addr) → Heap → Prop) (v : Value) (h : Heap) : Prop := match v with
  | (.pointer r7) => K r7 h
  | _ => False
theorem vset_Of.ret_elim {K : (Option Addr) → Heap → Prop} {K' : Value → Heap → Prop} {v : Value} {h : Heap} (hk : ∀ r7 h, K r7 h → K' (.pointer r7) h) (hh : vset_Of.ret K v h) : K' v h := by
  unfold vset_Of.ret at hh
  split at hh
  · exact hk _ _ hh
  · exact hh.elim
def vset_Of.call (f : FuncId) (vs : List Value) (h : Heap) (K : Value → Heap → Prop) : Prop := match f, vs with
  | 141, [(.int .i64 a1)] => callP1 (vset_New a1 h) fun r8 h' => K (.pointer r8) h'
  | 142, [(.pointer a1), (.int .i64 a2)] => callP1 (vset_Set_Put a1 a2 h) fun r21 h' => K (.bool r21) h'
  | _, _ => False
def vset_Of.r0 (K : Nat → List Value → Heap → Prop) (m : Nat) (vs : List Value) (h : Heap) : Prop := match vs with
  | [(.pointer c5_1001), (.slice c10_1002 c10_1003 c10_1004), (.int .i64 c11_1005), (.int .i64 v12_1006)] => vset_Of.l0 (fun h' => K 2 [(.pointer c5_1001)] h') m c5_1001 c10_1002 c10_1003 c10_1004 c11_1005 v12_1006 h
  | _ => False
def vset_Of.loop (i : Nat) (vs : List Value) (h : Heap) (K : Nat → List Value → Heap → Prop) : Prop := match i with
  | 0 => ∃ m, vset_Of.r0 K m vs h
  | _ => False
noncomputable def vset_Of.ctx : Ctx := { P := Tryz.prog, call := vset_Of.call, qcall := fun _ _ _ _ => False, quiet := fun f => Nat.beq f 1000131 || Nat.beq f 1000155, loop := vset_Of.loop }
theorem vset_Of.ok [DKc] : vset_Of.ctx.OK where
  mixed := by kernel_rfl
  mono := by
    intro f args h K K' hh hk
    change vset_Of.call f args h K at hh
    change vset_Of.call f args h K'
    unfold vset_Of.call at hh ⊢
    split at hh
    · obtain ⟨R, h1, h2⟩ := hh
      exact ⟨R, h1, fun _ x hr => hk _ _ (h2 _ x hr)⟩
    · obtain ⟨R, h1, h2⟩ := hh
      exact ⟨R, h1, fun _ x hr => hk _ _ (h2 _ x hr)⟩
    · exact hh.elim
  call := by
    intro f args h K hh w hw
    change vset_Of.call f args h K at hh
    unfold vset_Of.call at hh
    split at hh
    · obtain ⟨R, h1, h2⟩ := hh
      obtain ⟨g1, g2⟩ := vset_New.calls h1 w hw
      exact ⟨g1, g2.mono fun e w' ⟨v, he, ho, hr⟩ => ⟨v, he, ho, vset_New.ret_elim h2 hr⟩⟩
    · obtain ⟨R, h1, h2⟩ := hh
      obtain ⟨g1, g2⟩ := vset_Set_Put.calls h1 w hw
      exact ⟨g1, g2.mono fun e w' ⟨v, he, ho, hr⟩ => ⟨v, he, ho, vset_Set_Put.ret_elim h2 hr⟩⟩
    · exact hh.elim
  qmono := fun hh _ => hh.elim
  qval := fun hh => hh.elim
  qcall := fun hh => hh.elim
noncomputable def vset_Of.code : Code := (Tryz.f115.body).getD .skip
def vset_Of.ann : Ann := (.two .auto (.two .auto (.two (.two .auto (.two (.loop 0 [5, 10, 11, 12] [(2, [5])] .auto) .auto)) .auto)))
noncomputable def vset_Of.c0 : Code := sub vset_Of.code [1, 1, 0, 1, 0, 0]
def vset_Of.a0 : Ann := .auto
def vset_Of.keep0 : List Nat := [5, 10, 11, 12]
def vset_Of.outs0 : List (Nat × List Nat) := [(2, [5])]
set_option maxRecDepth 100000 in
theorem vset_Of.L0 [DKc] : LoopOK vset_Of.ctx 21 vset_Of.c0 0 vset_Of.keep0 vset_Of.outs0 := by
  refine loop_ok (n := vset_Of.a0) vset_Of.ok (by kernel_rfl) (loops_ok (l := []) (by kernel_rfl) ?_) vset_Of.r0 ?_ ?_ (fun vs h K hh => hh)
  · exact trivial
  · intro K vs h hh
    unfold vset_Of.r0 at hh
    split at hh
    · exact hh
    · exact hh
  · intro K m vs h hh
    unfold vset_Of.r0 at hh
    split at hh
    · exact cast (by kernel_rfl) hh
    · exact hh.elim
set_option maxRecDepth 100000 in
theorem vset_Of.eq (a1 : Int) (a2 : Option Addr) (a2l : Nat) (a2c : Nat) (h : Heap) (K : (Option Addr) → Heap → Prop) : evF vset_Of.ctx Tryz.f115 vset_Of.ann [(.int .i64 a1), (.slice a2 a2l a2c)] h (vset_Of.ret K) = vset_Of a1 a2 a2l a2c h K := by kernel_rfl
set_option maxRecDepth 100000 in
theorem vset_Of.calls [DKc] {a1 : Int} {a2 : Option Addr} {a2l : Nat} {a2c : Nat} {h : Heap} {K : (Option Addr) → Heap → Prop} (hh : vset_Of a1 a2 a2l a2c h K) (w : World) (hw : w.heap = h) :
    (callFunc 115 #[(.int .i64 a1), (.slice a2 a2l a2c)]).run Tryz.prog w = .ok (.enter 115 #[(.int .i64 a1), (.slice a2 a2l a2c)]) w ∧ Calls Tryz.prog 115 #[(.int .i64 a1), (.slice a2 a2l a2c)] w fun e w' => ∃ v, e = .returned v ∧ Out w w' ∧ vset_Of.ret K v w'.heap := by
  rw [← vset_Of.eq] at hh
  exact fn_calls (args := [(.int .i64 a1), (.slice a2 a2l a2c)]) (c := vset_Of.code) vset_Of.ok Tryz.func115 (by kernel_rfl) (by kernel_rfl) (by kernel_rfl) (by kernel_rfl) (loops_ok (l := [(vset_Of.c0, none, 0, vset_Of.keep0, vset_Of.outs0)]) (by kernel_rfl) ⟨vset_Of.L0, trivial⟩) hh w hw

/-! ### strait/side.set: function 90 -/
def side_set (a1 : Option Addr) (a2 : Option Addr) (a2l : Nat) (a2c : Nat) (h : Heap) (K : (Option Addr) → Int → Heap → Prop) : Prop :=
  (qcallP1 h (net_Net_N a1 h) fun x3 => qcallP1 h (side_Check x3 a2 a2l a2c h) fun x4 => ((iteB (x4 != (0 : Int)) (K none x4 h) ((qcallP1 h (net_Net_N a1 h) fun x5 => callP1 (vset_Of x5 a2 a2l a2c h) fun x6 h7 => K x6 0 h7)))))
def side_set.ret (K : (Option Addr) → Int → Heap → Prop) (v : Value) (h : Heap) : Prop := match v with
  | (.tuple ⟨[(.pointer r8), (.int .i64 r9)]⟩) => K r8 r9 h
  | _ => False
theorem side_set.ret_elim {K : (Option Addr) → Int → Heap → Prop} {K' : Value → Heap → Prop} {v : Value} {h : Heap} (hk : ∀ r8 r9 h, K r8 r9 h → K' (.tuple #[(.pointer r8), (.int .i64 r9)]) h) (hh : side_set.ret K v h) : K' v h := by
  unfold side_set.ret at hh
  split at hh
  · exact hk _ _ _ hh
  · exact hh.elim
def side_set.call (f : FuncId) (vs : List Value) (h : Heap) (K : Value → Heap → Prop) : Prop := match f, vs with
  | 115, [(.int .i64 a1), (.slice a2 a2l a2c)] => callP1 (vset_Of a1 a2 a2l a2c h) fun r7 h' => K (.pointer r7) h'
  | _, _ => False
def side_set.qcall (f : FuncId) (vs : List Value) (h : Heap) (K : Value → Prop) : Prop := match f, vs with
  | 44, [(.pointer a1)] => qcallP1 h (net_Net_N a1 h) fun r4 => K (.int .i64 r4)
  | 114, [(.int .i64 a1), (.slice a2 a2l a2c)] => qcallP1 h (side_Check a1 a2 a2l a2c h) fun r8 => K (.int .i64 r8)
  | _, _ => False
noncomputable def side_set.ctx : Ctx := { P := Tryz.prog, call := side_set.call, qcall := side_set.qcall, quiet := fun f => Nat.beq f 44 || Nat.beq f 114 || Nat.beq f 1000131 || Nat.beq f 1000155, loop := fun _ _ _ _ => False }
theorem side_set.ok [DKc] : side_set.ctx.OK where
  mixed := by kernel_rfl
  mono := by
    intro f args h K K' hh hk
    change side_set.call f args h K at hh
    change side_set.call f args h K'
    unfold side_set.call at hh ⊢
    split at hh
    · obtain ⟨R, h1, h2⟩ := hh
      exact ⟨R, h1, fun _ x hr => hk _ _ (h2 _ x hr)⟩
    · exact hh.elim
  call := by
    intro f args h K hh w hw
    change side_set.call f args h K at hh
    unfold side_set.call at hh
    split at hh
    · obtain ⟨R, h1, h2⟩ := hh
      obtain ⟨g1, g2⟩ := vset_Of.calls h1 w hw
      exact ⟨g1, g2.mono fun e w' ⟨v, he, ho, hr⟩ => ⟨v, he, ho, vset_Of.ret_elim h2 hr⟩⟩
    · exact hh.elim
  qmono := by
    intro f args h K K' hh hk
    change side_set.qcall f args h K at hh
    change side_set.qcall f args h K'
    unfold side_set.qcall at hh ⊢
    split at hh
    · obtain ⟨x0, h1, h2⟩ := hh
      exact ⟨x0, h1, hk _ h2⟩
    · obtain ⟨x0, h1, h2⟩ := hh
      exact ⟨x0, h1, hk _ h2⟩
    · exact hh.elim
  qval := by
    intro f args h K hh
    change side_set.qcall f args h K at hh
    suffices H : ∃ v, K v ∧ side_set.qcall f args h (· = v) from H
    unfold side_set.qcall at hh ⊢
    split at hh
    · obtain ⟨x0, h1, h2⟩ := hh
      exact ⟨_, h2, x0, h1, rfl⟩
    · obtain ⟨x0, h1, h2⟩ := hh
      exact ⟨_, h2, x0, h1, rfl⟩
    · exact hh.elim
  qcall := by
    intro f args h v hh w hw
    change side_set.qcall f args h (· = v) at hh
    unfold side_set.qcall at hh
    split at hh
    · obtain ⟨x0, h1, h2⟩ := hh
      obtain ⟨g1, g2⟩ := net_Net_N.calls h1 w hw
      refine .inl ⟨g1, g2.mono fun e w' ⟨u, he, ho, hr⟩ => ?_⟩
      have hq := net_Net_N.ret_elim (K' := fun u h' => u = v ∧ h' = h) (fun _ h' hr => by obtain ⟨rfl, rfl⟩ := hr; exact ⟨h2, rfl⟩) hr
      exact ⟨hq.1 ▸ he, ho, hq.2⟩
    · obtain ⟨x0, h1, h2⟩ := hh
      obtain ⟨g1, g2⟩ := side_Check.calls h1 w hw
      refine .inl ⟨g1, g2.mono fun e w' ⟨u, he, ho, hr⟩ => ?_⟩
      have hq := side_Check.ret_elim (K' := fun u h' => u = v ∧ h' = h) (fun _ h' hr => by obtain ⟨rfl, rfl⟩ := hr; exact ⟨h2, rfl⟩) hr
      exact ⟨hq.1 ▸ he, ho, hq.2⟩
    · exact hh.elim
noncomputable def side_set.code : Code := (Tryz.f90.body).getD .skip
def side_set.ann : Ann := .auto
set_option maxRecDepth 100000 in
theorem side_set.eq (a1 : Option Addr) (a2 : Option Addr) (a2l : Nat) (a2c : Nat) (h : Heap) (K : (Option Addr) → Int → Heap → Prop) : evF side_set.ctx Tryz.f90 side_set.ann [(.pointer a1), (.slice a2 a2l a2c)] h (side_set.ret K) = side_set a1 a2 a2l a2c h K := by kernel_rfl
set_option maxRecDepth 100000 in
theorem side_set.calls [DKc] {a1 : Option Addr} {a2 : Option Addr} {a2l : Nat} {a2c : Nat} {h : Heap} {K : (Option Addr) → Int → Heap → Prop} (hh : side_set a1 a2 a2l a2c h K) (w : World) (hw : w.heap = h) :
    (callFunc 90 #[(.pointer a1), (.slice a2 a2l a2c)]).run Tryz.prog w = .ok (.enter 90 #[(.pointer a1), (.slice a2 a2l a2c)]) w ∧ Calls Tryz.prog 90 #[(.pointer a1), (.slice a2 a2l a2c)] w fun e w' => ∃ v, e = .returned v ∧ Out w w' ∧ side_set.ret K v w'.heap := by
  rw [← side_set.eq] at hh
  exact fn_calls (args := [(.pointer a1), (.slice a2 a2l a2c)]) (c := side_set.code) side_set.ok Tryz.func90 (by kernel_rfl) (by kernel_rfl) (by kernel_rfl) (by kernel_rfl) (loops_ok (l := []) (by kernel_rfl) trivial) hh w hw

/-! ### strait/side.crossing: function 91 -/
def side_crossing (a1 : Option Addr) (a2 : Option Addr) (h : Heap) (K : Value → Heap → Prop) : Prop :=
  newP h (.cells #[(.pointer a1)] 24) fun a3 h4 => newP h4 (.cells #[(.pointer a2)] 161) fun a5 h6 => ((K (.func (.func 116) #[] #[(.pointer (some a3)), (.pointer (some a5))]) h6))
def side_crossing.ret (K : Value → Heap → Prop) (v : Value) (h : Heap) : Prop := K v h
theorem side_crossing.ret_elim {K : Value → Heap → Prop} {K' : Value → Heap → Prop} {v : Value} {h : Heap} (hk : ∀ x h, K x h → K' x h) (hh : side_crossing.ret K v h) : K' v h := hk _ _ hh
noncomputable def side_crossing.ctx : Ctx := { P := Tryz.prog, call := fun _ _ _ _ => False, qcall := fun _ _ _ _ => False, quiet := fun f => Nat.beq f 1000131 || Nat.beq f 1000155, loop := fun _ _ _ _ => False }
theorem side_crossing.ok [DKc] : side_crossing.ctx.OK where
  mixed := by kernel_rfl
  mono := fun hh _ => hh.elim
  call := fun hh => hh.elim
  qmono := fun hh _ => hh.elim
  qval := fun hh => hh.elim
  qcall := fun hh => hh.elim
noncomputable def side_crossing.code : Code := (Tryz.f91.body).getD .skip
def side_crossing.ann : Ann := .auto
set_option maxRecDepth 100000 in
theorem side_crossing.eq (a1 : Option Addr) (a2 : Option Addr) (h : Heap) (K : Value → Heap → Prop) : evF side_crossing.ctx Tryz.f91 side_crossing.ann [(.pointer a1), (.pointer a2)] h (side_crossing.ret K) = side_crossing a1 a2 h K := by kernel_rfl
set_option maxRecDepth 100000 in
theorem side_crossing.calls [DKc] {a1 : Option Addr} {a2 : Option Addr} {h : Heap} {K : Value → Heap → Prop} (hh : side_crossing a1 a2 h K) (w : World) (hw : w.heap = h) :
    (callFunc 91 #[(.pointer a1), (.pointer a2)]).run Tryz.prog w = .ok (.enter 91 #[(.pointer a1), (.pointer a2)]) w ∧ Calls Tryz.prog 91 #[(.pointer a1), (.pointer a2)] w fun e w' => ∃ v, e = .returned v ∧ Out w w' ∧ side_crossing.ret K v w'.heap := by
  rw [← side_crossing.eq] at hh
  exact fn_calls (args := [(.pointer a1), (.pointer a2)]) (c := side_crossing.code) side_crossing.ok Tryz.func91 (by kernel_rfl) (by kernel_rfl) (by kernel_rfl) (by kernel_rfl) (loops_ok (l := []) (by kernel_rfl) trivial) hh w hw

/-! ### (*strait/vset.Set).Has: function 117 -/
def vset_Set_Has (a1 : Option Addr) (a2 : Int) (h : Heap) (K : Bool → Heap → Prop) : Prop :=
  (qcallP3 h (vset_Set_bit a1 a2 h) fun x3 x4 x5 => (iteB x5 (chkP x3 fun a6 => ∃ (x7 : Int), cell h a6 = some (.int .u64 x7) ∧ (K ((bits .and .u64 x7 x4) != (0 : Int)) h)) (K false h)))
def vset_Set_Has.ret (K : Bool → Heap → Prop) (v : Value) (h : Heap) : Prop := match v with
  | (.bool r9) => K r9 h
  | _ => False
theorem vset_Set_Has.ret_elim {K : Bool → Heap → Prop} {K' : Value → Heap → Prop} {v : Value} {h : Heap} (hk : ∀ r9 h, K r9 h → K' (.bool r9) h) (hh : vset_Set_Has.ret K v h) : K' v h := by
  unfold vset_Set_Has.ret at hh
  split at hh
  · exact hk _ _ hh
  · exact hh.elim
def vset_Set_Has.qcall (f : FuncId) (vs : List Value) (h : Heap) (K : Value → Prop) : Prop := match f, vs with
  | 143, [(.pointer a1), (.int .i64 a2)] => qcallP3 h (vset_Set_bit a1 a2 h) fun r10 r11 r12 => K (.tuple #[(.pointer r10), (.int .u64 r11), (.bool r12)])
  | _, _ => False
noncomputable def vset_Set_Has.ctx : Ctx := { P := Tryz.prog, call := fun _ _ _ _ => False, qcall := vset_Set_Has.qcall, quiet := fun f => Nat.beq f 143 || Nat.beq f 1000131 || Nat.beq f 1000155, loop := fun _ _ _ _ => False }
theorem vset_Set_Has.ok [DKc] : vset_Set_Has.ctx.OK where
  mixed := by kernel_rfl
  mono := fun hh _ => hh.elim
  call := fun hh => hh.elim
  qmono := by
    intro f args h K K' hh hk
    change vset_Set_Has.qcall f args h K at hh
    change vset_Set_Has.qcall f args h K'
    unfold vset_Set_Has.qcall at hh ⊢
    split at hh
    · obtain ⟨x0, x1, x2, h1, h2⟩ := hh
      exact ⟨x0, x1, x2, h1, hk _ h2⟩
    · exact hh.elim
  qval := by
    intro f args h K hh
    change vset_Set_Has.qcall f args h K at hh
    suffices H : ∃ v, K v ∧ vset_Set_Has.qcall f args h (· = v) from H
    unfold vset_Set_Has.qcall at hh ⊢
    split at hh
    · obtain ⟨x0, x1, x2, h1, h2⟩ := hh
      exact ⟨_, h2, x0, x1, x2, h1, rfl⟩
    · exact hh.elim
  qcall := by
    intro f args h v hh w hw
    change vset_Set_Has.qcall f args h (· = v) at hh
    unfold vset_Set_Has.qcall at hh
    split at hh
    · obtain ⟨x0, x1, x2, h1, h2⟩ := hh
      obtain ⟨g1, g2⟩ := vset_Set_bit.calls h1 w hw
      refine .inl ⟨g1, g2.mono fun e w' ⟨u, he, ho, hr⟩ => ?_⟩
      have hq := vset_Set_bit.ret_elim (K' := fun u h' => u = v ∧ h' = h) (fun _ _ _ h' hr => by obtain ⟨rfl, rfl, rfl, rfl⟩ := hr; exact ⟨h2, rfl⟩) hr
      exact ⟨hq.1 ▸ he, ho, hq.2⟩
    · exact hh.elim
noncomputable def vset_Set_Has.code : Code := (Tryz.f117.body).getD .skip
def vset_Set_Has.ann : Ann := .auto
set_option maxRecDepth 100000 in
theorem vset_Set_Has.eq (a1 : Option Addr) (a2 : Int) (h : Heap) (K : Bool → Heap → Prop) : evF vset_Set_Has.ctx Tryz.f117 vset_Set_Has.ann [(.pointer a1), (.int .i64 a2)] h (vset_Set_Has.ret K) = vset_Set_Has a1 a2 h K := by kernel_rfl
set_option maxRecDepth 100000 in
theorem vset_Set_Has.calls [DKc] {a1 : Option Addr} {a2 : Int} {h : Heap} {K : Bool → Heap → Prop} (hh : vset_Set_Has a1 a2 h K) (w : World) (hw : w.heap = h) :
    (callFunc 117 #[(.pointer a1), (.int .i64 a2)]).run Tryz.prog w = .ok (.enter 117 #[(.pointer a1), (.int .i64 a2)]) w ∧ Calls Tryz.prog 117 #[(.pointer a1), (.int .i64 a2)] w fun e w' => ∃ v, e = .returned v ∧ Out w w' ∧ vset_Set_Has.ret K v w'.heap := by
  rw [← vset_Set_Has.eq] at hh
  exact fn_calls (args := [(.pointer a1), (.int .i64 a2)]) (c := vset_Set_Has.code) vset_Set_Has.ok Tryz.func117 (by kernel_rfl) (by kernel_rfl) (by kernel_rfl) (by kernel_rfl) (loops_ok (l := []) (by kernel_rfl) trivial) hh w hw

/-! ### strait/side.Weight: function 58, by its contract -/
def side_Weight.ret (K : Int → Int → Heap → Prop) (v : Value) (h : Heap) : Prop := match v with
  | (.tuple ⟨[(.int .i64 r3), (.int .i64 r4)]⟩) => K r3 r4 h
  | _ => False
theorem side_Weight.ret_elim {K : Int → Int → Heap → Prop} {K' : Value → Heap → Prop} {v : Value} {h : Heap} (hk : ∀ r3 r4 h, K r3 r4 h → K' (.tuple #[(.int .i64 r3), (.int .i64 r4)]) h) (hh : side_Weight.ret K v h) : K' v h := by
  unfold side_Weight.ret at hh
  split at hh
  · exact hk _ _ _ hh
  · exact hh.elim
def side_Weight [DKc] (a1 : Option Addr) (a2 : Option Addr) (a2l : Nat) (a2c : Nat) (h : Heap) (K : Int → Int → Heap → Prop) : Prop := ∀ w : World, w.heap = h → (callFunc 58 #[(.pointer a1), (.slice a2 a2l a2c)]).run Tryz.prog w = .ok (.enter 58 #[(.pointer a1), (.slice a2 a2l a2c)]) w ∧ Calls Tryz.prog 58 #[(.pointer a1), (.slice a2 a2l a2c)] w fun e w' => ∃ v, e = .returned v ∧ Out w w' ∧ side_Weight.ret K v w'.heap
theorem side_Weight.calls [DKc] {a1 : Option Addr} {a2 : Option Addr} {a2l : Nat} {a2c : Nat} {h : Heap} {K : Int → Int → Heap → Prop} (hh : side_Weight a1 a2 a2l a2c h K) (w : World) (hw : w.heap = h) : (callFunc 58 #[(.pointer a1), (.slice a2 a2l a2c)]).run Tryz.prog w = .ok (.enter 58 #[(.pointer a1), (.slice a2 a2l a2c)]) w ∧ Calls Tryz.prog 58 #[(.pointer a1), (.slice a2 a2l a2c)] w fun e w' => ∃ v, e = .returned v ∧ Out w w' ∧ side_Weight.ret K v w'.heap := hh w hw

/-! ### strait/side.Cut: function 56 -/
section
variable [DKc]
def side_Cut (a1 : Option Addr) (a2 : Option Addr) (a2l : Nat) (a2c : Nat) (h : Heap) (K : Int → (Option Addr) → Nat → Nat → Int → Heap → Prop) : Prop :=
  newP h (.cells #[(.int .i64 0), (.slice none 0 0)] 55) fun a3 h4 => (callP2 (side_Weight a1 a2 a2l a2c h4) fun x5 x6 h7 => ((iteB (x6 != (0 : Int)) (stC h7 a3 (.int .i64 0) fun h8 => stC h8 (a3.add 1) (.slice none 0 0) fun h9 => (∃ (x10 : Int), cell h9 a3 = some (.int .i64 x10) ∧ ∃ (x11 : Option Addr) (x11l : Nat) (x11c : Nat), cell h9 (a3.add 1) = some (.slice x11 x11l x11c) ∧ K x10 x11 x11l x11c x6 h9)) ((callP3 (slices_Clone_Lint_int a2 a2l a2c h7) fun x12 x12l x12c h13 => stC h13 a3 (.int .i64 x5) fun h14 => stC h14 (a3.add 1) (.slice x12 x12l x12c) fun h15 => (∃ (x16 : Int), cell h15 a3 = some (.int .i64 x16) ∧ ∃ (x17 : Option Addr) (x17l : Nat) (x17c : Nat), cell h15 (a3.add 1) = some (.slice x17 x17l x17c) ∧ K x16 x17 x17l x17c 0 h15))))))
def side_Cut.ret (K : Int → (Option Addr) → Nat → Nat → Int → Heap → Prop) (v : Value) (h : Heap) : Prop := match v with
  | (.tuple ⟨[(.agg ⟨[(.int .i64 r18), (.slice r19 r19l r19c)]⟩), (.int .i64 r20)]⟩) => K r18 r19 r19l r19c r20 h
  | _ => False
theorem side_Cut.ret_elim {K : Int → (Option Addr) → Nat → Nat → Int → Heap → Prop} {K' : Value → Heap → Prop} {v : Value} {h : Heap} (hk : ∀ r18 r19 r19l r19c r20 h, K r18 r19 r19l r19c r20 h → K' (.tuple #[(.agg #[(.int .i64 r18), (.slice r19 r19l r19c)]), (.int .i64 r20)]) h) (hh : side_Cut.ret K v h) : K' v h := by
  unfold side_Cut.ret at hh
  split at hh
  · exact hk _ _ _ _ _ _ hh
  · exact hh.elim
def side_Cut.call (f : FuncId) (vs : List Value) (h : Heap) (K : Value → Heap → Prop) : Prop := match f, vs with
  | 58, [(.pointer a1), (.slice a2 a2l a2c)] => callP2 (side_Weight a1 a2 a2l a2c h) fun r3 r4 h' => K (.tuple #[(.int .i64 r3), (.int .i64 r4)]) h'
  | 86, [(.slice a1 a1l a1c)] => callP3 (slices_Clone_Lint_int a1 a1l a1c h) fun r9 r9l r9c h' => K (.slice r9 r9l r9c) h'
  | _, _ => False
noncomputable def side_Cut.ctx : Ctx := { P := Tryz.prog, call := side_Cut.call, qcall := fun _ _ _ _ => False, quiet := fun f => Nat.beq f 1000131 || Nat.beq f 1000155, loop := fun _ _ _ _ => False }
theorem side_Cut.ok : side_Cut.ctx.OK where
  mixed := by kernel_rfl
  mono := by
    intro f args h K K' hh hk
    change side_Cut.call f args h K at hh
    change side_Cut.call f args h K'
    unfold side_Cut.call at hh ⊢
    split at hh
    · obtain ⟨R, h1, h2⟩ := hh
      exact ⟨R, h1, fun _ _ x hr => hk _ _ (h2 _ _ x hr)⟩
    · obtain ⟨R, h1, h2⟩ := hh
      exact ⟨R, h1, fun _ _ _ x hr => hk _ _ (h2 _ _ _ x hr)⟩
    · exact hh.elim
  call := by
    intro f args h K hh w hw
    change side_Cut.call f args h K at hh
    unfold side_Cut.call at hh
    split at hh
    · obtain ⟨R, h1, h2⟩ := hh
      obtain ⟨g1, g2⟩ := side_Weight.calls h1 w hw
      exact ⟨g1, g2.mono fun e w' ⟨v, he, ho, hr⟩ => ⟨v, he, ho, side_Weight.ret_elim h2 hr⟩⟩
    · obtain ⟨R, h1, h2⟩ := hh
      obtain ⟨g1, g2⟩ := slices_Clone_Lint_int.calls h1 w hw
      exact ⟨g1, g2.mono fun e w' ⟨v, he, ho, hr⟩ => ⟨v, he, ho, slices_Clone_Lint_int.ret_elim h2 hr⟩⟩
    · exact hh.elim
  qmono := fun hh _ => hh.elim
  qval := fun hh => hh.elim
  qcall := fun hh => hh.elim
noncomputable def side_Cut.code : Code := (Tryz.f56.body).getD .skip
def side_Cut.ann : Ann := .auto
set_option maxRecDepth 100000 in
theorem side_Cut.eq (a1 : Option Addr) (a2 : Option Addr) (a2l : Nat) (a2c : Nat) (h : Heap) (K : Int → (Option Addr) → Nat → Nat → Int → Heap → Prop) : evF side_Cut.ctx Tryz.f56 side_Cut.ann [(.pointer a1), (.slice a2 a2l a2c)] h (side_Cut.ret K) = side_Cut a1 a2 a2l a2c h K := by kernel_rfl
set_option maxRecDepth 100000 in
theorem side_Cut.calls {a1 : Option Addr} {a2 : Option Addr} {a2l : Nat} {a2c : Nat} {h : Heap} {K : Int → (Option Addr) → Nat → Nat → Int → Heap → Prop} (hh : side_Cut a1 a2 a2l a2c h K) (w : World) (hw : w.heap = h) :
    (callFunc 56 #[(.pointer a1), (.slice a2 a2l a2c)]).run Tryz.prog w = .ok (.enter 56 #[(.pointer a1), (.slice a2 a2l a2c)]) w ∧ Calls Tryz.prog 56 #[(.pointer a1), (.slice a2 a2l a2c)] w fun e w' => ∃ v, e = .returned v ∧ Out w w' ∧ side_Cut.ret K v w'.heap := by
  rw [← side_Cut.eq] at hh
  exact fn_calls (args := [(.pointer a1), (.slice a2 a2l a2c)]) (c := side_Cut.code) side_Cut.ok Tryz.func56 (by kernel_rfl) (by kernel_rfl) (by kernel_rfl) (by kernel_rfl) (loops_ok (l := []) (by kernel_rfl) trivial) hh w hw
end

/-! ### strait/side.Right: function 28 -/
section
variable [DKc]
def side_Right (a1 : Option Addr) (a2 : Int) (a3 : Option Addr) (a3l : Nat) (a3c : Nat) (h : Heap) (K : Bool → Heap → Prop) : Prop :=
  newP h (.cells #[(.int .i64 a2), (.slice a3 a3l a3c)] 55) fun a4 h5 => (∃ (x6 : Option Addr) (x6l : Nat) (x6c : Nat), cell h5 (a4.add 1) = some (.slice x6 x6l x6c) ∧ callP2 (side_Weight a1 x6 x6l x6c h5) fun x7 x8 h9 => (iteB (x8 == (0 : Int)) (∃ (x10 : Int), cell h9 a4 = some (.int .i64 x10) ∧ (K (x7 == x10) h9)) (K false h9)))
def side_Right.ret (K : Bool → Heap → Prop) (v : Value) (h : Heap) : Prop := match v with
  | (.bool r12) => K r12 h
  | _ => False
theorem side_Right.ret_elim {K : Bool → Heap → Prop} {K' : Value → Heap → Prop} {v : Value} {h : Heap} (hk : ∀ r12 h, K r12 h → K' (.bool r12) h) (hh : side_Right.ret K v h) : K' v h := by
  unfold side_Right.ret at hh
  split at hh
  · exact hk _ _ hh
  · exact hh.elim
def side_Right.call (f : FuncId) (vs : List Value) (h : Heap) (K : Value → Heap → Prop) : Prop := match f, vs with
  | 58, [(.pointer a1), (.slice a2 a2l a2c)] => callP2 (side_Weight a1 a2 a2l a2c h) fun r3 r4 h' => K (.tuple #[(.int .i64 r3), (.int .i64 r4)]) h'
  | _, _ => False
noncomputable def side_Right.ctx : Ctx := { P := Tryz.prog, call := side_Right.call, qcall := fun _ _ _ _ => False, quiet := fun f => Nat.beq f 1000131 || Nat.beq f 1000155, loop := fun _ _ _ _ => False }
theorem side_Right.ok : side_Right.ctx.OK where
  mixed := by kernel_rfl
  mono := by
    intro f args h K K' hh hk
    change side_Right.call f args h K at hh
    change side_Right.call f args h K'
    unfold side_Right.call at hh ⊢
    split at hh
    · obtain ⟨R, h1, h2⟩ := hh
      exact ⟨R, h1, fun _ _ x hr => hk _ _ (h2 _ _ x hr)⟩
    · exact hh.elim
  call := by
    intro f args h K hh w hw
    change side_Right.call f args h K at hh
    unfold side_Right.call at hh
    split at hh
    · obtain ⟨R, h1, h2⟩ := hh
      obtain ⟨g1, g2⟩ := side_Weight.calls h1 w hw
      exact ⟨g1, g2.mono fun e w' ⟨v, he, ho, hr⟩ => ⟨v, he, ho, side_Weight.ret_elim h2 hr⟩⟩
    · exact hh.elim
  qmono := fun hh _ => hh.elim
  qval := fun hh => hh.elim
  qcall := fun hh => hh.elim
noncomputable def side_Right.code : Code := (Tryz.f28.body).getD .skip
def side_Right.ann : Ann := .auto
set_option maxRecDepth 100000 in
theorem side_Right.eq (a1 : Option Addr) (a2 : Int) (a3 : Option Addr) (a3l : Nat) (a3c : Nat) (h : Heap) (K : Bool → Heap → Prop) : evF side_Right.ctx Tryz.f28 side_Right.ann [(.pointer a1), (.agg #[(.int .i64 a2), (.slice a3 a3l a3c)])] h (side_Right.ret K) = side_Right a1 a2 a3 a3l a3c h K := by kernel_rfl
set_option maxRecDepth 100000 in
theorem side_Right.calls {a1 : Option Addr} {a2 : Int} {a3 : Option Addr} {a3l : Nat} {a3c : Nat} {h : Heap} {K : Bool → Heap → Prop} (hh : side_Right a1 a2 a3 a3l a3c h K) (w : World) (hw : w.heap = h) :
    (callFunc 28 #[(.pointer a1), (.agg #[(.int .i64 a2), (.slice a3 a3l a3c)])]).run Tryz.prog w = .ok (.enter 28 #[(.pointer a1), (.agg #[(.int .i64 a2), (.slice a3 a3l a3c)])]) w ∧ Calls Tryz.prog 28 #[(.pointer a1), (.agg #[(.int .i64 a2), (.slice a3 a3l a3c)])] w fun e w' => ∃ v, e = .returned v ∧ Out w w' ∧ side_Right.ret K v w'.heap := by
  rw [← side_Right.eq] at hh
  exact fn_calls (args := [(.pointer a1), (.agg #[(.int .i64 a2), (.slice a3 a3l a3c)])]) (c := side_Right.code) side_Right.ok Tryz.func28 (by kernel_rfl) (by kernel_rfl) (by kernel_rfl) (by kernel_rfl) (loops_ok (l := []) (by kernel_rfl) trivial) hh w hw
end

/-! ### strait/straitref21.In: function 29 -/
def straitref21_In.b0 (K0 : Bool → Heap → Prop) (K2 : Heap → Prop) (cont : (Option Addr) → Nat → Nat → Int → Int → Heap → Prop) (c0_1001 : Option Addr) (c0_1002 : Nat) (c0_1003 : Nat) (c1_1004 : Int) (v5_1005 : Int) (h1006 : Heap) : Prop :=
  (iteB (decide (v5_1005 < (c0_1002 : Int))) ((chkP c0_1001 fun a1007 => (0 ≤ v5_1005 ∧ v5_1005 < (c0_1002 : Int)) ∧ ∃ (x1008 : Int), cell h1006 (a1007.add (v5_1005.toNat * 1)) = some (.int .i64 x1008) ∧ (iteB (x1008 == c1_1004) (K0 true h1006) (((cont c0_1001 c0_1002 c0_1003 c1_1004 (IntKind.i64.wrap (v5_1005 + 1)) h1006)))))) (K2 h1006))
def straitref21_In.l0 (K0 : Bool → Heap → Prop) (K2 : Heap → Prop) : Nat → (Option Addr) → Nat → Nat → Int → Int → Heap → Prop
  | 0, _, _, _, _, _, _ => False
  | m + 1, c0_1001, c0_1002, c0_1003, c1_1004, v5_1005, h => straitref21_In.b0 K0 K2 (straitref21_In.l0 K0 K2 m) c0_1001 c0_1002 c0_1003 c1_1004 v5_1005 h
def straitref21_In (a1 : Option Addr) (a1l : Nat) (a1c : Nat) (a2 : Int) (h : Heap) (K : Bool → Heap → Prop) : Prop :=
  ((∃ m6, straitref21_In.l0 (fun z3 h4 => K z3 h4) (fun h5 => (K false h5)) m6 a1 a1l a1c a2 0 h))
def straitref21_In.ret (K : Bool → Heap → Prop) (v : Value) (h : Heap) : Prop := match v with
  | (.bool r7) => K r7 h
  | _ => False
theorem straitref21_In.ret_elim {K : Bool → Heap → Prop} {K' : Value → Heap → Prop} {v : Value} {h : Heap} (hk : ∀ r7 h, K r7 h → K' (.bool r7) h) (hh : straitref21_In.ret K v h) : K' v h := by
  unfold straitref21_In.ret at hh
  split at hh
  · exact hk _ _ hh
  · exact hh.elim
def straitref21_In.r0 (K : Nat → List Value → Heap → Prop) (m : Nat) (vs : List Value) (h : Heap) : Prop := match vs with
  | [(.slice c0_1001 c0_1002 c0_1003), (.int .i64 c1_1004), (.int .i64 v5_1005)] => straitref21_In.l0 (fun z8 h' => K 0 [(.bool z8)] h') (fun h' => K 2 [] h') m c0_1001 c0_1002 c0_1003 c1_1004 v5_1005 h
  | _ => False
def straitref21_In.loop (i : Nat) (vs : List Value) (h : Heap) (K : Nat → List Value → Heap → Prop) : Prop := match i with
  | 0 => ∃ m, straitref21_In.r0 K m vs h
  | _ => False
noncomputable def straitref21_In.ctx : Ctx := { P := Tryz.prog, call := fun _ _ _ _ => False, qcall := fun _ _ _ _ => False, quiet := fun f => Nat.beq f 1000131 || Nat.beq f 1000155, loop := straitref21_In.loop }
theorem straitref21_In.ok [DKc] : straitref21_In.ctx.OK where
  mixed := by kernel_rfl
  mono := fun hh _ => hh.elim
  call := fun hh => hh.elim
  qmono := fun hh _ => hh.elim
  qval := fun hh => hh.elim
  qcall := fun hh => hh.elim
noncomputable def straitref21_In.code : Code := (Tryz.f29.body).getD .skip
def straitref21_In.ann : Ann := (.two .auto (.two (.two .auto (.two (.loop 0 [0, 1, 5] [(2, []), (0, [4])] .auto) .auto)) .auto))
noncomputable def straitref21_In.c0 : Code := sub straitref21_In.code [1, 0, 1, 0, 0]
def straitref21_In.a0 : Ann := .auto
def straitref21_In.keep0 : List Nat := [0, 1, 5]
def straitref21_In.outs0 : List (Nat × List Nat) := [(2, []), (0, [4])]
set_option maxRecDepth 100000 in
theorem straitref21_In.L0 [DKc] : LoopOK straitref21_In.ctx 18 straitref21_In.c0 0 straitref21_In.keep0 straitref21_In.outs0 := by
  refine loop_ok (n := straitref21_In.a0) straitref21_In.ok (by kernel_rfl) (loops_ok (l := []) (by kernel_rfl) ?_) straitref21_In.r0 ?_ ?_ (fun vs h K hh => hh)
  · exact trivial
  · intro K vs h hh
    unfold straitref21_In.r0 at hh
    split at hh
    · exact hh
    · exact hh
  · intro K m vs h hh
    unfold straitref21_In.r0 at hh
    split at hh
    · exact cast (by kernel_rfl) hh
    · exact hh.elim
set_option maxRecDepth 100000 in
theorem straitref21_In.eq (a1 : Option Addr) (a1l : Nat) (a1c : Nat) (a2 : Int) (h : Heap) (K : Bool → Heap → Prop) : evF straitref21_In.ctx Tryz.f29 straitref21_In.ann [(.slice a1 a1l a1c), (.int .i64 a2)] h (straitref21_In.ret K) = straitref21_In a1 a1l a1c a2 h K := by kernel_rfl
set_option maxRecDepth 100000 in
theorem straitref21_In.calls [DKc] {a1 : Option Addr} {a1l : Nat} {a1c : Nat} {a2 : Int} {h : Heap} {K : Bool → Heap → Prop} (hh : straitref21_In a1 a1l a1c a2 h K) (w : World) (hw : w.heap = h) :
    (callFunc 29 #[(.slice a1 a1l a1c), (.int .i64 a2)]).run Tryz.prog w = .ok (.enter 29 #[(.slice a1 a1l a1c), (.int .i64 a2)]) w ∧ Calls Tryz.prog 29 #[(.slice a1 a1l a1c), (.int .i64 a2)] w fun e w' => ∃ v, e = .returned v ∧ Out w w' ∧ straitref21_In.ret K v w'.heap := by
  rw [← straitref21_In.eq] at hh
  exact fn_calls (args := [(.slice a1 a1l a1c), (.int .i64 a2)]) (c := straitref21_In.code) straitref21_In.ok Tryz.func29 (by kernel_rfl) (by kernel_rfl) (by kernel_rfl) (by kernel_rfl) (loops_ok (l := [(straitref21_In.c0, none, 0, straitref21_In.keep0, straitref21_In.outs0)]) (by kernel_rfl) ⟨straitref21_In.L0, trivial⟩) hh w hw

/-! ### strait/straitref21.Crossing: function 92 -/
def straitref21_Crossing.b0 (K2 : (Option Addr) → Nat → Nat → Heap → Prop) (cont : (Option Addr) → Nat → Nat → Addr → (Option Addr) → Nat → Nat → Int → Heap → Prop) (c1_1001 : Option Addr) (c1_1002 : Nat) (c1_1003 : Nat) (c2_1004 : Addr) (v5_1005 : Option Addr) (v5_1005l : Nat) (v5_1005c : Nat) (v6_1006 : Int) (h1007 : Heap) : Prop :=
  ∃ (x1008 : Option Addr) (x1008l : Nat) (x1008c : Nat), cell h1007 (c2_1004.add 1) = some (.slice x1008 x1008l x1008c) ∧ (iteB (decide (v6_1006 < (x1008l : Int))) ((∃ (x1009 : Option Addr) (x1009l : Nat) (x1009c : Nat), cell h1007 (c2_1004.add 1) = some (.slice x1009 x1009l x1009c) ∧ chkP x1009 fun a1010 => (0 ≤ v6_1006 ∧ v6_1006 < (x1009l : Int)) ∧ ∃ (x1011 : Int), cell h1007 (a1010.add (v6_1006.toNat * 3)) = some (.int .i64 x1011) ∧ qcallP1 h1007 (straitref21_In c1_1001 c1_1002 c1_1003 x1011 h1007) fun x1012 => ∃ (x1013 : Option Addr) (x1013l : Nat) (x1013c : Nat), cell h1007 (c2_1004.add 1) = some (.slice x1013 x1013l x1013c) ∧ chkP x1013 fun a1014 => (0 ≤ v6_1006 ∧ v6_1006 < (x1013l : Int)) ∧ ∃ (x1015 : Int), cell h1007 ((a1014.add (v6_1006.toNat * 3)).add 1) = some (.int .i64 x1015) ∧ qcallP1 h1007 (straitref21_In c1_1001 c1_1002 c1_1003 x1015 h1007) fun x1016 => (iteB (!(x1012 == x1016)) (newP h1007 (.cells #[(.int .i64 v6_1006)] 3) fun a1017 h1018 => ∃ n1023, cellsAt h1018 (some a1017) (1 * 1) n1023 ∧ appP 3 1 8 [(.int .i64 0)] v5_1005 v5_1005l v5_1005c 1 n1023 h1018 fun q1019 l1020 c1021 h1022 => ((cont c1_1001 c1_1002 c1_1003 c2_1004 q1019 l1020 c1021 (IntKind.i64.wrap (v6_1006 + 1)) h1022))) (((cont c1_1001 c1_1002 c1_1003 c2_1004 v5_1005 v5_1005l v5_1005c (IntKind.i64.wrap (v6_1006 + 1)) h1007)))))) (K2 v5_1005 v5_1005l v5_1005c h1007))
def straitref21_Crossing.l0 (K2 : (Option Addr) → Nat → Nat → Heap → Prop) : Nat → (Option Addr) → Nat → Nat → Addr → (Option Addr) → Nat → Nat → Int → Heap → Prop
  | 0, _, _, _, _, _, _, _, _, _ => False
  | m + 1, c1_1001, c1_1002, c1_1003, c2_1004, v5_1005, v5_1005l, v5_1005c, v6_1006, h => straitref21_Crossing.b0 K2 (straitref21_Crossing.l0 K2 m) c1_1001 c1_1002 c1_1003 c2_1004 v5_1005 v5_1005l v5_1005c v6_1006 h
def straitref21_Crossing (a1 : Int) (a2 : Option Addr) (a2l : Nat) (a2c : Nat) (a3 : Option Addr) (a3l : Nat) (a3c : Nat) (h : Heap) (K : (Option Addr) → Nat → Nat → Heap → Prop) : Prop :=
  newP h (.cells #[(.int .i64 a1), (.slice a2 a2l a2c)] 29) fun a4 h5 => (((∃ m8, straitref21_Crossing.l0 (fun z6 z6l z6c h7 => (K z6 z6l z6c h7)) m8 a3 a3l a3c a4 none 0 0 0 h5)))
def straitref21_Crossing.ret (K : (Option Addr) → Nat → Nat → Heap → Prop) (v : Value) (h : Heap) : Prop := match v with
  | (.slice r9 r9l r9c) => K r9 r9l r9c h
  | _ => False
theorem straitref21_Crossing.ret_elim {K : (Option Addr) → Nat → Nat → Heap → Prop} {K' : Value → Heap → Prop} {v : Value} {h : Heap} (hk : ∀ r9 r9l r9c h, K r9 r9l r9c h → K' (.slice r9 r9l r9c) h) (hh : straitref21_Crossing.ret K v h) : K' v h := by
  unfold straitref21_Crossing.ret at hh
  split at hh
  · exact hk _ _ _ _ hh
  · exact hh.elim
def straitref21_Crossing.qcall (f : FuncId) (vs : List Value) (h : Heap) (K : Value → Prop) : Prop := match f, vs with
  | 29, [(.slice a1 a1l a1c), (.int .i64 a2)] => qcallP1 h (straitref21_In a1 a1l a1c a2 h) fun r7 => K (.bool r7)
  | _, _ => False
def straitref21_Crossing.r0 (K : Nat → List Value → Heap → Prop) (m : Nat) (vs : List Value) (h : Heap) : Prop := match vs with
  | [(.slice c1_1001 c1_1002 c1_1003), (.pointer (some c2_1004)), (.slice v5_1005 v5_1005l v5_1005c), (.int .i64 v6_1006)] => straitref21_Crossing.l0 (fun z10 z10l z10c h' => K 2 [(.slice z10 z10l z10c)] h') m c1_1001 c1_1002 c1_1003 c2_1004 v5_1005 v5_1005l v5_1005c v6_1006 h
  | _ => False
def straitref21_Crossing.loop (i : Nat) (vs : List Value) (h : Heap) (K : Nat → List Value → Heap → Prop) : Prop := match i with
  | 0 => ∃ m, straitref21_Crossing.r0 K m vs h
  | _ => False
noncomputable def straitref21_Crossing.ctx : Ctx := { P := Tryz.prog, call := fun _ _ _ _ => False, qcall := straitref21_Crossing.qcall, quiet := fun f => Nat.beq f 29 || Nat.beq f 1000131 || Nat.beq f 1000155, loop := straitref21_Crossing.loop }
theorem straitref21_Crossing.ok [DKc] : straitref21_Crossing.ctx.OK where
  mixed := by kernel_rfl
  mono := fun hh _ => hh.elim
  call := fun hh => hh.elim
  qmono := by
    intro f args h K K' hh hk
    change straitref21_Crossing.qcall f args h K at hh
    change straitref21_Crossing.qcall f args h K'
    unfold straitref21_Crossing.qcall at hh ⊢
    split at hh
    · obtain ⟨x0, h1, h2⟩ := hh
      exact ⟨x0, h1, hk _ h2⟩
    · exact hh.elim
  qval := by
    intro f args h K hh
    change straitref21_Crossing.qcall f args h K at hh
    suffices H : ∃ v, K v ∧ straitref21_Crossing.qcall f args h (· = v) from H
    unfold straitref21_Crossing.qcall at hh ⊢
    split at hh
    · obtain ⟨x0, h1, h2⟩ := hh
      exact ⟨_, h2, x0, h1, rfl⟩
    · exact hh.elim
  qcall := by
    intro f args h v hh w hw
    change straitref21_Crossing.qcall f args h (· = v) at hh
    unfold straitref21_Crossing.qcall at hh
    split at hh
    · obtain ⟨x0, h1, h2⟩ := hh
      obtain ⟨g1, g2⟩ := straitref21_In.calls h1 w hw
      refine .inl ⟨g1, g2.mono fun e w' ⟨u, he, ho, hr⟩ => ?_⟩
      have hq := straitref21_In.ret_elim (K' := fun u h' => u = v ∧ h' = h) (fun _ h' hr => by obtain ⟨rfl, rfl⟩ := hr; exact ⟨h2, rfl⟩) hr
      exact ⟨hq.1 ▸ he, ho, hq.2⟩
    · exact hh.elim
noncomputable def straitref21_Crossing.code : Code := (Tryz.f92.body).getD .skip
def straitref21_Crossing.ann : Ann := (.two .auto (.two .auto (.two (.two .auto (.two (.loop 0 [1, 2, 5, 6] [(2, [5])] (.two .auto (.two (.two (.two (.reg [0, 0, 2, 0, 14, 30, 62, 127, 0, 0, 512, 0, 3584, 7680, 15872, 32767, 65535] (.take 0 (.take 1 (.take 2 (.take 3 (.take 4 (.take 5 (.take 6 (.take 7 (.take 8 (.take 9 (.take 10 (.take 11 (.take 12 (.take 13 (.take 14 (.take 15 (.take 16 .done)))))))))))))))))) .auto) .auto) .auto))) .auto)) .auto)))
noncomputable def straitref21_Crossing.c0 : Code := sub straitref21_Crossing.code [1, 1, 0, 1, 0, 0]
def straitref21_Crossing.a0 : Ann := (.two .auto (.two (.two (.two (.reg [0, 0, 2, 0, 14, 30, 62, 127, 0, 0, 512, 0, 3584, 7680, 15872, 32767, 65535] (.take 0 (.take 1 (.take 2 (.take 3 (.take 4 (.take 5 (.take 6 (.take 7 (.take 8 (.take 9 (.take 10 (.take 11 (.take 12 (.take 13 (.take 14 (.take 15 (.take 16 .done)))))))))))))))))) .auto) .auto) .auto))
def straitref21_Crossing.keep0 : List Nat := [1, 2, 5, 6]
def straitref21_Crossing.outs0 : List (Nat × List Nat) := [(2, [5])]
set_option maxRecDepth 100000 in
theorem straitref21_Crossing.L0 [DKc] : LoopOK straitref21_Crossing.ctx 36 straitref21_Crossing.c0 0 straitref21_Crossing.keep0 straitref21_Crossing.outs0 := by
  refine loop_ok (n := straitref21_Crossing.a0) straitref21_Crossing.ok (by kernel_rfl) (loops_ok (l := []) (by kernel_rfl) ?_) straitref21_Crossing.r0 ?_ ?_ (fun vs h K hh => hh)
  · exact trivial
  · intro K vs h hh
    unfold straitref21_Crossing.r0 at hh
    split at hh
    · exact hh
    · exact hh
  · intro K m vs h hh
    unfold straitref21_Crossing.r0 at hh
    split at hh
    · exact cast (by kernel_rfl) hh
    · exact hh.elim
set_option maxRecDepth 100000 in
theorem straitref21_Crossing.eq (a1 : Int) (a2 : Option Addr) (a2l : Nat) (a2c : Nat) (a3 : Option Addr) (a3l : Nat) (a3c : Nat) (h : Heap) (K : (Option Addr) → Nat → Nat → Heap → Prop) : evF straitref21_Crossing.ctx Tryz.f92 straitref21_Crossing.ann [(.agg #[(.int .i64 a1), (.slice a2 a2l a2c)]), (.slice a3 a3l a3c)] h (straitref21_Crossing.ret K) = straitref21_Crossing a1 a2 a2l a2c a3 a3l a3c h K := by kernel_rfl
set_option maxRecDepth 100000 in
theorem straitref21_Crossing.calls [DKc] {a1 : Int} {a2 : Option Addr} {a2l : Nat} {a2c : Nat} {a3 : Option Addr} {a3l : Nat} {a3c : Nat} {h : Heap} {K : (Option Addr) → Nat → Nat → Heap → Prop} (hh : straitref21_Crossing a1 a2 a2l a2c a3 a3l a3c h K) (w : World) (hw : w.heap = h) :
    (callFunc 92 #[(.agg #[(.int .i64 a1), (.slice a2 a2l a2c)]), (.slice a3 a3l a3c)]).run Tryz.prog w = .ok (.enter 92 #[(.agg #[(.int .i64 a1), (.slice a2 a2l a2c)]), (.slice a3 a3l a3c)]) w ∧ Calls Tryz.prog 92 #[(.agg #[(.int .i64 a1), (.slice a2 a2l a2c)]), (.slice a3 a3l a3c)] w fun e w' => ∃ v, e = .returned v ∧ Out w w' ∧ straitref21_Crossing.ret K v w'.heap := by
  rw [← straitref21_Crossing.eq] at hh
  exact fn_calls (args := [(.agg #[(.int .i64 a1), (.slice a2 a2l a2c)]), (.slice a3 a3l a3c)]) (c := straitref21_Crossing.code) straitref21_Crossing.ok Tryz.func92 (by kernel_rfl) (by kernel_rfl) (by kernel_rfl) (by kernel_rfl) (loops_ok (l := [(straitref21_Crossing.c0, none, 0, straitref21_Crossing.keep0, straitref21_Crossing.outs0)]) (by kernel_rfl) ⟨straitref21_Crossing.L0, trivial⟩) hh w hw

/-! ### strait/straitref21.Weight: function 61 -/
def straitref21_Weight.b0 (K2 : Int → Heap → Prop) (cont : Addr → Int → (Option Addr) → Nat → Nat → Int → Heap → Prop) (c2_1001 : Addr) (v5_1002 : Int) (c6_1003 : Option Addr) (c6_1004 : Nat) (c6_1005 : Nat) (v7_1006 : Int) (h1007 : Heap) : Prop :=
  (iteB (decide (v7_1006 < (c6_1004 : Int))) ((∃ (x1008 : Option Addr) (x1008l : Nat) (x1008c : Nat), cell h1007 (c2_1001.add 1) = some (.slice x1008 x1008l x1008c) ∧ chkP c6_1003 fun a1009 => (0 ≤ v7_1006 ∧ v7_1006 < (c6_1004 : Int)) ∧ ∃ (x1010 : Int), cell h1007 (a1009.add (v7_1006.toNat * 1)) = some (.int .i64 x1010) ∧ chkP x1008 fun a1011 => (0 ≤ x1010 ∧ x1010 < (x1008l : Int)) ∧ ∃ (x1012 : Int), cell h1007 ((a1011.add (x1010.toNat * 3)).add 2) = some (.int .i64 x1012) ∧ ((cont c2_1001 (IntKind.i64.wrap (v5_1002 + x1012)) c6_1003 c6_1004 c6_1005 (IntKind.i64.wrap (v7_1006 + 1)) h1007)))) (K2 v5_1002 h1007))
def straitref21_Weight.l0 (K2 : Int → Heap → Prop) : Nat → Addr → Int → (Option Addr) → Nat → Nat → Int → Heap → Prop
  | 0, _, _, _, _, _, _, _ => False
  | m + 1, c2_1001, v5_1002, c6_1003, c6_1004, c6_1005, v7_1006, h => straitref21_Weight.b0 K2 (straitref21_Weight.l0 K2 m) c2_1001 v5_1002 c6_1003 c6_1004 c6_1005 v7_1006 h
def straitref21_Weight (a1 : Int) (a2 : Option Addr) (a2l : Nat) (a2c : Nat) (a3 : Option Addr) (a3l : Nat) (a3c : Nat) (h : Heap) (K : Int → Heap → Prop) : Prop :=
  newP h (.cells #[(.int .i64 a1), (.slice a2 a2l a2c)] 29) fun a4 h5 => ((∃ (x6 : Int), cell h5 a4 = some (.int .i64 x6) ∧ ∃ (x7 : Option Addr) (x7l : Nat) (x7c : Nat), cell h5 (a4.add 1) = some (.slice x7 x7l x7c) ∧ callP3 (straitref21_Crossing x6 x7 x7l x7c a3 a3l a3c h5) fun x8 x8l x8c h9 => ((∃ m12, straitref21_Weight.l0 (fun z10 h11 => (K z10 h11)) m12 a4 0 x8 x8l x8c 0 h9))))
def straitref21_Weight.ret (K : Int → Heap → Prop) (v : Value) (h : Heap) : Prop := match v with
  | (.int .i64 r13) => K r13 h
  | _ => False
theorem straitref21_Weight.ret_elim {K : Int → Heap → Prop} {K' : Value → Heap → Prop} {v : Value} {h : Heap} (hk : ∀ r13 h, K r13 h → K' (.int .i64 r13) h) (hh : straitref21_Weight.ret K v h) : K' v h := by
  unfold straitref21_Weight.ret at hh
  split at hh
  · exact hk _ _ hh
  · exact hh.elim
def straitref21_Weight.call (f : FuncId) (vs : List Value) (h : Heap) (K : Value → Heap → Prop) : Prop := match f, vs with
  | 92, [(.agg ⟨[(.int .i64 a1), (.slice a2 a2l a2c)]⟩), (.slice a3 a3l a3c)] => callP3 (straitref21_Crossing a1 a2 a2l a2c a3 a3l a3c h) fun r9 r9l r9c h' => K (.slice r9 r9l r9c) h'
  | _, _ => False
def straitref21_Weight.r0 (K : Nat → List Value → Heap → Prop) (m : Nat) (vs : List Value) (h : Heap) : Prop := match vs with
  | [(.pointer (some c2_1001)), (.int .i64 v5_1002), (.slice c6_1003 c6_1004 c6_1005), (.int .i64 v7_1006)] => straitref21_Weight.l0 (fun z14 h' => K 2 [(.int .i64 z14)] h') m c2_1001 v5_1002 c6_1003 c6_1004 c6_1005 v7_1006 h
  | _ => False
def straitref21_Weight.loop (i : Nat) (vs : List Value) (h : Heap) (K : Nat → List Value → Heap → Prop) : Prop := match i with
  | 0 => ∃ m, straitref21_Weight.r0 K m vs h
  | _ => False
noncomputable def straitref21_Weight.ctx : Ctx := { P := Tryz.prog, call := straitref21_Weight.call, qcall := fun _ _ _ _ => False, quiet := fun f => Nat.beq f 1000131 || Nat.beq f 1000155, loop := straitref21_Weight.loop }
theorem straitref21_Weight.ok [DKc] : straitref21_Weight.ctx.OK where
  mixed := by kernel_rfl
  mono := by
    intro f args h K K' hh hk
    change straitref21_Weight.call f args h K at hh
    change straitref21_Weight.call f args h K'
    unfold straitref21_Weight.call at hh ⊢
    split at hh
    · obtain ⟨R, h1, h2⟩ := hh
      exact ⟨R, h1, fun _ _ _ x hr => hk _ _ (h2 _ _ _ x hr)⟩
    · exact hh.elim
  call := by
    intro f args h K hh w hw
    change straitref21_Weight.call f args h K at hh
    unfold straitref21_Weight.call at hh
    split at hh
    · obtain ⟨R, h1, h2⟩ := hh
      obtain ⟨g1, g2⟩ := straitref21_Crossing.calls h1 w hw
      exact ⟨g1, g2.mono fun e w' ⟨v, he, ho, hr⟩ => ⟨v, he, ho, straitref21_Crossing.ret_elim h2 hr⟩⟩
    · exact hh.elim
  qmono := fun hh _ => hh.elim
  qval := fun hh => hh.elim
  qcall := fun hh => hh.elim
noncomputable def straitref21_Weight.code : Code := (Tryz.f61.body).getD .skip
def straitref21_Weight.ann : Ann := (.two .auto (.two .auto (.two .auto (.two (.two .auto (.two (.loop 0 [2, 5, 6, 7] [(2, [5])] (.two .auto (.two (.two (.reg [0, 0, 2, 0, 0, 24, 56, 126, 254, 510, 1023, 2047] (.take 0 (.take 1 (.take 2 (.take 3 (.take 4 (.take 5 (.take 6 (.take 7 (.take 8 (.take 9 (.take 10 (.take 11 .done))))))))))))) .auto) .auto))) .auto)) .auto))))
noncomputable def straitref21_Weight.c0 : Code := sub straitref21_Weight.code [1, 1, 1, 0, 1, 0, 0]
def straitref21_Weight.a0 : Ann := (.two .auto (.two (.two (.reg [0, 0, 2, 0, 0, 24, 56, 126, 254, 510, 1023, 2047] (.take 0 (.take 1 (.take 2 (.take 3 (.take 4 (.take 5 (.take 6 (.take 7 (.take 8 (.take 9 (.take 10 (.take 11 .done))))))))))))) .auto) .auto))
def straitref21_Weight.keep0 : List Nat := [2, 5, 6, 7]
def straitref21_Weight.outs0 : List (Nat × List Nat) := [(2, [5])]
set_option maxRecDepth 100000 in
theorem straitref21_Weight.L0 [DKc] : LoopOK straitref21_Weight.ctx 29 straitref21_Weight.c0 0 straitref21_Weight.keep0 straitref21_Weight.outs0 := by
  refine loop_ok (n := straitref21_Weight.a0) straitref21_Weight.ok (by kernel_rfl) (loops_ok (l := []) (by kernel_rfl) ?_) straitref21_Weight.r0 ?_ ?_ (fun vs h K hh => hh)
  · exact trivial
  · intro K vs h hh
    unfold straitref21_Weight.r0 at hh
    split at hh
    · exact hh
    · exact hh
  · intro K m vs h hh
    unfold straitref21_Weight.r0 at hh
    split at hh
    · exact cast (by kernel_rfl) hh
    · exact hh.elim
set_option maxRecDepth 100000 in
theorem straitref21_Weight.eq (a1 : Int) (a2 : Option Addr) (a2l : Nat) (a2c : Nat) (a3 : Option Addr) (a3l : Nat) (a3c : Nat) (h : Heap) (K : Int → Heap → Prop) : evF straitref21_Weight.ctx Tryz.f61 straitref21_Weight.ann [(.agg #[(.int .i64 a1), (.slice a2 a2l a2c)]), (.slice a3 a3l a3c)] h (straitref21_Weight.ret K) = straitref21_Weight a1 a2 a2l a2c a3 a3l a3c h K := by kernel_rfl
set_option maxRecDepth 100000 in
theorem straitref21_Weight.calls [DKc] {a1 : Int} {a2 : Option Addr} {a2l : Nat} {a2c : Nat} {a3 : Option Addr} {a3l : Nat} {a3c : Nat} {h : Heap} {K : Int → Heap → Prop} (hh : straitref21_Weight a1 a2 a2l a2c a3 a3l a3c h K) (w : World) (hw : w.heap = h) :
    (callFunc 61 #[(.agg #[(.int .i64 a1), (.slice a2 a2l a2c)]), (.slice a3 a3l a3c)]).run Tryz.prog w = .ok (.enter 61 #[(.agg #[(.int .i64 a1), (.slice a2 a2l a2c)]), (.slice a3 a3l a3c)]) w ∧ Calls Tryz.prog 61 #[(.agg #[(.int .i64 a1), (.slice a2 a2l a2c)]), (.slice a3 a3l a3c)] w fun e w' => ∃ v, e = .returned v ∧ Out w w' ∧ straitref21_Weight.ret K v w'.heap := by
  rw [← straitref21_Weight.eq] at hh
  exact fn_calls (args := [(.agg #[(.int .i64 a1), (.slice a2 a2l a2c)]), (.slice a3 a3l a3c)]) (c := straitref21_Weight.code) straitref21_Weight.ok Tryz.func61 (by kernel_rfl) (by kernel_rfl) (by kernel_rfl) (by kernel_rfl) (loops_ok (l := [(straitref21_Weight.c0, none, 0, straitref21_Weight.keep0, straitref21_Weight.outs0)]) (by kernel_rfl) ⟨straitref21_Weight.L0, trivial⟩) hh w hw

/-! ### strait/straitref21.Same: function 34 -/
def straitref21_Same (a1 : Int) (a2 : Option Addr) (a2l : Nat) (a2c : Nat) (a3 : Int) (a4 : Option Addr) (a4l : Nat) (a4c : Nat) (h : Heap) (K : Bool → Heap → Prop) : Prop :=
  newP h (.cells #[(.int .i64 a1), (.slice a2 a2l a2c)] 55) fun a5 h6 => newP h6 (.cells #[(.int .i64 a3), (.slice a4 a4l a4c)] 55) fun a7 h8 => (∃ (x9 : Int), cell h8 a5 = some (.int .i64 x9) ∧ ∃ (x10 : Int), cell h8 a7 = some (.int .i64 x10) ∧ iteB (x9 == x10) (∃ (x11 : Option Addr) (x11l : Nat) (x11c : Nat), cell h8 (a5.add 1) = some (.slice x11 x11l x11c) ∧ ∃ (x12 : Option Addr) (x12l : Nat) (x12c : Nat), cell h8 (a7.add 1) = some (.slice x12 x12l x12c) ∧ qcallP1 h8 (straitref09_Ints x11 x11l x11c x12 x12l x12c h8) fun x13 => K x13 h8) (K false h8))
def straitref21_Same.ret (K : Bool → Heap → Prop) (v : Value) (h : Heap) : Prop := match v with
  | (.bool r15) => K r15 h
  | _ => False
theorem straitref21_Same.ret_elim {K : Bool → Heap → Prop} {K' : Value → Heap → Prop} {v : Value} {h : Heap} (hk : ∀ r15 h, K r15 h → K' (.bool r15) h) (hh : straitref21_Same.ret K v h) : K' v h := by
  unfold straitref21_Same.ret at hh
  split at hh
  · exact hk _ _ hh
  · exact hh.elim
def straitref21_Same.qcall (f : FuncId) (vs : List Value) (h : Heap) (K : Value → Prop) : Prop := match f, vs with
  | 11, [(.slice a1 a1l a1c), (.slice a2 a2l a2c)] => qcallP1 h (straitref09_Ints a1 a1l a1c a2 a2l a2c h) fun r7 => K (.bool r7)
  | _, _ => False
noncomputable def straitref21_Same.ctx : Ctx := { P := Tryz.prog, call := fun _ _ _ _ => False, qcall := straitref21_Same.qcall, quiet := fun f => Nat.beq f 11 || Nat.beq f 1000131 || Nat.beq f 1000155, loop := fun _ _ _ _ => False }
theorem straitref21_Same.ok [DKc] : straitref21_Same.ctx.OK where
  mixed := by kernel_rfl
  mono := fun hh _ => hh.elim
  call := fun hh => hh.elim
  qmono := by
    intro f args h K K' hh hk
    change straitref21_Same.qcall f args h K at hh
    change straitref21_Same.qcall f args h K'
    unfold straitref21_Same.qcall at hh ⊢
    split at hh
    · obtain ⟨x0, h1, h2⟩ := hh
      exact ⟨x0, h1, hk _ h2⟩
    · exact hh.elim
  qval := by
    intro f args h K hh
    change straitref21_Same.qcall f args h K at hh
    suffices H : ∃ v, K v ∧ straitref21_Same.qcall f args h (· = v) from H
    unfold straitref21_Same.qcall at hh ⊢
    split at hh
    · obtain ⟨x0, h1, h2⟩ := hh
      exact ⟨_, h2, x0, h1, rfl⟩
    · exact hh.elim
  qcall := by
    intro f args h v hh w hw
    change straitref21_Same.qcall f args h (· = v) at hh
    unfold straitref21_Same.qcall at hh
    split at hh
    · obtain ⟨x0, h1, h2⟩ := hh
      obtain ⟨g1, g2⟩ := straitref09_Ints.calls h1 w hw
      refine .inl ⟨g1, g2.mono fun e w' ⟨u, he, ho, hr⟩ => ?_⟩
      have hq := straitref09_Ints.ret_elim (K' := fun u h' => u = v ∧ h' = h) (fun _ h' hr => by obtain ⟨rfl, rfl⟩ := hr; exact ⟨h2, rfl⟩) hr
      exact ⟨hq.1 ▸ he, ho, hq.2⟩
    · exact hh.elim
noncomputable def straitref21_Same.code : Code := (Tryz.f34.body).getD .skip
def straitref21_Same.ann : Ann := .auto
set_option maxRecDepth 100000 in
theorem straitref21_Same.eq (a1 : Int) (a2 : Option Addr) (a2l : Nat) (a2c : Nat) (a3 : Int) (a4 : Option Addr) (a4l : Nat) (a4c : Nat) (h : Heap) (K : Bool → Heap → Prop) : evF straitref21_Same.ctx Tryz.f34 straitref21_Same.ann [(.agg #[(.int .i64 a1), (.slice a2 a2l a2c)]), (.agg #[(.int .i64 a3), (.slice a4 a4l a4c)])] h (straitref21_Same.ret K) = straitref21_Same a1 a2 a2l a2c a3 a4 a4l a4c h K := by kernel_rfl
set_option maxRecDepth 100000 in
theorem straitref21_Same.calls [DKc] {a1 : Int} {a2 : Option Addr} {a2l : Nat} {a2c : Nat} {a3 : Int} {a4 : Option Addr} {a4l : Nat} {a4c : Nat} {h : Heap} {K : Bool → Heap → Prop} (hh : straitref21_Same a1 a2 a2l a2c a3 a4 a4l a4c h K) (w : World) (hw : w.heap = h) :
    (callFunc 34 #[(.agg #[(.int .i64 a1), (.slice a2 a2l a2c)]), (.agg #[(.int .i64 a3), (.slice a4 a4l a4c)])]).run Tryz.prog w = .ok (.enter 34 #[(.agg #[(.int .i64 a1), (.slice a2 a2l a2c)]), (.agg #[(.int .i64 a3), (.slice a4 a4l a4c)])]) w ∧ Calls Tryz.prog 34 #[(.agg #[(.int .i64 a1), (.slice a2 a2l a2c)]), (.agg #[(.int .i64 a3), (.slice a4 a4l a4c)])] w fun e w' => ∃ v, e = .returned v ∧ Out w w' ∧ straitref21_Same.ret K v w'.heap := by
  rw [← straitref21_Same.eq] at hh
  exact fn_calls (args := [(.agg #[(.int .i64 a1), (.slice a2 a2l a2c)]), (.agg #[(.int .i64 a3), (.slice a4 a4l a4c)])]) (c := straitref21_Same.code) straitref21_Same.ok Tryz.func34 (by kernel_rfl) (by kernel_rfl) (by kernel_rfl) (by kernel_rfl) (loops_ok (l := []) (by kernel_rfl) trivial) hh w hw

/-! ### (*strait/karger.draw).loose: function 93 -/
def karger_draw_loose.b0 (K2 : Int → (Option Addr) → Nat → Nat → Heap → Prop) (cont : (Option Addr) → (Option Addr) → Int → (Option Addr) → Nat → Nat → (Option Addr) → Nat → Nat → Int → Int → Heap → Prop) (c0_1001 : Option Addr) (c3_1002 : Option Addr) (v4_1003 : Int) (v5_1004 : Option Addr) (v5_1004l : Nat) (v5_1004c : Nat) (c21_1005 : Option Addr) (c21_1006 : Nat) (c21_1007 : Nat) (c22_1008 : Int) (v23_1009 : Int) (h1010 : Heap) : Prop :=
  (iteB (decide (v23_1009 < c22_1008)) ((chkP c21_1005 fun a1011 => (0 ≤ v23_1009 ∧ v23_1009 < (c21_1006 : Int)) ∧ ∃ (x1012 : Int), cell h1010 (a1011.add (v23_1009.toNat * 3)) = some (.int .i64 x1012) ∧ ∃ (x1013 : Int), cell h1010 ((a1011.add (v23_1009.toNat * 3)).add 1) = some (.int .i64 x1013) ∧ ∃ (x1014 : Int), cell h1010 ((a1011.add (v23_1009.toNat * 3)).add 2) = some (.int .i64 x1014) ∧ newP h1010 (.cells #[(.int .i64 0), (.int .i64 0), (.int .i64 0)] 82) fun a1015 h1016 => stC h1016 a1015 (.int .i64 x1012) fun h1017 => stC h1017 (a1015.add 1) (.int .i64 x1013) fun h1018 => stC h1018 (a1015.add 2) (.int .i64 x1014) fun h1019 => (∃ (x1020 : Int), cell h1019 a1015 = some (.int .i64 x1020) ∧ ∃ (x1021 : Int), cell h1019 (a1015.add 1) = some (.int .i64 x1021) ∧ callP1 (dsu_Classes_Same c3_1002 x1020 x1021 h1019) fun x1022 h1023 => (iteB (!x1022) (∃ (x1024 : Int), cell h1023 a1015 = some (.int .i64 x1024) ∧ ∃ (x1025 : Int), cell h1023 (a1015.add 1) = some (.int .i64 x1025) ∧ ∃ (x1026 : Int), cell h1023 (a1015.add 2) = some (.int .i64 x1026) ∧ newP h1023 (.cells #[(.int .i64 x1024), (.int .i64 x1025), (.int .i64 x1026)] 82) fun a1027 h1028 => ∃ n1033, cellsAt h1028 (some a1027) (1 * 3) n1033 ∧ appP 82 3 24 [(.int .i64 0), (.int .i64 0), (.int .i64 0)] v5_1004 v5_1004l v5_1004c 1 n1033 h1028 fun q1029 l1030 c1031 h1032 => (∃ (x1034 : Int), cell h1032 (a1015.add 2) = some (.int .i64 x1034) ∧ bindV (IntKind.u64.wrap (v4_1003 + (IntKind.u64.wrap x1034))) fun n1035 => ((cont c0_1001 c3_1002 n1035 q1029 l1030 c1031 c21_1005 c21_1006 c21_1007 c22_1008 (IntKind.i64.wrap (v23_1009 + 1)) h1032)))) (((cont c0_1001 c3_1002 v4_1003 v5_1004 v5_1004l v5_1004c c21_1005 c21_1006 c21_1007 c22_1008 (IntKind.i64.wrap (v23_1009 + 1)) h1023))))))) (K2 v4_1003 v5_1004 v5_1004l v5_1004c h1010))
def karger_draw_loose.l0 (K2 : Int → (Option Addr) → Nat → Nat → Heap → Prop) : Nat → (Option Addr) → (Option Addr) → Int → (Option Addr) → Nat → Nat → (Option Addr) → Nat → Nat → Int → Int → Heap → Prop
  | 0, _, _, _, _, _, _, _, _, _, _, _, _ => False
  | m + 1, c0_1001, c3_1002, v4_1003, v5_1004, v5_1004l, v5_1004c, c21_1005, c21_1006, c21_1007, c22_1008, v23_1009, h => karger_draw_loose.b0 K2 (karger_draw_loose.l0 K2 m) c0_1001 c3_1002 v4_1003 v5_1004 v5_1004l v5_1004c c21_1005 c21_1006 c21_1007 c22_1008 v23_1009 h
def karger_draw_loose (a1 : Option Addr) (h : Heap) (K : Int → Heap → Prop) : Prop :=
  (chkP a1 fun a2 => ∃ (x3 : Option Addr), cell h a2 = some (.pointer x3) ∧ ((chkP a1 fun a4 => ∃ (x5 : Option Addr) (x5l : Nat) (x5c : Nat), cell h (a4.add 1) = some (.slice x5 x5l x5c) ∧ (0 ≤ (0 : Int) ∧ (0 : Int) ≤ (x5c : Int)) ∧ (chkP a1 fun a6 => ∃ (x7 : Option Addr) (x7l : Nat) (x7c : Nat), cell h (a6.add 1) = some (.slice x7 x7l x7c) ∧ (∃ m11, karger_draw_loose.l0 (fun z8 z9 z9l z9c h10 => ((chkP a1 fun a12 => stC h10 (a12.add 1) (.slice z9 z9l z9c) fun h13 => K z8 h13))) m11 a1 x3 0 (if x5c = 0 then x5 else x5.map (·.add (0 * 3))) ((0 : Int).toNat) x5c x7 x7l x7c (x7l : Int) 0 h)))))
def karger_draw_loose.ret (K : Int → Heap → Prop) (v : Value) (h : Heap) : Prop := match v with
  | (.int .u64 r14) => K r14 h
  | _ => False
theorem karger_draw_loose.ret_elim {K : Int → Heap → Prop} {K' : Value → Heap → Prop} {v : Value} {h : Heap} (hk : ∀ r14 h, K r14 h → K' (.int .u64 r14) h) (hh : karger_draw_loose.ret K v h) : K' v h := by
  unfold karger_draw_loose.ret at hh
  split at hh
  · exact hk _ _ hh
  · exact hh.elim
def karger_draw_loose.call (f : FuncId) (vs : List Value) (h : Heap) (K : Value → Heap → Prop) : Prop := match f, vs with
  | 118, [(.pointer a1), (.int .i64 a2), (.int .i64 a3)] => callP1 (dsu_Classes_Same a1 a2 a3 h) fun r9 h' => K (.bool r9) h'
  | _, _ => False
def karger_draw_loose.r0 (K : Nat → List Value → Heap → Prop) (m : Nat) (vs : List Value) (h : Heap) : Prop := match vs with
  | [(.pointer c0_1001), (.func (.func 118) ⟨[(.pointer c3_1002)]⟩ ⟨[]⟩), (.int .u64 v4_1003), (.slice v5_1004 v5_1004l v5_1004c), (.slice c21_1005 c21_1006 c21_1007), (.int .i64 c22_1008), (.int .i64 v23_1009)] => karger_draw_loose.l0 (fun z15 z16 z16l z16c h' => K 2 [(.pointer c0_1001), (.int .u64 z15), (.slice z16 z16l z16c)] h') m c0_1001 c3_1002 v4_1003 v5_1004 v5_1004l v5_1004c c21_1005 c21_1006 c21_1007 c22_1008 v23_1009 h
  | _ => False
def karger_draw_loose.loop (i : Nat) (vs : List Value) (h : Heap) (K : Nat → List Value → Heap → Prop) : Prop := match i with
  | 0 => ∃ m, karger_draw_loose.r0 K m vs h
  | _ => False
noncomputable def karger_draw_loose.ctx : Ctx := { P := Tryz.prog, call := karger_draw_loose.call, qcall := fun _ _ _ _ => False, quiet := fun f => Nat.beq f 1000131 || Nat.beq f 1000155, loop := karger_draw_loose.loop }
theorem karger_draw_loose.ok [DKc] : karger_draw_loose.ctx.OK where
  mixed := by kernel_rfl
  mono := by
    intro f args h K K' hh hk
    change karger_draw_loose.call f args h K at hh
    change karger_draw_loose.call f args h K'
    unfold karger_draw_loose.call at hh ⊢
    split at hh
    · obtain ⟨R, h1, h2⟩ := hh
      exact ⟨R, h1, fun _ x hr => hk _ _ (h2 _ x hr)⟩
    · exact hh.elim
  call := by
    intro f args h K hh w hw
    change karger_draw_loose.call f args h K at hh
    unfold karger_draw_loose.call at hh
    split at hh
    · obtain ⟨R, h1, h2⟩ := hh
      obtain ⟨g1, g2⟩ := dsu_Classes_Same.calls h1 w hw
      exact ⟨g1, g2.mono fun e w' ⟨v, he, ho, hr⟩ => ⟨v, he, ho, dsu_Classes_Same.ret_elim h2 hr⟩⟩
    · exact hh.elim
  qmono := fun hh _ => hh.elim
  qval := fun hh => hh.elim
  qcall := fun hh => hh.elim
noncomputable def karger_draw_loose.code : Code := (Tryz.f93.body).getD .skip
def karger_draw_loose.ann : Ann := (.two .auto (.two .auto (.two .auto (.two .auto (.two (.two .auto (.two (.loop 0 [0, 3, 4, 5, 21, 22, 23] [(2, [0, 4, 5])] .auto) .auto)) .auto)))))
noncomputable def karger_draw_loose.c0 : Code := sub karger_draw_loose.code [1, 1, 1, 1, 0, 1, 0, 0]
def karger_draw_loose.a0 : Ann := .auto
def karger_draw_loose.keep0 : List Nat := [0, 3, 4, 5, 21, 22, 23]
def karger_draw_loose.outs0 : List (Nat × List Nat) := [(2, [0, 4, 5])]
set_option maxRecDepth 100000 in
theorem karger_draw_loose.L0 [DKc] : LoopOK karger_draw_loose.ctx 49 karger_draw_loose.c0 0 karger_draw_loose.keep0 karger_draw_loose.outs0 := by
  refine loop_ok (n := karger_draw_loose.a0) karger_draw_loose.ok (by kernel_rfl) (loops_ok (l := []) (by kernel_rfl) ?_) karger_draw_loose.r0 ?_ ?_ (fun vs h K hh => hh)
  · exact trivial
  · intro K vs h hh
    unfold karger_draw_loose.r0 at hh
    split at hh
    · exact hh
    · exact hh
  · intro K m vs h hh
    unfold karger_draw_loose.r0 at hh
    split at hh
    · exact cast (by kernel_rfl) hh
    · exact hh.elim
set_option maxRecDepth 100000 in
theorem karger_draw_loose.eq (a1 : Option Addr) (h : Heap) (K : Int → Heap → Prop) : evF karger_draw_loose.ctx Tryz.f93 karger_draw_loose.ann [(.pointer a1)] h (karger_draw_loose.ret K) = karger_draw_loose a1 h K := by kernel_rfl
set_option maxRecDepth 100000 in
theorem karger_draw_loose.calls [DKc] {a1 : Option Addr} {h : Heap} {K : Int → Heap → Prop} (hh : karger_draw_loose a1 h K) (w : World) (hw : w.heap = h) :
    (callFunc 93 #[(.pointer a1)]).run Tryz.prog w = .ok (.enter 93 #[(.pointer a1)]) w ∧ Calls Tryz.prog 93 #[(.pointer a1)] w fun e w' => ∃ v, e = .returned v ∧ Out w w' ∧ karger_draw_loose.ret K v w'.heap := by
  rw [← karger_draw_loose.eq] at hh
  exact fn_calls (args := [(.pointer a1)]) (c := karger_draw_loose.code) karger_draw_loose.ok Tryz.func93 (by kernel_rfl) (by kernel_rfl) (by kernel_rfl) (by kernel_rfl) (loops_ok (l := [(karger_draw_loose.c0, none, 0, karger_draw_loose.keep0, karger_draw_loose.outs0)]) (by kernel_rfl) ⟨karger_draw_loose.L0, trivial⟩) hh w hw

/-! ### (*strait/karger.draw).pick: function 94 -/
def karger_draw_pick (a1 : Option Addr) (h : Heap) (K : Int → Heap → Prop) : Prop :=
  (chkP a1 fun a2 => ∃ (x3 : Int), cell h (a2.add 3) = some (.int .i64 x3) ∧ chkP a1 fun a4 => stC h (a4.add 3) (.int .i64 (IntKind.i64.wrap (x3 + 1))) fun h5 => (chkP a1 fun a6 => ∃ (x7 : Int), cell h5 (a6.add 3) = some (.int .i64 x7) ∧ chkP a1 fun a8 => ∃ (x9 : Option Addr) (x9l : Nat) (x9c : Nat), cell h5 (a8.add 2) = some (.slice x9 x9l x9c) ∧ (iteB (decide (x7 > (x9l : Int))) (K 0 h5) ((chkP a1 fun a10 => ∃ (x11 : Option Addr) (x11l : Nat) (x11c : Nat), cell h5 (a10.add 2) = some (.slice x11 x11l x11c) ∧ chkP a1 fun a12 => ∃ (x13 : Int), cell h5 (a12.add 3) = some (.int .i64 x13) ∧ chkP x11 fun a14 => (0 ≤ (IntKind.i64.wrap (x13 - 1)) ∧ (IntKind.i64.wrap (x13 - 1)) < (x11l : Int)) ∧ ∃ (x15 : Int), cell h5 (a14.add ((IntKind.i64.wrap (x13 - 1)).toNat * 1)) = some (.int .u64 x15) ∧ K x15 h5)))))
def karger_draw_pick.ret (K : Int → Heap → Prop) (v : Value) (h : Heap) : Prop := match v with
  | (.int .u64 r16) => K r16 h
  | _ => False
theorem karger_draw_pick.ret_elim {K : Int → Heap → Prop} {K' : Value → Heap → Prop} {v : Value} {h : Heap} (hk : ∀ r16 h, K r16 h → K' (.int .u64 r16) h) (hh : karger_draw_pick.ret K v h) : K' v h := by
  unfold karger_draw_pick.ret at hh
  split at hh
  · exact hk _ _ hh
  · exact hh.elim
noncomputable def karger_draw_pick.ctx : Ctx := { P := Tryz.prog, call := fun _ _ _ _ => False, qcall := fun _ _ _ _ => False, quiet := fun f => Nat.beq f 1000131 || Nat.beq f 1000155, loop := fun _ _ _ _ => False }
theorem karger_draw_pick.ok [DKc] : karger_draw_pick.ctx.OK where
  mixed := by kernel_rfl
  mono := fun hh _ => hh.elim
  call := fun hh => hh.elim
  qmono := fun hh _ => hh.elim
  qval := fun hh => hh.elim
  qcall := fun hh => hh.elim
noncomputable def karger_draw_pick.code : Code := (Tryz.f94.body).getD .skip
def karger_draw_pick.ann : Ann := (.two .auto (.two .auto (.two (.two (.reg [0, 1, 3, 7, 0, 16, 48, 112, 240, 511] (.take 0 (.take 1 (.take 2 (.take 3 (.take 4 (.take 5 (.take 6 (.take 7 (.take 8 (.take 9 .done))))))))))) .auto) (.two (.reg [0, 1, 3, 7, 0, 16, 48, 112, 240, 511, 1023, 2047] (.take 0 (.take 1 (.take 2 (.take 3 (.take 4 (.take 5 (.take 6 (.take 7 (.take 8 (.take 9 (.take 10 (.take 11 .done))))))))))))) .auto))))
set_option maxRecDepth 100000 in
theorem karger_draw_pick.eq (a1 : Option Addr) (h : Heap) (K : Int → Heap → Prop) : evF karger_draw_pick.ctx Tryz.f94 karger_draw_pick.ann [(.pointer a1)] h (karger_draw_pick.ret K) = karger_draw_pick a1 h K := by kernel_rfl
set_option maxRecDepth 100000 in
theorem karger_draw_pick.calls [DKc] {a1 : Option Addr} {h : Heap} {K : Int → Heap → Prop} (hh : karger_draw_pick a1 h K) (w : World) (hw : w.heap = h) :
    (callFunc 94 #[(.pointer a1)]).run Tryz.prog w = .ok (.enter 94 #[(.pointer a1)]) w ∧ Calls Tryz.prog 94 #[(.pointer a1)] w fun e w' => ∃ v, e = .returned v ∧ Out w w' ∧ karger_draw_pick.ret K v w'.heap := by
  rw [← karger_draw_pick.eq] at hh
  exact fn_calls (args := [(.pointer a1)]) (c := karger_draw_pick.code) karger_draw_pick.ok Tryz.func94 (by kernel_rfl) (by kernel_rfl) (by kernel_rfl) (by kernel_rfl) (loops_ok (l := []) (by kernel_rfl) trivial) hh w hw

end Go.Proofs.YtbhndlpjfncliaaGreat
