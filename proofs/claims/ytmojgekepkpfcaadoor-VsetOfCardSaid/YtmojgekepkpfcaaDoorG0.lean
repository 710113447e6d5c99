/- WRITTEN BY A PROGRAM OF THIS SESSION (gen.py): what each function asks of memory, and that the model's run comes to it. -/
import Derived.Test.YtmojgekepkpfcaaDoorProg
import Derived.Test.YtmojgekepkpfcaaDoorFw8

namespace Go.Proofs.YtmojgekepkpfcaaDoor
open Go.Hp
set_option linter.unusedVariables false
set_option linter.unusedSimpArgs false

/-! ### strait/vset.New: function 7 -/
def vset_New (a1 : Int) (h : Heap) (K : (Option Addr) → Heap → Prop) : Prop :=
  (bindV (if 4096 < (if 0 > a1 then 0 else a1) then 4096 else (if 0 > a1 then 0 else a1)) fun n2 => (bindV (IntKind.i64.wrap ((IntKind.i64.wrap (n2 + 64)) - 1)) fun n3 => (64 : Int) ≠ 0 ∧ (0 ≤ (IntKind.i64.wrap (n3.tdiv 64)) ∧ (IntKind.i64.wrap (n3.tdiv 64)) ≤ (IntKind.i64.wrap (n3.tdiv 64)) ∧ (IntKind.i64.wrap (n3.tdiv 64)) * (8 : Nat) ≤ 2 ^ 47 ∧ (IntKind.i64.wrap (n3.tdiv 64)) ≤ 2 ^ 47) ∧ newP h (.cells (zeroRow [(.int .u64 0)] (IntKind.i64.wrap (n3.tdiv 64)).toNat).toArray 54) fun a4 h5 => newP h5 (.cells #[(.int .i64 n2), (.slice (some a4) ((IntKind.i64.wrap (n3.tdiv 64)).toNat) ((IntKind.i64.wrap (n3.tdiv 64)).toNat))] 51) fun a6 h7 => (K (some a6) h7)))
def vset_New.ret (K : (Option Addr) → Heap → Prop) (v : Value) (h : Heap) : Prop := match v with
  | (.pointer r8) => K r8 h
  | _ => False
theorem vset_New.ret_elim {K : (Option Addr) → Heap → Prop} {K' : Value → Heap → Prop} {v : Value} {h : Heap} (hk : ∀ r8 h, K r8 h → K' (.pointer r8) h) (hh : vset_New.ret K v h) : K' v h := by
  unfold vset_New.ret at hh
  split at hh
  · exact hk _ _ hh
  · exact hh.elim
noncomputable def vset_New.ctx : Ctx := { P := Tryd.prog, call := fun _ _ _ _ => False, qcall := fun _ _ _ _ => False, quiet := fun f => false, loop := fun _ _ _ _ => False }
theorem vset_New.ok : vset_New.ctx.OK where
  mixed := by kernel_rfl
  mono := fun hh _ => hh.elim
  call := fun hh => hh.elim
  qmono := fun hh _ => hh.elim
  qval := fun hh => hh.elim
  qcall := fun hh => hh.elim
noncomputable def vset_New.code : Code := (Tryd.f7.body).getD .skip
def vset_New.ann : Ann := .auto
set_option maxRecDepth 100000 in
theorem vset_New.eq (a1 : Int) (h : Heap) (K : (Option Addr) → Heap → Prop) : evF vset_New.ctx Tryd.f7 vset_New.ann [(.int .i64 a1)] h (vset_New.ret K) = vset_New a1 h K := by kernel_rfl
set_option maxRecDepth 100000 in
theorem vset_New.calls {a1 : Int} {h : Heap} {K : (Option Addr) → Heap → Prop} (hh : vset_New a1 h K) (w : World) (hw : w.heap = h) :
    (callFunc 7 #[(.int .i64 a1)]).run Tryd.prog w = .ok (.enter 7 #[(.int .i64 a1)]) w ∧ Calls Tryd.prog 7 #[(.int .i64 a1)] w fun e w' => ∃ v, e = .returned v ∧ Out w w' ∧ vset_New.ret K v w'.heap := by
  rw [← vset_New.eq] at hh
  exact fn_calls (args := [(.int .i64 a1)]) (c := vset_New.code) vset_New.ok Tryd.func7 (by kernel_rfl) (by kernel_rfl) (by kernel_rfl) (by kernel_rfl) (loops_ok (l := []) (by kernel_rfl) trivial) hh w hw

/-! ### (*strait/vset.Set).Room: function 24 -/
def vset_Set_Room (a1 : Option Addr) (h : Heap) (K : Int → Heap → Prop) : Prop :=
  ((iteB a1.isNone (K 0 h) ((chkP a1 fun a2 => ∃ (x3 : Int), cell h a2 = some (.int .i64 x3) ∧ K x3 h))))
def vset_Set_Room.ret (K : Int → Heap → Prop) (v : Value) (h : Heap) : Prop := match v with
  | (.int .i64 r4) => K r4 h
  | _ => False
theorem vset_Set_Room.ret_elim {K : Int → Heap → Prop} {K' : Value → Heap → Prop} {v : Value} {h : Heap} (hk : ∀ r4 h, K r4 h → K' (.int .i64 r4) h) (hh : vset_Set_Room.ret K v h) : K' v h := by
  unfold vset_Set_Room.ret at hh
  split at hh
  · exact hk _ _ hh
  · exact hh.elim
noncomputable def vset_Set_Room.ctx : Ctx := { P := Tryd.prog, call := fun _ _ _ _ => False, qcall := fun _ _ _ _ => False, quiet := fun f => false, loop := fun _ _ _ _ => False }
theorem vset_Set_Room.ok : vset_Set_Room.ctx.OK where
  mixed := by kernel_rfl
  mono := fun hh _ => hh.elim
  call := fun hh => hh.elim
  qmono := fun hh _ => hh.elim
  qval := fun hh => hh.elim
  qcall := fun hh => hh.elim
noncomputable def vset_Set_Room.code : Code := (Tryd.f24.body).getD .skip
def vset_Set_Room.ann : Ann := .auto
set_option maxRecDepth 100000 in
theorem vset_Set_Room.eq (a1 : Option Addr) (h : Heap) (K : Int → Heap → Prop) : evF vset_Set_Room.ctx Tryd.f24 vset_Set_Room.ann [(.pointer a1)] h (vset_Set_Room.ret K) = vset_Set_Room a1 h K := by kernel_rfl
set_option maxRecDepth 100000 in
theorem vset_Set_Room.calls {a1 : Option Addr} {h : Heap} {K : Int → Heap → Prop} (hh : vset_Set_Room a1 h K) (w : World) (hw : w.heap = h) :
    (callFunc 24 #[(.pointer a1)]).run Tryd.prog w = .ok (.enter 24 #[(.pointer a1)]) w ∧ Calls Tryd.prog 24 #[(.pointer a1)] w fun e w' => ∃ v, e = .returned v ∧ Out w w' ∧ vset_Set_Room.ret K v w'.heap := by
  rw [← vset_Set_Room.eq] at hh
  exact fn_calls (args := [(.pointer a1)]) (c := vset_Set_Room.code) vset_Set_Room.ok Tryd.func24 (by kernel_rfl) (by kernel_rfl) (by kernel_rfl) (by kernel_rfl) (loops_ok (l := []) (by kernel_rfl) trivial) hh w hw

/-! ### (*strait/vset.Set).bit: function 28 -/
def vset_Set_bit (a1 : Option Addr) (a2 : Int) (h : Heap) (K : (Option Addr) → Int → Bool → Heap → Prop) : Prop :=
  (let j9 : Prop := (chkP a1 fun a5 => ∃ (x6 : Option Addr) (x6l : Nat) (x6c : Nat), cell h (a5.add 1) = some (.slice x6 x6l x6c) ∧ (64 : Int) ≠ 0 ∧ chkP x6 fun a7 => (0 ≤ (IntKind.i64.wrap (a2.tdiv 64)) ∧ (IntKind.i64.wrap (a2.tdiv 64)) < (x6l : Int)) ∧ (64 : Int) ≠ 0 ∧ 0 ≤ (a2.tmod 64) ∧ bindV (IntKind.u64.wrap ((1 : Int) * 2 ^ (min (a2.tmod 64).toNat 64))) fun n8 => (K (some (a7.add ((IntKind.i64.wrap (a2.tdiv 64)).toNat * 1))) n8 true h));
  iteB (decide (a2 < (0 : Int))) (K none 0 false h) (qcallP1 h (vset_Set_Room a1 h) fun x3 => (iteB (decide (a2 ≥ x3)) (K none 0 false h) ((j9)))))
def vset_Set_bit.ret (K : (Option Addr) → Int → Bool → Heap → Prop) (v : Value) (h : Heap) : Prop := match v with
  | (.tuple ⟨[(.pointer r10), (.int .u64 r11), (.bool r12)]⟩) => K r10 r11 r12 h
  | _ => False
theorem vset_Set_bit.ret_elim {K : (Option Addr) → Int → Bool → Heap → Prop} {K' : Value → Heap → Prop} {v : Value} {h : Heap} (hk : ∀ r10 r11 r12 h, K r10 r11 r12 h → K' (.tuple #[(.pointer r10), (.int .u64 r11), (.bool r12)]) h) (hh : vset_Set_bit.ret K v h) : K' v h := by
  unfold vset_Set_bit.ret at hh
  split at hh
  · exact hk _ _ _ _ hh
  · exact hh.elim
def vset_Set_bit.qcall (f : FuncId) (vs : List Value) (h : Heap) (K : Value → Prop) : Prop := match f, vs with
  | 24, [(.pointer a1)] => qcallP1 h (vset_Set_Room a1 h) fun r4 => K (.int .i64 r4)
  | _, _ => False
noncomputable def vset_Set_bit.ctx : Ctx := { P := Tryd.prog, call := fun _ _ _ _ => False, qcall := vset_Set_bit.qcall, quiet := fun f => Nat.beq f 24, loop := fun _ _ _ _ => False }
theorem vset_Set_bit.ok : vset_Set_bit.ctx.OK where
  mixed := by kernel_rfl
  mono := fun hh _ => hh.elim
  call := fun hh => hh.elim
  qmono := by
    intro f args h K K' hh hk
    change vset_Set_bit.qcall f args h K at hh
    change vset_Set_bit.qcall f args h K'
    unfold vset_Set_bit.qcall at hh ⊢
    split at hh
    · obtain ⟨x0, h1, h2⟩ := hh
      exact ⟨x0, h1, hk _ h2⟩
    · exact hh.elim
  qval := by
    intro f args h K hh
    change vset_Set_bit.qcall f args h K at hh
    suffices H : ∃ v, K v ∧ vset_Set_bit.qcall f args h (· = v) from H
    unfold vset_Set_bit.qcall at hh ⊢
    split at hh
    · obtain ⟨x0, h1, h2⟩ := hh
      exact ⟨_, h2, x0, h1, rfl⟩
    · exact hh.elim
  qcall := by
    intro f args h v hh w hw
    change vset_Set_bit.qcall f args h (· = v) at hh
    unfold vset_Set_bit.qcall at hh
    split at hh
    · obtain ⟨x0, h1, h2⟩ := hh
      obtain ⟨g1, g2⟩ := vset_Set_Room.calls h1 w hw
      refine .inl ⟨g1, g2.mono fun e w' ⟨u, he, ho, hr⟩ => ?_⟩
      have hq := vset_Set_Room.ret_elim (K' := fun u h' => u = v ∧ h' = h) (fun _ h' hr => by obtain ⟨rfl, rfl⟩ := hr; exact ⟨h2, rfl⟩) hr
      exact ⟨hq.1 ▸ he, ho, hq.2⟩
    · exact hh.elim
noncomputable def vset_Set_bit.code : Code := (Tryd.f28.body).getD .skip
def vset_Set_bit.ann : Ann := (.two .auto (.two .auto (.two (.reg [0, 1, 3, 7, 0, 16, 63, 0, 128, 384, 127, 2047, 4095] (.take 0 (.take 1 (.take 2 (.take 3 (.take 4 (.take 5 (.take 6 (.take 7 (.take 8 (.take 9 (.take 10 (.take 11 (.take 12 .done)))))))))))))) .auto)))
set_option maxRecDepth 100000 in
theorem vset_Set_bit.eq (a1 : Option Addr) (a2 : Int) (h : Heap) (K : (Option Addr) → Int → Bool → Heap → Prop) : evF vset_Set_bit.ctx Tryd.f28 vset_Set_bit.ann [(.pointer a1), (.int .i64 a2)] h (vset_Set_bit.ret K) = vset_Set_bit a1 a2 h K := by kernel_rfl
set_option maxRecDepth 100000 in
theorem vset_Set_bit.calls {a1 : Option Addr} {a2 : Int} {h : Heap} {K : (Option Addr) → Int → Bool → Heap → Prop} (hh : vset_Set_bit a1 a2 h K) (w : World) (hw : w.heap = h) :
    (callFunc 28 #[(.pointer a1), (.int .i64 a2)]).run Tryd.prog w = .ok (.enter 28 #[(.pointer a1), (.int .i64 a2)]) w ∧ Calls Tryd.prog 28 #[(.pointer a1), (.int .i64 a2)] w fun e w' => ∃ v, e = .returned v ∧ Out w w' ∧ vset_Set_bit.ret K v w'.heap := by
  rw [← vset_Set_bit.eq] at hh
  exact fn_calls (args := [(.pointer a1), (.int .i64 a2)]) (c := vset_Set_bit.code) vset_Set_bit.ok Tryd.func28 (by kernel_rfl) (by kernel_rfl) (by kernel_rfl) (by kernel_rfl) (loops_ok (l := []) (by kernel_rfl) trivial) hh w hw

/-! ### (*strait/vset.Set).Put: function 11 -/
def vset_Set_Put (a1 : Option Addr) (a2 : Int) (h : Heap) (K : Bool → Heap → Prop) : Prop :=
  (qcallP3 h (vset_Set_bit a1 a2 h) fun x3 x4 x5 => (iteB (!x5) (K false h) (chkP x3 fun a6 => ∃ (x7 : Int), cell h a6 = some (.int .u64 x7) ∧ (iteB ((bits .and .u64 x7 x4) != (0 : Int)) (K false h) ((chkP x3 fun a17 => ∃ (x18 : Int), cell h a17 = some (.int .u64 x18) ∧ chkP x3 fun a19 => stC h a19 (.int .u64 (bits .or .u64 x18 x4)) fun h20 => K true h20))))))
def vset_Set_Put.ret (K : Bool → Heap → Prop) (v : Value) (h : Heap) : Prop := match v with
  | (.bool r21) => K r21 h
  | _ => False
theorem vset_Set_Put.ret_elim {K : Bool → Heap → Prop} {K' : Value → Heap → Prop} {v : Value} {h : Heap} (hk : ∀ r21 h, K r21 h → K' (.bool r21) h) (hh : vset_Set_Put.ret K v h) : K' v h := by
  unfold vset_Set_Put.ret at hh
  split at hh
  · exact hk _ _ hh
  · exact hh.elim
def vset_Set_Put.qcall (f : FuncId) (vs : List Value) (h : Heap) (K : Value → Prop) : Prop := match f, vs with
  | 28, [(.pointer a1), (.int .i64 a2)] => qcallP3 h (vset_Set_bit a1 a2 h) fun r10 r11 r12 => K (.tuple #[(.pointer r10), (.int .u64 r11), (.bool r12)])
  | _, _ => False
noncomputable def vset_Set_Put.ctx : Ctx := { P := Tryd.prog, call := fun _ _ _ _ => False, qcall := vset_Set_Put.qcall, quiet := fun f => Nat.beq f 28, loop := fun _ _ _ _ => False }
theorem vset_Set_Put.ok : vset_Set_Put.ctx.OK where
  mixed := by kernel_rfl
  mono := fun hh _ => hh.elim
  call := fun hh => hh.elim
  qmono := by
    intro f args h K K' hh hk
    change vset_Set_Put.qcall f args h K at hh
    change vset_Set_Put.qcall f args h K'
    unfold vset_Set_Put.qcall at hh ⊢
    split at hh
    · obtain ⟨x0, x1, x2, h1, h2⟩ := hh
      exact ⟨x0, x1, x2, h1, hk _ h2⟩
    · exact hh.elim
  qval := by
    intro f args h K hh
    change vset_Set_Put.qcall f args h K at hh
    suffices H : ∃ v, K v ∧ vset_Set_Put.qcall f args h (· = v) from H
    unfold vset_Set_Put.qcall at hh ⊢
    split at hh
    · obtain ⟨x0, x1, x2, h1, h2⟩ := hh
      exact ⟨_, h2, x0, x1, x2, h1, rfl⟩
    · exact hh.elim
  qcall := by
    intro f args h v hh w hw
    change vset_Set_Put.qcall f args h (· = v) at hh
    unfold vset_Set_Put.qcall at hh
    split at hh
    · obtain ⟨x0, x1, x2, h1, h2⟩ := hh
      obtain ⟨g1, g2⟩ := vset_Set_bit.calls h1 w hw
      refine .inl ⟨g1, g2.mono fun e w' ⟨u, he, ho, hr⟩ => ?_⟩
      have hq := vset_Set_bit.ret_elim (K' := fun u h' => u = v ∧ h' = h) (fun _ _ _ h' hr => by obtain ⟨rfl, rfl, rfl, rfl⟩ := hr; exact ⟨h2, rfl⟩) hr
      exact ⟨hq.1 ▸ he, ho, hq.2⟩
    · exact hh.elim
noncomputable def vset_Set_Put.code : Code := (Tryd.f11.body).getD .skip
def vset_Set_Put.ann : Ann := .auto
set_option maxRecDepth 100000 in
theorem vset_Set_Put.eq (a1 : Option Addr) (a2 : Int) (h : Heap) (K : Bool → Heap → Prop) : evF vset_Set_Put.ctx Tryd.f11 vset_Set_Put.ann [(.pointer a1), (.int .i64 a2)] h (vset_Set_Put.ret K) = vset_Set_Put a1 a2 h K := by kernel_rfl
set_option maxRecDepth 100000 in
theorem vset_Set_Put.calls {a1 : Option Addr} {a2 : Int} {h : Heap} {K : Bool → Heap → Prop} (hh : vset_Set_Put a1 a2 h K) (w : World) (hw : w.heap = h) :
    (callFunc 11 #[(.pointer a1), (.int .i64 a2)]).run Tryd.prog w = .ok (.enter 11 #[(.pointer a1), (.int .i64 a2)]) w ∧ Calls Tryd.prog 11 #[(.pointer a1), (.int .i64 a2)] w fun e w' => ∃ v, e = .returned v ∧ Out w w' ∧ vset_Set_Put.ret K v w'.heap := by
  rw [← vset_Set_Put.eq] at hh
  exact fn_calls (args := [(.pointer a1), (.int .i64 a2)]) (c := vset_Set_Put.code) vset_Set_Put.ok Tryd.func11 (by kernel_rfl) (by kernel_rfl) (by kernel_rfl) (by kernel_rfl) (loops_ok (l := []) (by kernel_rfl) trivial) hh w hw

/-! ### strait/vset.Of: function 18 -/
def vset_Of.b0 (K2 : Heap → Prop) (cont : (Option Addr) → (Option Addr) → Nat → Nat → Int → Int → Heap → Prop) (c5_1001 : Option Addr) (c10_1002 : Option Addr) (c10_1003 : Nat) (c10_1004 : Nat) (c11_1005 : Int) (v12_1006 : Int) (h1007 : Heap) : Prop :=
  (iteB (decide (v12_1006 < c11_1005)) ((chkP c10_1002 fun a1008 => (0 ≤ v12_1006 ∧ v12_1006 < (c10_1003 : Int)) ∧ ∃ (x1009 : Int), cell h1007 (a1008.add (v12_1006.toNat * 1)) = some (.int .i64 x1009) ∧ (callP1 (vset_Set_Put c5_1001 x1009 h1007) fun x1010 h1011 => ((cont c5_1001 c10_1002 c10_1003 c10_1004 c11_1005 (IntKind.i64.wrap (v12_1006 + 1)) h1011))))) (K2 h1007))
def vset_Of.l0 (K2 : Heap → Prop) : Nat → (Option Addr) → (Option Addr) → Nat → Nat → Int → Int → Heap → Prop
  | 0, _, _, _, _, _, _, _ => False
  | m + 1, c5_1001, c10_1002, c10_1003, c10_1004, c11_1005, v12_1006, h => vset_Of.b0 K2 (vset_Of.l0 K2 m) c5_1001 c10_1002 c10_1003 c10_1004 c11_1005 v12_1006 h
def vset_Of (a1 : Int) (a2 : Option Addr) (a2l : Nat) (a2c : Nat) (h : Heap) (K : (Option Addr) → Heap → Prop) : Prop :=
  (callP1 (vset_New a1 h) fun x3 h4 => ((∃ m6, vset_Of.l0 (fun h5 => (K x3 h5)) m6 x3 a2 a2l a2c (a2l : Int) 0 h4)))
def vset_Of.ret (K : (Option Addr) → Heap → Prop) (v : Value) (h : Heap) : Prop := match v with
  | (.pointer r7) => K r7 h
  | _ => False
theorem vset_Of.ret_elim {K : (Option Addr) → Heap → Prop} {K' : Value → Heap → Prop} {v : Value} {h : Heap} (hk : ∀ r7 h, K r7 h → K' (.pointer r7) h) (hh : vset_Of.ret K v h) : K' v h := by
  unfold vset_Of.ret at hh
  split at hh
  · exact hk _ _ hh
  · exact hh.elim
def vset_Of.call (f : FuncId) (vs : List Value) (h : Heap) (K : Value → Heap → Prop) : Prop := match f, vs with
  | 7, [(.int .i64 a1)] => callP1 (vset_New a1 h) fun r8 h' => K (.pointer r8) h'
  | 11, [(.pointer a1), (.int .i64 a2)] => callP1 (vset_Set_Put a1 a2 h) fun r21 h' => K (.bool r21) h'
  | _, _ => False
def vset_Of.r0 (K : Nat → List Value → Heap → Prop) (m : Nat) (vs : List Value) (h : Heap) : Prop := match vs with
  | [(.pointer c5_1001), (.slice c10_1002 c10_1003 c10_1004), (.int .i64 c11_1005), (.int .i64 v12_1006)] => vset_Of.l0 (fun h' => K 2 [(.pointer c5_1001)] h') m c5_1001 c10_1002 c10_1003 c10_1004 c11_1005 v12_1006 h
  | _ => False
def vset_Of.loop (i : Nat) (vs : List Value) (h : Heap) (K : Nat → List Value → Heap → Prop) : Prop := match i with
  | 0 => ∃ m, vset_Of.r0 K m vs h
  | _ => False
noncomputable def vset_Of.ctx : Ctx := { P := Tryd.prog, call := vset_Of.call, qcall := fun _ _ _ _ => False, quiet := fun f => false, loop := vset_Of.loop }
theorem vset_Of.ok : vset_Of.ctx.OK where
  mixed := by kernel_rfl
  mono := by
    intro f args h K K' hh hk
    change vset_Of.call f args h K at hh
    change vset_Of.call f args h K'
    unfold vset_Of.call at hh ⊢
    split at hh
    · obtain ⟨R, h1, h2⟩ := hh
      exact ⟨R, h1, fun _ x hr => hk _ _ (h2 _ x hr)⟩
    · obtain ⟨R, h1, h2⟩ := hh
      exact ⟨R, h1, fun _ x hr => hk _ _ (h2 _ x hr)⟩
    · exact hh.elim
  call := by
    intro f args h K hh w hw
    change vset_Of.call f args h K at hh
    unfold vset_Of.call at hh
    split at hh
    · obtain ⟨R, h1, h2⟩ := hh
      obtain ⟨g1, g2⟩ := vset_New.calls h1 w hw
      exact ⟨g1, g2.mono fun e w' ⟨v, he, ho, hr⟩ => ⟨v, he, ho, vset_New.ret_elim h2 hr⟩⟩
    · obtain ⟨R, h1, h2⟩ := hh
      obtain ⟨g1, g2⟩ := vset_Set_Put.calls h1 w hw
      exact ⟨g1, g2.mono fun e w' ⟨v, he, ho, hr⟩ => ⟨v, he, ho, vset_Set_Put.ret_elim h2 hr⟩⟩
    · exact hh.elim
  qmono := fun hh _ => hh.elim
  qval := fun hh => hh.elim
  qcall := fun hh => hh.elim
noncomputable def vset_Of.code : Code := (Tryd.f18.body).getD .skip
def vset_Of.ann : Ann := (.two .auto (.two .auto (.two (.two .auto (.two (.loop 0 [5, 10, 11, 12] [(2, [5])] .auto) .auto)) .auto)))
noncomputable def vset_Of.c0 : Code := sub vset_Of.code [1, 1, 0, 1, 0, 0]
def vset_Of.a0 : Ann := .auto
def vset_Of.keep0 : List Nat := [5, 10, 11, 12]
def vset_Of.outs0 : List (Nat × List Nat) := [(2, [5])]
set_option maxRecDepth 100000 in
theorem vset_Of.L0 : LoopOK vset_Of.ctx 21 vset_Of.c0 0 vset_Of.keep0 vset_Of.outs0 := by
  refine loop_ok (n := vset_Of.a0) vset_Of.ok (by kernel_rfl) (loops_ok (l := []) (by kernel_rfl) ?_) vset_Of.r0 ?_ ?_ (fun vs h K hh => hh)
  · exact trivial
  · intro K vs h hh
    unfold vset_Of.r0 at hh
    split at hh
    · exact hh
    · exact hh
  · intro K m vs h hh
    unfold vset_Of.r0 at hh
    split at hh
    · exact cast (by kernel_rfl) hh
    · exact hh.elim
set_option maxRecDepth 100000 in
theorem vset_Of.eq (a1 : Int) (a2 : Option Addr) (a2l : Nat) (a2c : Nat) (h : Heap) (K : (Option Addr) → Heap → Prop) : evF vset_Of.ctx Tryd.f18 vset_Of.ann [(.int .i64 a1), (.slice a2 a2l a2c)] h (vset_Of.ret K) = vset_Of a1 a2 a2l a2c h K := by kernel_rfl
set_option maxRecDepth 100000 in
theorem vset_Of.calls {a1 : Int} {a2 : Option Addr} {a2l : Nat} {a2c : Nat} {h : Heap} {K : (Option Addr) → Heap → Prop} (hh : vset_Of a1 a2 a2l a2c h K) (w : World) (hw : w.heap = h) :
    (callFunc 18 #[(.int .i64 a1), (.slice a2 a2l a2c)]).run Tryd.prog w = .ok (.enter 18 #[(.int .i64 a1), (.slice a2 a2l a2c)]) w ∧ Calls Tryd.prog 18 #[(.int .i64 a1), (.slice a2 a2l a2c)] w fun e w' => ∃ v, e = .returned v ∧ Out w w' ∧ vset_Of.ret K v w'.heap := by
  rw [← vset_Of.eq] at hh
  exact fn_calls (args := [(.int .i64 a1), (.slice a2 a2l a2c)]) (c := vset_Of.code) vset_Of.ok Tryd.func18 (by kernel_rfl) (by kernel_rfl) (by kernel_rfl) (by kernel_rfl) (loops_ok (l := [(vset_Of.c0, none, 0, vset_Of.keep0, vset_Of.outs0)]) (by kernel_rfl) ⟨vset_Of.L0, trivial⟩) hh w hw

/-! ### math/bits.OnesCount64: function 30 -/
def bits_OnesCount64 (a1 : Int) (h : Heap) (K : Int → Heap → Prop) : Prop :=
  (0 ≤ (1 : Int) ∧ bindV (bits .and .u64 (a1.fdiv (2 ^ 1)) 6148914691236517205) fun n2 => bindV (IntKind.u64.wrap (n2 + (bits .and .u64 a1 6148914691236517205))) fun n3 => (0 ≤ (2 : Int) ∧ bindV (bits .and .u64 (n3.fdiv (2 ^ 2)) 3689348814741910323) fun n4 => bindV (IntKind.u64.wrap (n4 + (bits .and .u64 n3 3689348814741910323))) fun n5 => (0 ≤ (4 : Int) ∧ bindV (bits .and .u64 (IntKind.u64.wrap ((n5.fdiv (2 ^ 4)) + n5)) 1085102592571150095) fun n6 => (0 ≤ (8 : Int) ∧ (0 ≤ (16 : Int) ∧ bindV ((IntKind.u64.wrap (n6 + (n6.fdiv (2 ^ 8)))).fdiv (2 ^ 16)) fun n7 => bindV (IntKind.u64.wrap ((IntKind.u64.wrap (n6 + (n6.fdiv (2 ^ 8)))) + n7)) fun n8 => (0 ≤ (32 : Int) ∧ (bindV (IntKind.i64.wrap (IntKind.u64.wrap (n8 + (n8.fdiv (2 ^ 32))))) fun n9 => (K (bits .and .i64 n9 127) h))))))))
def bits_OnesCount64.ret (K : Int → Heap → Prop) (v : Value) (h : Heap) : Prop := match v with
  | (.int .i64 r10) => K r10 h
  | _ => False
theorem bits_OnesCount64.ret_elim {K : Int → Heap → Prop} {K' : Value → Heap → Prop} {v : Value} {h : Heap} (hk : ∀ r10 h, K r10 h → K' (.int .i64 r10) h) (hh : bits_OnesCount64.ret K v h) : K' v h := by
  unfold bits_OnesCount64.ret at hh
  split at hh
  · exact hk _ _ hh
  · exact hh.elim
noncomputable def bits_OnesCount64.ctx : Ctx := { P := Tryd.prog, call := fun _ _ _ _ => False, qcall := fun _ _ _ _ => False, quiet := fun f => false, loop := fun _ _ _ _ => False }
theorem bits_OnesCount64.ok : bits_OnesCount64.ctx.OK where
  mixed := by kernel_rfl
  mono := fun hh _ => hh.elim
  call := fun hh => hh.elim
  qmono := fun hh _ => hh.elim
  qval := fun hh => hh.elim
  qcall := fun hh => hh.elim
noncomputable def bits_OnesCount64.code : Code := (Tryd.f30.body).getD .skip
def bits_OnesCount64.ann : Ann := .auto
set_option maxRecDepth 100000 in
theorem bits_OnesCount64.eq (a1 : Int) (h : Heap) (K : Int → Heap → Prop) : evF bits_OnesCount64.ctx Tryd.f30 bits_OnesCount64.ann [(.int .u64 a1)] h (bits_OnesCount64.ret K) = bits_OnesCount64 a1 h K := by kernel_rfl
set_option maxRecDepth 100000 in
theorem bits_OnesCount64.calls {a1 : Int} {h : Heap} {K : Int → Heap → Prop} (hh : bits_OnesCount64 a1 h K) (w : World) (hw : w.heap = h) :
    (callFunc 30 #[(.int .u64 a1)]).run Tryd.prog w = .ok (.enter 30 #[(.int .u64 a1)]) w ∧ Calls Tryd.prog 30 #[(.int .u64 a1)] w fun e w' => ∃ v, e = .returned v ∧ Out w w' ∧ bits_OnesCount64.ret K v w'.heap := by
  rw [← bits_OnesCount64.eq] at hh
  exact fn_calls (args := [(.int .u64 a1)]) (c := bits_OnesCount64.code) bits_OnesCount64.ok Tryd.func30 (by kernel_rfl) (by kernel_rfl) (by kernel_rfl) (by kernel_rfl) (loops_ok (l := []) (by kernel_rfl) trivial) hh w hw

/-! ### (*strait/vset.Set).Len: function 25 -/
def vset_Set_Len.b0 (K2 : Int → Heap → Prop) (cont : Int → (Option Addr) → Nat → Nat → Int → Int → Heap → Prop) (v3_1001 : Int) (c11_1002 : Option Addr) (c11_1003 : Nat) (c11_1004 : Nat) (c12_1005 : Int) (v13_1006 : Int) (h1007 : Heap) : Prop :=
  (iteB (decide (v13_1006 < c12_1005)) ((chkP c11_1002 fun a1008 => (0 ≤ v13_1006 ∧ v13_1006 < (c11_1003 : Int)) ∧ ∃ (x1009 : Int), cell h1007 (a1008.add (v13_1006.toNat * 1)) = some (.int .u64 x1009) ∧ (qcallP1 h1007 (bits_OnesCount64 x1009 h1007) fun x1010 => ((cont (IntKind.i64.wrap (v3_1001 + x1010)) c11_1002 c11_1003 c11_1004 c12_1005 (IntKind.i64.wrap (v13_1006 + 1)) h1007))))) (K2 v3_1001 h1007))
def vset_Set_Len.l0 (K2 : Int → Heap → Prop) : Nat → Int → (Option Addr) → Nat → Nat → Int → Int → Heap → Prop
  | 0, _, _, _, _, _, _, _ => False
  | m + 1, v3_1001, c11_1002, c11_1003, c11_1004, c12_1005, v13_1006, h => vset_Set_Len.b0 K2 (vset_Set_Len.l0 K2 m) v3_1001 c11_1002 c11_1003 c11_1004 c12_1005 v13_1006 h
def vset_Set_Len (a1 : Option Addr) (h : Heap) (K : Int → Heap → Prop) : Prop :=
  ((iteB a1.isNone (K 0 h) (((chkP a1 fun a2 => ∃ (x3 : Option Addr) (x3l : Nat) (x3c : Nat), cell h (a2.add 1) = some (.slice x3 x3l x3c) ∧ (∃ m6, vset_Set_Len.l0 (fun z4 h5 => (K z4 h5)) m6 0 x3 x3l x3c (x3l : Int) 0 h))))))
def vset_Set_Len.ret (K : Int → Heap → Prop) (v : Value) (h : Heap) : Prop := match v with
  | (.int .i64 r7) => K r7 h
  | _ => False
theorem vset_Set_Len.ret_elim {K : Int → Heap → Prop} {K' : Value → Heap → Prop} {v : Value} {h : Heap} (hk : ∀ r7 h, K r7 h → K' (.int .i64 r7) h) (hh : vset_Set_Len.ret K v h) : K' v h := by
  unfold vset_Set_Len.ret at hh
  split at hh
  · exact hk _ _ hh
  · exact hh.elim
def vset_Set_Len.qcall (f : FuncId) (vs : List Value) (h : Heap) (K : Value → Prop) : Prop := match f, vs with
  | 30, [(.int .u64 a1)] => qcallP1 h (bits_OnesCount64 a1 h) fun r10 => K (.int .i64 r10)
  | _, _ => False
def vset_Set_Len.r0 (K : Nat → List Value → Heap → Prop) (m : Nat) (vs : List Value) (h : Heap) : Prop := match vs with
  | [(.int .i64 v3_1001), (.slice c11_1002 c11_1003 c11_1004), (.int .i64 c12_1005), (.int .i64 v13_1006)] => vset_Set_Len.l0 (fun z8 h' => K 2 [(.int .i64 z8)] h') m v3_1001 c11_1002 c11_1003 c11_1004 c12_1005 v13_1006 h
  | _ => False
def vset_Set_Len.loop (i : Nat) (vs : List Value) (h : Heap) (K : Nat → List Value → Heap → Prop) : Prop := match i with
  | 0 => ∃ m, vset_Set_Len.r0 K m vs h
  | _ => False
noncomputable def vset_Set_Len.ctx : Ctx := { P := Tryd.prog, call := fun _ _ _ _ => False, qcall := vset_Set_Len.qcall, quiet := fun f => Nat.beq f 30, loop := vset_Set_Len.loop }
theorem vset_Set_Len.ok : vset_Set_Len.ctx.OK where
  mixed := by kernel_rfl
  mono := fun hh _ => hh.elim
  call := fun hh => hh.elim
  qmono := by
    intro f args h K K' hh hk
    change vset_Set_Len.qcall f args h K at hh
    change vset_Set_Len.qcall f args h K'
    unfold vset_Set_Len.qcall at hh ⊢
    split at hh
    · obtain ⟨x0, h1, h2⟩ := hh
      exact ⟨x0, h1, hk _ h2⟩
    · exact hh.elim
  qval := by
    intro f args h K hh
    change vset_Set_Len.qcall f args h K at hh
    suffices H : ∃ v, K v ∧ vset_Set_Len.qcall f args h (· = v) from H
    unfold vset_Set_Len.qcall at hh ⊢
    split at hh
    · obtain ⟨x0, h1, h2⟩ := hh
      exact ⟨_, h2, x0, h1, rfl⟩
    · exact hh.elim
  qcall := by
    intro f args h v hh w hw
    change vset_Set_Len.qcall f args h (· = v) at hh
    unfold vset_Set_Len.qcall at hh
    split at hh
    · obtain ⟨x0, h1, h2⟩ := hh
      obtain ⟨g1, g2⟩ := bits_OnesCount64.calls h1 w hw
      refine .inl ⟨g1, g2.mono fun e w' ⟨u, he, ho, hr⟩ => ?_⟩
      have hq := bits_OnesCount64.ret_elim (K' := fun u h' => u = v ∧ h' = h) (fun _ h' hr => by obtain ⟨rfl, rfl⟩ := hr; exact ⟨h2, rfl⟩) hr
      exact ⟨hq.1 ▸ he, ho, hq.2⟩
    · exact hh.elim
noncomputable def vset_Set_Len.code : Code := (Tryd.f25.body).getD .skip
def vset_Set_Len.ann : Ann := (.two .auto (.two .auto (.two .auto (.two (.two .auto (.two (.loop 0 [3, 11, 12, 13] [(2, [3])] .auto) .auto)) .auto))))
noncomputable def vset_Set_Len.c0 : Code := sub vset_Set_Len.code [1, 1, 1, 0, 1, 0, 0]
def vset_Set_Len.a0 : Ann := .auto
def vset_Set_Len.keep0 : List Nat := [3, 11, 12, 13]
def vset_Set_Len.outs0 : List (Nat × List Nat) := [(2, [3])]
set_option maxRecDepth 100000 in
theorem vset_Set_Len.L0 : LoopOK vset_Set_Len.ctx 23 vset_Set_Len.c0 0 vset_Set_Len.keep0 vset_Set_Len.outs0 := by
  refine loop_ok (n := vset_Set_Len.a0) vset_Set_Len.ok (by kernel_rfl) (loops_ok (l := []) (by kernel_rfl) ?_) vset_Set_Len.r0 ?_ ?_ (fun vs h K hh => hh)
  · exact trivial
  · intro K vs h hh
    unfold vset_Set_Len.r0 at hh
    split at hh
    · exact hh
    · exact hh
  · intro K m vs h hh
    unfold vset_Set_Len.r0 at hh
    split at hh
    · exact cast (by kernel_rfl) hh
    · exact hh.elim
set_option maxRecDepth 100000 in
theorem vset_Set_Len.eq (a1 : Option Addr) (h : Heap) (K : Int → Heap → Prop) : evF vset_Set_Len.ctx Tryd.f25 vset_Set_Len.ann [(.pointer a1)] h (vset_Set_Len.ret K) = vset_Set_Len a1 h K := by kernel_rfl
set_option maxRecDepth 100000 in
theorem vset_Set_Len.calls {a1 : Option Addr} {h : Heap} {K : Int → Heap → Prop} (hh : vset_Set_Len a1 h K) (w : World) (hw : w.heap = h) :
    (callFunc 25 #[(.pointer a1)]).run Tryd.prog w = .ok (.enter 25 #[(.pointer a1)]) w ∧ Calls Tryd.prog 25 #[(.pointer a1)] w fun e w' => ∃ v, e = .returned v ∧ Out w w' ∧ vset_Set_Len.ret K v w'.heap := by
  rw [← vset_Set_Len.eq] at hh
  exact fn_calls (args := [(.pointer a1)]) (c := vset_Set_Len.code) vset_Set_Len.ok Tryd.func25 (by kernel_rfl) (by kernel_rfl) (by kernel_rfl) (by kernel_rfl) (loops_ok (l := [(vset_Set_Len.c0, none, 0, vset_Set_Len.keep0, vset_Set_Len.outs0)]) (by kernel_rfl) ⟨vset_Set_Len.L0, trivial⟩) hh w hw

/-! ### (*strait/vset.Set).Has: function 14 -/
def vset_Set_Has (a1 : Option Addr) (a2 : Int) (h : Heap) (K : Bool → Heap → Prop) : Prop :=
  (qcallP3 h (vset_Set_bit a1 a2 h) fun x3 x4 x5 => (iteB x5 (chkP x3 fun a6 => ∃ (x7 : Int), cell h a6 = some (.int .u64 x7) ∧ (K ((bits .and .u64 x7 x4) != (0 : Int)) h)) (K false h)))
def vset_Set_Has.ret (K : Bool → Heap → Prop) (v : Value) (h : Heap) : Prop := match v with
  | (.bool r9) => K r9 h
  | _ => False
theorem vset_Set_Has.ret_elim {K : Bool → Heap → Prop} {K' : Value → Heap → Prop} {v : Value} {h : Heap} (hk : ∀ r9 h, K r9 h → K' (.bool r9) h) (hh : vset_Set_Has.ret K v h) : K' v h := by
  unfold vset_Set_Has.ret at hh
  split at hh
  · exact hk _ _ hh
  · exact hh.elim
def vset_Set_Has.qcall (f : FuncId) (vs : List Value) (h : Heap) (K : Value → Prop) : Prop := match f, vs with
  | 28, [(.pointer a1), (.int .i64 a2)] => qcallP3 h (vset_Set_bit a1 a2 h) fun r10 r11 r12 => K (.tuple #[(.pointer r10), (.int .u64 r11), (.bool r12)])
  | _, _ => False
noncomputable def vset_Set_Has.ctx : Ctx := { P := Tryd.prog, call := fun _ _ _ _ => False, qcall := vset_Set_Has.qcall, quiet := fun f => Nat.beq f 28, loop := fun _ _ _ _ => False }
theorem vset_Set_Has.ok : vset_Set_Has.ctx.OK where
  mixed := by kernel_rfl
  mono := fun hh _ => hh.elim
  call := fun hh => hh.elim
  qmono := by
    intro f args h K K' hh hk
    change vset_Set_Has.qcall f args h K at hh
    change vset_Set_Has.qcall f args h K'
    unfold vset_Set_Has.qcall at hh ⊢
    split at hh
    · obtain ⟨x0, x1, x2, h1, h2⟩ := hh
      exact ⟨x0, x1, x2, h1, hk _ h2⟩
    · exact hh.elim
  qval := by
    intro f args h K hh
    change vset_Set_Has.qcall f args h K at hh
    suffices H : ∃ v, K v ∧ vset_Set_Has.qcall f args h (· = v) from H
    unfold vset_Set_Has.qcall at hh ⊢
    split at hh
    · obtain ⟨x0, x1, x2, h1, h2⟩ := hh
      exact ⟨_, h2, x0, x1, x2, h1, rfl⟩
    · exact hh.elim
  qcall := by
    intro f args h v hh w hw
    change vset_Set_Has.qcall f args h (· = v) at hh
    unfold vset_Set_Has.qcall at hh
    split at hh
    · obtain ⟨x0, x1, x2, h1, h2⟩ := hh
      obtain ⟨g1, g2⟩ := vset_Set_bit.calls h1 w hw
      refine .inl ⟨g1, g2.mono fun e w' ⟨u, he, ho, hr⟩ => ?_⟩
      have hq := vset_Set_bit.ret_elim (K' := fun u h' => u = v ∧ h' = h) (fun _ _ _ h' hr => by obtain ⟨rfl, rfl, rfl, rfl⟩ := hr; exact ⟨h2, rfl⟩) hr
      exact ⟨hq.1 ▸ he, ho, hq.2⟩
    · exact hh.elim
noncomputable def vset_Set_Has.code : Code := (Tryd.f14.body).getD .skip
def vset_Set_Has.ann : Ann := .auto
set_option maxRecDepth 100000 in
theorem vset_Set_Has.eq (a1 : Option Addr) (a2 : Int) (h : Heap) (K : Bool → Heap → Prop) : evF vset_Set_Has.ctx Tryd.f14 vset_Set_Has.ann [(.pointer a1), (.int .i64 a2)] h (vset_Set_Has.ret K) = vset_Set_Has a1 a2 h K := by kernel_rfl
set_option maxRecDepth 100000 in
theorem vset_Set_Has.calls {a1 : Option Addr} {a2 : Int} {h : Heap} {K : Bool → Heap → Prop} (hh : vset_Set_Has a1 a2 h K) (w : World) (hw : w.heap = h) :
    (callFunc 14 #[(.pointer a1), (.int .i64 a2)]).run Tryd.prog w = .ok (.enter 14 #[(.pointer a1), (.int .i64 a2)]) w ∧ Calls Tryd.prog 14 #[(.pointer a1), (.int .i64 a2)] w fun e w' => ∃ v, e = .returned v ∧ Out w w' ∧ vset_Set_Has.ret K v w'.heap := by
  rw [← vset_Set_Has.eq] at hh
  exact fn_calls (args := [(.pointer a1), (.int .i64 a2)]) (c := vset_Set_Has.code) vset_Set_Has.ok Tryd.func14 (by kernel_rfl) (by kernel_rfl) (by kernel_rfl) (by kernel_rfl) (loops_ok (l := []) (by kernel_rfl) trivial) hh w hw

/-! ### (*strait/vset.Set).Other: function 16 -/
def vset_Set_Other.b0 (K2 : Heap → Prop) (cont : (Option Addr) → (Option Addr) → Int → Int → Heap → Prop) (c0_1001 : Option Addr) (c3_1002 : Option Addr) (c15_1003 : Int) (v16_1004 : Int) (h1005 : Heap) : Prop :=
  (iteB (decide (v16_1004 < c15_1003)) (((qcallP1 h1005 (vset_Set_Has c0_1001 v16_1004 h1005) fun x1006 => (iteB (!x1006) (callP1 (vset_Set_Put c3_1002 v16_1004 h1005) fun x1007 h1008 => ((cont c0_1001 c3_1002 c15_1003 (IntKind.i64.wrap (v16_1004 + 1)) h1008))) (((cont c0_1001 c3_1002 c15_1003 (IntKind.i64.wrap (v16_1004 + 1)) h1005))))))) (K2 h1005))
def vset_Set_Other.l0 (K2 : Heap → Prop) : Nat → (Option Addr) → (Option Addr) → Int → Int → Heap → Prop
  | 0, _, _, _, _, _ => False
  | m + 1, c0_1001, c3_1002, c15_1003, v16_1004, h => vset_Set_Other.b0 K2 (vset_Set_Other.l0 K2 m) c0_1001 c3_1002 c15_1003 v16_1004 h
def vset_Set_Other (a1 : Option Addr) (h : Heap) (K : (Option Addr) → Heap → Prop) : Prop :=
  ((iteB a1.isNone (K none h) ((chkP a1 fun a2 => ∃ (x3 : Int), cell h a2 = some (.int .i64 x3) ∧ callP1 (vset_New x3 h) fun x4 h5 => (chkP a1 fun a6 => ∃ (x7 : Int), cell h5 a6 = some (.int .i64 x7) ∧ (∃ m9, vset_Set_Other.l0 (fun h8 => (K x4 h8)) m9 a1 x4 x7 0 h5))))))
def vset_Set_Other.ret (K : (Option Addr) → Heap → Prop) (v : Value) (h : Heap) : Prop := match v with
  | (.pointer r10) => K r10 h
  | _ => False
theorem vset_Set_Other.ret_elim {K : (Option Addr) → Heap → Prop} {K' : Value → Heap → Prop} {v : Value} {h : Heap} (hk : ∀ r10 h, K r10 h → K' (.pointer r10) h) (hh : vset_Set_Other.ret K v h) : K' v h := by
  unfold vset_Set_Other.ret at hh
  split at hh
  · exact hk _ _ hh
  · exact hh.elim
def vset_Set_Other.call (f : FuncId) (vs : List Value) (h : Heap) (K : Value → Heap → Prop) : Prop := match f, vs with
  | 7, [(.int .i64 a1)] => callP1 (vset_New a1 h) fun r8 h' => K (.pointer r8) h'
  | 11, [(.pointer a1), (.int .i64 a2)] => callP1 (vset_Set_Put a1 a2 h) fun r21 h' => K (.bool r21) h'
  | _, _ => False
def vset_Set_Other.qcall (f : FuncId) (vs : List Value) (h : Heap) (K : Value → Prop) : Prop := match f, vs with
  | 14, [(.pointer a1), (.int .i64 a2)] => qcallP1 h (vset_Set_Has a1 a2 h) fun r9 => K (.bool r9)
  | _, _ => False
def vset_Set_Other.r0 (K : Nat → List Value → Heap → Prop) (m : Nat) (vs : List Value) (h : Heap) : Prop := match vs with
  | [(.pointer c0_1001), (.pointer c3_1002), (.int .i64 c15_1003), (.int .i64 v16_1004)] => vset_Set_Other.l0 (fun h' => K 2 [(.pointer c3_1002)] h') m c0_1001 c3_1002 c15_1003 v16_1004 h
  | _ => False
def vset_Set_Other.loop (i : Nat) (vs : List Value) (h : Heap) (K : Nat → List Value → Heap → Prop) : Prop := match i with
  | 0 => ∃ m, vset_Set_Other.r0 K m vs h
  | _ => False
noncomputable def vset_Set_Other.ctx : Ctx := { P := Tryd.prog, call := vset_Set_Other.call, qcall := vset_Set_Other.qcall, quiet := fun f => Nat.beq f 14, loop := vset_Set_Other.loop }
theorem vset_Set_Other.ok : vset_Set_Other.ctx.OK where
  mixed := by kernel_rfl
  mono := by
    intro f args h K K' hh hk
    change vset_Set_Other.call f args h K at hh
    change vset_Set_Other.call f args h K'
    unfold vset_Set_Other.call at hh ⊢
    split at hh
    · obtain ⟨R, h1, h2⟩ := hh
      exact ⟨R, h1, fun _ x hr => hk _ _ (h2 _ x hr)⟩
    · obtain ⟨R, h1, h2⟩ := hh
      exact ⟨R, h1, fun _ x hr => hk _ _ (h2 _ x hr)⟩
    · exact hh.elim
  call := by
    intro f args h K hh w hw
    change vset_Set_Other.call f args h K at hh
    unfold vset_Set_Other.call at hh
    split at hh
    · obtain ⟨R, h1, h2⟩ := hh
      obtain ⟨g1, g2⟩ := vset_New.calls h1 w hw
      exact ⟨g1, g2.mono fun e w' ⟨v, he, ho, hr⟩ => ⟨v, he, ho, vset_New.ret_elim h2 hr⟩⟩
    · obtain ⟨R, h1, h2⟩ := hh
      obtain ⟨g1, g2⟩ := vset_Set_Put.calls h1 w hw
      exact ⟨g1, g2.mono fun e w' ⟨v, he, ho, hr⟩ => ⟨v, he, ho, vset_Set_Put.ret_elim h2 hr⟩⟩
    · exact hh.elim
  qmono := by
    intro f args h K K' hh hk
    change vset_Set_Other.qcall f args h K at hh
    change vset_Set_Other.qcall f args h K'
    unfold vset_Set_Other.qcall at hh ⊢
    split at hh
    · obtain ⟨x0, h1, h2⟩ := hh
      exact ⟨x0, h1, hk _ h2⟩
    · exact hh.elim
  qval := by
    intro f args h K hh
    change vset_Set_Other.qcall f args h K at hh
    suffices H : ∃ v, K v ∧ vset_Set_Other.qcall f args h (· = v) from H
    unfold vset_Set_Other.qcall at hh ⊢
    split at hh
    · obtain ⟨x0, h1, h2⟩ := hh
      exact ⟨_, h2, x0, h1, rfl⟩
    · exact hh.elim
  qcall := by
    intro f args h v hh w hw
    change vset_Set_Other.qcall f args h (· = v) at hh
    unfold vset_Set_Other.qcall at hh
    split at hh
    · obtain ⟨x0, h1, h2⟩ := hh
      obtain ⟨g1, g2⟩ := vset_Set_Has.calls h1 w hw
      refine .inl ⟨g1, g2.mono fun e w' ⟨u, he, ho, hr⟩ => ?_⟩
      have hq := vset_Set_Has.ret_elim (K' := fun u h' => u = v ∧ h' = h) (fun _ h' hr => by obtain ⟨rfl, rfl⟩ := hr; exact ⟨h2, rfl⟩) hr
      exact ⟨hq.1 ▸ he, ho, hq.2⟩
    · exact hh.elim
noncomputable def vset_Set_Other.code : Code := (Tryd.f16.body).getD .skip
def vset_Set_Other.ann : Ann := (.two .auto (.two .auto (.two .auto (.two (.two .auto (.two (.loop 0 [0, 3, 15, 16] [(2, [3])] .auto) .auto)) .auto))))
noncomputable def vset_Set_Other.c0 : Code := sub vset_Set_Other.code [1, 1, 1, 0, 1, 0, 0]
def vset_Set_Other.a0 : Ann := .auto
def vset_Set_Other.keep0 : List Nat := [0, 3, 15, 16]
def vset_Set_Other.outs0 : List (Nat × List Nat) := [(2, [3])]
set_option maxRecDepth 100000 in
theorem vset_Set_Other.L0 : LoopOK vset_Set_Other.ctx 28 vset_Set_Other.c0 0 vset_Set_Other.keep0 vset_Set_Other.outs0 := by
  refine loop_ok (n := vset_Set_Other.a0) vset_Set_Other.ok (by kernel_rfl) (loops_ok (l := []) (by kernel_rfl) ?_) vset_Set_Other.r0 ?_ ?_ (fun vs h K hh => hh)
  · exact trivial
  · intro K vs h hh
    unfold vset_Set_Other.r0 at hh
    split at hh
    · exact hh
    · exact hh
  · intro K m vs h hh
    unfold vset_Set_Other.r0 at hh
    split at hh
    · exact cast (by kernel_rfl) hh
    · exact hh.elim
set_option maxRecDepth 100000 in
theorem vset_Set_Other.eq (a1 : Option Addr) (h : Heap) (K : (Option Addr) → Heap → Prop) : evF vset_Set_Other.ctx Tryd.f16 vset_Set_Other.ann [(.pointer a1)] h (vset_Set_Other.ret K) = vset_Set_Other a1 h K := by kernel_rfl
set_option maxRecDepth 100000 in
theorem vset_Set_Other.calls {a1 : Option Addr} {h : Heap} {K : (Option Addr) → Heap → Prop} (hh : vset_Set_Other a1 h K) (w : World) (hw : w.heap = h) :
    (callFunc 16 #[(.pointer a1)]).run Tryd.prog w = .ok (.enter 16 #[(.pointer a1)]) w ∧ Calls Tryd.prog 16 #[(.pointer a1)] w fun e w' => ∃ v, e = .returned v ∧ Out w w' ∧ vset_Set_Other.ret K v w'.heap := by
  rw [← vset_Set_Other.eq] at hh
  exact fn_calls (args := [(.pointer a1)]) (c := vset_Set_Other.code) vset_Set_Other.ok Tryd.func16 (by kernel_rfl) (by kernel_rfl) (by kernel_rfl) (by kernel_rfl) (loops_ok (l := [(vset_Set_Other.c0, none, 0, vset_Set_Other.keep0, vset_Set_Other.outs0)]) (by kernel_rfl) ⟨vset_Set_Other.L0, trivial⟩) hh w hw

/-! ### (*strait/vset.Set).all: function 32 -/
def vset_Set_all (a1 : Option Addr) (h : Heap) (K : Value → Heap → Prop) : Prop :=
  newP h (.cells #[(.pointer a1)] 24) fun a2 h3 => ((K (.func (.func 34) #[] #[(.pointer (some a2))]) h3))
def vset_Set_all.ret (K : Value → Heap → Prop) (v : Value) (h : Heap) : Prop := K v h
theorem vset_Set_all.ret_elim {K : Value → Heap → Prop} {K' : Value → Heap → Prop} {v : Value} {h : Heap} (hk : ∀ x h, K x h → K' x h) (hh : vset_Set_all.ret K v h) : K' v h := hk _ _ hh
noncomputable def vset_Set_all.ctx : Ctx := { P := Tryd.prog, call := fun _ _ _ _ => False, qcall := fun _ _ _ _ => False, quiet := fun f => false, loop := fun _ _ _ _ => False }
theorem vset_Set_all.ok : vset_Set_all.ctx.OK where
  mixed := by kernel_rfl
  mono := fun hh _ => hh.elim
  call := fun hh => hh.elim
  qmono := fun hh _ => hh.elim
  qval := fun hh => hh.elim
  qcall := fun hh => hh.elim
noncomputable def vset_Set_all.code : Code := (Tryd.f32.body).getD .skip
def vset_Set_all.ann : Ann := .auto
set_option maxRecDepth 100000 in
theorem vset_Set_all.eq (a1 : Option Addr) (h : Heap) (K : Value → Heap → Prop) : evF vset_Set_all.ctx Tryd.f32 vset_Set_all.ann [(.pointer a1)] h (vset_Set_all.ret K) = vset_Set_all a1 h K := by kernel_rfl
set_option maxRecDepth 100000 in
theorem vset_Set_all.calls {a1 : Option Addr} {h : Heap} {K : Value → Heap → Prop} (hh : vset_Set_all a1 h K) (w : World) (hw : w.heap = h) :
    (callFunc 32 #[(.pointer a1)]).run Tryd.prog w = .ok (.enter 32 #[(.pointer a1)]) w ∧ Calls Tryd.prog 32 #[(.pointer a1)] w fun e w' => ∃ v, e = .returned v ∧ Out w w' ∧ vset_Set_all.ret K v w'.heap := by
  rw [← vset_Set_all.eq] at hh
  exact fn_calls (args := [(.pointer a1)]) (c := vset_Set_all.code) vset_Set_all.ok Tryd.func32 (by kernel_rfl) (by kernel_rfl) (by kernel_rfl) (by kernel_rfl) (loops_ok (l := []) (by kernel_rfl) trivial) hh w hw

/-! ### slices.AppendSeq[[]int,int]: function 33, by its contract -/
def slices_AppendSeq_Lint_int.ret (K : (Option Addr) → Nat → Nat → Heap → Prop) (v : Value) (h : Heap) : Prop := match v with
  | (.slice r3 r3l r3c) => K r3 r3l r3c h
  | _ => False
theorem slices_AppendSeq_Lint_int.ret_elim {K : (Option Addr) → Nat → Nat → Heap → Prop} {K' : Value → Heap → Prop} {v : Value} {h : Heap} (hk : ∀ r3 r3l r3c h, K r3 r3l r3c h → K' (.slice r3 r3l r3c) h) (hh : slices_AppendSeq_Lint_int.ret K v h) : K' v h := by
  unfold slices_AppendSeq_Lint_int.ret at hh
  split at hh
  · exact hk _ _ _ _ hh
  · exact hh.elim
def slices_AppendSeq_Lint_int (a1 : Option Addr) (a1l : Nat) (a1c : Nat) (a2 : Value) (h : Heap) (K : (Option Addr) → Nat → Nat → Heap → Prop) : Prop := ∀ w : World, w.heap = h → (callFunc 33 #[(.slice a1 a1l a1c), a2]).run Tryd.prog w = .ok (.enter 33 #[(.slice a1 a1l a1c), a2]) w ∧ Calls Tryd.prog 33 #[(.slice a1 a1l a1c), a2] w fun e w' => ∃ v, e = .returned v ∧ Out w w' ∧ slices_AppendSeq_Lint_int.ret K v w'.heap
theorem slices_AppendSeq_Lint_int.calls {a1 : Option Addr} {a1l : Nat} {a1c : Nat} {a2 : Value} {h : Heap} {K : (Option Addr) → Nat → Nat → Heap → Prop} (hh : slices_AppendSeq_Lint_int a1 a1l a1c a2 h K) (w : World) (hw : w.heap = h) : (callFunc 33 #[(.slice a1 a1l a1c), a2]).run Tryd.prog w = .ok (.enter 33 #[(.slice a1 a1l a1c), a2]) w ∧ Calls Tryd.prog 33 #[(.slice a1 a1l a1c), a2] w fun e w' => ∃ v, e = .returned v ∧ Out w w' ∧ slices_AppendSeq_Lint_int.ret K v w'.heap := hh w hw

/-! ### slices.Collect[int]: function 31 -/
def slices_Collect_int (a1 : Value) (h : Heap) (K : (Option Addr) → Nat → Nat → Heap → Prop) : Prop :=
  (callP3 (slices_AppendSeq_Lint_int none 0 0 a1 h) fun x2 x2l x2c h3 => K x2 x2l x2c h3)
def slices_Collect_int.ret (K : (Option Addr) → Nat → Nat → Heap → Prop) (v : Value) (h : Heap) : Prop := match v with
  | (.slice r4 r4l r4c) => K r4 r4l r4c h
  | _ => False
theorem slices_Collect_int.ret_elim {K : (Option Addr) → Nat → Nat → Heap → Prop} {K' : Value → Heap → Prop} {v : Value} {h : Heap} (hk : ∀ r4 r4l r4c h, K r4 r4l r4c h → K' (.slice r4 r4l r4c) h) (hh : slices_Collect_int.ret K v h) : K' v h := by
  unfold slices_Collect_int.ret at hh
  split at hh
  · exact hk _ _ _ _ hh
  · exact hh.elim
def slices_Collect_int.call (f : FuncId) (vs : List Value) (h : Heap) (K : Value → Heap → Prop) : Prop := match f, vs with
  | 33, [(.slice a1 a1l a1c), a2] => callP3 (slices_AppendSeq_Lint_int a1 a1l a1c a2 h) fun r3 r3l r3c h' => K (.slice r3 r3l r3c) h'
  | _, _ => False
noncomputable def slices_Collect_int.ctx : Ctx := { P := Tryd.prog, call := slices_Collect_int.call, qcall := fun _ _ _ _ => False, quiet := fun f => false, loop := fun _ _ _ _ => False }
theorem slices_Collect_int.ok : slices_Collect_int.ctx.OK where
  mixed := by kernel_rfl
  mono := by
    intro f args h K K' hh hk
    change slices_Collect_int.call f args h K at hh
    change slices_Collect_int.call f args h K'
    unfold slices_Collect_int.call at hh ⊢
    split at hh
    · obtain ⟨R, h1, h2⟩ := hh
      exact ⟨R, h1, fun _ _ _ x hr => hk _ _ (h2 _ _ _ x hr)⟩
    · exact hh.elim
  call := by
    intro f args h K hh w hw
    change slices_Collect_int.call f args h K at hh
    unfold slices_Collect_int.call at hh
    split at hh
    · obtain ⟨R, h1, h2⟩ := hh
      obtain ⟨g1, g2⟩ := slices_AppendSeq_Lint_int.calls h1 w hw
      exact ⟨g1, g2.mono fun e w' ⟨v, he, ho, hr⟩ => ⟨v, he, ho, slices_AppendSeq_Lint_int.ret_elim h2 hr⟩⟩
    · exact hh.elim
  qmono := fun hh _ => hh.elim
  qval := fun hh => hh.elim
  qcall := fun hh => hh.elim
noncomputable def slices_Collect_int.code : Code := (Tryd.f31.body).getD .skip
def slices_Collect_int.ann : Ann := .auto
set_option maxRecDepth 100000 in
theorem slices_Collect_int.eq (a1 : Value) (h : Heap) (K : (Option Addr) → Nat → Nat → Heap → Prop) : evF slices_Collect_int.ctx Tryd.f31 slices_Collect_int.ann [a1] h (slices_Collect_int.ret K) = slices_Collect_int a1 h K := by kernel_rfl
set_option maxRecDepth 100000 in
theorem slices_Collect_int.calls {a1 : Value} {h : Heap} {K : (Option Addr) → Nat → Nat → Heap → Prop} (hh : slices_Collect_int a1 h K) (w : World) (hw : w.heap = h) :
    (callFunc 31 #[a1]).run Tryd.prog w = .ok (.enter 31 #[a1]) w ∧ Calls Tryd.prog 31 #[a1] w fun e w' => ∃ v, e = .returned v ∧ Out w w' ∧ slices_Collect_int.ret K v w'.heap := by
  rw [← slices_Collect_int.eq] at hh
  exact fn_calls (args := [a1]) (c := slices_Collect_int.code) slices_Collect_int.ok Tryd.func31 (by kernel_rfl) (by kernel_rfl) (by kernel_rfl) (by kernel_rfl) (loops_ok (l := []) (by kernel_rfl) trivial) hh w hw

/-! ### (*strait/vset.Set).List: function 26 -/
def vset_Set_List (a1 : Option Addr) (h : Heap) (K : (Option Addr) → Nat → Nat → Heap → Prop) : Prop :=
  (callP1 (vset_Set_all a1 h) fun x2 h3 => callP3 (slices_Collect_int x2 h3) fun x4 x4l x4c h5 => K x4 x4l x4c h5)
def vset_Set_List.ret (K : (Option Addr) → Nat → Nat → Heap → Prop) (v : Value) (h : Heap) : Prop := match v with
  | (.slice r6 r6l r6c) => K r6 r6l r6c h
  | _ => False
theorem vset_Set_List.ret_elim {K : (Option Addr) → Nat → Nat → Heap → Prop} {K' : Value → Heap → Prop} {v : Value} {h : Heap} (hk : ∀ r6 r6l r6c h, K r6 r6l r6c h → K' (.slice r6 r6l r6c) h) (hh : vset_Set_List.ret K v h) : K' v h := by
  unfold vset_Set_List.ret at hh
  split at hh
  · exact hk _ _ _ _ hh
  · exact hh.elim
def vset_Set_List.call (f : FuncId) (vs : List Value) (h : Heap) (K : Value → Heap → Prop) : Prop := match f, vs with
  | 31, [a1] => callP3 (slices_Collect_int a1 h) fun r4 r4l r4c h' => K (.slice r4 r4l r4c) h'
  | 32, [(.pointer a1)] => callP1 (vset_Set_all a1 h) fun r4 h' => K r4 h'
  | _, _ => False
noncomputable def vset_Set_List.ctx : Ctx := { P := Tryd.prog, call := vset_Set_List.call, qcall := fun _ _ _ _ => False, quiet := fun f => false, loop := fun _ _ _ _ => False }
theorem vset_Set_List.ok : vset_Set_List.ctx.OK where
  mixed := by kernel_rfl
  mono := by
    intro f args h K K' hh hk
    change vset_Set_List.call f args h K at hh
    change vset_Set_List.call f args h K'
    unfold vset_Set_List.call at hh ⊢
    split at hh
    · obtain ⟨R, h1, h2⟩ := hh
      exact ⟨R, h1, fun _ _ _ x hr => hk _ _ (h2 _ _ _ x hr)⟩
    · obtain ⟨R, h1, h2⟩ := hh
      exact ⟨R, h1, fun _ x hr => hk _ _ (h2 _ x hr)⟩
    · exact hh.elim
  call := by
    intro f args h K hh w hw
    change vset_Set_List.call f args h K at hh
    unfold vset_Set_List.call at hh
    split at hh
    · obtain ⟨R, h1, h2⟩ := hh
      obtain ⟨g1, g2⟩ := slices_Collect_int.calls h1 w hw
      exact ⟨g1, g2.mono fun e w' ⟨v, he, ho, hr⟩ => ⟨v, he, ho, slices_Collect_int.ret_elim h2 hr⟩⟩
    · obtain ⟨R, h1, h2⟩ := hh
      obtain ⟨g1, g2⟩ := vset_Set_all.calls h1 w hw
      exact ⟨g1, g2.mono fun e w' ⟨v, he, ho, hr⟩ => ⟨v, he, ho, vset_Set_all.ret_elim h2 hr⟩⟩
    · exact hh.elim
  qmono := fun hh _ => hh.elim
  qval := fun hh => hh.elim
  qcall := fun hh => hh.elim
noncomputable def vset_Set_List.code : Code := (Tryd.f26.body).getD .skip
def vset_Set_List.ann : Ann := .auto
set_option maxRecDepth 100000 in
theorem vset_Set_List.eq (a1 : Option Addr) (h : Heap) (K : (Option Addr) → Nat → Nat → Heap → Prop) : evF vset_Set_List.ctx Tryd.f26 vset_Set_List.ann [(.pointer a1)] h (vset_Set_List.ret K) = vset_Set_List a1 h K := by kernel_rfl
set_option maxRecDepth 100000 in
theorem vset_Set_List.calls {a1 : Option Addr} {h : Heap} {K : (Option Addr) → Nat → Nat → Heap → Prop} (hh : vset_Set_List a1 h K) (w : World) (hw : w.heap = h) :
    (callFunc 26 #[(.pointer a1)]).run Tryd.prog w = .ok (.enter 26 #[(.pointer a1)]) w ∧ Calls Tryd.prog 26 #[(.pointer a1)] w fun e w' => ∃ v, e = .returned v ∧ Out w w' ∧ vset_Set_List.ret K v w'.heap := by
  rw [← vset_Set_List.eq] at hh
  exact fn_calls (args := [(.pointer a1)]) (c := vset_Set_List.code) vset_Set_List.ok Tryd.func26 (by kernel_rfl) (by kernel_rfl) (by kernel_rfl) (by kernel_rfl) (loops_ok (l := []) (by kernel_rfl) trivial) hh w hw

/-! ### strait/straitref09.Ints: function 21 -/
def straitref09_Ints.b0 (K0 : Bool → Heap → Prop) (K2 : Heap → Prop) (cont : (Option Addr) → Nat → Nat → (Option Addr) → Nat → Nat → Int → Heap → Prop) (c0_1001 : Option Addr) (c0_1002 : Nat) (c0_1003 : Nat) (c1_1004 : Option Addr) (c1_1005 : Nat) (c1_1006 : Nat) (v5_1007 : Int) (h1008 : Heap) : Prop :=
  (iteB (decide (v5_1007 < (c0_1002 : Int))) ((chkP c0_1001 fun a1009 => (0 ≤ v5_1007 ∧ v5_1007 < (c0_1002 : Int)) ∧ ∃ (x1010 : Int), cell h1008 (a1009.add (v5_1007.toNat * 1)) = some (.int .i64 x1010) ∧ chkP c1_1004 fun a1011 => (0 ≤ v5_1007 ∧ v5_1007 < (c1_1005 : Int)) ∧ ∃ (x1012 : Int), cell h1008 (a1011.add (v5_1007.toNat * 1)) = some (.int .i64 x1012) ∧ (iteB (x1010 != x1012) (K0 false h1008) (((cont c0_1001 c0_1002 c0_1003 c1_1004 c1_1005 c1_1006 (IntKind.i64.wrap (v5_1007 + 1)) h1008)))))) (K2 h1008))
def straitref09_Ints.l0 (K0 : Bool → Heap → Prop) (K2 : Heap → Prop) : Nat → (Option Addr) → Nat → Nat → (Option Addr) → Nat → Nat → Int → Heap → Prop
  | 0, _, _, _, _, _, _, _, _ => False
  | m + 1, c0_1001, c0_1002, c0_1003, c1_1004, c1_1005, c1_1006, v5_1007, h => straitref09_Ints.b0 K0 K2 (straitref09_Ints.l0 K0 K2 m) c0_1001 c0_1002 c0_1003 c1_1004 c1_1005 c1_1006 v5_1007 h
def straitref09_Ints (a1 : Option Addr) (a1l : Nat) (a1c : Nat) (a2 : Option Addr) (a2l : Nat) (a2c : Nat) (h : Heap) (K : Bool → Heap → Prop) : Prop :=
  ((iteB ((a1l : Int) != (a2l : Int)) (K false h) (((∃ m6, straitref09_Ints.l0 (fun z3 h4 => K z3 h4) (fun h5 => (K true h5)) m6 a1 a1l a1c a2 a2l a2c 0 h)))))
def straitref09_Ints.ret (K : Bool → Heap → Prop) (v : Value) (h : Heap) : Prop := match v with
  | (.bool r7) => K r7 h
  | _ => False
theorem straitref09_Ints.ret_elim {K : Bool → Heap → Prop} {K' : Value → Heap → Prop} {v : Value} {h : Heap} (hk : ∀ r7 h, K r7 h → K' (.bool r7) h) (hh : straitref09_Ints.ret K v h) : K' v h := by
  unfold straitref09_Ints.ret at hh
  split at hh
  · exact hk _ _ hh
  · exact hh.elim
def straitref09_Ints.r0 (K : Nat → List Value → Heap → Prop) (m : Nat) (vs : List Value) (h : Heap) : Prop := match vs with
  | [(.slice c0_1001 c0_1002 c0_1003), (.slice c1_1004 c1_1005 c1_1006), (.int .i64 v5_1007)] => straitref09_Ints.l0 (fun z8 h' => K 0 [(.bool z8)] h') (fun h' => K 2 [] h') m c0_1001 c0_1002 c0_1003 c1_1004 c1_1005 c1_1006 v5_1007 h
  | _ => False
def straitref09_Ints.loop (i : Nat) (vs : List Value) (h : Heap) (K : Nat → List Value → Heap → Prop) : Prop := match i with
  | 0 => ∃ m, straitref09_Ints.r0 K m vs h
  | _ => False
noncomputable def straitref09_Ints.ctx : Ctx := { P := Tryd.prog, call := fun _ _ _ _ => False, qcall := fun _ _ _ _ => False, quiet := fun f => false, loop := straitref09_Ints.loop }
theorem straitref09_Ints.ok : straitref09_Ints.ctx.OK where
  mixed := by kernel_rfl
  mono := fun hh _ => hh.elim
  call := fun hh => hh.elim
  qmono := fun hh _ => hh.elim
  qval := fun hh => hh.elim
  qcall := fun hh => hh.elim
noncomputable def straitref09_Ints.code : Code := (Tryd.f21.body).getD .skip
def straitref09_Ints.ann : Ann := (.two .auto (.two .auto (.two (.two .auto (.two (.loop 0 [0, 1, 5] [(2, []), (0, [4])] (.two .auto (.two (.two (.two (.reg [0, 0, 3, 7, 0, 0, 48, 112, 255] (.take 0 (.take 1 (.take 2 (.take 3 (.take 4 (.take 5 (.take 6 (.take 7 (.take 8 .done)))))))))) .auto) .auto) .auto))) .auto)) .auto)))
noncomputable def straitref09_Ints.c0 : Code := sub straitref09_Ints.code [1, 1, 0, 1, 0, 0]
def straitref09_Ints.a0 : Ann := (.two .auto (.two (.two (.two (.reg [0, 0, 3, 7, 0, 0, 48, 112, 255] (.take 0 (.take 1 (.take 2 (.take 3 (.take 4 (.take 5 (.take 6 (.take 7 (.take 8 .done)))))))))) .auto) .auto) .auto))
def straitref09_Ints.keep0 : List Nat := [0, 1, 5]
def straitref09_Ints.outs0 : List (Nat × List Nat) := [(2, []), (0, [4])]
set_option maxRecDepth 100000 in
theorem straitref09_Ints.L0 : LoopOK straitref09_Ints.ctx 26 straitref09_Ints.c0 0 straitref09_Ints.keep0 straitref09_Ints.outs0 := by
  refine loop_ok (n := straitref09_Ints.a0) straitref09_Ints.ok (by kernel_rfl) (loops_ok (l := []) (by kernel_rfl) ?_) straitref09_Ints.r0 ?_ ?_ (fun vs h K hh => hh)
  · exact trivial
  · intro K vs h hh
    unfold straitref09_Ints.r0 at hh
    split at hh
    · exact hh
    · exact hh
  · intro K m vs h hh
    unfold straitref09_Ints.r0 at hh
    split at hh
    · exact cast (by kernel_rfl) hh
    · exact hh.elim
set_option maxRecDepth 100000 in
theorem straitref09_Ints.eq (a1 : Option Addr) (a1l : Nat) (a1c : Nat) (a2 : Option Addr) (a2l : Nat) (a2c : Nat) (h : Heap) (K : Bool → Heap → Prop) : evF straitref09_Ints.ctx Tryd.f21 straitref09_Ints.ann [(.slice a1 a1l a1c), (.slice a2 a2l a2c)] h (straitref09_Ints.ret K) = straitref09_Ints a1 a1l a1c a2 a2l a2c h K := by kernel_rfl
set_option maxRecDepth 100000 in
theorem straitref09_Ints.calls {a1 : Option Addr} {a1l : Nat} {a1c : Nat} {a2 : Option Addr} {a2l : Nat} {a2c : Nat} {h : Heap} {K : Bool → Heap → Prop} (hh : straitref09_Ints a1 a1l a1c a2 a2l a2c h K) (w : World) (hw : w.heap = h) :
    (callFunc 21 #[(.slice a1 a1l a1c), (.slice a2 a2l a2c)]).run Tryd.prog w = .ok (.enter 21 #[(.slice a1 a1l a1c), (.slice a2 a2l a2c)]) w ∧ Calls Tryd.prog 21 #[(.slice a1 a1l a1c), (.slice a2 a2l a2c)] w fun e w' => ∃ v, e = .returned v ∧ Out w w' ∧ straitref09_Ints.ret K v w'.heap := by
  rw [← straitref09_Ints.eq] at hh
  exact fn_calls (args := [(.slice a1 a1l a1c), (.slice a2 a2l a2c)]) (c := straitref09_Ints.code) straitref09_Ints.ok Tryd.func21 (by kernel_rfl) (by kernel_rfl) (by kernel_rfl) (by kernel_rfl) (loops_ok (l := [(straitref09_Ints.c0, none, 0, straitref09_Ints.keep0, straitref09_Ints.outs0)]) (by kernel_rfl) ⟨straitref09_Ints.L0, trivial⟩) hh w hw

/-! ### strait/vset.Parts: function 23 -/
def vset_Parts (a1 : Option Addr) (a2 : Int) (a3 : Int) (h : Heap) (K : Bool → Heap → Prop) : Prop :=
  (qcallP3 h (vset_Set_bit a1 a2 h) fun x4 x5 x6 => (qcallP3 h (vset_Set_bit a1 a3 h) fun x7 x8 x9 => (iteB x6 (iteB x9 (qcallP1 h (vset_Set_Has a1 a2 h) fun x10 => qcallP1 h (vset_Set_Has a1 a3 h) fun x11 => (K (!(x10 == x11)) h)) (K false h)) (K false h))))
def vset_Parts.ret (K : Bool → Heap → Prop) (v : Value) (h : Heap) : Prop := match v with
  | (.bool r13) => K r13 h
  | _ => False
theorem vset_Parts.ret_elim {K : Bool → Heap → Prop} {K' : Value → Heap → Prop} {v : Value} {h : Heap} (hk : ∀ r13 h, K r13 h → K' (.bool r13) h) (hh : vset_Parts.ret K v h) : K' v h := by
  unfold vset_Parts.ret at hh
  split at hh
  · exact hk _ _ hh
  · exact hh.elim
def vset_Parts.qcall (f : FuncId) (vs : List Value) (h : Heap) (K : Value → Prop) : Prop := match f, vs with
  | 14, [(.pointer a1), (.int .i64 a2)] => qcallP1 h (vset_Set_Has a1 a2 h) fun r9 => K (.bool r9)
  | 28, [(.pointer a1), (.int .i64 a2)] => qcallP3 h (vset_Set_bit a1 a2 h) fun r10 r11 r12 => K (.tuple #[(.pointer r10), (.int .u64 r11), (.bool r12)])
  | _, _ => False
noncomputable def vset_Parts.ctx : Ctx := { P := Tryd.prog, call := fun _ _ _ _ => False, qcall := vset_Parts.qcall, quiet := fun f => Nat.beq f 14 || Nat.beq f 28, loop := fun _ _ _ _ => False }
theorem vset_Parts.ok : vset_Parts.ctx.OK where
  mixed := by kernel_rfl
  mono := fun hh _ => hh.elim
  call := fun hh => hh.elim
  qmono := by
    intro f args h K K' hh hk
    change vset_Parts.qcall f args h K at hh
    change vset_Parts.qcall f args h K'
    unfold vset_Parts.qcall at hh ⊢
    split at hh
    · obtain ⟨x0, h1, h2⟩ := hh
      exact ⟨x0, h1, hk _ h2⟩
    · obtain ⟨x0, x1, x2, h1, h2⟩ := hh
      exact ⟨x0, x1, x2, h1, hk _ h2⟩
    · exact hh.elim
  qval := by
    intro f args h K hh
    change vset_Parts.qcall f args h K at hh
    suffices H : ∃ v, K v ∧ vset_Parts.qcall f args h (· = v) from H
    unfold vset_Parts.qcall at hh ⊢
    split at hh
    · obtain ⟨x0, h1, h2⟩ := hh
      exact ⟨_, h2, x0, h1, rfl⟩
    · obtain ⟨x0, x1, x2, h1, h2⟩ := hh
      exact ⟨_, h2, x0, x1, x2, h1, rfl⟩
    · exact hh.elim
  qcall := by
    intro f args h v hh w hw
    change vset_Parts.qcall f args h (· = v) at hh
    unfold vset_Parts.qcall at hh
    split at hh
    · obtain ⟨x0, h1, h2⟩ := hh
      obtain ⟨g1, g2⟩ := vset_Set_Has.calls h1 w hw
      refine .inl ⟨g1, g2.mono fun e w' ⟨u, he, ho, hr⟩ => ?_⟩
      have hq := vset_Set_Has.ret_elim (K' := fun u h' => u = v ∧ h' = h) (fun _ h' hr => by obtain ⟨rfl, rfl⟩ := hr; exact ⟨h2, rfl⟩) hr
      exact ⟨hq.1 ▸ he, ho, hq.2⟩
    · obtain ⟨x0, x1, x2, h1, h2⟩ := hh
      obtain ⟨g1, g2⟩ := vset_Set_bit.calls h1 w hw
      refine .inl ⟨g1, g2.mono fun e w' ⟨u, he, ho, hr⟩ => ?_⟩
      have hq := vset_Set_bit.ret_elim (K' := fun u h' => u = v ∧ h' = h) (fun _ _ _ h' hr => by obtain ⟨rfl, rfl, rfl, rfl⟩ := hr; exact ⟨h2, rfl⟩) hr
      exact ⟨hq.1 ▸ he, ho, hq.2⟩
    · exact hh.elim
noncomputable def vset_Parts.code : Code := (Tryd.f23.body).getD .skip
def vset_Parts.ann : Ann := .auto
set_option maxRecDepth 100000 in
theorem vset_Parts.eq (a1 : Option Addr) (a2 : Int) (a3 : Int) (h : Heap) (K : Bool → Heap → Prop) : evF vset_Parts.ctx Tryd.f23 vset_Parts.ann [(.pointer a1), (.int .i64 a2), (.int .i64 a3)] h (vset_Parts.ret K) = vset_Parts a1 a2 a3 h K := by kernel_rfl
set_option maxRecDepth 100000 in
theorem vset_Parts.calls {a1 : Option Addr} {a2 : Int} {a3 : Int} {h : Heap} {K : Bool → Heap → Prop} (hh : vset_Parts a1 a2 a3 h K) (w : World) (hw : w.heap = h) :
    (callFunc 23 #[(.pointer a1), (.int .i64 a2), (.int .i64 a3)]).run Tryd.prog w = .ok (.enter 23 #[(.pointer a1), (.int .i64 a2), (.int .i64 a3)]) w ∧ Calls Tryd.prog 23 #[(.pointer a1), (.int .i64 a2), (.int .i64 a3)] w fun e w' => ∃ v, e = .returned v ∧ Out w w' ∧ vset_Parts.ret K v w'.heap := by
  rw [← vset_Parts.eq] at hh
  exact fn_calls (args := [(.pointer a1), (.int .i64 a2), (.int .i64 a3)]) (c := vset_Parts.code) vset_Parts.ok Tryd.func23 (by kernel_rfl) (by kernel_rfl) (by kernel_rfl) (by kernel_rfl) (loops_ok (l := []) (by kernel_rfl) trivial) hh w hw

/-! ### strait/straitlaw09.awake: function 6 -/
def straitlaw09_awake (h : Heap) (K : Bool → Heap → Prop) : Prop :=
  (newP h (.cells #[(.int .i64 0), (.int .i64 2), (.int .i64 7)] 3) fun a1 h2 => callP1 (vset_Of 3 (some a1) 3 3 h2) fun x3 h4 => (iteB (!x3.isNone) (qcallP1 h4 (vset_Set_Len x3 h4) fun x5 => iteB (x5 == (2 : Int)) (qcallP1 h4 (vset_Set_Has x3 2 h4) fun x6 => iteB x6 (callP1 (vset_Set_Other x3 h4) fun x7 h8 => callP3 (vset_Set_List x7 h8) fun x9 x9l x9c h10 => newP h10 (.cells #[(.int .i64 1)] 3) fun a11 h12 => qcallP1 h12 (straitref09_Ints x9 x9l x9c (some a11) 1 1 h12) fun x13 => iteB x13 (qcallP1 h12 (vset_Parts x3 0 1 h12) fun x14 => K x14 h12) (K false h12)) (K false h4)) (K false h4)) (K false h4)))
def straitlaw09_awake.ret (K : Bool → Heap → Prop) (v : Value) (h : Heap) : Prop := match v with
  | (.bool r17) => K r17 h
  | _ => False
theorem straitlaw09_awake.ret_elim {K : Bool → Heap → Prop} {K' : Value → Heap → Prop} {v : Value} {h : Heap} (hk : ∀ r17 h, K r17 h → K' (.bool r17) h) (hh : straitlaw09_awake.ret K v h) : K' v h := by
  unfold straitlaw09_awake.ret at hh
  split at hh
  · exact hk _ _ hh
  · exact hh.elim
def straitlaw09_awake.call (f : FuncId) (vs : List Value) (h : Heap) (K : Value → Heap → Prop) : Prop := match f, vs with
  | 16, [(.pointer a1)] => callP1 (vset_Set_Other a1 h) fun r10 h' => K (.pointer r10) h'
  | 18, [(.int .i64 a1), (.slice a2 a2l a2c)] => callP1 (vset_Of a1 a2 a2l a2c h) fun r7 h' => K (.pointer r7) h'
  | 26, [(.pointer a1)] => callP3 (vset_Set_List a1 h) fun r6 r6l r6c h' => K (.slice r6 r6l r6c) h'
  | _, _ => False
def straitlaw09_awake.qcall (f : FuncId) (vs : List Value) (h : Heap) (K : Value → Prop) : Prop := match f, vs with
  | 14, [(.pointer a1), (.int .i64 a2)] => qcallP1 h (vset_Set_Has a1 a2 h) fun r9 => K (.bool r9)
  | 21, [(.slice a1 a1l a1c), (.slice a2 a2l a2c)] => qcallP1 h (straitref09_Ints a1 a1l a1c a2 a2l a2c h) fun r7 => K (.bool r7)
  | 23, [(.pointer a1), (.int .i64 a2), (.int .i64 a3)] => qcallP1 h (vset_Parts a1 a2 a3 h) fun r13 => K (.bool r13)
  | 25, [(.pointer a1)] => qcallP1 h (vset_Set_Len a1 h) fun r7 => K (.int .i64 r7)
  | _, _ => False
noncomputable def straitlaw09_awake.ctx : Ctx := { P := Tryd.prog, call := straitlaw09_awake.call, qcall := straitlaw09_awake.qcall, quiet := fun f => Nat.beq f 14 || Nat.beq f 21 || Nat.beq f 23 || Nat.beq f 25, loop := fun _ _ _ _ => False }
theorem straitlaw09_awake.ok : straitlaw09_awake.ctx.OK where
  mixed := by kernel_rfl
  mono := by
    intro f args h K K' hh hk
    change straitlaw09_awake.call f args h K at hh
    change straitlaw09_awake.call f args h K'
    unfold straitlaw09_awake.call at hh ⊢
    split at hh
    · obtain ⟨R, h1, h2⟩ := hh
      exact ⟨R, h1, fun _ x hr => hk _ _ (h2 _ x hr)⟩
    · obtain ⟨R, h1, h2⟩ := hh
      exact ⟨R, h1, fun _ x hr => hk _ _ (h2 _ x hr)⟩
    · obtain ⟨R, h1, h2⟩ := hh
      exact ⟨R, h1, fun _ _ _ x hr => hk _ _ (h2 _ _ _ x hr)⟩
    · exact hh.elim
  call := by
    intro f args h K hh w hw
    change straitlaw09_awake.call f args h K at hh
    unfold straitlaw09_awake.call at hh
    split at hh
    · obtain ⟨R, h1, h2⟩ := hh
      obtain ⟨g1, g2⟩ := vset_Set_Other.calls h1 w hw
      exact ⟨g1, g2.mono fun e w' ⟨v, he, ho, hr⟩ => ⟨v, he, ho, vset_Set_Other.ret_elim h2 hr⟩⟩
    · obtain ⟨R, h1, h2⟩ := hh
      obtain ⟨g1, g2⟩ := vset_Of.calls h1 w hw
      exact ⟨g1, g2.mono fun e w' ⟨v, he, ho, hr⟩ => ⟨v, he, ho, vset_Of.ret_elim h2 hr⟩⟩
    · obtain ⟨R, h1, h2⟩ := hh
      obtain ⟨g1, g2⟩ := vset_Set_List.calls h1 w hw
      exact ⟨g1, g2.mono fun e w' ⟨v, he, ho, hr⟩ => ⟨v, he, ho, vset_Set_List.ret_elim h2 hr⟩⟩
    · exact hh.elim
  qmono := by
    intro f args h K K' hh hk
    change straitlaw09_awake.qcall f args h K at hh
    change straitlaw09_awake.qcall f args h K'
    unfold straitlaw09_awake.qcall at hh ⊢
    split at hh
    · obtain ⟨x0, h1, h2⟩ := hh
      exact ⟨x0, h1, hk _ h2⟩
    · obtain ⟨x0, h1, h2⟩ := hh
      exact ⟨x0, h1, hk _ h2⟩
    · obtain ⟨x0, h1, h2⟩ := hh
      exact ⟨x0, h1, hk _ h2⟩
    · obtain ⟨x0, h1, h2⟩ := hh
      exact ⟨x0, h1, hk _ h2⟩
    · exact hh.elim
  qval := by
    intro f args h K hh
    change straitlaw09_awake.qcall f args h K at hh
    suffices H : ∃ v, K v ∧ straitlaw09_awake.qcall f args h (· = v) from H
    unfold straitlaw09_awake.qcall at hh ⊢
    split at hh
    · obtain ⟨x0, h1, h2⟩ := hh
      exact ⟨_, h2, x0, h1, rfl⟩
    · obtain ⟨x0, h1, h2⟩ := hh
      exact ⟨_, h2, x0, h1, rfl⟩
    · obtain ⟨x0, h1, h2⟩ := hh
      exact ⟨_, h2, x0, h1, rfl⟩
    · obtain ⟨x0, h1, h2⟩ := hh
      exact ⟨_, h2, x0, h1, rfl⟩
    · exact hh.elim
  qcall := by
    intro f args h v hh w hw
    change straitlaw09_awake.qcall f args h (· = v) at hh
    unfold straitlaw09_awake.qcall at hh
    split at hh
    · obtain ⟨x0, h1, h2⟩ := hh
      obtain ⟨g1, g2⟩ := vset_Set_Has.calls h1 w hw
      refine .inl ⟨g1, g2.mono fun e w' ⟨u, he, ho, hr⟩ => ?_⟩
      have hq := vset_Set_Has.ret_elim (K' := fun u h' => u = v ∧ h' = h) (fun _ h' hr => by obtain ⟨rfl, rfl⟩ := hr; exact ⟨h2, rfl⟩) hr
      exact ⟨hq.1 ▸ he, ho, hq.2⟩
    · obtain ⟨x0, h1, h2⟩ := hh
      obtain ⟨g1, g2⟩ := straitref09_Ints.calls h1 w hw
      refine .inl ⟨g1, g2.mono fun e w' ⟨u, he, ho, hr⟩ => ?_⟩
      have hq := straitref09_Ints.ret_elim (K' := fun u h' => u = v ∧ h' = h) (fun _ h' hr => by obtain ⟨rfl, rfl⟩ := hr; exact ⟨h2, rfl⟩) hr
      exact ⟨hq.1 ▸ he, ho, hq.2⟩
    · obtain ⟨x0, h1, h2⟩ := hh
      obtain ⟨g1, g2⟩ := vset_Parts.calls h1 w hw
      refine .inl ⟨g1, g2.mono fun e w' ⟨u, he, ho, hr⟩ => ?_⟩
      have hq := vset_Parts.ret_elim (K' := fun u h' => u = v ∧ h' = h) (fun _ h' hr => by obtain ⟨rfl, rfl⟩ := hr; exact ⟨h2, rfl⟩) hr
      exact ⟨hq.1 ▸ he, ho, hq.2⟩
    · obtain ⟨x0, h1, h2⟩ := hh
      obtain ⟨g1, g2⟩ := vset_Set_Len.calls h1 w hw
      refine .inl ⟨g1, g2.mono fun e w' ⟨u, he, ho, hr⟩ => ?_⟩
      have hq := vset_Set_Len.ret_elim (K' := fun u h' => u = v ∧ h' = h) (fun _ h' hr => by obtain ⟨rfl, rfl⟩ := hr; exact ⟨h2, rfl⟩) hr
      exact ⟨hq.1 ▸ he, ho, hq.2⟩
    · exact hh.elim
noncomputable def straitlaw09_awake.code : Code := (Tryd.f6.body).getD .skip
def straitlaw09_awake.ann : Ann := .auto
set_option maxRecDepth 100000 in
theorem straitlaw09_awake.eq (h : Heap) (K : Bool → Heap → Prop) : evF straitlaw09_awake.ctx Tryd.f6 straitlaw09_awake.ann [] h (straitlaw09_awake.ret K) = straitlaw09_awake h K := by kernel_rfl
set_option maxRecDepth 100000 in
theorem straitlaw09_awake.calls {h : Heap} {K : Bool → Heap → Prop} (hh : straitlaw09_awake h K) (w : World) (hw : w.heap = h) :
    (callFunc 6 #[]).run Tryd.prog w = .ok (.enter 6 #[]) w ∧ Calls Tryd.prog 6 #[] w fun e w' => ∃ v, e = .returned v ∧ Out w w' ∧ straitlaw09_awake.ret K v w'.heap := by
  rw [← straitlaw09_awake.eq] at hh
  exact fn_calls (args := []) (c := straitlaw09_awake.code) straitlaw09_awake.ok Tryd.func6 (by kernel_rfl) (by kernel_rfl) (by kernel_rfl) (by kernel_rfl) (loops_ok (l := []) (by kernel_rfl) trivial) hh w hw

/-! ### strait/straitref09.Room: function 27 -/
def straitref09_Room (a1 : Int) (h : Heap) (K : Int → Heap → Prop) : Prop :=
  (bindV (if (if 4096 < a1 then 4096 else a1) > 0 then (if 4096 < a1 then 4096 else a1) else 0) fun n2 => K n2 h)
def straitref09_Room.ret (K : Int → Heap → Prop) (v : Value) (h : Heap) : Prop := match v with
  | (.int .i64 r3) => K r3 h
  | _ => False
theorem straitref09_Room.ret_elim {K : Int → Heap → Prop} {K' : Value → Heap → Prop} {v : Value} {h : Heap} (hk : ∀ r3 h, K r3 h → K' (.int .i64 r3) h) (hh : straitref09_Room.ret K v h) : K' v h := by
  unfold straitref09_Room.ret at hh
  split at hh
  · exact hk _ _ hh
  · exact hh.elim
noncomputable def straitref09_Room.ctx : Ctx := { P := Tryd.prog, call := fun _ _ _ _ => False, qcall := fun _ _ _ _ => False, quiet := fun f => false, loop := fun _ _ _ _ => False }
theorem straitref09_Room.ok : straitref09_Room.ctx.OK where
  mixed := by kernel_rfl
  mono := fun hh _ => hh.elim
  call := fun hh => hh.elim
  qmono := fun hh _ => hh.elim
  qval := fun hh => hh.elim
  qcall := fun hh => hh.elim
noncomputable def straitref09_Room.code : Code := (Tryd.f27.body).getD .skip
def straitref09_Room.ann : Ann := .auto
set_option maxRecDepth 100000 in
theorem straitref09_Room.eq (a1 : Int) (h : Heap) (K : Int → Heap → Prop) : evF straitref09_Room.ctx Tryd.f27 straitref09_Room.ann [(.int .i64 a1)] h (straitref09_Room.ret K) = straitref09_Room a1 h K := by kernel_rfl
set_option maxRecDepth 100000 in
theorem straitref09_Room.calls {a1 : Int} {h : Heap} {K : Int → Heap → Prop} (hh : straitref09_Room a1 h K) (w : World) (hw : w.heap = h) :
    (callFunc 27 #[(.int .i64 a1)]).run Tryd.prog w = .ok (.enter 27 #[(.int .i64 a1)]) w ∧ Calls Tryd.prog 27 #[(.int .i64 a1)] w fun e w' => ∃ v, e = .returned v ∧ Out w w' ∧ straitref09_Room.ret K v w'.heap := by
  rw [← straitref09_Room.eq] at hh
  exact fn_calls (args := [(.int .i64 a1)]) (c := straitref09_Room.code) straitref09_Room.ok Tryd.func27 (by kernel_rfl) (by kernel_rfl) (by kernel_rfl) (by kernel_rfl) (loops_ok (l := []) (by kernel_rfl) trivial) hh w hw

/-! ### strait/straitref09.New: function 8 -/
def straitref09_New (a1 : Int) (h : Heap) (K : Int → (Option Addr) → Nat → Nat → Heap → Prop) : Prop :=
  newP h (.cells #[(.int .i64 0), (.slice none 0 0)] 28) fun a2 h3 => (qcallP1 h3 (straitref09_Room a1 h3) fun x4 => qcallP1 h3 (straitref09_Room a1 h3) fun x5 => (0 ≤ x5 ∧ x5 ≤ x5 ∧ x5 * (1 : Nat) ≤ 2 ^ 47 ∧ x5 ≤ 2 ^ 47) ∧ newP h3 (.cells (zeroRow [(.bool false)] x5.toNat).toArray 4) fun a6 h7 => stC h7 a2 (.int .i64 x4) fun h8 => stC h8 (a2.add 1) (.slice (some a6) x5.toNat x5.toNat) fun h9 => (∃ (x10 : Int), cell h9 a2 = some (.int .i64 x10) ∧ ∃ (x11 : Option Addr) (x11l : Nat) (x11c : Nat), cell h9 (a2.add 1) = some (.slice x11 x11l x11c) ∧ K x10 x11 x11l x11c h9))
def straitref09_New.ret (K : Int → (Option Addr) → Nat → Nat → Heap → Prop) (v : Value) (h : Heap) : Prop := match v with
  | (.agg ⟨[(.int .i64 r12), (.slice r13 r13l r13c)]⟩) => K r12 r13 r13l r13c h
  | _ => False
theorem straitref09_New.ret_elim {K : Int → (Option Addr) → Nat → Nat → Heap → Prop} {K' : Value → Heap → Prop} {v : Value} {h : Heap} (hk : ∀ r12 r13 r13l r13c h, K r12 r13 r13l r13c h → K' (.agg #[(.int .i64 r12), (.slice r13 r13l r13c)]) h) (hh : straitref09_New.ret K v h) : K' v h := by
  unfold straitref09_New.ret at hh
  split at hh
  · exact hk _ _ _ _ _ hh
  · exact hh.elim
def straitref09_New.qcall (f : FuncId) (vs : List Value) (h : Heap) (K : Value → Prop) : Prop := match f, vs with
  | 27, [(.int .i64 a1)] => qcallP1 h (straitref09_Room a1 h) fun r3 => K (.int .i64 r3)
  | _, _ => False
noncomputable def straitref09_New.ctx : Ctx := { P := Tryd.prog, call := fun _ _ _ _ => False, qcall := straitref09_New.qcall, quiet := fun f => Nat.beq f 27, loop := fun _ _ _ _ => False }
theorem straitref09_New.ok : straitref09_New.ctx.OK where
  mixed := by kernel_rfl
  mono := fun hh _ => hh.elim
  call := fun hh => hh.elim
  qmono := by
    intro f args h K K' hh hk
    change straitref09_New.qcall f args h K at hh
    change straitref09_New.qcall f args h K'
    unfold straitref09_New.qcall at hh ⊢
    split at hh
    · obtain ⟨x0, h1, h2⟩ := hh
      exact ⟨x0, h1, hk _ h2⟩
    · exact hh.elim
  qval := by
    intro f args h K hh
    change straitref09_New.qcall f args h K at hh
    suffices H : ∃ v, K v ∧ straitref09_New.qcall f args h (· = v) from H
    unfold straitref09_New.qcall at hh ⊢
    split at hh
    · obtain ⟨x0, h1, h2⟩ := hh
      exact ⟨_, h2, x0, h1, rfl⟩
    · exact hh.elim
  qcall := by
    intro f args h v hh w hw
    change straitref09_New.qcall f args h (· = v) at hh
    unfold straitref09_New.qcall at hh
    split at hh
    · obtain ⟨x0, h1, h2⟩ := hh
      obtain ⟨g1, g2⟩ := straitref09_Room.calls h1 w hw
      refine .inl ⟨g1, g2.mono fun e w' ⟨u, he, ho, hr⟩ => ?_⟩
      have hq := straitref09_Room.ret_elim (K' := fun u h' => u = v ∧ h' = h) (fun _ h' hr => by obtain ⟨rfl, rfl⟩ := hr; exact ⟨h2, rfl⟩) hr
      exact ⟨hq.1 ▸ he, ho, hq.2⟩
    · exact hh.elim
noncomputable def straitref09_New.code : Code := (Tryd.f8.body).getD .skip
def straitref09_New.ann : Ann := .auto
set_option maxRecDepth 100000 in
theorem straitref09_New.eq (a1 : Int) (h : Heap) (K : Int → (Option Addr) → Nat → Nat → Heap → Prop) : evF straitref09_New.ctx Tryd.f8 straitref09_New.ann [(.int .i64 a1)] h (straitref09_New.ret K) = straitref09_New a1 h K := by kernel_rfl
set_option maxRecDepth 100000 in
theorem straitref09_New.calls {a1 : Int} {h : Heap} {K : Int → (Option Addr) → Nat → Nat → Heap → Prop} (hh : straitref09_New a1 h K) (w : World) (hw : w.heap = h) :
    (callFunc 8 #[(.int .i64 a1)]).run Tryd.prog w = .ok (.enter 8 #[(.int .i64 a1)]) w ∧ Calls Tryd.prog 8 #[(.int .i64 a1)] w fun e w' => ∃ v, e = .returned v ∧ Out w w' ∧ straitref09_New.ret K v w'.heap := by
  rw [← straitref09_New.eq] at hh
  exact fn_calls (args := [(.int .i64 a1)]) (c := straitref09_New.code) straitref09_New.ok Tryd.func8 (by kernel_rfl) (by kernel_rfl) (by kernel_rfl) (by kernel_rfl) (loops_ok (l := []) (by kernel_rfl) trivial) hh w hw

/-! ### (strait/straitref09.Set).List: function 22 -/
def straitref09_Set_List.b0 (K2 : (Option Addr) → Nat → Nat → Heap → Prop) (cont : Addr → (Option Addr) → Nat → Nat → Int → Heap → Prop) (c1_1001 : Addr) (v3_1002 : Option Addr) (v3_1002l : Nat) (v3_1002c : Nat) (v4_1003 : Int) (h1004 : Heap) : Prop :=
  ∃ (x1005 : Int), cell h1004 c1_1001 = some (.int .i64 x1005) ∧ (iteB (decide (v4_1003 < x1005)) ((∃ (x1006 : Option Addr) (x1006l : Nat) (x1006c : Nat), cell h1004 (c1_1001.add 1) = some (.slice x1006 x1006l x1006c) ∧ chkP x1006 fun a1007 => (0 ≤ v4_1003 ∧ v4_1003 < (x1006l : Int)) ∧ ∃ (x1008 : Bool), cell h1004 (a1007.add (v4_1003.toNat * 1)) = some (.bool x1008) ∧ (iteB x1008 (newP h1004 (.cells #[(.int .i64 v4_1003)] 3) fun a1009 h1010 => ∃ n1015, cellsAt h1010 (some a1009) (1 * 1) n1015 ∧ appP 3 1 8 [(.int .i64 0)] v3_1002 v3_1002l v3_1002c 1 n1015 h1010 fun q1011 l1012 c1013 h1014 => ((cont c1_1001 q1011 l1012 c1013 (IntKind.i64.wrap (v4_1003 + 1)) h1014))) (((cont c1_1001 v3_1002 v3_1002l v3_1002c (IntKind.i64.wrap (v4_1003 + 1)) h1004)))))) (K2 v3_1002 v3_1002l v3_1002c h1004))
def straitref09_Set_List.l0 (K2 : (Option Addr) → Nat → Nat → Heap → Prop) : Nat → Addr → (Option Addr) → Nat → Nat → Int → Heap → Prop
  | 0, _, _, _, _, _, _ => False
  | m + 1, c1_1001, v3_1002, v3_1002l, v3_1002c, v4_1003, h => straitref09_Set_List.b0 K2 (straitref09_Set_List.l0 K2 m) c1_1001 v3_1002 v3_1002l v3_1002c v4_1003 h
def straitref09_Set_List (a1 : Int) (a2 : Option Addr) (a2l : Nat) (a2c : Nat) (h : Heap) (K : (Option Addr) → Nat → Nat → Heap → Prop) : Prop :=
  newP h (.cells #[(.int .i64 a1), (.slice a2 a2l a2c)] 28) fun a3 h4 => (((∃ m7, straitref09_Set_List.l0 (fun z5 z5l z5c h6 => (K z5 z5l z5c h6)) m7 a3 none 0 0 0 h4)))
def straitref09_Set_List.ret (K : (Option Addr) → Nat → Nat → Heap → Prop) (v : Value) (h : Heap) : Prop := match v with
  | (.slice r8 r8l r8c) => K r8 r8l r8c h
  | _ => False
theorem straitref09_Set_List.ret_elim {K : (Option Addr) → Nat → Nat → Heap → Prop} {K' : Value → Heap → Prop} {v : Value} {h : Heap} (hk : ∀ r8 r8l r8c h, K r8 r8l r8c h → K' (.slice r8 r8l r8c) h) (hh : straitref09_Set_List.ret K v h) : K' v h := by
  unfold straitref09_Set_List.ret at hh
  split at hh
  · exact hk _ _ _ _ hh
  · exact hh.elim
def straitref09_Set_List.r0 (K : Nat → List Value → Heap → Prop) (m : Nat) (vs : List Value) (h : Heap) : Prop := match vs with
  | [(.pointer (some c1_1001)), (.slice v3_1002 v3_1002l v3_1002c), (.int .i64 v4_1003)] => straitref09_Set_List.l0 (fun z9 z9l z9c h' => K 2 [(.slice z9 z9l z9c)] h') m c1_1001 v3_1002 v3_1002l v3_1002c v4_1003 h
  | _ => False
def straitref09_Set_List.loop (i : Nat) (vs : List Value) (h : Heap) (K : Nat → List Value → Heap → Prop) : Prop := match i with
  | 0 => ∃ m, straitref09_Set_List.r0 K m vs h
  | _ => False
noncomputable def straitref09_Set_List.ctx : Ctx := { P := Tryd.prog, call := fun _ _ _ _ => False, qcall := fun _ _ _ _ => False, quiet := fun f => false, loop := straitref09_Set_List.loop }
theorem straitref09_Set_List.ok : straitref09_Set_List.ctx.OK where
  mixed := by kernel_rfl
  mono := fun hh _ => hh.elim
  call := fun hh => hh.elim
  qmono := fun hh _ => hh.elim
  qval := fun hh => hh.elim
  qcall := fun hh => hh.elim
noncomputable def straitref09_Set_List.code : Code := (Tryd.f22.body).getD .skip
def straitref09_Set_List.ann : Ann := (.two .auto (.two .auto (.two (.two .auto (.two (.loop 0 [1, 3, 4] [(2, [3])] .auto) .auto)) .auto)))
noncomputable def straitref09_Set_List.c0 : Code := sub straitref09_Set_List.code [1, 1, 0, 1, 0, 0]
def straitref09_Set_List.a0 : Ann := .auto
def straitref09_Set_List.keep0 : List Nat := [1, 3, 4]
def straitref09_Set_List.outs0 : List (Nat × List Nat) := [(2, [3])]
set_option maxRecDepth 100000 in
theorem straitref09_Set_List.L0 : LoopOK straitref09_Set_List.ctx 21 straitref09_Set_List.c0 0 straitref09_Set_List.keep0 straitref09_Set_List.outs0 := by
  refine loop_ok (n := straitref09_Set_List.a0) straitref09_Set_List.ok (by kernel_rfl) (loops_ok (l := []) (by kernel_rfl) ?_) straitref09_Set_List.r0 ?_ ?_ (fun vs h K hh => hh)
  · exact trivial
  · intro K vs h hh
    unfold straitref09_Set_List.r0 at hh
    split at hh
    · exact hh
    · exact hh
  · intro K m vs h hh
    unfold straitref09_Set_List.r0 at hh
    split at hh
    · exact cast (by kernel_rfl) hh
    · exact hh.elim
set_option maxRecDepth 100000 in
theorem straitref09_Set_List.eq (a1 : Int) (a2 : Option Addr) (a2l : Nat) (a2c : Nat) (h : Heap) (K : (Option Addr) → Nat → Nat → Heap → Prop) : evF straitref09_Set_List.ctx Tryd.f22 straitref09_Set_List.ann [(.agg #[(.int .i64 a1), (.slice a2 a2l a2c)])] h (straitref09_Set_List.ret K) = straitref09_Set_List a1 a2 a2l a2c h K := by kernel_rfl
set_option maxRecDepth 100000 in
theorem straitref09_Set_List.calls {a1 : Int} {a2 : Option Addr} {a2l : Nat} {a2c : Nat} {h : Heap} {K : (Option Addr) → Nat → Nat → Heap → Prop} (hh : straitref09_Set_List a1 a2 a2l a2c h K) (w : World) (hw : w.heap = h) :
    (callFunc 22 #[(.agg #[(.int .i64 a1), (.slice a2 a2l a2c)])]).run Tryd.prog w = .ok (.enter 22 #[(.agg #[(.int .i64 a1), (.slice a2 a2l a2c)])]) w ∧ Calls Tryd.prog 22 #[(.agg #[(.int .i64 a1), (.slice a2 a2l a2c)])] w fun e w' => ∃ v, e = .returned v ∧ Out w w' ∧ straitref09_Set_List.ret K v w'.heap := by
  rw [← straitref09_Set_List.eq] at hh
  exact fn_calls (args := [(.agg #[(.int .i64 a1), (.slice a2 a2l a2c)])]) (c := straitref09_Set_List.code) straitref09_Set_List.ok Tryd.func22 (by kernel_rfl) (by kernel_rfl) (by kernel_rfl) (by kernel_rfl) (loops_ok (l := [(straitref09_Set_List.c0, none, 0, straitref09_Set_List.keep0, straitref09_Set_List.outs0)]) (by kernel_rfl) ⟨straitref09_Set_List.L0, trivial⟩) hh w hw

/-! ### strait/straitlaw09.same: function 9 -/
def straitlaw09_same (a1 : Option Addr) (a2 : Int) (a3 : Option Addr) (a3l : Nat) (a3c : Nat) (h : Heap) (K : Bool → Heap → Prop) : Prop :=
  newP h (.cells #[(.int .i64 a2), (.slice a3 a3l a3c)] 28) fun a4 h5 => (∃ (x6 : Int), cell h5 a4 = some (.int .i64 x6) ∧ ∃ (x7 : Option Addr) (x7l : Nat) (x7c : Nat), cell h5 (a4.add 1) = some (.slice x7 x7l x7c) ∧ callP3 (straitref09_Set_List x6 x7 x7l x7c h5) fun x8 x8l x8c h9 => (iteB (!a1.isNone) (qcallP1 h9 (vset_Set_Room a1 h9) fun x10 => ∃ (x11 : Int), cell h9 a4 = some (.int .i64 x11) ∧ iteB (x10 == x11) (qcallP1 h9 (vset_Set_Len a1 h9) fun x12 => iteB (x12 == (x8l : Int)) (callP3 (vset_Set_List a1 h9) fun x13 x13l x13c h14 => qcallP1 h14 (straitref09_Ints x13 x13l x13c x8 x8l x8c h14) fun x15 => K x15 h14) (K false h9)) (K false h9)) (K false h9)))
def straitlaw09_same.ret (K : Bool → Heap → Prop) (v : Value) (h : Heap) : Prop := match v with
  | (.bool r18) => K r18 h
  | _ => False
theorem straitlaw09_same.ret_elim {K : Bool → Heap → Prop} {K' : Value → Heap → Prop} {v : Value} {h : Heap} (hk : ∀ r18 h, K r18 h → K' (.bool r18) h) (hh : straitlaw09_same.ret K v h) : K' v h := by
  unfold straitlaw09_same.ret at hh
  split at hh
  · exact hk _ _ hh
  · exact hh.elim
def straitlaw09_same.call (f : FuncId) (vs : List Value) (h : Heap) (K : Value → Heap → Prop) : Prop := match f, vs with
  | 22, [(.agg ⟨[(.int .i64 a1), (.slice a2 a2l a2c)]⟩)] => callP3 (straitref09_Set_List a1 a2 a2l a2c h) fun r8 r8l r8c h' => K (.slice r8 r8l r8c) h'
  | 26, [(.pointer a1)] => callP3 (vset_Set_List a1 h) fun r6 r6l r6c h' => K (.slice r6 r6l r6c) h'
  | _, _ => False
def straitlaw09_same.qcall (f : FuncId) (vs : List Value) (h : Heap) (K : Value → Prop) : Prop := match f, vs with
  | 21, [(.slice a1 a1l a1c), (.slice a2 a2l a2c)] => qcallP1 h (straitref09_Ints a1 a1l a1c a2 a2l a2c h) fun r7 => K (.bool r7)
  | 24, [(.pointer a1)] => qcallP1 h (vset_Set_Room a1 h) fun r4 => K (.int .i64 r4)
  | 25, [(.pointer a1)] => qcallP1 h (vset_Set_Len a1 h) fun r7 => K (.int .i64 r7)
  | _, _ => False
noncomputable def straitlaw09_same.ctx : Ctx := { P := Tryd.prog, call := straitlaw09_same.call, qcall := straitlaw09_same.qcall, quiet := fun f => Nat.beq f 21 || Nat.beq f 24 || Nat.beq f 25, loop := fun _ _ _ _ => False }
theorem straitlaw09_same.ok : straitlaw09_same.ctx.OK where
  mixed := by kernel_rfl
  mono := by
    intro f args h K K' hh hk
    change straitlaw09_same.call f args h K at hh
    change straitlaw09_same.call f args h K'
    unfold straitlaw09_same.call at hh ⊢
    split at hh
    · obtain ⟨R, h1, h2⟩ := hh
      exact ⟨R, h1, fun _ _ _ x hr => hk _ _ (h2 _ _ _ x hr)⟩
    · obtain ⟨R, h1, h2⟩ := hh
      exact ⟨R, h1, fun _ _ _ x hr => hk _ _ (h2 _ _ _ x hr)⟩
    · exact hh.elim
  call := by
    intro f args h K hh w hw
    change straitlaw09_same.call f args h K at hh
    unfold straitlaw09_same.call at hh
    split at hh
    · obtain ⟨R, h1, h2⟩ := hh
      obtain ⟨g1, g2⟩ := straitref09_Set_List.calls h1 w hw
      exact ⟨g1, g2.mono fun e w' ⟨v, he, ho, hr⟩ => ⟨v, he, ho, straitref09_Set_List.ret_elim h2 hr⟩⟩
    · obtain ⟨R, h1, h2⟩ := hh
      obtain ⟨g1, g2⟩ := vset_Set_List.calls h1 w hw
      exact ⟨g1, g2.mono fun e w' ⟨v, he, ho, hr⟩ => ⟨v, he, ho, vset_Set_List.ret_elim h2 hr⟩⟩
    · exact hh.elim
  qmono := by
    intro f args h K K' hh hk
    change straitlaw09_same.qcall f args h K at hh
    change straitlaw09_same.qcall f args h K'
    unfold straitlaw09_same.qcall at hh ⊢
    split at hh
    · obtain ⟨x0, h1, h2⟩ := hh
      exact ⟨x0, h1, hk _ h2⟩
    · obtain ⟨x0, h1, h2⟩ := hh
      exact ⟨x0, h1, hk _ h2⟩
    · obtain ⟨x0, h1, h2⟩ := hh
      exact ⟨x0, h1, hk _ h2⟩
    · exact hh.elim
  qval := by
    intro f args h K hh
    change straitlaw09_same.qcall f args h K at hh
    suffices H : ∃ v, K v ∧ straitlaw09_same.qcall f args h (· = v) from H
    unfold straitlaw09_same.qcall at hh ⊢
    split at hh
    · obtain ⟨x0, h1, h2⟩ := hh
      exact ⟨_, h2, x0, h1, rfl⟩
    · obtain ⟨x0, h1, h2⟩ := hh
      exact ⟨_, h2, x0, h1, rfl⟩
    · obtain ⟨x0, h1, h2⟩ := hh
      exact ⟨_, h2, x0, h1, rfl⟩
    · exact hh.elim
  qcall := by
    intro f args h v hh w hw
    change straitlaw09_same.qcall f args h (· = v) at hh
    unfold straitlaw09_same.qcall at hh
    split at hh
    · obtain ⟨x0, h1, h2⟩ := hh
      obtain ⟨g1, g2⟩ := straitref09_Ints.calls h1 w hw
      refine .inl ⟨g1, g2.mono fun e w' ⟨u, he, ho, hr⟩ => ?_⟩
      have hq := straitref09_Ints.ret_elim (K' := fun u h' => u = v ∧ h' = h) (fun _ h' hr => by obtain ⟨rfl, rfl⟩ := hr; exact ⟨h2, rfl⟩) hr
      exact ⟨hq.1 ▸ he, ho, hq.2⟩
    · obtain ⟨x0, h1, h2⟩ := hh
      obtain ⟨g1, g2⟩ := vset_Set_Room.calls h1 w hw
      refine .inl ⟨g1, g2.mono fun e w' ⟨u, he, ho, hr⟩ => ?_⟩
      have hq := vset_Set_Room.ret_elim (K' := fun u h' => u = v ∧ h' = h) (fun _ h' hr => by obtain ⟨rfl, rfl⟩ := hr; exact ⟨h2, rfl⟩) hr
      exact ⟨hq.1 ▸ he, ho, hq.2⟩
    · obtain ⟨x0, h1, h2⟩ := hh
      obtain ⟨g1, g2⟩ := vset_Set_Len.calls h1 w hw
      refine .inl ⟨g1, g2.mono fun e w' ⟨u, he, ho, hr⟩ => ?_⟩
      have hq := vset_Set_Len.ret_elim (K' := fun u h' => u = v ∧ h' = h) (fun _ h' hr => by obtain ⟨rfl, rfl⟩ := hr; exact ⟨h2, rfl⟩) hr
      exact ⟨hq.1 ▸ he, ho, hq.2⟩
    · exact hh.elim
noncomputable def straitlaw09_same.code : Code := (Tryd.f9.body).getD .skip
def straitlaw09_same.ann : Ann := (.two .auto (.two .auto (.two (.reg [0, 1, 3, 7, 15, 7, 39, 127, 255, 511, 1023, 2047, 1023, 5119, 16383, 32767, 65535, 131071, 262143, 131071, 1048575, 2097151, 4194303] (.take 0 (.take 1 (.take 2 (.take 3 (.take 4 (.take 5 (.take 6 (.take 7 (.take 8 (.take 9 (.take 10 (.take 11 (.take 12 (.take 13 (.take 14 (.take 15 (.take 16 (.take 17 (.take 19 (.alt 18 (.take 20 (.take 21 (.take 22 .done))) .noalt))))))))))))))))))))) .auto)))
set_option maxRecDepth 100000 in
theorem straitlaw09_same.eq (a1 : Option Addr) (a2 : Int) (a3 : Option Addr) (a3l : Nat) (a3c : Nat) (h : Heap) (K : Bool → Heap → Prop) : evF straitlaw09_same.ctx Tryd.f9 straitlaw09_same.ann [(.pointer a1), (.agg #[(.int .i64 a2), (.slice a3 a3l a3c)])] h (straitlaw09_same.ret K) = straitlaw09_same a1 a2 a3 a3l a3c h K := by kernel_rfl
set_option maxRecDepth 100000 in
theorem straitlaw09_same.calls {a1 : Option Addr} {a2 : Int} {a3 : Option Addr} {a3l : Nat} {a3c : Nat} {h : Heap} {K : Bool → Heap → Prop} (hh : straitlaw09_same a1 a2 a3 a3l a3c h K) (w : World) (hw : w.heap = h) :
    (callFunc 9 #[(.pointer a1), (.agg #[(.int .i64 a2), (.slice a3 a3l a3c)])]).run Tryd.prog w = .ok (.enter 9 #[(.pointer a1), (.agg #[(.int .i64 a2), (.slice a3 a3l a3c)])]) w ∧ Calls Tryd.prog 9 #[(.pointer a1), (.agg #[(.int .i64 a2), (.slice a3 a3l a3c)])] w fun e w' => ∃ v, e = .returned v ∧ Out w w' ∧ straitlaw09_same.ret K v w'.heap := by
  rw [← straitlaw09_same.eq] at hh
  exact fn_calls (args := [(.pointer a1), (.agg #[(.int .i64 a2), (.slice a3 a3l a3c)])]) (c := straitlaw09_same.code) straitlaw09_same.ok Tryd.func9 (by kernel_rfl) (by kernel_rfl) (by kernel_rfl) (by kernel_rfl) (loops_ok (l := []) (by kernel_rfl) trivial) hh w hw

/-! ### (strait/straitref09.Set).Has: function 10 -/
def straitref09_Set_Has (a1 : Int) (a2 : Option Addr) (a2l : Nat) (a2c : Nat) (a3 : Int) (h : Heap) (K : Bool → Heap → Prop) : Prop :=
  newP h (.cells #[(.int .i64 a1), (.slice a2 a2l a2c)] 28) fun a4 h5 => (iteB (decide (a3 ≥ (0 : Int))) (∃ (x6 : Int), cell h5 a4 = some (.int .i64 x6) ∧ iteB (decide (a3 < x6)) (∃ (x7 : Option Addr) (x7l : Nat) (x7c : Nat), cell h5 (a4.add 1) = some (.slice x7 x7l x7c) ∧ chkP x7 fun a8 => (0 ≤ a3 ∧ a3 < (x7l : Int)) ∧ ∃ (x9 : Bool), cell h5 (a8.add (a3.toNat * 1)) = some (.bool x9) ∧ K x9 h5) (K false h5)) (K false h5))
def straitref09_Set_Has.ret (K : Bool → Heap → Prop) (v : Value) (h : Heap) : Prop := match v with
  | (.bool r11) => K r11 h
  | _ => False
theorem straitref09_Set_Has.ret_elim {K : Bool → Heap → Prop} {K' : Value → Heap → Prop} {v : Value} {h : Heap} (hk : ∀ r11 h, K r11 h → K' (.bool r11) h) (hh : straitref09_Set_Has.ret K v h) : K' v h := by
  unfold straitref09_Set_Has.ret at hh
  split at hh
  · exact hk _ _ hh
  · exact hh.elim
noncomputable def straitref09_Set_Has.ctx : Ctx := { P := Tryd.prog, call := fun _ _ _ _ => False, qcall := fun _ _ _ _ => False, quiet := fun f => false, loop := fun _ _ _ _ => False }
theorem straitref09_Set_Has.ok : straitref09_Set_Has.ctx.OK where
  mixed := by kernel_rfl
  mono := fun hh _ => hh.elim
  call := fun hh => hh.elim
  qmono := fun hh _ => hh.elim
  qval := fun hh => hh.elim
  qcall := fun hh => hh.elim
noncomputable def straitref09_Set_Has.code : Code := (Tryd.f10.body).getD .skip
def straitref09_Set_Has.ann : Ann := .auto
set_option maxRecDepth 100000 in
theorem straitref09_Set_Has.eq (a1 : Int) (a2 : Option Addr) (a2l : Nat) (a2c : Nat) (a3 : Int) (h : Heap) (K : Bool → Heap → Prop) : evF straitref09_Set_Has.ctx Tryd.f10 straitref09_Set_Has.ann [(.agg #[(.int .i64 a1), (.slice a2 a2l a2c)]), (.int .i64 a3)] h (straitref09_Set_Has.ret K) = straitref09_Set_Has a1 a2 a2l a2c a3 h K := by kernel_rfl
set_option maxRecDepth 100000 in
theorem straitref09_Set_Has.calls {a1 : Int} {a2 : Option Addr} {a2l : Nat} {a2c : Nat} {a3 : Int} {h : Heap} {K : Bool → Heap → Prop} (hh : straitref09_Set_Has a1 a2 a2l a2c a3 h K) (w : World) (hw : w.heap = h) :
    (callFunc 10 #[(.agg #[(.int .i64 a1), (.slice a2 a2l a2c)]), (.int .i64 a3)]).run Tryd.prog w = .ok (.enter 10 #[(.agg #[(.int .i64 a1), (.slice a2 a2l a2c)]), (.int .i64 a3)]) w ∧ Calls Tryd.prog 10 #[(.agg #[(.int .i64 a1), (.slice a2 a2l a2c)]), (.int .i64 a3)] w fun e w' => ∃ v, e = .returned v ∧ Out w w' ∧ straitref09_Set_Has.ret K v w'.heap := by
  rw [← straitref09_Set_Has.eq] at hh
  exact fn_calls (args := [(.agg #[(.int .i64 a1), (.slice a2 a2l a2c)]), (.int .i64 a3)]) (c := straitref09_Set_Has.code) straitref09_Set_Has.ok Tryd.func10 (by kernel_rfl) (by kernel_rfl) (by kernel_rfl) (by kernel_rfl) (loops_ok (l := []) (by kernel_rfl) trivial) hh w hw

end Go.Proofs.YtmojgekepkpfcaaDoor
