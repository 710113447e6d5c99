/- WRITTEN BY A PROGRAM OF THIS SESSION (gen.py): what each function asks of memory, and that the model's run comes to it. -/
import Derived.Test.YtfidcekobjmamaaDoorProg
import Derived.Test.YtfidcekobjmamaaDoorFw8

namespace Go.Proofs.YtfidcekobjmamaaDoor
open Go.Hp
set_option linter.unusedVariables false
set_option linter.unusedSimpArgs false

/-! ### (*strait/lift.Table).N: function 17 -/
def lift_Table_N (a1 : Option Addr) (h : Heap) (K : Int → Heap → Prop) : Prop :=
  ((iteB a1.isNone (K 0 h) ((chkP a1 fun a2 => ∃ (x3 : Option Addr) (x3l : Nat) (x3c : Nat), cell h (a2.add 1) = some (.slice x3 x3l x3c) ∧ (K (x3l : Int) h)))))
def lift_Table_N.ret (K : Int → Heap → Prop) (v : Value) (h : Heap) : Prop := match v with
  | (.int .i64 r4) => K r4 h
  | _ => False
theorem lift_Table_N.ret_elim {K : Int → Heap → Prop} {K' : Value → Heap → Prop} {v : Value} {h : Heap} (hk : ∀ r4 h, K r4 h → K' (.int .i64 r4) h) (hh : lift_Table_N.ret K v h) : K' v h := by
  unfold lift_Table_N.ret at hh
  split at hh
  · exact hk _ _ hh
  · exact hh.elim
noncomputable def lift_Table_N.ctx : Ctx := { P := Tryd.prog, call := fun _ _ _ _ => False, qcall := fun _ _ _ _ => False, quiet := fun f => false, loop := fun _ _ _ _ => False }
theorem lift_Table_N.ok : lift_Table_N.ctx.OK where
  mixed := by kernel_rfl
  mono := fun hh _ => hh.elim
  call := fun hh => hh.elim
  qmono := fun hh _ => hh.elim
  qval := fun hh => hh.elim
  qcall := fun hh => hh.elim
noncomputable def lift_Table_N.code : Code := (Tryd.f17.body).getD .skip
def lift_Table_N.ann : Ann := .auto
set_option maxRecDepth 100000 in
theorem lift_Table_N.eq (a1 : Option Addr) (h : Heap) (K : Int → Heap → Prop) : evF lift_Table_N.ctx Tryd.f17 lift_Table_N.ann [(.pointer a1)] h (lift_Table_N.ret K) = lift_Table_N a1 h K := by kernel_rfl
set_option maxRecDepth 100000 in
theorem lift_Table_N.calls {a1 : Option Addr} {h : Heap} {K : Int → Heap → Prop} (hh : lift_Table_N a1 h K) (w : World) (hw : w.heap = h) :
    (callFunc 17 #[(.pointer a1)]).run Tryd.prog w = .ok (.enter 17 #[(.pointer a1)]) w ∧ Calls Tryd.prog 17 #[(.pointer a1)] w fun e w' => ∃ v, e = .returned v ∧ Out w w' ∧ lift_Table_N.ret K v w'.heap := by
  rw [← lift_Table_N.eq] at hh
  exact fn_calls (args := [(.pointer a1)]) (c := lift_Table_N.code) lift_Table_N.ok Tryd.func17 (by kernel_rfl) (by kernel_rfl) (by kernel_rfl) (by kernel_rfl) (loops_ok (l := []) (by kernel_rfl) trivial) hh w hw

/-! ### (*strait/lift.Table).in: function 26 -/
def lift_Table_in (a1 : Option Addr) (a2 : Int) (h : Heap) (K : Bool → Heap → Prop) : Prop :=
  (iteB (decide (a2 ≥ (0 : Int))) (qcallP1 h (lift_Table_N a1 h) fun x3 => (K (decide (a2 < x3)) h)) (K false h))
def lift_Table_in.ret (K : Bool → Heap → Prop) (v : Value) (h : Heap) : Prop := match v with
  | (.bool r5) => K r5 h
  | _ => False
theorem lift_Table_in.ret_elim {K : Bool → Heap → Prop} {K' : Value → Heap → Prop} {v : Value} {h : Heap} (hk : ∀ r5 h, K r5 h → K' (.bool r5) h) (hh : lift_Table_in.ret K v h) : K' v h := by
  unfold lift_Table_in.ret at hh
  split at hh
  · exact hk _ _ hh
  · exact hh.elim
def lift_Table_in.qcall (f : FuncId) (vs : List Value) (h : Heap) (K : Value → Prop) : Prop := match f, vs with
  | 17, [(.pointer a1)] => qcallP1 h (lift_Table_N a1 h) fun r4 => K (.int .i64 r4)
  | _, _ => False
noncomputable def lift_Table_in.ctx : Ctx := { P := Tryd.prog, call := fun _ _ _ _ => False, qcall := lift_Table_in.qcall, quiet := fun f => Nat.beq f 17, loop := fun _ _ _ _ => False }
theorem lift_Table_in.ok : lift_Table_in.ctx.OK where
  mixed := by kernel_rfl
  mono := fun hh _ => hh.elim
  call := fun hh => hh.elim
  qmono := by
    intro f args h K K' hh hk
    change lift_Table_in.qcall f args h K at hh
    change lift_Table_in.qcall f args h K'
    unfold lift_Table_in.qcall at hh ⊢
    split at hh
    · obtain ⟨x0, h1, h2⟩ := hh
      exact ⟨x0, h1, hk _ h2⟩
    · exact hh.elim
  qval := by
    intro f args h K hh
    change lift_Table_in.qcall f args h K at hh
    suffices H : ∃ v, K v ∧ lift_Table_in.qcall f args h (· = v) from H
    unfold lift_Table_in.qcall at hh ⊢
    split at hh
    · obtain ⟨x0, h1, h2⟩ := hh
      exact ⟨_, h2, x0, h1, rfl⟩
    · exact hh.elim
  qcall := by
    intro f args h v hh w hw
    change lift_Table_in.qcall f args h (· = v) at hh
    unfold lift_Table_in.qcall at hh
    split at hh
    · obtain ⟨x0, h1, h2⟩ := hh
      obtain ⟨g1, g2⟩ := lift_Table_N.calls h1 w hw
      refine .inl ⟨g1, g2.mono fun e w' ⟨u, he, ho, hr⟩ => ?_⟩
      have hq := lift_Table_N.ret_elim (K' := fun u h' => u = v ∧ h' = h) (fun _ h' hr => by obtain ⟨rfl, rfl⟩ := hr; exact ⟨h2, rfl⟩) hr
      exact ⟨hq.1 ▸ he, ho, hq.2⟩
    · exact hh.elim
noncomputable def lift_Table_in.code : Code := (Tryd.f26.body).getD .skip
def lift_Table_in.ann : Ann := .auto
set_option maxRecDepth 100000 in
theorem lift_Table_in.eq (a1 : Option Addr) (a2 : Int) (h : Heap) (K : Bool → Heap → Prop) : evF lift_Table_in.ctx Tryd.f26 lift_Table_in.ann [(.pointer a1), (.int .i64 a2)] h (lift_Table_in.ret K) = lift_Table_in a1 a2 h K := by kernel_rfl
set_option maxRecDepth 100000 in
theorem lift_Table_in.calls {a1 : Option Addr} {a2 : Int} {h : Heap} {K : Bool → Heap → Prop} (hh : lift_Table_in a1 a2 h K) (w : World) (hw : w.heap = h) :
    (callFunc 26 #[(.pointer a1), (.int .i64 a2)]).run Tryd.prog w = .ok (.enter 26 #[(.pointer a1), (.int .i64 a2)]) w ∧ Calls Tryd.prog 26 #[(.pointer a1), (.int .i64 a2)] w fun e w' => ∃ v, e = .returned v ∧ Out w w' ∧ lift_Table_in.ret K v w'.heap := by
  rw [← lift_Table_in.eq] at hh
  exact fn_calls (args := [(.pointer a1), (.int .i64 a2)]) (c := lift_Table_in.code) lift_Table_in.ok Tryd.func26 (by kernel_rfl) (by kernel_rfl) (by kernel_rfl) (by kernel_rfl) (loops_ok (l := []) (by kernel_rfl) trivial) hh w hw

/-! ### math/bits.TrailingZeros32: function 43 -/
def bits_TrailingZeros32 (a1 : Int) (h : Heap) (K : Int → Heap → Prop) : Prop :=
  ((iteB (a1 == (0 : Int)) (K 32 h) ((bindV (bits .and .u32 a1 (IntKind.u32.wrap (0 - a1))) fun n2 => 0 ≤ (27 : Int) ∧ bindV ((IntKind.u32.wrap (n2 * 125613361)).fdiv (2 ^ 27)) fun n3 => (0 ≤ n3 ∧ n3 < (32 : Int)) ∧ ∃ (x4 : Int), cell h ((⟨0, 0, none⟩ : Addr).add (n3.toNat * 1)) = some (.int .u8 x4) ∧ (K (IntKind.i64.wrap x4) h)))))
def bits_TrailingZeros32.ret (K : Int → Heap → Prop) (v : Value) (h : Heap) : Prop := match v with
  | (.int .i64 r5) => K r5 h
  | _ => False
theorem bits_TrailingZeros32.ret_elim {K : Int → Heap → Prop} {K' : Value → Heap → Prop} {v : Value} {h : Heap} (hk : ∀ r5 h, K r5 h → K' (.int .i64 r5) h) (hh : bits_TrailingZeros32.ret K v h) : K' v h := by
  unfold bits_TrailingZeros32.ret at hh
  split at hh
  · exact hk _ _ hh
  · exact hh.elim
noncomputable def bits_TrailingZeros32.ctx : Ctx := { P := Tryd.prog, call := fun _ _ _ _ => False, qcall := fun _ _ _ _ => False, quiet := fun f => false, loop := fun _ _ _ _ => False }
theorem bits_TrailingZeros32.ok : bits_TrailingZeros32.ctx.OK where
  mixed := by kernel_rfl
  mono := fun hh _ => hh.elim
  call := fun hh => hh.elim
  qmono := fun hh _ => hh.elim
  qval := fun hh => hh.elim
  qcall := fun hh => hh.elim
noncomputable def bits_TrailingZeros32.code : Code := (Tryd.f43.body).getD .skip
def bits_TrailingZeros32.ann : Ann := .auto
set_option maxRecDepth 100000 in
theorem bits_TrailingZeros32.eq (a1 : Int) (h : Heap) (K : Int → Heap → Prop) : evF bits_TrailingZeros32.ctx Tryd.f43 bits_TrailingZeros32.ann [(.int .u32 a1)] h (bits_TrailingZeros32.ret K) = bits_TrailingZeros32 a1 h K := by kernel_rfl
set_option maxRecDepth 100000 in
theorem bits_TrailingZeros32.calls {a1 : Int} {h : Heap} {K : Int → Heap → Prop} (hh : bits_TrailingZeros32 a1 h K) (w : World) (hw : w.heap = h) :
    (callFunc 43 #[(.int .u32 a1)]).run Tryd.prog w = .ok (.enter 43 #[(.int .u32 a1)]) w ∧ Calls Tryd.prog 43 #[(.int .u32 a1)] w fun e w' => ∃ v, e = .returned v ∧ Out w w' ∧ bits_TrailingZeros32.ret K v w'.heap := by
  rw [← bits_TrailingZeros32.eq] at hh
  exact fn_calls (args := [(.int .u32 a1)]) (c := bits_TrailingZeros32.code) bits_TrailingZeros32.ok Tryd.func43 (by kernel_rfl) (by kernel_rfl) (by kernel_rfl) (by kernel_rfl) (loops_ok (l := []) (by kernel_rfl) trivial) hh w hw

/-! ### math/bits.TrailingZeros64: function 44 -/
def bits_TrailingZeros64 (a1 : Int) (h : Heap) (K : Int → Heap → Prop) : Prop :=
  ((iteB (a1 == (0 : Int)) (K 64 h) ((bindV (bits .and .u64 a1 (IntKind.u64.wrap (0 - a1))) fun n2 => 0 ≤ (58 : Int) ∧ bindV ((IntKind.u64.wrap (n2 * 285870213051353865)).fdiv (2 ^ 58)) fun n3 => (0 ≤ n3 ∧ n3 < (64 : Int)) ∧ ∃ (x4 : Int), cell h ((⟨1, 0, none⟩ : Addr).add (n3.toNat * 1)) = some (.int .u8 x4) ∧ (K (IntKind.i64.wrap x4) h)))))
def bits_TrailingZeros64.ret (K : Int → Heap → Prop) (v : Value) (h : Heap) : Prop := match v with
  | (.int .i64 r5) => K r5 h
  | _ => False
theorem bits_TrailingZeros64.ret_elim {K : Int → Heap → Prop} {K' : Value → Heap → Prop} {v : Value} {h : Heap} (hk : ∀ r5 h, K r5 h → K' (.int .i64 r5) h) (hh : bits_TrailingZeros64.ret K v h) : K' v h := by
  unfold bits_TrailingZeros64.ret at hh
  split at hh
  · exact hk _ _ hh
  · exact hh.elim
noncomputable def bits_TrailingZeros64.ctx : Ctx := { P := Tryd.prog, call := fun _ _ _ _ => False, qcall := fun _ _ _ _ => False, quiet := fun f => false, loop := fun _ _ _ _ => False }
theorem bits_TrailingZeros64.ok : bits_TrailingZeros64.ctx.OK where
  mixed := by kernel_rfl
  mono := fun hh _ => hh.elim
  call := fun hh => hh.elim
  qmono := fun hh _ => hh.elim
  qval := fun hh => hh.elim
  qcall := fun hh => hh.elim
noncomputable def bits_TrailingZeros64.code : Code := (Tryd.f44.body).getD .skip
def bits_TrailingZeros64.ann : Ann := .auto
set_option maxRecDepth 100000 in
theorem bits_TrailingZeros64.eq (a1 : Int) (h : Heap) (K : Int → Heap → Prop) : evF bits_TrailingZeros64.ctx Tryd.f44 bits_TrailingZeros64.ann [(.int .u64 a1)] h (bits_TrailingZeros64.ret K) = bits_TrailingZeros64 a1 h K := by kernel_rfl
set_option maxRecDepth 100000 in
theorem bits_TrailingZeros64.calls {a1 : Int} {h : Heap} {K : Int → Heap → Prop} (hh : bits_TrailingZeros64 a1 h K) (w : World) (hw : w.heap = h) :
    (callFunc 44 #[(.int .u64 a1)]).run Tryd.prog w = .ok (.enter 44 #[(.int .u64 a1)]) w ∧ Calls Tryd.prog 44 #[(.int .u64 a1)] w fun e w' => ∃ v, e = .returned v ∧ Out w w' ∧ bits_TrailingZeros64.ret K v w'.heap := by
  rw [← bits_TrailingZeros64.eq] at hh
  exact fn_calls (args := [(.int .u64 a1)]) (c := bits_TrailingZeros64.code) bits_TrailingZeros64.ok Tryd.func44 (by kernel_rfl) (by kernel_rfl) (by kernel_rfl) (by kernel_rfl) (loops_ok (l := []) (by kernel_rfl) trivial) hh w hw

/-! ### math/bits.TrailingZeros: function 39 -/
def bits_TrailingZeros (a1 : Int) (h : Heap) (K : Int → Heap → Prop) : Prop :=
  ((qcallP1 h (bits_TrailingZeros64 a1 h) fun x2 => K x2 h))
def bits_TrailingZeros.ret (K : Int → Heap → Prop) (v : Value) (h : Heap) : Prop := match v with
  | (.int .i64 r3) => K r3 h
  | _ => False
theorem bits_TrailingZeros.ret_elim {K : Int → Heap → Prop} {K' : Value → Heap → Prop} {v : Value} {h : Heap} (hk : ∀ r3 h, K r3 h → K' (.int .i64 r3) h) (hh : bits_TrailingZeros.ret K v h) : K' v h := by
  unfold bits_TrailingZeros.ret at hh
  split at hh
  · exact hk _ _ hh
  · exact hh.elim
def bits_TrailingZeros.qcall (f : FuncId) (vs : List Value) (h : Heap) (K : Value → Prop) : Prop := match f, vs with
  | 44, [(.int .u64 a1)] => qcallP1 h (bits_TrailingZeros64 a1 h) fun r5 => K (.int .i64 r5)
  | _, _ => False
noncomputable def bits_TrailingZeros.ctx : Ctx := { P := Tryd.prog, call := fun _ _ _ _ => False, qcall := bits_TrailingZeros.qcall, quiet := fun f => Nat.beq f 43 || Nat.beq f 44, loop := fun _ _ _ _ => False }
theorem bits_TrailingZeros.ok : bits_TrailingZeros.ctx.OK where
  mixed := by kernel_rfl
  mono := fun hh _ => hh.elim
  call := fun hh => hh.elim
  qmono := by
    intro f args h K K' hh hk
    change bits_TrailingZeros.qcall f args h K at hh
    change bits_TrailingZeros.qcall f args h K'
    unfold bits_TrailingZeros.qcall at hh ⊢
    split at hh
    · obtain ⟨x0, h1, h2⟩ := hh
      exact ⟨x0, h1, hk _ h2⟩
    · exact hh.elim
  qval := by
    intro f args h K hh
    change bits_TrailingZeros.qcall f args h K at hh
    suffices H : ∃ v, K v ∧ bits_TrailingZeros.qcall f args h (· = v) from H
    unfold bits_TrailingZeros.qcall at hh ⊢
    split at hh
    · obtain ⟨x0, h1, h2⟩ := hh
      exact ⟨_, h2, x0, h1, rfl⟩
    · exact hh.elim
  qcall := by
    intro f args h v hh w hw
    change bits_TrailingZeros.qcall f args h (· = v) at hh
    unfold bits_TrailingZeros.qcall at hh
    split at hh
    · obtain ⟨x0, h1, h2⟩ := hh
      obtain ⟨g1, g2⟩ := bits_TrailingZeros64.calls h1 w hw
      refine .inl ⟨g1, g2.mono fun e w' ⟨u, he, ho, hr⟩ => ?_⟩
      have hq := bits_TrailingZeros64.ret_elim (K' := fun u h' => u = v ∧ h' = h) (fun _ h' hr => by obtain ⟨rfl, rfl⟩ := hr; exact ⟨h2, rfl⟩) hr
      exact ⟨hq.1 ▸ he, ho, hq.2⟩
    · exact hh.elim
noncomputable def bits_TrailingZeros.code : Code := (Tryd.f39.body).getD .skip
def bits_TrailingZeros.ann : Ann := .auto
set_option maxRecDepth 100000 in
theorem bits_TrailingZeros.eq (a1 : Int) (h : Heap) (K : Int → Heap → Prop) : evF bits_TrailingZeros.ctx Tryd.f39 bits_TrailingZeros.ann [(.int .u64 a1)] h (bits_TrailingZeros.ret K) = bits_TrailingZeros a1 h K := by kernel_rfl
set_option maxRecDepth 100000 in
theorem bits_TrailingZeros.calls {a1 : Int} {h : Heap} {K : Int → Heap → Prop} (hh : bits_TrailingZeros a1 h K) (w : World) (hw : w.heap = h) :
    (callFunc 39 #[(.int .u64 a1)]).run Tryd.prog w = .ok (.enter 39 #[(.int .u64 a1)]) w ∧ Calls Tryd.prog 39 #[(.int .u64 a1)] w fun e w' => ∃ v, e = .returned v ∧ Out w w' ∧ bits_TrailingZeros.ret K v w'.heap := by
  rw [← bits_TrailingZeros.eq] at hh
  exact fn_calls (args := [(.int .u64 a1)]) (c := bits_TrailingZeros.code) bits_TrailingZeros.ok Tryd.func39 (by kernel_rfl) (by kernel_rfl) (by kernel_rfl) (by kernel_rfl) (loops_ok (l := []) (by kernel_rfl) trivial) hh w hw

/-! ### (*strait/lift.Table).first: function 38 -/
def lift_Table_first (a1 : Option Addr) (a2 : Int) (a3 : Int) (h : Heap) (K : Bool → Heap → Prop) : Prop :=
  (chkP a1 fun a4 => ∃ (x5 : Option Addr) (x5l : Nat) (x5c : Nat), cell h a4 = some (.slice x5 x5l x5c) ∧ chkP x5 fun a6 => (0 ≤ a2 ∧ a2 < (x5l : Int)) ∧ ∃ (x7 : Int), cell h (a6.add (a2.toNat * 1)) = some (.int .i64 x7) ∧ chkP a1 fun a8 => ∃ (x9 : Option Addr) (x9l : Nat) (x9c : Nat), cell h a8 = some (.slice x9 x9l x9c) ∧ chkP x9 fun a10 => (0 ≤ a3 ∧ a3 < (x9l : Int)) ∧ ∃ (x11 : Int), cell h (a10.add (a3.toNat * 1)) = some (.int .i64 x11) ∧ iteB (decide (x7 < x11)) (K true h) (chkP a1 fun a12 => ∃ (x13 : Option Addr) (x13l : Nat) (x13c : Nat), cell h a12 = some (.slice x13 x13l x13c) ∧ chkP x13 fun a14 => (0 ≤ a2 ∧ a2 < (x13l : Int)) ∧ ∃ (x15 : Int), cell h (a14.add (a2.toNat * 1)) = some (.int .i64 x15) ∧ chkP a1 fun a16 => ∃ (x17 : Option Addr) (x17l : Nat) (x17c : Nat), cell h a16 = some (.slice x17 x17l x17c) ∧ chkP x17 fun a18 => (0 ≤ a3 ∧ a3 < (x17l : Int)) ∧ ∃ (x19 : Int), cell h (a18.add (a3.toNat * 1)) = some (.int .i64 x19) ∧ iteB (x15 == x19) ((K (decide (a2 < a3)) h)) (K false h)))
def lift_Table_first.ret (K : Bool → Heap → Prop) (v : Value) (h : Heap) : Prop := match v with
  | (.bool r21) => K r21 h
  | _ => False
theorem lift_Table_first.ret_elim {K : Bool → Heap → Prop} {K' : Value → Heap → Prop} {v : Value} {h : Heap} (hk : ∀ r21 h, K r21 h → K' (.bool r21) h) (hh : lift_Table_first.ret K v h) : K' v h := by
  unfold lift_Table_first.ret at hh
  split at hh
  · exact hk _ _ hh
  · exact hh.elim
noncomputable def lift_Table_first.ctx : Ctx := { P := Tryd.prog, call := fun _ _ _ _ => False, qcall := fun _ _ _ _ => False, quiet := fun f => false, loop := fun _ _ _ _ => False }
theorem lift_Table_first.ok : lift_Table_first.ctx.OK where
  mixed := by kernel_rfl
  mono := fun hh _ => hh.elim
  call := fun hh => hh.elim
  qmono := fun hh _ => hh.elim
  qval := fun hh => hh.elim
  qcall := fun hh => hh.elim
noncomputable def lift_Table_first.code : Code := (Tryd.f38.body).getD .skip
def lift_Table_first.ann : Ann := (.two .auto (.two (.reg [0, 1, 3, 7, 0, 31, 63, 0, 128, 384, 896, 0, 3968, 8064, 16383, 32767, 65535, 131071, 262143, 524287, 65535, 2097151, 4194303, 65535, 8454143, 25231359, 58785791, 65535, 260112383, 528547839, 1073741823, 2147483647, 4294967295, 4294967295, 17179869183, 34359738367, 68719476735, 137438953471] (.take 0 (.take 1 (.take 2 (.take 3 (.take 4 (.take 5 (.take 6 (.take 7 (.take 8 (.take 9 (.take 10 (.take 11 (.take 12 (.take 13 (.take 14 (.take 15 (.take 16 (.take 17 (.take 18 (.take 19 (.take 20 (.take 21 (.take 22 (.take 23 (.take 24 (.take 25 (.take 26 (.take 27 (.take 28 (.take 29 (.take 30 (.take 31 (.take 32 (.take 33 (.take 34 (.take 35 (.take 36 (.take 37 .done))))))))))))))))))))))))))))))))))))))) .auto))
set_option maxRecDepth 100000 in
theorem lift_Table_first.eq (a1 : Option Addr) (a2 : Int) (a3 : Int) (h : Heap) (K : Bool → Heap → Prop) : evF lift_Table_first.ctx Tryd.f38 lift_Table_first.ann [(.pointer a1), (.int .i64 a2), (.int .i64 a3)] h (lift_Table_first.ret K) = lift_Table_first a1 a2 a3 h K := by kernel_rfl
set_option maxRecDepth 100000 in
theorem lift_Table_first.calls {a1 : Option Addr} {a2 : Int} {a3 : Int} {h : Heap} {K : Bool → Heap → Prop} (hh : lift_Table_first a1 a2 a3 h K) (w : World) (hw : w.heap = h) :
    (callFunc 38 #[(.pointer a1), (.int .i64 a2), (.int .i64 a3)]).run Tryd.prog w = .ok (.enter 38 #[(.pointer a1), (.int .i64 a2), (.int .i64 a3)]) w ∧ Calls Tryd.prog 38 #[(.pointer a1), (.int .i64 a2), (.int .i64 a3)] w fun e w' => ∃ v, e = .returned v ∧ Out w w' ∧ lift_Table_first.ret K v w'.heap := by
  rw [← lift_Table_first.eq] at hh
  exact fn_calls (args := [(.pointer a1), (.int .i64 a2), (.int .i64 a3)]) (c := lift_Table_first.code) lift_Table_first.ok Tryd.func38 (by kernel_rfl) (by kernel_rfl) (by kernel_rfl) (by kernel_rfl) (loops_ok (l := []) (by kernel_rfl) trivial) hh w hw

/-! ### strait/lift.better[int]: function 37 -/
def lift_better_int_lift_Table_first (a1 : Int) (a2 : Int) (a3 : Option Addr) (h : Heap) (K : Int → Heap → Prop) : Prop :=
  (iteB (decide (a1 < (0 : Int))) (K a2 h) (iteB (decide (a2 ≥ (0 : Int))) (callP1 (lift_Table_first a3 a2 a1 h) fun x4 h5 => (iteB x4 (K a2 h5) (K a1 h5))) ((K a1 h))))
def lift_better_int_lift_Table_first.ret (K : Int → Heap → Prop) (v : Value) (h : Heap) : Prop := match v with
  | (.int .i64 r9) => K r9 h
  | _ => False
theorem lift_better_int_lift_Table_first.ret_elim {K : Int → Heap → Prop} {K' : Value → Heap → Prop} {v : Value} {h : Heap} (hk : ∀ r9 h, K r9 h → K' (.int .i64 r9) h) (hh : lift_better_int_lift_Table_first.ret K v h) : K' v h := by
  unfold lift_better_int_lift_Table_first.ret at hh
  split at hh
  · exact hk _ _ hh
  · exact hh.elim
def lift_better_int_lift_Table_first.call (f : FuncId) (vs : List Value) (h : Heap) (K : Value → Heap → Prop) : Prop := match f, vs with
  | 38, [(.pointer a1), (.int .i64 a2), (.int .i64 a3)] => callP1 (lift_Table_first a1 a2 a3 h) fun r21 h' => K (.bool r21) h'
  | _, _ => False
noncomputable def lift_better_int_lift_Table_first.ctx : Ctx := { P := Tryd.prog, call := lift_better_int_lift_Table_first.call, qcall := fun _ _ _ _ => False, quiet := fun f => false, loop := fun _ _ _ _ => False }
theorem lift_better_int_lift_Table_first.ok : lift_better_int_lift_Table_first.ctx.OK where
  mixed := by kernel_rfl
  mono := by
    intro f args h K K' hh hk
    change lift_better_int_lift_Table_first.call f args h K at hh
    change lift_better_int_lift_Table_first.call f args h K'
    unfold lift_better_int_lift_Table_first.call at hh ⊢
    split at hh
    · obtain ⟨R, h1, h2⟩ := hh
      exact ⟨R, h1, fun _ x hr => hk _ _ (h2 _ x hr)⟩
    · exact hh.elim
  call := by
    intro f args h K hh w hw
    change lift_better_int_lift_Table_first.call f args h K at hh
    unfold lift_better_int_lift_Table_first.call at hh
    split at hh
    · obtain ⟨R, h1, h2⟩ := hh
      obtain ⟨g1, g2⟩ := lift_Table_first.calls h1 w hw
      exact ⟨g1, g2.mono fun e w' ⟨v, he, ho, hr⟩ => ⟨v, he, ho, lift_Table_first.ret_elim h2 hr⟩⟩
    · exact hh.elim
  qmono := fun hh _ => hh.elim
  qval := fun hh => hh.elim
  qcall := fun hh => hh.elim
noncomputable def lift_better_int_lift_Table_first.code : Code := (Tryd.f37.body).getD .skip
def lift_better_int_lift_Table_first.ann : Ann := .auto
set_option maxRecDepth 100000 in
theorem lift_better_int_lift_Table_first.eq (a1 : Int) (a2 : Int) (a3 : Option Addr) (h : Heap) (K : Int → Heap → Prop) : evF lift_better_int_lift_Table_first.ctx Tryd.f37 lift_better_int_lift_Table_first.ann [(.int .i64 a1), (.int .i64 a2), (.func (.func 38) #[(.pointer a3)] #[])] h (lift_better_int_lift_Table_first.ret K) = lift_better_int_lift_Table_first a1 a2 a3 h K := by kernel_rfl
set_option maxRecDepth 100000 in
theorem lift_better_int_lift_Table_first.calls {a1 : Int} {a2 : Int} {a3 : Option Addr} {h : Heap} {K : Int → Heap → Prop} (hh : lift_better_int_lift_Table_first a1 a2 a3 h K) (w : World) (hw : w.heap = h) :
    (callFunc 37 #[(.int .i64 a1), (.int .i64 a2), (.func (.func 38) #[(.pointer a3)] #[])]).run Tryd.prog w = .ok (.enter 37 #[(.int .i64 a1), (.int .i64 a2), (.func (.func 38) #[(.pointer a3)] #[])]) w ∧ Calls Tryd.prog 37 #[(.int .i64 a1), (.int .i64 a2), (.func (.func 38) #[(.pointer a3)] #[])] w fun e w' => ∃ v, e = .returned v ∧ Out w w' ∧ lift_better_int_lift_Table_first.ret K v w'.heap := by
  rw [← lift_better_int_lift_Table_first.eq] at hh
  exact fn_calls (args := [(.int .i64 a1), (.int .i64 a2), (.func (.func 38) #[(.pointer a3)] #[])]) (c := lift_better_int_lift_Table_first.code) lift_better_int_lift_Table_first.ok Tryd.func37 (by kernel_rfl) (by kernel_rfl) (by kernel_rfl) (by kernel_rfl) (loops_ok (l := []) (by kernel_rfl) trivial) hh w hw

/-! ### (*strait/lift.Table).climb: function 28 -/
def lift_Table_climb.b0 (K2 : Int → Int → Heap → Prop) (cont : (Option Addr) → Int → Int → Int → Heap → Prop) (c0_1001 : Option Addr) (v1_1002 : Int) (v2_1003 : Int) (v3_1004 : Int) (h1005 : Heap) : Prop :=
  (iteB (decide (v2_1003 > (0 : Int))) ((chkP c0_1001 fun a1006 => ∃ (x1007 : Int), cell h1005 (a1006.add 3) = some (.int .i64 x1007) ∧ chkP c0_1001 fun a1008 => stC h1005 (a1008.add 3) (.int .i64 (IntKind.i64.wrap (x1007 + 1))) fun h1009 => (chkP c0_1001 fun a1010 => ∃ (x1011 : Option Addr) (x1011l : Nat) (x1011c : Nat), cell h1009 (a1010.add 2) = some (.slice x1011 x1011l x1011c) ∧ qcallP1 h1009 (bits_TrailingZeros (IntKind.u64.wrap v2_1003) h1009) fun x1012 => chkP x1011 fun a1013 => (0 ≤ x1012 ∧ x1012 < (x1011l : Int)) ∧ ∃ (x1014 : Option Addr) (x1014l : Nat) (x1014c : Nat), cell h1009 (a1013.add (x1012.toNat * 1)) = some (.slice x1014 x1014l x1014c) ∧ chkP x1014 fun a1015 => (0 ≤ v1_1002 ∧ v1_1002 < (x1014l : Int)) ∧ ∃ (x1016 : Int), cell h1009 (a1015.add (v1_1002.toNat * 2)) = some (.int .i64 x1016) ∧ ∃ (x1017 : Int), cell h1009 ((a1015.add (v1_1002.toNat * 2)).add 1) = some (.int .i64 x1017) ∧ newP h1009 (.cells #[(.int .i64 0), (.int .i64 0)] 54) fun a1018 h1019 => (∃ (x1020 : Int), cell h1019 (a1015.add (v1_1002.toNat * 2)) = some (.int .i64 x1020) ∧ ∃ (x1021 : Int), cell h1019 ((a1015.add (v1_1002.toNat * 2)).add 1) = some (.int .i64 x1021) ∧ ((.agg #[(.int .i64 x1020), (.int .i64 x1021)]) : Value) = (.agg #[(.int .i64 x1016), (.int .i64 x1017)])) ∧ (∃ (x1022 : Option Addr) (x1022l : Nat) (x1022c : Nat), cell h1019 (a1013.add (x1012.toNat * 1)) = some (.slice x1022 x1022l x1022c) ∧ ((.slice x1022 x1022l x1022c) : Value) = (.slice x1014 x1014l x1014c)) ∧ (qcallP1 h1019 (bits_TrailingZeros (IntKind.u64.wrap v2_1003) h1019) fun x1023 => ((.int .i64 x1023) : Value) = (.int .i64 x1012)) ∧ (∃ (x1024 : Option Addr) (x1024l : Nat) (x1024c : Nat), cell h1019 (a1010.add 2) = some (.slice x1024 x1024l x1024c) ∧ ((.slice x1024 x1024l x1024c) : Value) = (.slice x1011 x1011l x1011c)) ∧ stC h1019 a1018 (.int .i64 x1016) fun h1025 => stC h1025 (a1018.add 1) (.int .i64 x1017) fun h1026 => (∃ (x1027 : Int), cell h1026 (a1018.add 1) = some (.int .i64 x1027) ∧ ∃ (x1028 : Int), cell h1026 a1018 = some (.int .i64 x1028) ∧ callP1 (lift_better_int_lift_Table_first v3_1004 x1027 c0_1001 h1026) fun x1029 h1030 => (∃ (x1031 : Int), cell h1030 a1018 = some (.int .i64 x1031) ∧ ((.int .i64 x1031) : Value) = (.int .i64 x1028)) ∧ ((bindV (bits .and .i64 v2_1003 (IntKind.i64.wrap (v2_1003 - 1))) fun n1032 => cont c0_1001 x1028 n1032 x1029 h1030)))))) (K2 v1_1002 v3_1004 h1005))
def lift_Table_climb.l0 (K2 : Int → Int → Heap → Prop) : Nat → (Option Addr) → Int → Int → Int → Heap → Prop
  | 0, _, _, _, _, _ => False
  | m + 1, c0_1001, v1_1002, v2_1003, v3_1004, h => lift_Table_climb.b0 K2 (lift_Table_climb.l0 K2 m) c0_1001 v1_1002 v2_1003 v3_1004 h
def lift_Table_climb (a1 : Option Addr) (a2 : Int) (a3 : Int) (a4 : Int) (h : Heap) (K : Int → Int → Heap → Prop) : Prop :=
  (∃ m8, lift_Table_climb.l0 (fun z5 z6 h7 => (K z5 z6 h7)) m8 a1 a2 a3 a4 h)
def lift_Table_climb.ret (K : Int → Int → Heap → Prop) (v : Value) (h : Heap) : Prop := match v with
  | (.tuple ⟨[(.int .i64 r9), (.int .i64 r10)]⟩) => K r9 r10 h
  | _ => False
theorem lift_Table_climb.ret_elim {K : Int → Int → Heap → Prop} {K' : Value → Heap → Prop} {v : Value} {h : Heap} (hk : ∀ r9 r10 h, K r9 r10 h → K' (.tuple #[(.int .i64 r9), (.int .i64 r10)]) h) (hh : lift_Table_climb.ret K v h) : K' v h := by
  unfold lift_Table_climb.ret at hh
  split at hh
  · exact hk _ _ _ hh
  · exact hh.elim
def lift_Table_climb.call (f : FuncId) (vs : List Value) (h : Heap) (K : Value → Heap → Prop) : Prop := match f, vs with
  | 37, [(.int .i64 a1), (.int .i64 a2), (.func (.func 38) ⟨[(.pointer a3)]⟩ ⟨[]⟩)] => callP1 (lift_better_int_lift_Table_first a1 a2 a3 h) fun r9 h' => K (.int .i64 r9) h'
  | _, _ => False
def lift_Table_climb.qcall (f : FuncId) (vs : List Value) (h : Heap) (K : Value → Prop) : Prop := match f, vs with
  | 39, [(.int .u64 a1)] => qcallP1 h (bits_TrailingZeros a1 h) fun r3 => K (.int .i64 r3)
  | _, _ => False
def lift_Table_climb.r0 (K : Nat → List Value → Heap → Prop) (m : Nat) (vs : List Value) (h : Heap) : Prop := match vs with
  | [(.pointer c0_1001), (.int .i64 v1_1002), (.int .i64 v2_1003), (.int .i64 v3_1004)] => lift_Table_climb.l0 (fun z11 z12 h' => K 2 [(.int .i64 z11), (.int .i64 z12)] h') m c0_1001 v1_1002 v2_1003 v3_1004 h
  | _ => False
def lift_Table_climb.loop (i : Nat) (vs : List Value) (h : Heap) (K : Nat → List Value → Heap → Prop) : Prop := match i with
  | 0 => ∃ m, lift_Table_climb.r0 K m vs h
  | _ => False
noncomputable def lift_Table_climb.ctx : Ctx := { P := Tryd.prog, call := lift_Table_climb.call, qcall := lift_Table_climb.qcall, quiet := fun f => Nat.beq f 39, loop := lift_Table_climb.loop }
theorem lift_Table_climb.ok : lift_Table_climb.ctx.OK where
  mixed := by kernel_rfl
  mono := by
    intro f args h K K' hh hk
    change lift_Table_climb.call f args h K at hh
    change lift_Table_climb.call f args h K'
    unfold lift_Table_climb.call at hh ⊢
    split at hh
    · obtain ⟨R, h1, h2⟩ := hh
      exact ⟨R, h1, fun _ x hr => hk _ _ (h2 _ x hr)⟩
    · exact hh.elim
  call := by
    intro f args h K hh w hw
    change lift_Table_climb.call f args h K at hh
    unfold lift_Table_climb.call at hh
    split at hh
    · obtain ⟨R, h1, h2⟩ := hh
      obtain ⟨g1, g2⟩ := lift_better_int_lift_Table_first.calls h1 w hw
      exact ⟨g1, g2.mono fun e w' ⟨v, he, ho, hr⟩ => ⟨v, he, ho, lift_better_int_lift_Table_first.ret_elim h2 hr⟩⟩
    · exact hh.elim
  qmono := by
    intro f args h K K' hh hk
    change lift_Table_climb.qcall f args h K at hh
    change lift_Table_climb.qcall f args h K'
    unfold lift_Table_climb.qcall at hh ⊢
    split at hh
    · obtain ⟨x0, h1, h2⟩ := hh
      exact ⟨x0, h1, hk _ h2⟩
    · exact hh.elim
  qval := by
    intro f args h K hh
    change lift_Table_climb.qcall f args h K at hh
    suffices H : ∃ v, K v ∧ lift_Table_climb.qcall f args h (· = v) from H
    unfold lift_Table_climb.qcall at hh ⊢
    split at hh
    · obtain ⟨x0, h1, h2⟩ := hh
      exact ⟨_, h2, x0, h1, rfl⟩
    · exact hh.elim
  qcall := by
    intro f args h v hh w hw
    change lift_Table_climb.qcall f args h (· = v) at hh
    unfold lift_Table_climb.qcall at hh
    split at hh
    · obtain ⟨x0, h1, h2⟩ := hh
      obtain ⟨g1, g2⟩ := bits_TrailingZeros.calls h1 w hw
      refine .inl ⟨g1, g2.mono fun e w' ⟨u, he, ho, hr⟩ => ?_⟩
      have hq := bits_TrailingZeros.ret_elim (K' := fun u h' => u = v ∧ h' = h) (fun _ h' hr => by obtain ⟨rfl, rfl⟩ := hr; exact ⟨h2, rfl⟩) hr
      exact ⟨hq.1 ▸ he, ho, hq.2⟩
    · exact hh.elim
noncomputable def lift_Table_climb.code : Code := (Tryd.f28.body).getD .skip
def lift_Table_climb.ann : Ann := (.two .auto (.two (.two (.loop 0 [0, 1, 2, 3] [(2, [1, 3])] (.two .auto (.two (.two (.two .auto (.two (.reg [0, 1, 3, 7, 0, 16, 48, 127, 255, 0, 1023, 2047, 0, 8191] (.take 0 (.take 1 (.take 2 (.take 4 (.take 5 (.take 9 (.early 3 (.early 6 (.take 7 (.early 8 (.take 10 (.early 11 (.alt 12 (.alt 13 .done .noalt) .noalt)))))))))))))) (.reg [0, 1, 0, 0, 8, 0, 32, 124, 255, 511] (.take 0 (.take 2 (.take 3 (.take 4 (.take 5 (.take 6 (.early 1 (.alt 7 (.take 8 (.take 9 .done)) .noalt))))))))))) .auto) .auto))) .auto) .auto))
noncomputable def lift_Table_climb.c0 : Code := sub lift_Table_climb.code [1, 0, 0, 0]
def lift_Table_climb.a0 : Ann := (.two .auto (.two (.two (.two .auto (.two (.reg [0, 1, 3, 7, 0, 16, 48, 127, 255, 0, 1023, 2047, 0, 8191] (.take 0 (.take 1 (.take 2 (.take 4 (.take 5 (.take 9 (.early 3 (.early 6 (.take 7 (.early 8 (.take 10 (.early 11 (.alt 12 (.alt 13 .done .noalt) .noalt)))))))))))))) (.reg [0, 1, 0, 0, 8, 0, 32, 124, 255, 511] (.take 0 (.take 2 (.take 3 (.take 4 (.take 5 (.take 6 (.early 1 (.alt 7 (.take 8 (.take 9 .done)) .noalt))))))))))) .auto) .auto))
def lift_Table_climb.keep0 : List Nat := [0, 1, 2, 3]
def lift_Table_climb.outs0 : List (Nat × List Nat) := [(2, [1, 3])]
set_option maxRecDepth 100000 in
theorem lift_Table_climb.L0 : LoopOK lift_Table_climb.ctx 46 lift_Table_climb.c0 0 lift_Table_climb.keep0 lift_Table_climb.outs0 := by
  refine loop_ok (n := lift_Table_climb.a0) lift_Table_climb.ok (by kernel_rfl) (loops_ok (l := []) (by kernel_rfl) ?_) lift_Table_climb.r0 ?_ ?_ (fun vs h K hh => hh)
  · exact trivial
  · intro K vs h hh
    unfold lift_Table_climb.r0 at hh
    split at hh
    · exact hh
    · exact hh
  · intro K m vs h hh
    unfold lift_Table_climb.r0 at hh
    split at hh
    · exact cast (by kernel_rfl) hh
    · exact hh.elim
set_option maxRecDepth 100000 in
theorem lift_Table_climb.eq (a1 : Option Addr) (a2 : Int) (a3 : Int) (a4 : Int) (h : Heap) (K : Int → Int → Heap → Prop) : evF lift_Table_climb.ctx Tryd.f28 lift_Table_climb.ann [(.pointer a1), (.int .i64 a2), (.int .i64 a3), (.int .i64 a4)] h (lift_Table_climb.ret K) = lift_Table_climb a1 a2 a3 a4 h K := by kernel_rfl
set_option maxRecDepth 100000 in
theorem lift_Table_climb.calls {a1 : Option Addr} {a2 : Int} {a3 : Int} {a4 : Int} {h : Heap} {K : Int → Int → Heap → Prop} (hh : lift_Table_climb a1 a2 a3 a4 h K) (w : World) (hw : w.heap = h) :
    (callFunc 28 #[(.pointer a1), (.int .i64 a2), (.int .i64 a3), (.int .i64 a4)]).run Tryd.prog w = .ok (.enter 28 #[(.pointer a1), (.int .i64 a2), (.int .i64 a3), (.int .i64 a4)]) w ∧ Calls Tryd.prog 28 #[(.pointer a1), (.int .i64 a2), (.int .i64 a3), (.int .i64 a4)] w fun e w' => ∃ v, e = .returned v ∧ Out w w' ∧ lift_Table_climb.ret K v w'.heap := by
  rw [← lift_Table_climb.eq] at hh
  exact fn_calls (args := [(.pointer a1), (.int .i64 a2), (.int .i64 a3), (.int .i64 a4)]) (c := lift_Table_climb.code) lift_Table_climb.ok Tryd.func28 (by kernel_rfl) (by kernel_rfl) (by kernel_rfl) (by kernel_rfl) (loops_ok (l := [(lift_Table_climb.c0, none, 0, lift_Table_climb.keep0, lift_Table_climb.outs0)]) (by kernel_rfl) ⟨lift_Table_climb.L0, trivial⟩) hh w hw

/-! ### (*strait/lift.Table).meet: function 27 -/
def lift_Table_meet.b0 (K2 : Int → Int → Int → Heap → Prop) (cont : (Option Addr) → Int → Int → Int → Int → Int → Heap → Prop) (c0_1001 : Option Addr) (v1_1002 : Int) (v2_1003 : Int) (v8_1004 : Int) (c62_1005 : Int) (v63_1006 : Int) (h1007 : Heap) : Prop :=
  (iteB (decide (v63_1006 < c62_1005)) (((chkP c0_1001 fun a1008 => ∃ (x1009 : Option Addr) (x1009l : Nat) (x1009c : Nat), cell h1007 (a1008.add 2) = some (.slice x1009 x1009l x1009c) ∧ chkP c0_1001 fun a1010 => ∃ (x1011 : Option Addr) (x1011l : Nat) (x1011c : Nat), cell h1007 (a1010.add 2) = some (.slice x1011 x1011l x1011c) ∧ bindV (IntKind.i64.wrap ((IntKind.i64.wrap ((x1011l : Int) - 1)) - v63_1006)) fun n1012 => chkP x1009 fun a1013 => (0 ≤ n1012 ∧ n1012 < (x1009l : Int)) ∧ ∃ (x1014 : Option Addr) (x1014l : Nat) (x1014c : Nat), cell h1007 (a1013.add (n1012.toNat * 1)) = some (.slice x1014 x1014l x1014c) ∧ (chkP c0_1001 fun a1015 => ∃ (x1016 : Int), cell h1007 (a1015.add 3) = some (.int .i64 x1016) ∧ chkP c0_1001 fun a1017 => stC h1007 (a1017.add 3) (.int .i64 (IntKind.i64.wrap (x1016 + 1))) fun h1018 => (let j1075 := (fun (y1061 : Addr) (y1062 : Addr) (h1063 : Heap) => ∃ (x1064 : Int), cell h1063 y1061 = some (.int .i64 x1064) ∧ ∃ (x1065 : Int), cell h1063 y1062 = some (.int .i64 x1065) ∧ (iteB (x1064 != x1065) (∃ (x1066 : Int), cell h1063 y1061 = some (.int .i64 x1066) ∧ ∃ (x1067 : Int), cell h1063 y1062 = some (.int .i64 x1067) ∧ (∃ (x1068 : Int), cell h1063 (y1061.add 1) = some (.int .i64 x1068) ∧ ∃ (x1069 : Int), cell h1063 (y1062.add 1) = some (.int .i64 x1069) ∧ callP1 (lift_better_int_lift_Table_first v8_1004 x1068 c0_1001 h1063) fun x1070 h1071 => (∃ (x1072 : Int), cell h1071 (y1062.add 1) = some (.int .i64 x1072) ∧ ((.int .i64 x1072) : Value) = (.int .i64 x1069)) ∧ callP1 (lift_better_int_lift_Table_first x1070 x1069 c0_1001 h1071) fun x1073 h1074 => ((cont c0_1001 x1066 x1067 x1073 c62_1005 (IntKind.i64.wrap (v63_1006 + 1)) h1074)))) (((cont c0_1001 v1_1002 v2_1003 v8_1004 c62_1005 (IntKind.i64.wrap (v63_1006 + 1)) h1063)))));
  chkP x1014 fun a1019 => (0 ≤ v1_1002 ∧ v1_1002 < (x1014l : Int)) ∧ chkP x1014 fun a1020 => (0 ≤ v2_1003 ∧ v2_1003 < (x1014l : Int)) ∧ ∃ (x1021 : Int), cell h1018 (a1019.add (v1_1002.toNat * 2)) = some (.int .i64 x1021) ∧ ∃ (x1022 : Int), cell h1018 ((a1019.add (v1_1002.toNat * 2)).add 1) = some (.int .i64 x1022) ∧ ∃ (x1023 : Int), cell h1018 (a1020.add (v2_1003.toNat * 2)) = some (.int .i64 x1023) ∧ ∃ (x1024 : Int), cell h1018 ((a1020.add (v2_1003.toNat * 2)).add 1) = some (.int .i64 x1024) ∧ (newP h1018 (.cells #[(.int .i64 0), (.int .i64 0)] 54) fun a1025 h1026 => (∃ (x1027 : Int), cell h1026 (a1020.add (v2_1003.toNat * 2)) = some (.int .i64 x1027) ∧ ∃ (x1028 : Int), cell h1026 ((a1020.add (v2_1003.toNat * 2)).add 1) = some (.int .i64 x1028) ∧ ((.agg #[(.int .i64 x1027), (.int .i64 x1028)]) : Value) = (.agg #[(.int .i64 x1023), (.int .i64 x1024)])) ∧ (∃ (x1029 : Int), cell h1026 (a1019.add (v1_1002.toNat * 2)) = some (.int .i64 x1029) ∧ ∃ (x1030 : Int), cell h1026 ((a1019.add (v1_1002.toNat * 2)).add 1) = some (.int .i64 x1030) ∧ ((.agg #[(.int .i64 x1029), (.int .i64 x1030)]) : Value) = (.agg #[(.int .i64 x1021), (.int .i64 x1022)])) ∧ newP h1026 (.cells #[(.int .i64 0), (.int .i64 0)] 54) fun a1031 h1032 => (∃ (x1033 : Int), cell h1032 (a1020.add (v2_1003.toNat * 2)) = some (.int .i64 x1033) ∧ ∃ (x1034 : Int), cell h1032 ((a1020.add (v2_1003.toNat * 2)).add 1) = some (.int .i64 x1034) ∧ ((.agg #[(.int .i64 x1033), (.int .i64 x1034)]) : Value) = (.agg #[(.int .i64 x1023), (.int .i64 x1024)])) ∧ (∃ (x1035 : Int), cell h1032 (a1019.add (v1_1002.toNat * 2)) = some (.int .i64 x1035) ∧ ∃ (x1036 : Int), cell h1032 ((a1019.add (v1_1002.toNat * 2)).add 1) = some (.int .i64 x1036) ∧ ((.agg #[(.int .i64 x1035), (.int .i64 x1036)]) : Value) = (.agg #[(.int .i64 x1021), (.int .i64 x1022)])) ∧ stC h1032 a1025 (.int .i64 x1021) fun h1037 => stC h1037 (a1025.add 1) (.int .i64 x1022) fun h1038 => (∃ (x1039 : Int), cell h1038 (a1020.add (v2_1003.toNat * 2)) = some (.int .i64 x1039) ∧ ∃ (x1040 : Int), cell h1038 ((a1020.add (v2_1003.toNat * 2)).add 1) = some (.int .i64 x1040) ∧ ((.agg #[(.int .i64 x1039), (.int .i64 x1040)]) : Value) = (.agg #[(.int .i64 x1023), (.int .i64 x1024)])) ∧ stC h1038 a1031 (.int .i64 x1023) fun h1041 => stC h1041 (a1031.add 1) (.int .i64 x1024) fun h1042 => (j1075 a1025 a1031 h1042)) ∧ (newP h1018 (.cells #[(.int .i64 0), (.int .i64 0)] 54) fun a1043 h1044 => (∃ (x1045 : Int), cell h1044 (a1020.add (v2_1003.toNat * 2)) = some (.int .i64 x1045) ∧ ∃ (x1046 : Int), cell h1044 ((a1020.add (v2_1003.toNat * 2)).add 1) = some (.int .i64 x1046) ∧ ((.agg #[(.int .i64 x1045), (.int .i64 x1046)]) : Value) = (.agg #[(.int .i64 x1023), (.int .i64 x1024)])) ∧ (∃ (x1047 : Int), cell h1044 (a1019.add (v1_1002.toNat * 2)) = some (.int .i64 x1047) ∧ ∃ (x1048 : Int), cell h1044 ((a1019.add (v1_1002.toNat * 2)).add 1) = some (.int .i64 x1048) ∧ ((.agg #[(.int .i64 x1047), (.int .i64 x1048)]) : Value) = (.agg #[(.int .i64 x1021), (.int .i64 x1022)])) ∧ newP h1044 (.cells #[(.int .i64 0), (.int .i64 0)] 54) fun a1049 h1050 => (∃ (x1051 : Int), cell h1050 (a1020.add (v2_1003.toNat * 2)) = some (.int .i64 x1051) ∧ ∃ (x1052 : Int), cell h1050 ((a1020.add (v2_1003.toNat * 2)).add 1) = some (.int .i64 x1052) ∧ ((.agg #[(.int .i64 x1051), (.int .i64 x1052)]) : Value) = (.agg #[(.int .i64 x1023), (.int .i64 x1024)])) ∧ (∃ (x1053 : Int), cell h1050 (a1019.add (v1_1002.toNat * 2)) = some (.int .i64 x1053) ∧ ∃ (x1054 : Int), cell h1050 ((a1019.add (v1_1002.toNat * 2)).add 1) = some (.int .i64 x1054) ∧ ((.agg #[(.int .i64 x1053), (.int .i64 x1054)]) : Value) = (.agg #[(.int .i64 x1021), (.int .i64 x1022)])) ∧ stC h1050 a1049 (.int .i64 x1021) fun h1055 => stC h1055 (a1049.add 1) (.int .i64 x1022) fun h1056 => (∃ (x1057 : Int), cell h1056 (a1020.add (v2_1003.toNat * 2)) = some (.int .i64 x1057) ∧ ∃ (x1058 : Int), cell h1056 ((a1020.add (v2_1003.toNat * 2)).add 1) = some (.int .i64 x1058) ∧ ((.agg #[(.int .i64 x1057), (.int .i64 x1058)]) : Value) = (.agg #[(.int .i64 x1023), (.int .i64 x1024)])) ∧ stC h1056 a1043 (.int .i64 x1023) fun h1059 => stC h1059 (a1043.add 1) (.int .i64 x1024) fun h1060 => (j1075 a1049 a1043 h1060))))))) (K2 v1_1002 v2_1003 v8_1004 h1007))
def lift_Table_meet.l0 (K2 : Int → Int → Int → Heap → Prop) : Nat → (Option Addr) → Int → Int → Int → Int → Int → Heap → Prop
  | 0, _, _, _, _, _, _, _ => False
  | m + 1, c0_1001, v1_1002, v2_1003, v8_1004, c62_1005, v63_1006, h => lift_Table_meet.b0 K2 (lift_Table_meet.l0 K2 m) c0_1001 v1_1002 v2_1003 v8_1004 c62_1005 v63_1006 h
def lift_Table_meet (a1 : Option Addr) (a2 : Int) (a3 : Int) (h : Heap) (K : Int → Int → Heap → Prop) : Prop :=
  (let j120 := (fun (y12 : Int) (y13 : Int) => chkP a1 fun a14 => ∃ (x15 : Option Addr) (x15l : Nat) (x15c : Nat), cell h (a14.add 1) = some (.slice x15 x15l x15c) ∧ chkP x15 fun a16 => (0 ≤ y12 ∧ y12 < (x15l : Int)) ∧ ∃ (x17 : Int), cell h (a16.add (y12.toNat * 1)) = some (.int .i64 x17) ∧ chkP a1 fun a18 => ∃ (x19 : Option Addr) (x19l : Nat) (x19c : Nat), cell h (a18.add 1) = some (.slice x19 x19l x19c) ∧ chkP x19 fun a20 => (0 ≤ y13 ∧ y13 < (x19l : Int)) ∧ ∃ (x21 : Int), cell h (a20.add (y13.toNat * 1)) = some (.int .i64 x21) ∧ callP2 (lift_Table_climb a1 y12 (IntKind.i64.wrap (x17 - x21)) (-1) h) fun x22 x23 h24 => ((iteB (x22 == y13) (K x22 x23 h24) ((chkP a1 fun a25 => ∃ (x26 : Option Addr) (x26l : Nat) (x26c : Nat), cell h24 (a25.add 2) = some (.slice x26 x26l x26c) ∧ (∃ m31, lift_Table_meet.l0 (fun z27 z28 z29 h30 => ((chkP a1 fun a32 => ∃ (x33 : Int), cell h30 (a32.add 3) = some (.int .i64 x33) ∧ chkP a1 fun a34 => stC h30 (a34.add 3) (.int .i64 (IntKind.i64.wrap (x33 + 1))) fun h35 => (let j119 := (fun (y106 : Addr) (y107 : Addr) (h108 : Heap) => ∃ (x109 : Int), cell h108 (y106.add 1) = some (.int .i64 x109) ∧ ∃ (x110 : Int), cell h108 y106 = some (.int .i64 x110) ∧ ∃ (x111 : Int), cell h108 (y107.add 1) = some (.int .i64 x111) ∧ callP1 (lift_better_int_lift_Table_first z29 x109 a1 h108) fun x112 h113 => (∃ (x114 : Int), cell h113 (y107.add 1) = some (.int .i64 x114) ∧ ((.int .i64 x114) : Value) = (.int .i64 x111)) ∧ (∃ (x115 : Int), cell h113 y106 = some (.int .i64 x115) ∧ ((.int .i64 x115) : Value) = (.int .i64 x110)) ∧ callP1 (lift_better_int_lift_Table_first x112 x111 a1 h113) fun x116 h117 => (∃ (x118 : Int), cell h117 y106 = some (.int .i64 x118) ∧ ((.int .i64 x118) : Value) = (.int .i64 x110)) ∧ K x110 x116 h117);
  chkP a1 fun a36 => chkP a1 fun a37 => ∃ (x38 : Option Addr) (x38l : Nat) (x38c : Nat), cell h35 (a36.add 2) = some (.slice x38 x38l x38c) ∧ chkP x38 fun a39 => (0 ≤ (0 : Int) ∧ (0 : Int) < (x38l : Int)) ∧ ∃ (x40 : Option Addr) (x40l : Nat) (x40c : Nat), cell h35 (a39.add ((0 : Int).toNat * 1)) = some (.slice x40 x40l x40c) ∧ chkP x40 fun a41 => (0 ≤ z27 ∧ z27 < (x40l : Int)) ∧ ∃ (x42 : Int), cell h35 (a41.add (z27.toNat * 2)) = some (.int .i64 x42) ∧ ∃ (x43 : Int), cell h35 ((a41.add (z27.toNat * 2)).add 1) = some (.int .i64 x43) ∧ ∃ (x44 : Option Addr) (x44l : Nat) (x44c : Nat), cell h35 (a37.add 2) = some (.slice x44 x44l x44c) ∧ chkP x44 fun a45 => (0 ≤ (0 : Int) ∧ (0 : Int) < (x44l : Int)) ∧ ∃ (x46 : Option Addr) (x46l : Nat) (x46c : Nat), cell h35 (a45.add ((0 : Int).toNat * 1)) = some (.slice x46 x46l x46c) ∧ chkP x46 fun a47 => (0 ≤ z28 ∧ z28 < (x46l : Int)) ∧ ∃ (x48 : Int), cell h35 (a47.add (z28.toNat * 2)) = some (.int .i64 x48) ∧ ∃ (x49 : Int), cell h35 ((a47.add (z28.toNat * 2)).add 1) = some (.int .i64 x49) ∧ (newP h35 (.cells #[(.int .i64 0), (.int .i64 0)] 54) fun a50 h51 => (∃ (x52 : Int), cell h51 (a47.add (z28.toNat * 2)) = some (.int .i64 x52) ∧ ∃ (x53 : Int), cell h51 ((a47.add (z28.toNat * 2)).add 1) = some (.int .i64 x53) ∧ ((.agg #[(.int .i64 x52), (.int .i64 x53)]) : Value) = (.agg #[(.int .i64 x48), (.int .i64 x49)])) ∧ (∃ (x54 : Option Addr) (x54l : Nat) (x54c : Nat), cell h51 (a45.add ((0 : Int).toNat * 1)) = some (.slice x54 x54l x54c) ∧ ((.slice x54 x54l x54c) : Value) = (.slice x46 x46l x46c)) ∧ (∃ (x55 : Option Addr) (x55l : Nat) (x55c : Nat), cell h51 (a37.add 2) = some (.slice x55 x55l x55c) ∧ ((.slice x55 x55l x55c) : Value) = (.slice x44 x44l x44c)) ∧ (∃ (x56 : Int), cell h51 (a41.add (z27.toNat * 2)) = some (.int .i64 x56) ∧ ∃ (x57 : Int), cell h51 ((a41.add (z27.toNat * 2)).add 1) = some (.int .i64 x57) ∧ ((.agg #[(.int .i64 x56), (.int .i64 x57)]) : Value) = (.agg #[(.int .i64 x42), (.int .i64 x43)])) ∧ (∃ (x58 : Option Addr) (x58l : Nat) (x58c : Nat), cell h51 (a39.add ((0 : Int).toNat * 1)) = some (.slice x58 x58l x58c) ∧ ((.slice x58 x58l x58c) : Value) = (.slice x40 x40l x40c)) ∧ (∃ (x59 : Option Addr) (x59l : Nat) (x59c : Nat), cell h51 (a36.add 2) = some (.slice x59 x59l x59c) ∧ ((.slice x59 x59l x59c) : Value) = (.slice x38 x38l x38c)) ∧ newP h51 (.cells #[(.int .i64 0), (.int .i64 0)] 54) fun a60 h61 => (∃ (x62 : Int), cell h61 (a47.add (z28.toNat * 2)) = some (.int .i64 x62) ∧ ∃ (x63 : Int), cell h61 ((a47.add (z28.toNat * 2)).add 1) = some (.int .i64 x63) ∧ ((.agg #[(.int .i64 x62), (.int .i64 x63)]) : Value) = (.agg #[(.int .i64 x48), (.int .i64 x49)])) ∧ (∃ (x64 : Option Addr) (x64l : Nat) (x64c : Nat), cell h61 (a45.add ((0 : Int).toNat * 1)) = some (.slice x64 x64l x64c) ∧ ((.slice x64 x64l x64c) : Value) = (.slice x46 x46l x46c)) ∧ (∃ (x65 : Option Addr) (x65l : Nat) (x65c : Nat), cell h61 (a37.add 2) = some (.slice x65 x65l x65c) ∧ ((.slice x65 x65l x65c) : Value) = (.slice x44 x44l x44c)) ∧ (∃ (x66 : Int), cell h61 (a41.add (z27.toNat * 2)) = some (.int .i64 x66) ∧ ∃ (x67 : Int), cell h61 ((a41.add (z27.toNat * 2)).add 1) = some (.int .i64 x67) ∧ ((.agg #[(.int .i64 x66), (.int .i64 x67)]) : Value) = (.agg #[(.int .i64 x42), (.int .i64 x43)])) ∧ (∃ (x68 : Option Addr) (x68l : Nat) (x68c : Nat), cell h61 (a39.add ((0 : Int).toNat * 1)) = some (.slice x68 x68l x68c) ∧ ((.slice x68 x68l x68c) : Value) = (.slice x40 x40l x40c)) ∧ (∃ (x69 : Option Addr) (x69l : Nat) (x69c : Nat), cell h61 (a36.add 2) = some (.slice x69 x69l x69c) ∧ ((.slice x69 x69l x69c) : Value) = (.slice x38 x38l x38c)) ∧ stC h61 a50 (.int .i64 x42) fun h70 => stC h70 (a50.add 1) (.int .i64 x43) fun h71 => (∃ (x72 : Int), cell h71 (a47.add (z28.toNat * 2)) = some (.int .i64 x72) ∧ ∃ (x73 : Int), cell h71 ((a47.add (z28.toNat * 2)).add 1) = some (.int .i64 x73) ∧ ((.agg #[(.int .i64 x72), (.int .i64 x73)]) : Value) = (.agg #[(.int .i64 x48), (.int .i64 x49)])) ∧ (∃ (x74 : Option Addr) (x74l : Nat) (x74c : Nat), cell h71 (a45.add ((0 : Int).toNat * 1)) = some (.slice x74 x74l x74c) ∧ ((.slice x74 x74l x74c) : Value) = (.slice x46 x46l x46c)) ∧ (∃ (x75 : Option Addr) (x75l : Nat) (x75c : Nat), cell h71 (a37.add 2) = some (.slice x75 x75l x75c) ∧ ((.slice x75 x75l x75c) : Value) = (.slice x44 x44l x44c)) ∧ stC h71 a60 (.int .i64 x48) fun h76 => stC h76 (a60.add 1) (.int .i64 x49) fun h77 => (j119 a50 a60 h77)) ∧ (newP h35 (.cells #[(.int .i64 0), (.int .i64 0)] 54) fun a78 h79 => (∃ (x80 : Int), cell h79 (a47.add (z28.toNat * 2)) = some (.int .i64 x80) ∧ ∃ (x81 : Int), cell h79 ((a47.add (z28.toNat * 2)).add 1) = some (.int .i64 x81) ∧ ((.agg #[(.int .i64 x80), (.int .i64 x81)]) : Value) = (.agg #[(.int .i64 x48), (.int .i64 x49)])) ∧ (∃ (x82 : Option Addr) (x82l : Nat) (x82c : Nat), cell h79 (a45.add ((0 : Int).toNat * 1)) = some (.slice x82 x82l x82c) ∧ ((.slice x82 x82l x82c) : Value) = (.slice x46 x46l x46c)) ∧ (∃ (x83 : Option Addr) (x83l : Nat) (x83c : Nat), cell h79 (a37.add 2) = some (.slice x83 x83l x83c) ∧ ((.slice x83 x83l x83c) : Value) = (.slice x44 x44l x44c)) ∧ (∃ (x84 : Int), cell h79 (a41.add (z27.toNat * 2)) = some (.int .i64 x84) ∧ ∃ (x85 : Int), cell h79 ((a41.add (z27.toNat * 2)).add 1) = some (.int .i64 x85) ∧ ((.agg #[(.int .i64 x84), (.int .i64 x85)]) : Value) = (.agg #[(.int .i64 x42), (.int .i64 x43)])) ∧ (∃ (x86 : Option Addr) (x86l : Nat) (x86c : Nat), cell h79 (a39.add ((0 : Int).toNat * 1)) = some (.slice x86 x86l x86c) ∧ ((.slice x86 x86l x86c) : Value) = (.slice x40 x40l x40c)) ∧ (∃ (x87 : Option Addr) (x87l : Nat) (x87c : Nat), cell h79 (a36.add 2) = some (.slice x87 x87l x87c) ∧ ((.slice x87 x87l x87c) : Value) = (.slice x38 x38l x38c)) ∧ newP h79 (.cells #[(.int .i64 0), (.int .i64 0)] 54) fun a88 h89 => (∃ (x90 : Int), cell h89 (a47.add (z28.toNat * 2)) = some (.int .i64 x90) ∧ ∃ (x91 : Int), cell h89 ((a47.add (z28.toNat * 2)).add 1) = some (.int .i64 x91) ∧ ((.agg #[(.int .i64 x90), (.int .i64 x91)]) : Value) = (.agg #[(.int .i64 x48), (.int .i64 x49)])) ∧ (∃ (x92 : Option Addr) (x92l : Nat) (x92c : Nat), cell h89 (a45.add ((0 : Int).toNat * 1)) = some (.slice x92 x92l x92c) ∧ ((.slice x92 x92l x92c) : Value) = (.slice x46 x46l x46c)) ∧ (∃ (x93 : Option Addr) (x93l : Nat) (x93c : Nat), cell h89 (a37.add 2) = some (.slice x93 x93l x93c) ∧ ((.slice x93 x93l x93c) : Value) = (.slice x44 x44l x44c)) ∧ (∃ (x94 : Int), cell h89 (a41.add (z27.toNat * 2)) = some (.int .i64 x94) ∧ ∃ (x95 : Int), cell h89 ((a41.add (z27.toNat * 2)).add 1) = some (.int .i64 x95) ∧ ((.agg #[(.int .i64 x94), (.int .i64 x95)]) : Value) = (.agg #[(.int .i64 x42), (.int .i64 x43)])) ∧ (∃ (x96 : Option Addr) (x96l : Nat) (x96c : Nat), cell h89 (a39.add ((0 : Int).toNat * 1)) = some (.slice x96 x96l x96c) ∧ ((.slice x96 x96l x96c) : Value) = (.slice x40 x40l x40c)) ∧ (∃ (x97 : Option Addr) (x97l : Nat) (x97c : Nat), cell h89 (a36.add 2) = some (.slice x97 x97l x97c) ∧ ((.slice x97 x97l x97c) : Value) = (.slice x38 x38l x38c)) ∧ stC h89 a88 (.int .i64 x42) fun h98 => stC h98 (a88.add 1) (.int .i64 x43) fun h99 => (∃ (x100 : Int), cell h99 (a47.add (z28.toNat * 2)) = some (.int .i64 x100) ∧ ∃ (x101 : Int), cell h99 ((a47.add (z28.toNat * 2)).add 1) = some (.int .i64 x101) ∧ ((.agg #[(.int .i64 x100), (.int .i64 x101)]) : Value) = (.agg #[(.int .i64 x48), (.int .i64 x49)])) ∧ (∃ (x102 : Option Addr) (x102l : Nat) (x102c : Nat), cell h99 (a45.add ((0 : Int).toNat * 1)) = some (.slice x102 x102l x102c) ∧ ((.slice x102 x102l x102c) : Value) = (.slice x46 x46l x46c)) ∧ (∃ (x103 : Option Addr) (x103l : Nat) (x103c : Nat), cell h99 (a37.add 2) = some (.slice x103 x103l x103c) ∧ ((.slice x103 x103l x103c) : Value) = (.slice x44 x44l x44c)) ∧ stC h99 a78 (.int .i64 x48) fun h104 => stC h104 (a78.add 1) (.int .i64 x49) fun h105 => (j119 a88 a78 h105)))))) m31 a1 x22 y13 x23 (x26l : Int) 0 h24))))));
  chkP a1 fun a4 => ∃ (x5 : Option Addr) (x5l : Nat) (x5c : Nat), cell h (a4.add 1) = some (.slice x5 x5l x5c) ∧ chkP x5 fun a6 => (0 ≤ a2 ∧ a2 < (x5l : Int)) ∧ ∃ (x7 : Int), cell h (a6.add (a2.toNat * 1)) = some (.int .i64 x7) ∧ chkP a1 fun a8 => ∃ (x9 : Option Addr) (x9l : Nat) (x9c : Nat), cell h (a8.add 1) = some (.slice x9 x9l x9c) ∧ chkP x9 fun a10 => (0 ≤ a3 ∧ a3 < (x9l : Int)) ∧ ∃ (x11 : Int), cell h (a10.add (a3.toNat * 1)) = some (.int .i64 x11) ∧ (iteB (decide (x7 < x11)) ((j120 a3 a2)) ((j120 a2 a3))))
def lift_Table_meet.ret (K : Int → Int → Heap → Prop) (v : Value) (h : Heap) : Prop := match v with
  | (.tuple ⟨[(.int .i64 r121), (.int .i64 r122)]⟩) => K r121 r122 h
  | _ => False
theorem lift_Table_meet.ret_elim {K : Int → Int → Heap → Prop} {K' : Value → Heap → Prop} {v : Value} {h : Heap} (hk : ∀ r121 r122 h, K r121 r122 h → K' (.tuple #[(.int .i64 r121), (.int .i64 r122)]) h) (hh : lift_Table_meet.ret K v h) : K' v h := by
  unfold lift_Table_meet.ret at hh
  split at hh
  · exact hk _ _ _ hh
  · exact hh.elim
def lift_Table_meet.call (f : FuncId) (vs : List Value) (h : Heap) (K : Value → Heap → Prop) : Prop := match f, vs with
  | 28, [(.pointer a1), (.int .i64 a2), (.int .i64 a3), (.int .i64 a4)] => callP2 (lift_Table_climb a1 a2 a3 a4 h) fun r9 r10 h' => K (.tuple #[(.int .i64 r9), (.int .i64 r10)]) h'
  | 37, [(.int .i64 a1), (.int .i64 a2), (.func (.func 38) ⟨[(.pointer a3)]⟩ ⟨[]⟩)] => callP1 (lift_better_int_lift_Table_first a1 a2 a3 h) fun r9 h' => K (.int .i64 r9) h'
  | _, _ => False
def lift_Table_meet.r0 (K : Nat → List Value → Heap → Prop) (m : Nat) (vs : List Value) (h : Heap) : Prop := match vs with
  | [(.pointer c0_1001), (.int .i64 v1_1002), (.int .i64 v2_1003), (.int .i64 v8_1004), (.int .i64 c62_1005), (.int .i64 v63_1006)] => lift_Table_meet.l0 (fun z123 z124 z125 h' => K 2 [(.pointer c0_1001), (.int .i64 z123), (.int .i64 z124), (.int .i64 z125)] h') m c0_1001 v1_1002 v2_1003 v8_1004 c62_1005 v63_1006 h
  | _ => False
def lift_Table_meet.loop (i : Nat) (vs : List Value) (h : Heap) (K : Nat → List Value → Heap → Prop) : Prop := match i with
  | 0 => ∃ m, lift_Table_meet.r0 K m vs h
  | _ => False
noncomputable def lift_Table_meet.ctx : Ctx := { P := Tryd.prog, call := lift_Table_meet.call, qcall := fun _ _ _ _ => False, quiet := fun f => false, loop := lift_Table_meet.loop }
theorem lift_Table_meet.ok : lift_Table_meet.ctx.OK where
  mixed := by kernel_rfl
  mono := by
    intro f args h K K' hh hk
    change lift_Table_meet.call f args h K at hh
    change lift_Table_meet.call f args h K'
    unfold lift_Table_meet.call at hh ⊢
    split at hh
    · obtain ⟨R, h1, h2⟩ := hh
      exact ⟨R, h1, fun _ _ x hr => hk _ _ (h2 _ _ x hr)⟩
    · obtain ⟨R, h1, h2⟩ := hh
      exact ⟨R, h1, fun _ x hr => hk _ _ (h2 _ x hr)⟩
    · exact hh.elim
  call := by
    intro f args h K hh w hw
    change lift_Table_meet.call f args h K at hh
    unfold lift_Table_meet.call at hh
    split at hh
    · obtain ⟨R, h1, h2⟩ := hh
      obtain ⟨g1, g2⟩ := lift_Table_climb.calls h1 w hw
      exact ⟨g1, g2.mono fun e w' ⟨v, he, ho, hr⟩ => ⟨v, he, ho, lift_Table_climb.ret_elim h2 hr⟩⟩
    · obtain ⟨R, h1, h2⟩ := hh
      obtain ⟨g1, g2⟩ := lift_better_int_lift_Table_first.calls h1 w hw
      exact ⟨g1, g2.mono fun e w' ⟨v, he, ho, hr⟩ => ⟨v, he, ho, lift_better_int_lift_Table_first.ret_elim h2 hr⟩⟩
    · exact hh.elim
  qmono := fun hh _ => hh.elim
  qval := fun hh => hh.elim
  qcall := fun hh => hh.elim
noncomputable def lift_Table_meet.code : Code := (Tryd.f27.body).getD .skip
def lift_Table_meet.ann : Ann := (.two .auto (.two (.two (.reg [0, 1, 3, 7, 0, 31, 63, 0, 128, 384, 896, 0, 3968, 8064, 16383] (.take 0 (.take 1 (.take 2 (.take 3 (.take 4 (.take 5 (.take 6 (.take 7 (.take 8 (.take 9 (.take 10 (.take 11 (.take 12 (.take 13 (.take 14 .done)))))))))))))))) .auto) (.two (.reg [0, 0, 0, 4, 12, 28, 0, 124, 252, 0, 512, 1536, 3584, 0, 15872, 32256, 65532, 131071, 262143, 524287, 524287, 1048575, 4194303] (.take 0 (.take 1 (.take 2 (.take 3 (.take 4 (.take 5 (.take 6 (.take 7 (.take 8 (.take 9 (.take 10 (.take 11 (.take 12 (.take 13 (.take 14 (.take 15 (.take 16 (.alt 17 (.take 18 (.take 19 (.take 20 (.take 21 (.take 22 .done))))) .noalt))))))))))))))))))) (.two .auto (.two (.two .auto (.two (.loop 0 [0, 1, 2, 8, 62, 63] [(2, [0, 1, 2, 8])] (.two .auto (.two .auto (.two (.two (.two .auto (.two (.reg [0, 1, 3, 7, 0, 16, 48, 112, 240, 496, 0, 2032, 4095, 8191, 16383] (.take 0 (.take 1 (.take 2 (.take 3 (.take 4 (.take 5 (.take 6 (.take 7 (.take 8 (.take 9 (.take 10 (.take 11 (.take 12 (.take 13 (.take 14 .done)))))))))))))))) (.two .auto (.two (.reg [0, 0, 3, 7, 0, 0, 48, 112, 0, 0, 783, 2047] (.take 0 (.take 1 (.take 2 (.take 4 (.take 5 (.take 6 (.early 3 (.early 7 (.alt 8 (.alt 9 (.alt 10 (.alt 11 .done .noalt) .noalt) .noalt) (.alt 9 (.alt 8 (.alt 10 (.alt 11 .done .noalt) .noalt) .noalt) .noalt))))))))))) (.two .auto (.two (.two (.reg [0, 1, 0, 4, 3, 31] (.take 0 (.take 1 (.take 2 (.take 3 (.take 4 (.take 5 .done))))))) (.reg [0, 0, 2, 0, 8, 31, 0, 64, 0, 256, 1023, 2047] (.take 0 (.take 1 (.take 2 (.take 3 (.take 4 (.take 6 (.take 8 (.take 9 (.early 7 (.alt 5 (.alt 10 (.take 11 .done) .noalt) .noalt)))))))))))) .auto)))))) .auto) .auto)))) .auto)) (.two .auto (.two (.reg [0, 1, 3, 7, 15, 31, 0, 127, 255, 0, 512, 1536, 3584, 7680, 15872, 0, 65024, 130560, 0, 0, 786943, 2097151] (.take 0 (.take 1 (.take 2 (.take 6 (.take 9 (.take 10 (.take 11 (.take 15 (.early 3 (.take 4 (.early 5 (.take 7 (.early 8 (.early 12 (.take 13 (.early 14 (.take 16 (.early 17 (.alt 18 (.alt 19 (.alt 20 (.alt 21 .done .noalt) .noalt) .noalt) (.alt 19 (.alt 18 (.alt 20 (.alt 21 .done .noalt) .noalt) .noalt) .noalt))))))))))))))))))))) (.two (.reg [0, 1, 0, 0, 8, 0, 32, 124, 0, 256, 0, 1024, 4092, 8191, 16383] (.take 0 (.take 2 (.take 3 (.take 4 (.take 5 (.take 6 (.take 8 (.take 10 (.take 11 (.early 1 (.early 9 (.alt 7 (.alt 12 (.take 13 (.take 14 .done)) .noalt) .noalt))))))))))))) .auto))))))))
noncomputable def lift_Table_meet.c0 : Code := sub lift_Table_meet.code [1, 1, 1, 1, 0, 1, 0, 0]
def lift_Table_meet.a0 : Ann := (.two .auto (.two .auto (.two (.two (.two .auto (.two (.reg [0, 1, 3, 7, 0, 16, 48, 112, 240, 496, 0, 2032, 4095, 8191, 16383] (.take 0 (.take 1 (.take 2 (.take 3 (.take 4 (.take 5 (.take 6 (.take 7 (.take 8 (.take 9 (.take 10 (.take 11 (.take 12 (.take 13 (.take 14 .done)))))))))))))))) (.two .auto (.two (.reg [0, 0, 3, 7, 0, 0, 48, 112, 0, 0, 783, 2047] (.take 0 (.take 1 (.take 2 (.take 4 (.take 5 (.take 6 (.early 3 (.early 7 (.alt 8 (.alt 9 (.alt 10 (.alt 11 .done .noalt) .noalt) .noalt) (.alt 9 (.alt 8 (.alt 10 (.alt 11 .done .noalt) .noalt) .noalt) .noalt))))))))))) (.two .auto (.two (.two (.reg [0, 1, 0, 4, 3, 31] (.take 0 (.take 1 (.take 2 (.take 3 (.take 4 (.take 5 .done))))))) (.reg [0, 0, 2, 0, 8, 31, 0, 64, 0, 256, 1023, 2047] (.take 0 (.take 1 (.take 2 (.take 3 (.take 4 (.take 6 (.take 8 (.take 9 (.early 7 (.alt 5 (.alt 10 (.take 11 .done) .noalt) .noalt)))))))))))) .auto)))))) .auto) .auto)))
def lift_Table_meet.keep0 : List Nat := [0, 1, 2, 8, 62, 63]
def lift_Table_meet.outs0 : List (Nat × List Nat) := [(2, [0, 1, 2, 8])]
set_option maxRecDepth 100000 in
theorem lift_Table_meet.L0 : LoopOK lift_Table_meet.ctx 154 lift_Table_meet.c0 0 lift_Table_meet.keep0 lift_Table_meet.outs0 := by
  refine loop_ok (n := lift_Table_meet.a0) lift_Table_meet.ok (by kernel_rfl) (loops_ok (l := []) (by kernel_rfl) ?_) lift_Table_meet.r0 ?_ ?_ (fun vs h K hh => hh)
  · exact trivial
  · intro K vs h hh
    unfold lift_Table_meet.r0 at hh
    split at hh
    · exact hh
    · exact hh
  · intro K m vs h hh
    unfold lift_Table_meet.r0 at hh
    split at hh
    · exact cast (by kernel_rfl) hh
    · exact hh.elim
set_option maxRecDepth 100000 in
theorem lift_Table_meet.eq (a1 : Option Addr) (a2 : Int) (a3 : Int) (h : Heap) (K : Int → Int → Heap → Prop) : evF lift_Table_meet.ctx Tryd.f27 lift_Table_meet.ann [(.pointer a1), (.int .i64 a2), (.int .i64 a3)] h (lift_Table_meet.ret K) = lift_Table_meet a1 a2 a3 h K := by kernel_rfl
set_option maxRecDepth 100000 in
theorem lift_Table_meet.calls {a1 : Option Addr} {a2 : Int} {a3 : Int} {h : Heap} {K : Int → Int → Heap → Prop} (hh : lift_Table_meet a1 a2 a3 h K) (w : World) (hw : w.heap = h) :
    (callFunc 27 #[(.pointer a1), (.int .i64 a2), (.int .i64 a3)]).run Tryd.prog w = .ok (.enter 27 #[(.pointer a1), (.int .i64 a2), (.int .i64 a3)]) w ∧ Calls Tryd.prog 27 #[(.pointer a1), (.int .i64 a2), (.int .i64 a3)] w fun e w' => ∃ v, e = .returned v ∧ Out w w' ∧ lift_Table_meet.ret K v w'.heap := by
  rw [← lift_Table_meet.eq] at hh
  exact fn_calls (args := [(.pointer a1), (.int .i64 a2), (.int .i64 a3)]) (c := lift_Table_meet.code) lift_Table_meet.ok Tryd.func27 (by kernel_rfl) (by kernel_rfl) (by kernel_rfl) (by kernel_rfl) (loops_ok (l := [(lift_Table_meet.c0, none, 0, lift_Table_meet.keep0, lift_Table_meet.outs0)]) (by kernel_rfl) ⟨lift_Table_meet.L0, trivial⟩) hh w hw

/-! ### (*strait/lift.Table).Least: function 14 -/
def lift_Table_Least (a1 : Option Addr) (a2 : Int) (a3 : Int) (h : Heap) (K : Int → Bool → Heap → Prop) : Prop :=
  ((iteB a1.isNone (K 0 false h) ((chkP a1 fun a4 => stC h (a4.add 3) (.int .i64 0) fun h5 => (qcallP1 h5 (lift_Table_in a1 a2 h5) fun x6 => iteB (!x6) (K 0 false h5) (qcallP1 h5 (lift_Table_in a1 a3 h5) fun x7 => (iteB (!x7) (K 0 false h5) ((callP2 (lift_Table_meet a1 a2 a3 h5) fun x15 x16 h17 => ((iteB (decide (x16 < (0 : Int))) (K 0 false h17) (K x16 true h17))))))))))))
def lift_Table_Least.ret (K : Int → Bool → Heap → Prop) (v : Value) (h : Heap) : Prop := match v with
  | (.tuple ⟨[(.int .i64 r18), (.bool r19)]⟩) => K r18 r19 h
  | _ => False
theorem lift_Table_Least.ret_elim {K : Int → Bool → Heap → Prop} {K' : Value → Heap → Prop} {v : Value} {h : Heap} (hk : ∀ r18 r19 h, K r18 r19 h → K' (.tuple #[(.int .i64 r18), (.bool r19)]) h) (hh : lift_Table_Least.ret K v h) : K' v h := by
  unfold lift_Table_Least.ret at hh
  split at hh
  · exact hk _ _ _ hh
  · exact hh.elim
def lift_Table_Least.call (f : FuncId) (vs : List Value) (h : Heap) (K : Value → Heap → Prop) : Prop := match f, vs with
  | 27, [(.pointer a1), (.int .i64 a2), (.int .i64 a3)] => callP2 (lift_Table_meet a1 a2 a3 h) fun r121 r122 h' => K (.tuple #[(.int .i64 r121), (.int .i64 r122)]) h'
  | _, _ => False
def lift_Table_Least.qcall (f : FuncId) (vs : List Value) (h : Heap) (K : Value → Prop) : Prop := match f, vs with
  | 26, [(.pointer a1), (.int .i64 a2)] => qcallP1 h (lift_Table_in a1 a2 h) fun r5 => K (.bool r5)
  | _, _ => False
noncomputable def lift_Table_Least.ctx : Ctx := { P := Tryd.prog, call := lift_Table_Least.call, qcall := lift_Table_Least.qcall, quiet := fun f => Nat.beq f 26, loop := fun _ _ _ _ => False }
theorem lift_Table_Least.ok : lift_Table_Least.ctx.OK where
  mixed := by kernel_rfl
  mono := by
    intro f args h K K' hh hk
    change lift_Table_Least.call f args h K at hh
    change lift_Table_Least.call f args h K'
    unfold lift_Table_Least.call at hh ⊢
    split at hh
    · obtain ⟨R, h1, h2⟩ := hh
      exact ⟨R, h1, fun _ _ x hr => hk _ _ (h2 _ _ x hr)⟩
    · exact hh.elim
  call := by
    intro f args h K hh w hw
    change lift_Table_Least.call f args h K at hh
    unfold lift_Table_Least.call at hh
    split at hh
    · obtain ⟨R, h1, h2⟩ := hh
      obtain ⟨g1, g2⟩ := lift_Table_meet.calls h1 w hw
      exact ⟨g1, g2.mono fun e w' ⟨v, he, ho, hr⟩ => ⟨v, he, ho, lift_Table_meet.ret_elim h2 hr⟩⟩
    · exact hh.elim
  qmono := by
    intro f args h K K' hh hk
    change lift_Table_Least.qcall f args h K at hh
    change lift_Table_Least.qcall f args h K'
    unfold lift_Table_Least.qcall at hh ⊢
    split at hh
    · obtain ⟨x0, h1, h2⟩ := hh
      exact ⟨x0, h1, hk _ h2⟩
    · exact hh.elim
  qval := by
    intro f args h K hh
    change lift_Table_Least.qcall f args h K at hh
    suffices H : ∃ v, K v ∧ lift_Table_Least.qcall f args h (· = v) from H
    unfold lift_Table_Least.qcall at hh ⊢
    split at hh
    · obtain ⟨x0, h1, h2⟩ := hh
      exact ⟨_, h2, x0, h1, rfl⟩
    · exact hh.elim
  qcall := by
    intro f args h v hh w hw
    change lift_Table_Least.qcall f args h (· = v) at hh
    unfold lift_Table_Least.qcall at hh
    split at hh
    · obtain ⟨x0, h1, h2⟩ := hh
      obtain ⟨g1, g2⟩ := lift_Table_in.calls h1 w hw
      refine .inl ⟨g1, g2.mono fun e w' ⟨u, he, ho, hr⟩ => ?_⟩
      have hq := lift_Table_in.ret_elim (K' := fun u h' => u = v ∧ h' = h) (fun _ h' hr => by obtain ⟨rfl, rfl⟩ := hr; exact ⟨h2, rfl⟩) hr
      exact ⟨hq.1 ▸ he, ho, hq.2⟩
    · exact hh.elim
noncomputable def lift_Table_Least.code : Code := (Tryd.f14.body).getD .skip
def lift_Table_Least.ann : Ann := .auto
set_option maxRecDepth 100000 in
theorem lift_Table_Least.eq (a1 : Option Addr) (a2 : Int) (a3 : Int) (h : Heap) (K : Int → Bool → Heap → Prop) : evF lift_Table_Least.ctx Tryd.f14 lift_Table_Least.ann [(.pointer a1), (.int .i64 a2), (.int .i64 a3)] h (lift_Table_Least.ret K) = lift_Table_Least a1 a2 a3 h K := by kernel_rfl
set_option maxRecDepth 100000 in
theorem lift_Table_Least.calls {a1 : Option Addr} {a2 : Int} {a3 : Int} {h : Heap} {K : Int → Bool → Heap → Prop} (hh : lift_Table_Least a1 a2 a3 h K) (w : World) (hw : w.heap = h) :
    (callFunc 14 #[(.pointer a1), (.int .i64 a2), (.int .i64 a3)]).run Tryd.prog w = .ok (.enter 14 #[(.pointer a1), (.int .i64 a2), (.int .i64 a3)]) w ∧ Calls Tryd.prog 14 #[(.pointer a1), (.int .i64 a2), (.int .i64 a3)] w fun e w' => ∃ v, e = .returned v ∧ Out w w' ∧ lift_Table_Least.ret K v w'.heap := by
  rw [← lift_Table_Least.eq] at hh
  exact fn_calls (args := [(.pointer a1), (.int .i64 a2), (.int .i64 a3)]) (c := lift_Table_Least.code) lift_Table_Least.ok Tryd.func14 (by kernel_rfl) (by kernel_rfl) (by kernel_rfl) (by kernel_rfl) (loops_ok (l := []) (by kernel_rfl) trivial) hh w hw

/-! ### math/bits.Len32: function 40 -/
def bits_Len32 (a1 : Int) (h : Heap) (K : Int → Heap → Prop) : Prop :=
  (let j9 := (fun (y2 : Int) (y3 : Int) => let j8 := (fun (y4 : Int) (y5 : Int) => 0 ≤ (IntKind.u8.wrap y4) ∧ ∃ b6 : UInt8, (⟨#[0, 1, 2, 2, 3, 3, 3, 3, 4, 4, 4, 4, 4, 4, 4, 4, 5, 5, 5, 5, 5, 5, 5, 5, 5, 5, 5, 5, 5, 5, 5, 5, 6, 6, 6, 6, 6, 6, 6, 6, 6, 6, 6, 6, 6, 6, 6, 6, 6, 6, 6, 6, 6, 6, 6, 6, 6, 6, 6, 6, 6, 6, 6, 6, 7, 7, 7, 7, 7, 7, 7, 7, 7, 7, 7, 7, 7, 7, 7, 7, 7, 7, 7, 7, 7, 7, 7, 7, 7, 7, 7, 7, 7, 7, 7, 7, 7, 7, 7, 7, 7, 7, 7, 7, 7, 7, 7, 7, 7, 7, 7, 7, 7, 7, 7, 7, 7, 7, 7, 7, 7, 7, 7, 7, 7, 7, 7, 7, 8, 8, 8, 8, 8, 8, 8, 8, 8, 8, 8, 8, 8, 8, 8, 8, 8, 8, 8, 8, 8, 8, 8, 8, 8, 8, 8, 8, 8, 8, 8, 8, 8, 8, 8, 8, 8, 8, 8, 8, 8, 8, 8, 8, 8, 8, 8, 8, 8, 8, 8, 8, 8, 8, 8, 8, 8, 8, 8, 8, 8, 8, 8, 8, 8, 8, 8, 8, 8, 8, 8, 8, 8, 8, 8, 8, 8, 8, 8, 8, 8, 8, 8, 8, 8, 8, 8, 8, 8, 8, 8, 8, 8, 8, 8, 8, 8, 8, 8, 8, 8, 8, 8, 8, 8, 8, 8, 8, 8, 8, 8, 8, 8, 8, 8, 8, 8, 8, 8, 8, 8, 8, 8, 8, 8, 8, 8, 8]⟩ : ByteArray)[(IntKind.u8.wrap y4).toNat]? = some b6 ∧ bindV (IntKind.i64.wrap (y5 + (IntKind.i64.wrap (b6.toNat : Int)))) fun n7 => K n7 h);
  (iteB (decide (y2 ≥ (256 : Int))) (0 ≤ (8 : Int) ∧ ((j8 (y2.fdiv (2 ^ 8)) (IntKind.i64.wrap (y3 + 8))))) ((j8 y2 y3))));
  (iteB (decide (a1 ≥ (65536 : Int))) (0 ≤ (16 : Int) ∧ ((j9 (a1.fdiv (2 ^ 16)) 16))) ((j9 a1 0))))
def bits_Len32.ret (K : Int → Heap → Prop) (v : Value) (h : Heap) : Prop := match v with
  | (.int .i64 r10) => K r10 h
  | _ => False
theorem bits_Len32.ret_elim {K : Int → Heap → Prop} {K' : Value → Heap → Prop} {v : Value} {h : Heap} (hk : ∀ r10 h, K r10 h → K' (.int .i64 r10) h) (hh : bits_Len32.ret K v h) : K' v h := by
  unfold bits_Len32.ret at hh
  split at hh
  · exact hk _ _ hh
  · exact hh.elim
noncomputable def bits_Len32.ctx : Ctx := { P := Tryd.prog, call := fun _ _ _ _ => False, qcall := fun _ _ _ _ => False, quiet := fun f => false, loop := fun _ _ _ _ => False }
theorem bits_Len32.ok : bits_Len32.ctx.OK where
  mixed := by kernel_rfl
  mono := fun hh _ => hh.elim
  call := fun hh => hh.elim
  qmono := fun hh _ => hh.elim
  qval := fun hh => hh.elim
  qcall := fun hh => hh.elim
noncomputable def bits_Len32.code : Code := (Tryd.f40.body).getD .skip
def bits_Len32.ann : Ann := .auto
set_option maxRecDepth 100000 in
theorem bits_Len32.eq (a1 : Int) (h : Heap) (K : Int → Heap → Prop) : evF bits_Len32.ctx Tryd.f40 bits_Len32.ann [(.int .u32 a1)] h (bits_Len32.ret K) = bits_Len32 a1 h K := by kernel_rfl
set_option maxRecDepth 100000 in
theorem bits_Len32.calls {a1 : Int} {h : Heap} {K : Int → Heap → Prop} (hh : bits_Len32 a1 h K) (w : World) (hw : w.heap = h) :
    (callFunc 40 #[(.int .u32 a1)]).run Tryd.prog w = .ok (.enter 40 #[(.int .u32 a1)]) w ∧ Calls Tryd.prog 40 #[(.int .u32 a1)] w fun e w' => ∃ v, e = .returned v ∧ Out w w' ∧ bits_Len32.ret K v w'.heap := by
  rw [← bits_Len32.eq] at hh
  exact fn_calls (args := [(.int .u32 a1)]) (c := bits_Len32.code) bits_Len32.ok Tryd.func40 (by kernel_rfl) (by kernel_rfl) (by kernel_rfl) (by kernel_rfl) (loops_ok (l := []) (by kernel_rfl) trivial) hh w hw

/-! ### math/bits.Len64: function 41 -/
def bits_Len64 (a1 : Int) (h : Heap) (K : Int → Heap → Prop) : Prop :=
  (let j12 := (fun (y2 : Int) (y3 : Int) => let j11 := (fun (y4 : Int) (y5 : Int) => let j10 := (fun (y6 : Int) (y7 : Int) => 0 ≤ (IntKind.u8.wrap y6) ∧ ∃ b8 : UInt8, (⟨#[0, 1, 2, 2, 3, 3, 3, 3, 4, 4, 4, 4, 4, 4, 4, 4, 5, 5, 5, 5, 5, 5, 5, 5, 5, 5, 5, 5, 5, 5, 5, 5, 6, 6, 6, 6, 6, 6, 6, 6, 6, 6, 6, 6, 6, 6, 6, 6, 6, 6, 6, 6, 6, 6, 6, 6, 6, 6, 6, 6, 6, 6, 6, 6, 7, 7, 7, 7, 7, 7, 7, 7, 7, 7, 7, 7, 7, 7, 7, 7, 7, 7, 7, 7, 7, 7, 7, 7, 7, 7, 7, 7, 7, 7, 7, 7, 7, 7, 7, 7, 7, 7, 7, 7, 7, 7, 7, 7, 7, 7, 7, 7, 7, 7, 7, 7, 7, 7, 7, 7, 7, 7, 7, 7, 7, 7, 7, 7, 8, 8, 8, 8, 8, 8, 8, 8, 8, 8, 8, 8, 8, 8, 8, 8, 8, 8, 8, 8, 8, 8, 8, 8, 8, 8, 8, 8, 8, 8, 8, 8, 8, 8, 8, 8, 8, 8, 8, 8, 8, 8, 8, 8, 8, 8, 8, 8, 8, 8, 8, 8, 8, 8, 8, 8, 8, 8, 8, 8, 8, 8, 8, 8, 8, 8, 8, 8, 8, 8, 8, 8, 8, 8, 8, 8, 8, 8, 8, 8, 8, 8, 8, 8, 8, 8, 8, 8, 8, 8, 8, 8, 8, 8, 8, 8, 8, 8, 8, 8, 8, 8, 8, 8, 8, 8, 8, 8, 8, 8, 8, 8, 8, 8, 8, 8, 8, 8, 8, 8, 8, 8, 8, 8, 8, 8, 8, 8]⟩ : ByteArray)[(IntKind.u8.wrap y6).toNat]? = some b8 ∧ bindV (IntKind.i64.wrap (y7 + (IntKind.i64.wrap (b8.toNat : Int)))) fun n9 => K n9 h);
  (iteB (decide (y4 ≥ (256 : Int))) (0 ≤ (8 : Int) ∧ ((j10 (y4.fdiv (2 ^ 8)) (IntKind.i64.wrap (y5 + 8))))) ((j10 y4 y5))));
  (iteB (decide (y2 ≥ (65536 : Int))) (0 ≤ (16 : Int) ∧ ((j11 (y2.fdiv (2 ^ 16)) (IntKind.i64.wrap (y3 + 16))))) ((j11 y2 y3))));
  (iteB (decide (a1 ≥ (4294967296 : Int))) (0 ≤ (32 : Int) ∧ ((j12 (a1.fdiv (2 ^ 32)) 32))) ((j12 a1 0))))
def bits_Len64.ret (K : Int → Heap → Prop) (v : Value) (h : Heap) : Prop := match v with
  | (.int .i64 r13) => K r13 h
  | _ => False
theorem bits_Len64.ret_elim {K : Int → Heap → Prop} {K' : Value → Heap → Prop} {v : Value} {h : Heap} (hk : ∀ r13 h, K r13 h → K' (.int .i64 r13) h) (hh : bits_Len64.ret K v h) : K' v h := by
  unfold bits_Len64.ret at hh
  split at hh
  · exact hk _ _ hh
  · exact hh.elim
noncomputable def bits_Len64.ctx : Ctx := { P := Tryd.prog, call := fun _ _ _ _ => False, qcall := fun _ _ _ _ => False, quiet := fun f => false, loop := fun _ _ _ _ => False }
theorem bits_Len64.ok : bits_Len64.ctx.OK where
  mixed := by kernel_rfl
  mono := fun hh _ => hh.elim
  call := fun hh => hh.elim
  qmono := fun hh _ => hh.elim
  qval := fun hh => hh.elim
  qcall := fun hh => hh.elim
noncomputable def bits_Len64.code : Code := (Tryd.f41.body).getD .skip
def bits_Len64.ann : Ann := .auto
set_option maxRecDepth 100000 in
theorem bits_Len64.eq (a1 : Int) (h : Heap) (K : Int → Heap → Prop) : evF bits_Len64.ctx Tryd.f41 bits_Len64.ann [(.int .u64 a1)] h (bits_Len64.ret K) = bits_Len64 a1 h K := by kernel_rfl
set_option maxRecDepth 100000 in
theorem bits_Len64.calls {a1 : Int} {h : Heap} {K : Int → Heap → Prop} (hh : bits_Len64 a1 h K) (w : World) (hw : w.heap = h) :
    (callFunc 41 #[(.int .u64 a1)]).run Tryd.prog w = .ok (.enter 41 #[(.int .u64 a1)]) w ∧ Calls Tryd.prog 41 #[(.int .u64 a1)] w fun e w' => ∃ v, e = .returned v ∧ Out w w' ∧ bits_Len64.ret K v w'.heap := by
  rw [← bits_Len64.eq] at hh
  exact fn_calls (args := [(.int .u64 a1)]) (c := bits_Len64.code) bits_Len64.ok Tryd.func41 (by kernel_rfl) (by kernel_rfl) (by kernel_rfl) (by kernel_rfl) (loops_ok (l := []) (by kernel_rfl) trivial) hh w hw

/-! ### math/bits.Len: function 35 -/
def bits_Len (a1 : Int) (h : Heap) (K : Int → Heap → Prop) : Prop :=
  ((qcallP1 h (bits_Len64 a1 h) fun x2 => K x2 h))
def bits_Len.ret (K : Int → Heap → Prop) (v : Value) (h : Heap) : Prop := match v with
  | (.int .i64 r3) => K r3 h
  | _ => False
theorem bits_Len.ret_elim {K : Int → Heap → Prop} {K' : Value → Heap → Prop} {v : Value} {h : Heap} (hk : ∀ r3 h, K r3 h → K' (.int .i64 r3) h) (hh : bits_Len.ret K v h) : K' v h := by
  unfold bits_Len.ret at hh
  split at hh
  · exact hk _ _ hh
  · exact hh.elim
def bits_Len.qcall (f : FuncId) (vs : List Value) (h : Heap) (K : Value → Prop) : Prop := match f, vs with
  | 41, [(.int .u64 a1)] => qcallP1 h (bits_Len64 a1 h) fun r13 => K (.int .i64 r13)
  | _, _ => False
noncomputable def bits_Len.ctx : Ctx := { P := Tryd.prog, call := fun _ _ _ _ => False, qcall := bits_Len.qcall, quiet := fun f => Nat.beq f 40 || Nat.beq f 41, loop := fun _ _ _ _ => False }
theorem bits_Len.ok : bits_Len.ctx.OK where
  mixed := by kernel_rfl
  mono := fun hh _ => hh.elim
  call := fun hh => hh.elim
  qmono := by
    intro f args h K K' hh hk
    change bits_Len.qcall f args h K at hh
    change bits_Len.qcall f args h K'
    unfold bits_Len.qcall at hh ⊢
    split at hh
    · obtain ⟨x0, h1, h2⟩ := hh
      exact ⟨x0, h1, hk _ h2⟩
    · exact hh.elim
  qval := by
    intro f args h K hh
    change bits_Len.qcall f args h K at hh
    suffices H : ∃ v, K v ∧ bits_Len.qcall f args h (· = v) from H
    unfold bits_Len.qcall at hh ⊢
    split at hh
    · obtain ⟨x0, h1, h2⟩ := hh
      exact ⟨_, h2, x0, h1, rfl⟩
    · exact hh.elim
  qcall := by
    intro f args h v hh w hw
    change bits_Len.qcall f args h (· = v) at hh
    unfold bits_Len.qcall at hh
    split at hh
    · obtain ⟨x0, h1, h2⟩ := hh
      obtain ⟨g1, g2⟩ := bits_Len64.calls h1 w hw
      refine .inl ⟨g1, g2.mono fun e w' ⟨u, he, ho, hr⟩ => ?_⟩
      have hq := bits_Len64.ret_elim (K' := fun u h' => u = v ∧ h' = h) (fun _ h' hr => by obtain ⟨rfl, rfl⟩ := hr; exact ⟨h2, rfl⟩) hr
      exact ⟨hq.1 ▸ he, ho, hq.2⟩
    · exact hh.elim
noncomputable def bits_Len.code : Code := (Tryd.f35.body).getD .skip
def bits_Len.ann : Ann := .auto
set_option maxRecDepth 100000 in
theorem bits_Len.eq (a1 : Int) (h : Heap) (K : Int → Heap → Prop) : evF bits_Len.ctx Tryd.f35 bits_Len.ann [(.int .u64 a1)] h (bits_Len.ret K) = bits_Len a1 h K := by kernel_rfl
set_option maxRecDepth 100000 in
theorem bits_Len.calls {a1 : Int} {h : Heap} {K : Int → Heap → Prop} (hh : bits_Len a1 h K) (w : World) (hw : w.heap = h) :
    (callFunc 35 #[(.int .u64 a1)]).run Tryd.prog w = .ok (.enter 35 #[(.int .u64 a1)]) w ∧ Calls Tryd.prog 35 #[(.int .u64 a1)] w fun e w' => ∃ v, e = .returned v ∧ Out w w' ∧ bits_Len.ret K v w'.heap := by
  rw [← bits_Len.eq] at hh
  exact fn_calls (args := [(.int .u64 a1)]) (c := bits_Len.code) bits_Len.ok Tryd.func35 (by kernel_rfl) (by kernel_rfl) (by kernel_rfl) (by kernel_rfl) (loops_ok (l := []) (by kernel_rfl) trivial) hh w hw

/-! ### strait/lift.Most: function 22 -/
def lift_Most (a1 : Int) (h : Heap) (K : Int → Heap → Prop) : Prop :=
  ((iteB (decide (a1 < (1 : Int))) (K 0 h) ((bindV (IntKind.u64.wrap (IntKind.i64.wrap (a1 - 1))) fun n2 => qcallP1 h (bits_Len n2 h) fun x3 => bindV (IntKind.i64.wrap (2 + (IntKind.i64.wrap (2 * x3)))) fun n4 => K n4 h))))
def lift_Most.ret (K : Int → Heap → Prop) (v : Value) (h : Heap) : Prop := match v with
  | (.int .i64 r5) => K r5 h
  | _ => False
theorem lift_Most.ret_elim {K : Int → Heap → Prop} {K' : Value → Heap → Prop} {v : Value} {h : Heap} (hk : ∀ r5 h, K r5 h → K' (.int .i64 r5) h) (hh : lift_Most.ret K v h) : K' v h := by
  unfold lift_Most.ret at hh
  split at hh
  · exact hk _ _ hh
  · exact hh.elim
def lift_Most.qcall (f : FuncId) (vs : List Value) (h : Heap) (K : Value → Prop) : Prop := match f, vs with
  | 35, [(.int .u64 a1)] => qcallP1 h (bits_Len a1 h) fun r3 => K (.int .i64 r3)
  | _, _ => False
noncomputable def lift_Most.ctx : Ctx := { P := Tryd.prog, call := fun _ _ _ _ => False, qcall := lift_Most.qcall, quiet := fun f => Nat.beq f 35, loop := fun _ _ _ _ => False }
theorem lift_Most.ok : lift_Most.ctx.OK where
  mixed := by kernel_rfl
  mono := fun hh _ => hh.elim
  call := fun hh => hh.elim
  qmono := by
    intro f args h K K' hh hk
    change lift_Most.qcall f args h K at hh
    change lift_Most.qcall f args h K'
    unfold lift_Most.qcall at hh ⊢
    split at hh
    · obtain ⟨x0, h1, h2⟩ := hh
      exact ⟨x0, h1, hk _ h2⟩
    · exact hh.elim
  qval := by
    intro f args h K hh
    change lift_Most.qcall f args h K at hh
    suffices H : ∃ v, K v ∧ lift_Most.qcall f args h (· = v) from H
    unfold lift_Most.qcall at hh ⊢
    split at hh
    · obtain ⟨x0, h1, h2⟩ := hh
      exact ⟨_, h2, x0, h1, rfl⟩
    · exact hh.elim
  qcall := by
    intro f args h v hh w hw
    change lift_Most.qcall f args h (· = v) at hh
    unfold lift_Most.qcall at hh
    split at hh
    · obtain ⟨x0, h1, h2⟩ := hh
      obtain ⟨g1, g2⟩ := bits_Len.calls h1 w hw
      refine .inl ⟨g1, g2.mono fun e w' ⟨u, he, ho, hr⟩ => ?_⟩
      have hq := bits_Len.ret_elim (K' := fun u h' => u = v ∧ h' = h) (fun _ h' hr => by obtain ⟨rfl, rfl⟩ := hr; exact ⟨h2, rfl⟩) hr
      exact ⟨hq.1 ▸ he, ho, hq.2⟩
    · exact hh.elim
noncomputable def lift_Most.code : Code := (Tryd.f22.body).getD .skip
def lift_Most.ann : Ann := .auto
set_option maxRecDepth 100000 in
theorem lift_Most.eq (a1 : Int) (h : Heap) (K : Int → Heap → Prop) : evF lift_Most.ctx Tryd.f22 lift_Most.ann [(.int .i64 a1)] h (lift_Most.ret K) = lift_Most a1 h K := by kernel_rfl
set_option maxRecDepth 100000 in
theorem lift_Most.calls {a1 : Int} {h : Heap} {K : Int → Heap → Prop} (hh : lift_Most a1 h K) (w : World) (hw : w.heap = h) :
    (callFunc 22 #[(.int .i64 a1)]).run Tryd.prog w = .ok (.enter 22 #[(.int .i64 a1)]) w ∧ Calls Tryd.prog 22 #[(.int .i64 a1)] w fun e w' => ∃ v, e = .returned v ∧ Out w w' ∧ lift_Most.ret K v w'.heap := by
  rw [← lift_Most.eq] at hh
  exact fn_calls (args := [(.int .i64 a1)]) (c := lift_Most.code) lift_Most.ok Tryd.func22 (by kernel_rfl) (by kernel_rfl) (by kernel_rfl) (by kernel_rfl) (loops_ok (l := []) (by kernel_rfl) trivial) hh w hw

/-! ### strait/straitref32.Most: function 16 -/
def straitref32_Most.b0 (K2 : Int → Int → Heap → Prop) (cont : Int → Int → Int → Heap → Prop) (c0_1001 : Int) (v3_1002 : Int) (v4_1003 : Int) (h1004 : Heap) : Prop :=
  iteB (decide (v4_1003 < c0_1001)) ((iteB (decide (v3_1002 < (62 : Int))) ((((cont c0_1001 (IntKind.i64.wrap (v3_1002 + 1)) (IntKind.i64.wrap (v4_1003 * 2)) h1004)))) (K2 v3_1002 v4_1003 h1004))) (K2 v3_1002 v4_1003 h1004)
def straitref32_Most.l0 (K2 : Int → Int → Heap → Prop) : Nat → Int → Int → Int → Heap → Prop
  | 0, _, _, _, _ => False
  | m + 1, c0_1001, v3_1002, v4_1003, h => straitref32_Most.b0 K2 (straitref32_Most.l0 K2 m) c0_1001 v3_1002 v4_1003 h
def straitref32_Most (a1 : Int) (h : Heap) (K : Int → Heap → Prop) : Prop :=
  ((iteB (decide (a1 < (1 : Int))) (K 0 h) (((∃ m5, straitref32_Most.l0 (fun z2 z3 h4 => (((iteB (decide (z3 < a1)) ((bindV (IntKind.i64.wrap (2 * (IntKind.i64.wrap (z2 + 1)))) fun n8 => (K (IntKind.i64.wrap (n8 + 2)) h4))) ((bindV (IntKind.i64.wrap ((IntKind.i64.wrap (2 * z2)) + 2)) fun n9 => K n9 h4)))))) m5 a1 0 1 h)))))
def straitref32_Most.ret (K : Int → Heap → Prop) (v : Value) (h : Heap) : Prop := match v with
  | (.int .i64 r10) => K r10 h
  | _ => False
theorem straitref32_Most.ret_elim {K : Int → Heap → Prop} {K' : Value → Heap → Prop} {v : Value} {h : Heap} (hk : ∀ r10 h, K r10 h → K' (.int .i64 r10) h) (hh : straitref32_Most.ret K v h) : K' v h := by
  unfold straitref32_Most.ret at hh
  split at hh
  · exact hk _ _ hh
  · exact hh.elim
def straitref32_Most.r0 (K : Nat → List Value → Heap → Prop) (m : Nat) (vs : List Value) (h : Heap) : Prop := match vs with
  | [(.int .i64 c0_1001), (.int .i64 v3_1002), (.int .i64 v4_1003)] => straitref32_Most.l0 (fun z11 z12 h' => K 2 [(.int .i64 c0_1001), (.int .i64 z11), (.int .i64 z12)] h') m c0_1001 v3_1002 v4_1003 h
  | _ => False
def straitref32_Most.loop (i : Nat) (vs : List Value) (h : Heap) (K : Nat → List Value → Heap → Prop) : Prop := match i with
  | 0 => ∃ m, straitref32_Most.r0 K m vs h
  | _ => False
noncomputable def straitref32_Most.ctx : Ctx := { P := Tryd.prog, call := fun _ _ _ _ => False, qcall := fun _ _ _ _ => False, quiet := fun f => false, loop := straitref32_Most.loop }
theorem straitref32_Most.ok : straitref32_Most.ctx.OK where
  mixed := by kernel_rfl
  mono := fun hh _ => hh.elim
  call := fun hh => hh.elim
  qmono := fun hh _ => hh.elim
  qval := fun hh => hh.elim
  qcall := fun hh => hh.elim
noncomputable def straitref32_Most.code : Code := (Tryd.f16.body).getD .skip
def straitref32_Most.ann : Ann := (.two .auto (.two .auto (.two .auto (.two (.two (.loop 0 [0, 3, 4] [(2, [0, 3, 4])] .auto) .auto) .auto))))
noncomputable def straitref32_Most.c0 : Code := sub straitref32_Most.code [1, 1, 1, 0, 0, 0]
def straitref32_Most.a0 : Ann := .auto
def straitref32_Most.keep0 : List Nat := [0, 3, 4]
def straitref32_Most.outs0 : List (Nat × List Nat) := [(2, [0, 3, 4])]
set_option maxRecDepth 100000 in
theorem straitref32_Most.L0 : LoopOK straitref32_Most.ctx 26 straitref32_Most.c0 0 straitref32_Most.keep0 straitref32_Most.outs0 := by
  refine loop_ok (n := straitref32_Most.a0) straitref32_Most.ok (by kernel_rfl) (loops_ok (l := []) (by kernel_rfl) ?_) straitref32_Most.r0 ?_ ?_ (fun vs h K hh => hh)
  · exact trivial
  · intro K vs h hh
    unfold straitref32_Most.r0 at hh
    split at hh
    · exact hh
    · exact hh
  · intro K m vs h hh
    unfold straitref32_Most.r0 at hh
    split at hh
    · exact cast (by kernel_rfl) hh
    · exact hh.elim
set_option maxRecDepth 100000 in
theorem straitref32_Most.eq (a1 : Int) (h : Heap) (K : Int → Heap → Prop) : evF straitref32_Most.ctx Tryd.f16 straitref32_Most.ann [(.int .i64 a1)] h (straitref32_Most.ret K) = straitref32_Most a1 h K := by kernel_rfl
set_option maxRecDepth 100000 in
theorem straitref32_Most.calls {a1 : Int} {h : Heap} {K : Int → Heap → Prop} (hh : straitref32_Most a1 h K) (w : World) (hw : w.heap = h) :
    (callFunc 16 #[(.int .i64 a1)]).run Tryd.prog w = .ok (.enter 16 #[(.int .i64 a1)]) w ∧ Calls Tryd.prog 16 #[(.int .i64 a1)] w fun e w' => ∃ v, e = .returned v ∧ Out w w' ∧ straitref32_Most.ret K v w'.heap := by
  rw [← straitref32_Most.eq] at hh
  exact fn_calls (args := [(.int .i64 a1)]) (c := straitref32_Most.code) straitref32_Most.ok Tryd.func16 (by kernel_rfl) (by kernel_rfl) (by kernel_rfl) (by kernel_rfl) (loops_ok (l := [(straitref32_Most.c0, none, 0, straitref32_Most.keep0, straitref32_Most.outs0)]) (by kernel_rfl) ⟨straitref32_Most.L0, trivial⟩) hh w hw

/-! ### (*strait/lift.Table).Depth: function 8 -/
def lift_Table_Depth (a1 : Option Addr) (a2 : Int) (h : Heap) (K : Int → Heap → Prop) : Prop :=
  (qcallP1 h (lift_Table_in a1 a2 h) fun x3 => (iteB (!x3) ((K (-1) h)) ((chkP a1 fun a4 => ∃ (x5 : Option Addr) (x5l : Nat) (x5c : Nat), cell h (a4.add 1) = some (.slice x5 x5l x5c) ∧ chkP x5 fun a6 => (0 ≤ a2 ∧ a2 < (x5l : Int)) ∧ ∃ (x7 : Int), cell h (a6.add (a2.toNat * 1)) = some (.int .i64 x7) ∧ K x7 h))))
def lift_Table_Depth.ret (K : Int → Heap → Prop) (v : Value) (h : Heap) : Prop := match v with
  | (.int .i64 r8) => K r8 h
  | _ => False
theorem lift_Table_Depth.ret_elim {K : Int → Heap → Prop} {K' : Value → Heap → Prop} {v : Value} {h : Heap} (hk : ∀ r8 h, K r8 h → K' (.int .i64 r8) h) (hh : lift_Table_Depth.ret K v h) : K' v h := by
  unfold lift_Table_Depth.ret at hh
  split at hh
  · exact hk _ _ hh
  · exact hh.elim
def lift_Table_Depth.qcall (f : FuncId) (vs : List Value) (h : Heap) (K : Value → Prop) : Prop := match f, vs with
  | 26, [(.pointer a1), (.int .i64 a2)] => qcallP1 h (lift_Table_in a1 a2 h) fun r5 => K (.bool r5)
  | _, _ => False
noncomputable def lift_Table_Depth.ctx : Ctx := { P := Tryd.prog, call := fun _ _ _ _ => False, qcall := lift_Table_Depth.qcall, quiet := fun f => Nat.beq f 26, loop := fun _ _ _ _ => False }
theorem lift_Table_Depth.ok : lift_Table_Depth.ctx.OK where
  mixed := by kernel_rfl
  mono := fun hh _ => hh.elim
  call := fun hh => hh.elim
  qmono := by
    intro f args h K K' hh hk
    change lift_Table_Depth.qcall f args h K at hh
    change lift_Table_Depth.qcall f args h K'
    unfold lift_Table_Depth.qcall at hh ⊢
    split at hh
    · obtain ⟨x0, h1, h2⟩ := hh
      exact ⟨x0, h1, hk _ h2⟩
    · exact hh.elim
  qval := by
    intro f args h K hh
    change lift_Table_Depth.qcall f args h K at hh
    suffices H : ∃ v, K v ∧ lift_Table_Depth.qcall f args h (· = v) from H
    unfold lift_Table_Depth.qcall at hh ⊢
    split at hh
    · obtain ⟨x0, h1, h2⟩ := hh
      exact ⟨_, h2, x0, h1, rfl⟩
    · exact hh.elim
  qcall := by
    intro f args h v hh w hw
    change lift_Table_Depth.qcall f args h (· = v) at hh
    unfold lift_Table_Depth.qcall at hh
    split at hh
    · obtain ⟨x0, h1, h2⟩ := hh
      obtain ⟨g1, g2⟩ := lift_Table_in.calls h1 w hw
      refine .inl ⟨g1, g2.mono fun e w' ⟨u, he, ho, hr⟩ => ?_⟩
      have hq := lift_Table_in.ret_elim (K' := fun u h' => u = v ∧ h' = h) (fun _ h' hr => by obtain ⟨rfl, rfl⟩ := hr; exact ⟨h2, rfl⟩) hr
      exact ⟨hq.1 ▸ he, ho, hq.2⟩
    · exact hh.elim
noncomputable def lift_Table_Depth.code : Code := (Tryd.f8.body).getD .skip
def lift_Table_Depth.ann : Ann := .auto
set_option maxRecDepth 100000 in
theorem lift_Table_Depth.eq (a1 : Option Addr) (a2 : Int) (h : Heap) (K : Int → Heap → Prop) : evF lift_Table_Depth.ctx Tryd.f8 lift_Table_Depth.ann [(.pointer a1), (.int .i64 a2)] h (lift_Table_Depth.ret K) = lift_Table_Depth a1 a2 h K := by kernel_rfl
set_option maxRecDepth 100000 in
theorem lift_Table_Depth.calls {a1 : Option Addr} {a2 : Int} {h : Heap} {K : Int → Heap → Prop} (hh : lift_Table_Depth a1 a2 h K) (w : World) (hw : w.heap = h) :
    (callFunc 8 #[(.pointer a1), (.int .i64 a2)]).run Tryd.prog w = .ok (.enter 8 #[(.pointer a1), (.int .i64 a2)]) w ∧ Calls Tryd.prog 8 #[(.pointer a1), (.int .i64 a2)] w fun e w' => ∃ v, e = .returned v ∧ Out w w' ∧ lift_Table_Depth.ret K v w'.heap := by
  rw [← lift_Table_Depth.eq] at hh
  exact fn_calls (args := [(.pointer a1), (.int .i64 a2)]) (c := lift_Table_Depth.code) lift_Table_Depth.ok Tryd.func8 (by kernel_rfl) (by kernel_rfl) (by kernel_rfl) (by kernel_rfl) (loops_ok (l := []) (by kernel_rfl) trivial) hh w hw

/-! ### (*strait/lift.Table).Up: function 10 -/
def lift_Table_Up (a1 : Option Addr) (a2 : Int) (a3 : Int) (h : Heap) (K : Int → Heap → Prop) : Prop :=
  (qcallP1 h (lift_Table_in a1 a2 h) fun x4 => iteB (!x4) (((K (-1) h))) (iteB (decide (a3 < (0 : Int))) (((K (-1) h))) (chkP a1 fun a5 => ∃ (x6 : Option Addr) (x6l : Nat) (x6c : Nat), cell h (a5.add 1) = some (.slice x6 x6l x6c) ∧ chkP x6 fun a7 => (0 ≤ a2 ∧ a2 < (x6l : Int)) ∧ ∃ (x8 : Int), cell h (a7.add (a2.toNat * 1)) = some (.int .i64 x8) ∧ (iteB (decide (a3 > x8)) ((K (-1) h)) ((chkP a1 fun a24 => ∃ (x25 : Int), cell h (a24.add 3) = some (.int .i64 x25) ∧ (callP2 (lift_Table_climb a1 a2 a3 (-1) h) fun x26 x27 h28 => (chkP a1 fun a29 => stC h28 (a29.add 3) (.int .i64 x25) fun h30 => K x26 h30))))))))
def lift_Table_Up.ret (K : Int → Heap → Prop) (v : Value) (h : Heap) : Prop := match v with
  | (.int .i64 r31) => K r31 h
  | _ => False
theorem lift_Table_Up.ret_elim {K : Int → Heap → Prop} {K' : Value → Heap → Prop} {v : Value} {h : Heap} (hk : ∀ r31 h, K r31 h → K' (.int .i64 r31) h) (hh : lift_Table_Up.ret K v h) : K' v h := by
  unfold lift_Table_Up.ret at hh
  split at hh
  · exact hk _ _ hh
  · exact hh.elim
def lift_Table_Up.call (f : FuncId) (vs : List Value) (h : Heap) (K : Value → Heap → Prop) : Prop := match f, vs with
  | 28, [(.pointer a1), (.int .i64 a2), (.int .i64 a3), (.int .i64 a4)] => callP2 (lift_Table_climb a1 a2 a3 a4 h) fun r9 r10 h' => K (.tuple #[(.int .i64 r9), (.int .i64 r10)]) h'
  | _, _ => False
def lift_Table_Up.qcall (f : FuncId) (vs : List Value) (h : Heap) (K : Value → Prop) : Prop := match f, vs with
  | 26, [(.pointer a1), (.int .i64 a2)] => qcallP1 h (lift_Table_in a1 a2 h) fun r5 => K (.bool r5)
  | _, _ => False
noncomputable def lift_Table_Up.ctx : Ctx := { P := Tryd.prog, call := lift_Table_Up.call, qcall := lift_Table_Up.qcall, quiet := fun f => Nat.beq f 26, loop := fun _ _ _ _ => False }
theorem lift_Table_Up.ok : lift_Table_Up.ctx.OK where
  mixed := by kernel_rfl
  mono := by
    intro f args h K K' hh hk
    change lift_Table_Up.call f args h K at hh
    change lift_Table_Up.call f args h K'
    unfold lift_Table_Up.call at hh ⊢
    split at hh
    · obtain ⟨R, h1, h2⟩ := hh
      exact ⟨R, h1, fun _ _ x hr => hk _ _ (h2 _ _ x hr)⟩
    · exact hh.elim
  call := by
    intro f args h K hh w hw
    change lift_Table_Up.call f args h K at hh
    unfold lift_Table_Up.call at hh
    split at hh
    · obtain ⟨R, h1, h2⟩ := hh
      obtain ⟨g1, g2⟩ := lift_Table_climb.calls h1 w hw
      exact ⟨g1, g2.mono fun e w' ⟨v, he, ho, hr⟩ => ⟨v, he, ho, lift_Table_climb.ret_elim h2 hr⟩⟩
    · exact hh.elim
  qmono := by
    intro f args h K K' hh hk
    change lift_Table_Up.qcall f args h K at hh
    change lift_Table_Up.qcall f args h K'
    unfold lift_Table_Up.qcall at hh ⊢
    split at hh
    · obtain ⟨x0, h1, h2⟩ := hh
      exact ⟨x0, h1, hk _ h2⟩
    · exact hh.elim
  qval := by
    intro f args h K hh
    change lift_Table_Up.qcall f args h K at hh
    suffices H : ∃ v, K v ∧ lift_Table_Up.qcall f args h (· = v) from H
    unfold lift_Table_Up.qcall at hh ⊢
    split at hh
    · obtain ⟨x0, h1, h2⟩ := hh
      exact ⟨_, h2, x0, h1, rfl⟩
    · exact hh.elim
  qcall := by
    intro f args h v hh w hw
    change lift_Table_Up.qcall f args h (· = v) at hh
    unfold lift_Table_Up.qcall at hh
    split at hh
    · obtain ⟨x0, h1, h2⟩ := hh
      obtain ⟨g1, g2⟩ := lift_Table_in.calls h1 w hw
      refine .inl ⟨g1, g2.mono fun e w' ⟨u, he, ho, hr⟩ => ?_⟩
      have hq := lift_Table_in.ret_elim (K' := fun u h' => u = v ∧ h' = h) (fun _ h' hr => by obtain ⟨rfl, rfl⟩ := hr; exact ⟨h2, rfl⟩) hr
      exact ⟨hq.1 ▸ he, ho, hq.2⟩
    · exact hh.elim
noncomputable def lift_Table_Up.code : Code := (Tryd.f10.body).getD .skip
def lift_Table_Up.ann : Ann := .auto
set_option maxRecDepth 100000 in
theorem lift_Table_Up.eq (a1 : Option Addr) (a2 : Int) (a3 : Int) (h : Heap) (K : Int → Heap → Prop) : evF lift_Table_Up.ctx Tryd.f10 lift_Table_Up.ann [(.pointer a1), (.int .i64 a2), (.int .i64 a3)] h (lift_Table_Up.ret K) = lift_Table_Up a1 a2 a3 h K := by kernel_rfl
set_option maxRecDepth 100000 in
theorem lift_Table_Up.calls {a1 : Option Addr} {a2 : Int} {a3 : Int} {h : Heap} {K : Int → Heap → Prop} (hh : lift_Table_Up a1 a2 a3 h K) (w : World) (hw : w.heap = h) :
    (callFunc 10 #[(.pointer a1), (.int .i64 a2), (.int .i64 a3)]).run Tryd.prog w = .ok (.enter 10 #[(.pointer a1), (.int .i64 a2), (.int .i64 a3)]) w ∧ Calls Tryd.prog 10 #[(.pointer a1), (.int .i64 a2), (.int .i64 a3)] w fun e w' => ∃ v, e = .returned v ∧ Out w w' ∧ lift_Table_Up.ret K v w'.heap := by
  rw [← lift_Table_Up.eq] at hh
  exact fn_calls (args := [(.pointer a1), (.int .i64 a2), (.int .i64 a3)]) (c := lift_Table_Up.code) lift_Table_Up.ok Tryd.func10 (by kernel_rfl) (by kernel_rfl) (by kernel_rfl) (by kernel_rfl) (loops_ok (l := []) (by kernel_rfl) trivial) hh w hw

end Go.Proofs.YtfidcekobjmamaaDoor
