/- WRITTEN BY A PROGRAM OF THIS SESSION (gen.py): what each function asks of memory, and that the model's run comes to it. -/
import Derived.Test.YthcdjimpppajjaaProg
import Derived.Test.YthcdjimpppajjaaFw8

namespace Go.Proofs.Ythcdjimpppajjaa
open Go.Hp
set_option linter.unusedVariables false
set_option linter.unusedSimpArgs false

/-! ### strait/num.Add: function 12 -/
def F12 (a1 : Int) (a2 : Int) (h : Heap) (K : Int → Bool → Heap → Prop) : Prop :=
  (((iteB (decide ((bits .and .i64 (bits .xor .i64 a1 (IntKind.i64.wrap (a1 + a2))) (bits .xor .i64 a2 (IntKind.i64.wrap (a1 + a2)))) < (0 : Int))) (K 0 false h) (((K (IntKind.i64.wrap (a1 + a2)) true h))))))
def F12.ret (K : Int → Bool → Heap → Prop) (v : Value) (h : Heap) : Prop := match v with
  | (.tuple ⟨[(.int .i64 r3), (.bool r4)]⟩) => K r3 r4 h
  | _ => False
theorem F12.ret_elim {K : Int → Bool → Heap → Prop} {K' : Value → Heap → Prop} {v : Value} {h : Heap} (hk : ∀ r3 r4 h, K r3 r4 h → K' (.tuple #[(.int .i64 r3), (.bool r4)]) h) (hh : F12.ret K v h) : K' v h := by
  unfold F12.ret at hh
  split at hh
  · exact hk _ _ _ hh
  · exact hh.elim
noncomputable def F12.ctx : Ctx := { P := Try.prog, call := fun _ _ _ _ => False, qcall := fun _ _ _ _ => False, quiet := fun f => false, loop := fun _ _ _ _ => False }
theorem F12.ok : F12.ctx.OK where
  mixed := by kernel_rfl
  mono := fun hh _ => hh.elim
  call := fun hh => hh.elim
  qmono := fun hh _ => hh.elim
  qval := fun hh => hh.elim
  qcall := fun hh => hh.elim
noncomputable def F12.code : Code := (Try.f12.body).getD .skip
def F12.ann : Ann := .auto
set_option maxRecDepth 100000 in
theorem F12.eq (a1 : Int) (a2 : Int) (h : Heap) (K : Int → Bool → Heap → Prop) : evF F12.ctx Try.f12 F12.ann [(.int .i64 a1), (.int .i64 a2)] h (F12.ret K) = F12 a1 a2 h K := by kernel_rfl
set_option maxRecDepth 100000 in
theorem F12.calls {a1 : Int} {a2 : Int} {h : Heap} {K : Int → Bool → Heap → Prop} (hh : F12 a1 a2 h K) (w : World) (hw : w.heap = h) :
    (callFunc 12 #[(.int .i64 a1), (.int .i64 a2)]).run Try.prog w = .ok (.enter 12 #[(.int .i64 a1), (.int .i64 a2)]) w ∧ Calls Try.prog 12 #[(.int .i64 a1), (.int .i64 a2)] w fun e w' => ∃ v, e = .returned v ∧ Out w w' ∧ F12.ret K v w'.heap := by
  rw [← F12.eq] at hh
  exact fn_calls (args := [(.int .i64 a1), (.int .i64 a2)]) (c := F12.code) F12.ok Try.func12 (by kernel_rfl) (by kernel_rfl) (by kernel_rfl) (by kernel_rfl) (loops_ok (l := []) (by kernel_rfl) trivial) hh w hw

/-! ### (*strait/num.Acc).Put: function 8 -/
def F8 (a1 : Option Addr) (a2 : Int) (h : Heap) (K : Bool → Heap → Prop) : Prop :=
  (iteB a1.isNone (K false h) (chkP a1 fun a3 => ∃ (x4 : Bool), cell h (a3.add 1) = some (.bool x4) ∧ (iteB x4 (K false h) ((chkP a1 fun a22 => ∃ (x23 : Int), cell h a22 = some (.int .i64 x23) ∧ qcallP2 h (F12 x23 a2 h) fun x24 x25 => (chkP a1 fun a26 => stC h a26 (.int .i64 x24) fun h27 => chkP a1 fun a28 => stC h27 (a28.add 1) (.bool (!x25)) fun h29 => K x25 h29))))))
def F8.ret (K : Bool → Heap → Prop) (v : Value) (h : Heap) : Prop := match v with
  | (.bool r30) => K r30 h
  | _ => False
theorem F8.ret_elim {K : Bool → Heap → Prop} {K' : Value → Heap → Prop} {v : Value} {h : Heap} (hk : ∀ r30 h, K r30 h → K' (.bool r30) h) (hh : F8.ret K v h) : K' v h := by
  unfold F8.ret at hh
  split at hh
  · exact hk _ _ hh
  · exact hh.elim
def F8.qcall (f : FuncId) (vs : List Value) (h : Heap) (K : Value → Prop) : Prop := match f, vs with
  | 12, [(.int .i64 a1), (.int .i64 a2)] => qcallP2 h (F12 a1 a2 h) fun r3 r4 => K (.tuple #[(.int .i64 r3), (.bool r4)])
  | _, _ => False
noncomputable def F8.ctx : Ctx := { P := Try.prog, call := fun _ _ _ _ => False, qcall := F8.qcall, quiet := fun f => Nat.beq f 12, loop := fun _ _ _ _ => False }
theorem F8.ok : F8.ctx.OK where
  mixed := by kernel_rfl
  mono := fun hh _ => hh.elim
  call := fun hh => hh.elim
  qmono := by
    intro f args h K K' hh hk
    change F8.qcall f args h K at hh
    change F8.qcall f args h K'
    unfold F8.qcall at hh ⊢
    split at hh
    · obtain ⟨x0, x1, h1, h2⟩ := hh
      exact ⟨x0, x1, h1, hk _ h2⟩
    · exact hh.elim
  qval := by
    intro f args h K hh
    change F8.qcall f args h K at hh
    suffices H : ∃ v, K v ∧ F8.qcall f args h (· = v) from H
    unfold F8.qcall at hh ⊢
    split at hh
    · obtain ⟨x0, x1, h1, h2⟩ := hh
      exact ⟨_, h2, x0, x1, h1, rfl⟩
    · exact hh.elim
  qcall := by
    intro f args h v hh w hw
    change F8.qcall f args h (· = v) at hh
    unfold F8.qcall at hh
    split at hh
    · obtain ⟨x0, x1, h1, h2⟩ := hh
      obtain ⟨g1, g2⟩ := F12.calls h1 w hw
      refine ⟨g1, g2.mono fun e w' ⟨u, he, ho, hr⟩ => ?_⟩
      have hq := F12.ret_elim (K' := fun u h' => u = v ∧ h' = h) (fun _ _ h' hr => by obtain ⟨rfl, rfl, rfl⟩ := hr; exact ⟨h2, rfl⟩) hr
      exact ⟨hq.1 ▸ he, ho, hq.2⟩
    · exact hh.elim
noncomputable def F8.code : Code := (Try.f8.body).getD .skip
def F8.ann : Ann := .auto
set_option maxRecDepth 100000 in
theorem F8.eq (a1 : Option Addr) (a2 : Int) (h : Heap) (K : Bool → Heap → Prop) : evF F8.ctx Try.f8 F8.ann [(.pointer a1), (.int .i64 a2)] h (F8.ret K) = F8 a1 a2 h K := by kernel_rfl
set_option maxRecDepth 100000 in
theorem F8.calls {a1 : Option Addr} {a2 : Int} {h : Heap} {K : Bool → Heap → Prop} (hh : F8 a1 a2 h K) (w : World) (hw : w.heap = h) :
    (callFunc 8 #[(.pointer a1), (.int .i64 a2)]).run Try.prog w = .ok (.enter 8 #[(.pointer a1), (.int .i64 a2)]) w ∧ Calls Try.prog 8 #[(.pointer a1), (.int .i64 a2)] w fun e w' => ∃ v, e = .returned v ∧ Out w w' ∧ F8.ret K v w'.heap := by
  rw [← F8.eq] at hh
  exact fn_calls (args := [(.pointer a1), (.int .i64 a2)]) (c := F8.code) F8.ok Try.func8 (by kernel_rfl) (by kernel_rfl) (by kernel_rfl) (by kernel_rfl) (loops_ok (l := []) (by kernel_rfl) trivial) hh w hw

/-! ### (*strait/num.Acc).Value: function 9 -/
def F9 (a1 : Option Addr) (h : Heap) (K : Int → Bool → Heap → Prop) : Prop :=
  (iteB a1.isNone (K 0 false h) (chkP a1 fun a2 => ∃ (x3 : Bool), cell h (a2.add 1) = some (.bool x3) ∧ (iteB x3 (K 0 false h) ((chkP a1 fun a9 => ∃ (x10 : Int), cell h a9 = some (.int .i64 x10) ∧ K x10 true h)))))
def F9.ret (K : Int → Bool → Heap → Prop) (v : Value) (h : Heap) : Prop := match v with
  | (.tuple ⟨[(.int .i64 r11), (.bool r12)]⟩) => K r11 r12 h
  | _ => False
theorem F9.ret_elim {K : Int → Bool → Heap → Prop} {K' : Value → Heap → Prop} {v : Value} {h : Heap} (hk : ∀ r11 r12 h, K r11 r12 h → K' (.tuple #[(.int .i64 r11), (.bool r12)]) h) (hh : F9.ret K v h) : K' v h := by
  unfold F9.ret at hh
  split at hh
  · exact hk _ _ _ hh
  · exact hh.elim
noncomputable def F9.ctx : Ctx := { P := Try.prog, call := fun _ _ _ _ => False, qcall := fun _ _ _ _ => False, quiet := fun f => false, loop := fun _ _ _ _ => False }
theorem F9.ok : F9.ctx.OK where
  mixed := by kernel_rfl
  mono := fun hh _ => hh.elim
  call := fun hh => hh.elim
  qmono := fun hh _ => hh.elim
  qval := fun hh => hh.elim
  qcall := fun hh => hh.elim
noncomputable def F9.code : Code := (Try.f9.body).getD .skip
def F9.ann : Ann := .auto
set_option maxRecDepth 100000 in
theorem F9.eq (a1 : Option Addr) (h : Heap) (K : Int → Bool → Heap → Prop) : evF F9.ctx Try.f9 F9.ann [(.pointer a1)] h (F9.ret K) = F9 a1 h K := by kernel_rfl
set_option maxRecDepth 100000 in
theorem F9.calls {a1 : Option Addr} {h : Heap} {K : Int → Bool → Heap → Prop} (hh : F9 a1 h K) (w : World) (hw : w.heap = h) :
    (callFunc 9 #[(.pointer a1)]).run Try.prog w = .ok (.enter 9 #[(.pointer a1)]) w ∧ Calls Try.prog 9 #[(.pointer a1)] w fun e w' => ∃ v, e = .returned v ∧ Out w w' ∧ F9.ret K v w'.heap := by
  rw [← F9.eq] at hh
  exact fn_calls (args := [(.pointer a1)]) (c := F9.code) F9.ok Try.func9 (by kernel_rfl) (by kernel_rfl) (by kernel_rfl) (by kernel_rfl) (loops_ok (l := []) (by kernel_rfl) trivial) hh w hw

/-! ### strait/num.Sum: function 11 -/
def F11.b0 (K0 : Int → Bool → Heap → Prop) (K1 : Heap → Prop) (cont : Addr → Addr → (Option Addr) → Nat → Nat → Int → Int → Heap → Prop) (c4_1001 : Addr) (c5_1002 : Addr) (c9_1003 : Option Addr) (c9_1004 : Nat) (c9_1005 : Nat) (c10_1006 : Int) (v11_1007 : Int) (h1008 : Heap) : Prop :=
  (iteB (decide (v11_1007 < c10_1006)) ((chkP c9_1003 fun a1009 => (0 ≤ v11_1007 ∧ v11_1007 < (c9_1004 : Int)) ∧ ∃ (x1010 : Int), cell h1008 (a1009.add (v11_1007.toNat * 1)) = some (.int .i64 x1010) ∧ (callP1 (F8 (some c5_1002) x1010 h1008) fun x1011 h1012 => (iteB (!x1011) (K0 0 false h1012) (((cont c4_1001 c5_1002 c9_1003 c9_1004 c9_1005 c10_1006 (IntKind.i64.wrap (v11_1007 + 1)) h1012))))))) (K1 h1008))
def F11.l0 (K0 : Int → Bool → Heap → Prop) (K1 : Heap → Prop) : Nat → Addr → Addr → (Option Addr) → Nat → Nat → Int → Int → Heap → Prop
  | 0, _, _, _, _, _, _, _, _ => False
  | m + 1, c4_1001, c5_1002, c9_1003, c9_1004, c9_1005, c10_1006, v11_1007, h => F11.b0 K0 K1 (F11.l0 K0 K1 m) c4_1001 c5_1002 c9_1003 c9_1004 c9_1005 c10_1006 v11_1007 h
def F11 (a1 : Option Addr) (a1l : Nat) (a1c : Nat) (h : Heap) (K : Int → Bool → Heap → Prop) : Prop :=
  (newP h (.cells #[(.int .i64 0), (.bool false)] 26) fun a2 h3 => (((∃ m8, F11.l0 (fun z4 z5 h6 => K z4 z5 h6) (fun h7 => ((qcallP2 h7 (F9 (some a2) h7) fun x9 x10 => K x9 x10 h7))) m8 a2 a2 a1 a1l a1c (a1l : Int) 0 h3))))
def F11.ret (K : Int → Bool → Heap → Prop) (v : Value) (h : Heap) : Prop := match v with
  | (.tuple ⟨[(.int .i64 r11), (.bool r12)]⟩) => K r11 r12 h
  | _ => False
theorem F11.ret_elim {K : Int → Bool → Heap → Prop} {K' : Value → Heap → Prop} {v : Value} {h : Heap} (hk : ∀ r11 r12 h, K r11 r12 h → K' (.tuple #[(.int .i64 r11), (.bool r12)]) h) (hh : F11.ret K v h) : K' v h := by
  unfold F11.ret at hh
  split at hh
  · exact hk _ _ _ hh
  · exact hh.elim
def F11.call (f : FuncId) (vs : List Value) (h : Heap) (K : Value → Heap → Prop) : Prop := match f, vs with
  | 8, [(.pointer a1), (.int .i64 a2)] => callP1 (F8 a1 a2 h) fun r30 h' => K (.bool r30) h'
  | _, _ => False
def F11.qcall (f : FuncId) (vs : List Value) (h : Heap) (K : Value → Prop) : Prop := match f, vs with
  | 9, [(.pointer a1)] => qcallP2 h (F9 a1 h) fun r11 r12 => K (.tuple #[(.int .i64 r11), (.bool r12)])
  | _, _ => False
def F11.r0 (K : Nat → List Value → Heap → Prop) (m : Nat) (vs : List Value) (h : Heap) : Prop := match vs with
  | [(.pointer (some c4_1001)), (.func (.func 8) ⟨[(.pointer (some c5_1002))]⟩ ⟨[]⟩), (.slice c9_1003 c9_1004 c9_1005), (.int .i64 c10_1006), (.int .i64 v11_1007)] => F11.l0 (fun z13 z14 h' => K 0 [(.int .i64 z13), (.bool z14)] h') (fun h' => K 1 [(.pointer (some c4_1001))] h') m c4_1001 c5_1002 c9_1003 c9_1004 c9_1005 c10_1006 v11_1007 h
  | _ => False
def F11.loop (i : Nat) (vs : List Value) (h : Heap) (K : Nat → List Value → Heap → Prop) : Prop := match i with
  | 0 => ∃ m, F11.r0 K m vs h
  | _ => False
noncomputable def F11.ctx : Ctx := { P := Try.prog, call := F11.call, qcall := F11.qcall, quiet := fun f => Nat.beq f 9, loop := F11.loop }
theorem F11.ok : F11.ctx.OK where
  mixed := by kernel_rfl
  mono := by
    intro f args h K K' hh hk
    change F11.call f args h K at hh
    change F11.call f args h K'
    unfold F11.call at hh ⊢
    split at hh
    · obtain ⟨R, h1, h2⟩ := hh
      exact ⟨R, h1, fun _ x hr => hk _ _ (h2 _ x hr)⟩
    · exact hh.elim
  call := by
    intro f args h K hh w hw
    change F11.call f args h K at hh
    unfold F11.call at hh
    split at hh
    · obtain ⟨R, h1, h2⟩ := hh
      obtain ⟨g1, g2⟩ := F8.calls h1 w hw
      exact ⟨g1, g2.mono fun e w' ⟨v, he, ho, hr⟩ => ⟨v, he, ho, F8.ret_elim h2 hr⟩⟩
    · exact hh.elim
  qmono := by
    intro f args h K K' hh hk
    change F11.qcall f args h K at hh
    change F11.qcall f args h K'
    unfold F11.qcall at hh ⊢
    split at hh
    · obtain ⟨x0, x1, h1, h2⟩ := hh
      exact ⟨x0, x1, h1, hk _ h2⟩
    · exact hh.elim
  qval := by
    intro f args h K hh
    change F11.qcall f args h K at hh
    suffices H : ∃ v, K v ∧ F11.qcall f args h (· = v) from H
    unfold F11.qcall at hh ⊢
    split at hh
    · obtain ⟨x0, x1, h1, h2⟩ := hh
      exact ⟨_, h2, x0, x1, h1, rfl⟩
    · exact hh.elim
  qcall := by
    intro f args h v hh w hw
    change F11.qcall f args h (· = v) at hh
    unfold F11.qcall at hh
    split at hh
    · obtain ⟨x0, x1, h1, h2⟩ := hh
      obtain ⟨g1, g2⟩ := F9.calls h1 w hw
      refine ⟨g1, g2.mono fun e w' ⟨u, he, ho, hr⟩ => ?_⟩
      have hq := F9.ret_elim (K' := fun u h' => u = v ∧ h' = h) (fun _ _ h' hr => by obtain ⟨rfl, rfl, rfl⟩ := hr; exact ⟨h2, rfl⟩) hr
      exact ⟨hq.1 ▸ he, ho, hq.2⟩
    · exact hh.elim
noncomputable def F11.code : Code := (Try.f11.body).getD .skip
def F11.ann : Ann := (.two .auto (.two .auto (.two .auto (.two (.two .auto (.two (.loop 0 [4, 5, 9, 10, 11] [(1, [4]), (0, [2, 3])] .auto) .auto)) .auto))))
noncomputable def F11.c0 : Code := sub F11.code [1, 1, 1, 0, 1, 0, 0]
def F11.a0 : Ann := .auto
def F11.keep0 : List Nat := [4, 5, 9, 10, 11]
def F11.outs0 : List (Nat × List Nat) := [(1, [4]), (0, [2, 3])]
set_option maxRecDepth 100000 in
theorem F11.L0 : LoopOK F11.ctx 23 F11.c0 0 F11.keep0 F11.outs0 := by
  refine loop_ok (n := F11.a0) F11.ok (by kernel_rfl) (loops_ok (l := []) (by kernel_rfl) ?_) F11.r0 ?_ ?_ (fun vs h K hh => hh)
  · exact trivial
  · intro K vs h hh
    unfold F11.r0 at hh
    split at hh
    · exact hh
    · exact hh
  · intro K m vs h hh
    unfold F11.r0 at hh
    split at hh
    · exact cast (by kernel_rfl) hh
    · exact hh.elim
set_option maxRecDepth 100000 in
theorem F11.eq (a1 : Option Addr) (a1l : Nat) (a1c : Nat) (h : Heap) (K : Int → Bool → Heap → Prop) : evF F11.ctx Try.f11 F11.ann [(.slice a1 a1l a1c)] h (F11.ret K) = F11 a1 a1l a1c h K := by kernel_rfl
set_option maxRecDepth 100000 in
theorem F11.calls {a1 : Option Addr} {a1l : Nat} {a1c : Nat} {h : Heap} {K : Int → Bool → Heap → Prop} (hh : F11 a1 a1l a1c h K) (w : World) (hw : w.heap = h) :
    (callFunc 11 #[(.slice a1 a1l a1c)]).run Try.prog w = .ok (.enter 11 #[(.slice a1 a1l a1c)]) w ∧ Calls Try.prog 11 #[(.slice a1 a1l a1c)] w fun e w' => ∃ v, e = .returned v ∧ Out w w' ∧ F11.ret K v w'.heap := by
  rw [← F11.eq] at hh
  exact fn_calls (args := [(.slice a1 a1l a1c)]) (c := F11.code) F11.ok Try.func11 (by kernel_rfl) (by kernel_rfl) (by kernel_rfl) (by kernel_rfl) (loops_ok (l := [(F11.c0, 0, F11.keep0, F11.outs0)]) (by kernel_rfl) ⟨F11.L0, trivial⟩) hh w hw

/-! ### math/bits.Mul64: function 18 -/
def F18 (a1 : Int) (a2 : Int) (h : Heap) (K : Int → Int → Heap → Prop) : Prop :=
  ((0 ≤ (32 : Int) ∧ ((0 ≤ (32 : Int) ∧ ((0 ≤ (32 : Int) ∧ ((0 ≤ (32 : Int) ∧ ((0 ≤ (32 : Int) ∧ ((K (IntKind.u64.wrap ((IntKind.u64.wrap ((IntKind.u64.wrap ((a1.fdiv (2 ^ 32)) * (a2.fdiv (2 ^ 32)))) + ((IntKind.u64.wrap ((IntKind.u64.wrap ((a1.fdiv (2 ^ 32)) * (bits .and .u64 a2 4294967295))) + ((IntKind.u64.wrap ((bits .and .u64 a1 4294967295) * (bits .and .u64 a2 4294967295))).fdiv (2 ^ 32)))).fdiv (2 ^ 32)))) + ((IntKind.u64.wrap ((bits .and .u64 (IntKind.u64.wrap ((IntKind.u64.wrap ((a1.fdiv (2 ^ 32)) * (bits .and .u64 a2 4294967295))) + ((IntKind.u64.wrap ((bits .and .u64 a1 4294967295) * (bits .and .u64 a2 4294967295))).fdiv (2 ^ 32)))) 4294967295) + (IntKind.u64.wrap ((bits .and .u64 a1 4294967295) * (a2.fdiv (2 ^ 32)))))).fdiv (2 ^ 32)))) (IntKind.u64.wrap (a1 * a2)) h))))))))))))
def F18.ret (K : Int → Int → Heap → Prop) (v : Value) (h : Heap) : Prop := match v with
  | (.tuple ⟨[(.int .u64 r3), (.int .u64 r4)]⟩) => K r3 r4 h
  | _ => False
theorem F18.ret_elim {K : Int → Int → Heap → Prop} {K' : Value → Heap → Prop} {v : Value} {h : Heap} (hk : ∀ r3 r4 h, K r3 r4 h → K' (.tuple #[(.int .u64 r3), (.int .u64 r4)]) h) (hh : F18.ret K v h) : K' v h := by
  unfold F18.ret at hh
  split at hh
  · exact hk _ _ _ hh
  · exact hh.elim
noncomputable def F18.ctx : Ctx := { P := Try.prog, call := fun _ _ _ _ => False, qcall := fun _ _ _ _ => False, quiet := fun f => false, loop := fun _ _ _ _ => False }
theorem F18.ok : F18.ctx.OK where
  mixed := by kernel_rfl
  mono := fun hh _ => hh.elim
  call := fun hh => hh.elim
  qmono := fun hh _ => hh.elim
  qval := fun hh => hh.elim
  qcall := fun hh => hh.elim
noncomputable def F18.code : Code := (Try.f18.body).getD .skip
def F18.ann : Ann := .auto
set_option maxRecDepth 100000 in
theorem F18.eq (a1 : Int) (a2 : Int) (h : Heap) (K : Int → Int → Heap → Prop) : evF F18.ctx Try.f18 F18.ann [(.int .u64 a1), (.int .u64 a2)] h (F18.ret K) = F18 a1 a2 h K := by kernel_rfl
set_option maxRecDepth 100000 in
theorem F18.calls {a1 : Int} {a2 : Int} {h : Heap} {K : Int → Int → Heap → Prop} (hh : F18 a1 a2 h K) (w : World) (hw : w.heap = h) :
    (callFunc 18 #[(.int .u64 a1), (.int .u64 a2)]).run Try.prog w = .ok (.enter 18 #[(.int .u64 a1), (.int .u64 a2)]) w ∧ Calls Try.prog 18 #[(.int .u64 a1), (.int .u64 a2)] w fun e w' => ∃ v, e = .returned v ∧ Out w w' ∧ F18.ret K v w'.heap := by
  rw [← F18.eq] at hh
  exact fn_calls (args := [(.int .u64 a1), (.int .u64 a2)]) (c := F18.code) F18.ok Try.func18 (by kernel_rfl) (by kernel_rfl) (by kernel_rfl) (by kernel_rfl) (loops_ok (l := []) (by kernel_rfl) trivial) hh w hw

/-! ### strait/num.size: function 19 -/
def F19 (a1 : Int) (h : Heap) (K : Int → Heap → Prop) : Prop :=
  ((iteB (decide (a1 < (0 : Int))) ((K (IntKind.u64.wrap (0 - (IntKind.u64.wrap a1))) h)) (((K (IntKind.u64.wrap a1) h)))))
def F19.ret (K : Int → Heap → Prop) (v : Value) (h : Heap) : Prop := match v with
  | (.int .u64 r2) => K r2 h
  | _ => False
theorem F19.ret_elim {K : Int → Heap → Prop} {K' : Value → Heap → Prop} {v : Value} {h : Heap} (hk : ∀ r2 h, K r2 h → K' (.int .u64 r2) h) (hh : F19.ret K v h) : K' v h := by
  unfold F19.ret at hh
  split at hh
  · exact hk _ _ hh
  · exact hh.elim
noncomputable def F19.ctx : Ctx := { P := Try.prog, call := fun _ _ _ _ => False, qcall := fun _ _ _ _ => False, quiet := fun f => false, loop := fun _ _ _ _ => False }
theorem F19.ok : F19.ctx.OK where
  mixed := by kernel_rfl
  mono := fun hh _ => hh.elim
  call := fun hh => hh.elim
  qmono := fun hh _ => hh.elim
  qval := fun hh => hh.elim
  qcall := fun hh => hh.elim
noncomputable def F19.code : Code := (Try.f19.body).getD .skip
def F19.ann : Ann := .auto
set_option maxRecDepth 100000 in
theorem F19.eq (a1 : Int) (h : Heap) (K : Int → Heap → Prop) : evF F19.ctx Try.f19 F19.ann [(.int .i64 a1)] h (F19.ret K) = F19 a1 h K := by kernel_rfl
set_option maxRecDepth 100000 in
theorem F19.calls {a1 : Int} {h : Heap} {K : Int → Heap → Prop} (hh : F19 a1 h K) (w : World) (hw : w.heap = h) :
    (callFunc 19 #[(.int .i64 a1)]).run Try.prog w = .ok (.enter 19 #[(.int .i64 a1)]) w ∧ Calls Try.prog 19 #[(.int .i64 a1)] w fun e w' => ∃ v, e = .returned v ∧ Out w w' ∧ F19.ret K v w'.heap := by
  rw [← F19.eq] at hh
  exact fn_calls (args := [(.int .i64 a1)]) (c := F19.code) F19.ok Try.func19 (by kernel_rfl) (by kernel_rfl) (by kernel_rfl) (by kernel_rfl) (loops_ok (l := []) (by kernel_rfl) trivial) hh w hw

/-! ### strait/num.Mul: function 14 -/
def F14 (a1 : Int) (a2 : Int) (h : Heap) (K : Int → Bool → Heap → Prop) : Prop :=
  (qcallP1 h (F19 a1 h) fun x3 => qcallP1 h (F19 a2 h) fun x4 => qcallP2 h (F18 x3 x4 h) fun x5 x6 => ((iteB (x5 != (0 : Int)) (K 0 false h) ((iteB ((decide (a1 < (0 : Int))) == (decide (a2 < (0 : Int)))) ((iteB (decide (x6 > (9223372036854775807 : Int))) (K 0 false h) (((K (IntKind.i64.wrap x6) true h))))) ((iteB (decide (x6 > (9223372036854775808 : Int))) (K 0 false h) ((((K (IntKind.i64.wrap (IntKind.u64.wrap (0 - x6))) true h)))))))))))
def F14.ret (K : Int → Bool → Heap → Prop) (v : Value) (h : Heap) : Prop := match v with
  | (.tuple ⟨[(.int .i64 r7), (.bool r8)]⟩) => K r7 r8 h
  | _ => False
theorem F14.ret_elim {K : Int → Bool → Heap → Prop} {K' : Value → Heap → Prop} {v : Value} {h : Heap} (hk : ∀ r7 r8 h, K r7 r8 h → K' (.tuple #[(.int .i64 r7), (.bool r8)]) h) (hh : F14.ret K v h) : K' v h := by
  unfold F14.ret at hh
  split at hh
  · exact hk _ _ _ hh
  · exact hh.elim
def F14.qcall (f : FuncId) (vs : List Value) (h : Heap) (K : Value → Prop) : Prop := match f, vs with
  | 18, [(.int .u64 a1), (.int .u64 a2)] => qcallP2 h (F18 a1 a2 h) fun r3 r4 => K (.tuple #[(.int .u64 r3), (.int .u64 r4)])
  | 19, [(.int .i64 a1)] => qcallP1 h (F19 a1 h) fun r2 => K (.int .u64 r2)
  | _, _ => False
noncomputable def F14.ctx : Ctx := { P := Try.prog, call := fun _ _ _ _ => False, qcall := F14.qcall, quiet := fun f => Nat.beq f 18 || Nat.beq f 19, loop := fun _ _ _ _ => False }
theorem F14.ok : F14.ctx.OK where
  mixed := by kernel_rfl
  mono := fun hh _ => hh.elim
  call := fun hh => hh.elim
  qmono := by
    intro f args h K K' hh hk
    change F14.qcall f args h K at hh
    change F14.qcall f args h K'
    unfold F14.qcall at hh ⊢
    split at hh
    · obtain ⟨x0, x1, h1, h2⟩ := hh
      exact ⟨x0, x1, h1, hk _ h2⟩
    · obtain ⟨x0, h1, h2⟩ := hh
      exact ⟨x0, h1, hk _ h2⟩
    · exact hh.elim
  qval := by
    intro f args h K hh
    change F14.qcall f args h K at hh
    suffices H : ∃ v, K v ∧ F14.qcall f args h (· = v) from H
    unfold F14.qcall at hh ⊢
    split at hh
    · obtain ⟨x0, x1, h1, h2⟩ := hh
      exact ⟨_, h2, x0, x1, h1, rfl⟩
    · obtain ⟨x0, h1, h2⟩ := hh
      exact ⟨_, h2, x0, h1, rfl⟩
    · exact hh.elim
  qcall := by
    intro f args h v hh w hw
    change F14.qcall f args h (· = v) at hh
    unfold F14.qcall at hh
    split at hh
    · obtain ⟨x0, x1, h1, h2⟩ := hh
      obtain ⟨g1, g2⟩ := F18.calls h1 w hw
      refine ⟨g1, g2.mono fun e w' ⟨u, he, ho, hr⟩ => ?_⟩
      have hq := F18.ret_elim (K' := fun u h' => u = v ∧ h' = h) (fun _ _ h' hr => by obtain ⟨rfl, rfl, rfl⟩ := hr; exact ⟨h2, rfl⟩) hr
      exact ⟨hq.1 ▸ he, ho, hq.2⟩
    · obtain ⟨x0, h1, h2⟩ := hh
      obtain ⟨g1, g2⟩ := F19.calls h1 w hw
      refine ⟨g1, g2.mono fun e w' ⟨u, he, ho, hr⟩ => ?_⟩
      have hq := F19.ret_elim (K' := fun u h' => u = v ∧ h' = h) (fun _ h' hr => by obtain ⟨rfl, rfl⟩ := hr; exact ⟨h2, rfl⟩) hr
      exact ⟨hq.1 ▸ he, ho, hq.2⟩
    · exact hh.elim
noncomputable def F14.code : Code := (Try.f14.body).getD .skip
def F14.ann : Ann := .auto
set_option maxRecDepth 100000 in
theorem F14.eq (a1 : Int) (a2 : Int) (h : Heap) (K : Int → Bool → Heap → Prop) : evF F14.ctx Try.f14 F14.ann [(.int .i64 a1), (.int .i64 a2)] h (F14.ret K) = F14 a1 a2 h K := by kernel_rfl
set_option maxRecDepth 100000 in
theorem F14.calls {a1 : Int} {a2 : Int} {h : Heap} {K : Int → Bool → Heap → Prop} (hh : F14 a1 a2 h K) (w : World) (hw : w.heap = h) :
    (callFunc 14 #[(.int .i64 a1), (.int .i64 a2)]).run Try.prog w = .ok (.enter 14 #[(.int .i64 a1), (.int .i64 a2)]) w ∧ Calls Try.prog 14 #[(.int .i64 a1), (.int .i64 a2)] w fun e w' => ∃ v, e = .returned v ∧ Out w w' ∧ F14.ret K v w'.heap := by
  rw [← F14.eq] at hh
  exact fn_calls (args := [(.int .i64 a1), (.int .i64 a2)]) (c := F14.code) F14.ok Try.func14 (by kernel_rfl) (by kernel_rfl) (by kernel_rfl) (by kernel_rfl) (loops_ok (l := []) (by kernel_rfl) trivial) hh w hw

/-! ### strait/straitlaw01.awake: function 6 -/
def F6 (h : Heap) (K : Bool → Heap → Prop) : Prop :=
  (qcallP2 h (F12 3 4 h) fun x1 x2 => (qcallP2 h (F14 1099511627776 1099511627776 h) fun x3 x4 => (newP h (.cells #[(.int .i64 1), (.int .i64 2), (.int .i64 3)] 2) fun a5 h6 => callP2 (F11 (some a5) 3 3 h6) fun x7 x8 h9 => (iteB (x1 == (7 : Int)) (iteB x2 (iteB (!x4) (iteB (x7 == (6 : Int)) (K x8 h9) (K false h9)) (K false h9)) (K false h9)) (K false h9)))))
def F6.ret (K : Bool → Heap → Prop) (v : Value) (h : Heap) : Prop := match v with
  | (.bool r11) => K r11 h
  | _ => False
theorem F6.ret_elim {K : Bool → Heap → Prop} {K' : Value → Heap → Prop} {v : Value} {h : Heap} (hk : ∀ r11 h, K r11 h → K' (.bool r11) h) (hh : F6.ret K v h) : K' v h := by
  unfold F6.ret at hh
  split at hh
  · exact hk _ _ hh
  · exact hh.elim
def F6.call (f : FuncId) (vs : List Value) (h : Heap) (K : Value → Heap → Prop) : Prop := match f, vs with
  | 11, [(.slice a1 a1l a1c)] => callP2 (F11 a1 a1l a1c h) fun r11 r12 h' => K (.tuple #[(.int .i64 r11), (.bool r12)]) h'
  | _, _ => False
def F6.qcall (f : FuncId) (vs : List Value) (h : Heap) (K : Value → Prop) : Prop := match f, vs with
  | 12, [(.int .i64 a1), (.int .i64 a2)] => qcallP2 h (F12 a1 a2 h) fun r3 r4 => K (.tuple #[(.int .i64 r3), (.bool r4)])
  | 14, [(.int .i64 a1), (.int .i64 a2)] => qcallP2 h (F14 a1 a2 h) fun r7 r8 => K (.tuple #[(.int .i64 r7), (.bool r8)])
  | _, _ => False
noncomputable def F6.ctx : Ctx := { P := Try.prog, call := F6.call, qcall := F6.qcall, quiet := fun f => Nat.beq f 12 || Nat.beq f 14, loop := fun _ _ _ _ => False }
theorem F6.ok : F6.ctx.OK where
  mixed := by kernel_rfl
  mono := by
    intro f args h K K' hh hk
    change F6.call f args h K at hh
    change F6.call f args h K'
    unfold F6.call at hh ⊢
    split at hh
    · obtain ⟨R, h1, h2⟩ := hh
      exact ⟨R, h1, fun _ _ x hr => hk _ _ (h2 _ _ x hr)⟩
    · exact hh.elim
  call := by
    intro f args h K hh w hw
    change F6.call f args h K at hh
    unfold F6.call at hh
    split at hh
    · obtain ⟨R, h1, h2⟩ := hh
      obtain ⟨g1, g2⟩ := F11.calls h1 w hw
      exact ⟨g1, g2.mono fun e w' ⟨v, he, ho, hr⟩ => ⟨v, he, ho, F11.ret_elim h2 hr⟩⟩
    · exact hh.elim
  qmono := by
    intro f args h K K' hh hk
    change F6.qcall f args h K at hh
    change F6.qcall f args h K'
    unfold F6.qcall at hh ⊢
    split at hh
    · obtain ⟨x0, x1, h1, h2⟩ := hh
      exact ⟨x0, x1, h1, hk _ h2⟩
    · obtain ⟨x0, x1, h1, h2⟩ := hh
      exact ⟨x0, x1, h1, hk _ h2⟩
    · exact hh.elim
  qval := by
    intro f args h K hh
    change F6.qcall f args h K at hh
    suffices H : ∃ v, K v ∧ F6.qcall f args h (· = v) from H
    unfold F6.qcall at hh ⊢
    split at hh
    · obtain ⟨x0, x1, h1, h2⟩ := hh
      exact ⟨_, h2, x0, x1, h1, rfl⟩
    · obtain ⟨x0, x1, h1, h2⟩ := hh
      exact ⟨_, h2, x0, x1, h1, rfl⟩
    · exact hh.elim
  qcall := by
    intro f args h v hh w hw
    change F6.qcall f args h (· = v) at hh
    unfold F6.qcall at hh
    split at hh
    · obtain ⟨x0, x1, h1, h2⟩ := hh
      obtain ⟨g1, g2⟩ := F12.calls h1 w hw
      refine ⟨g1, g2.mono fun e w' ⟨u, he, ho, hr⟩ => ?_⟩
      have hq := F12.ret_elim (K' := fun u h' => u = v ∧ h' = h) (fun _ _ h' hr => by obtain ⟨rfl, rfl, rfl⟩ := hr; exact ⟨h2, rfl⟩) hr
      exact ⟨hq.1 ▸ he, ho, hq.2⟩
    · obtain ⟨x0, x1, h1, h2⟩ := hh
      obtain ⟨g1, g2⟩ := F14.calls h1 w hw
      refine ⟨g1, g2.mono fun e w' ⟨u, he, ho, hr⟩ => ?_⟩
      have hq := F14.ret_elim (K' := fun u h' => u = v ∧ h' = h) (fun _ _ h' hr => by obtain ⟨rfl, rfl, rfl⟩ := hr; exact ⟨h2, rfl⟩) hr
      exact ⟨hq.1 ▸ he, ho, hq.2⟩
    · exact hh.elim
noncomputable def F6.code : Code := (Try.f6.body).getD .skip
def F6.ann : Ann := .auto
set_option maxRecDepth 100000 in
theorem F6.eq (h : Heap) (K : Bool → Heap → Prop) : evF F6.ctx Try.f6 F6.ann [] h (F6.ret K) = F6 h K := by kernel_rfl
set_option maxRecDepth 100000 in
theorem F6.calls {h : Heap} {K : Bool → Heap → Prop} (hh : F6 h K) (w : World) (hw : w.heap = h) :
    (callFunc 6 #[]).run Try.prog w = .ok (.enter 6 #[]) w ∧ Calls Try.prog 6 #[] w fun e w' => ∃ v, e = .returned v ∧ Out w w' ∧ F6.ret K v w'.heap := by
  rw [← F6.eq] at hh
  exact fn_calls (args := []) (c := F6.code) F6.ok Try.func6 (by kernel_rfl) (by kernel_rfl) (by kernel_rfl) (by kernel_rfl) (loops_ok (l := []) (by kernel_rfl) trivial) hh w hw

/-! ### strait/straitref01.Add: function 15 -/
def F15 (a1 : Int) (a2 : Int) (h : Heap) (K : Int → Bool → Heap → Prop) : Prop :=
  newP h (.cells #[(.int .i64 0), (.bool false)] 28) fun a3 h4 => ((let j10 := fun (y5 : Bool) => iteB y5 (stC h4 a3 (.int .i64 0) fun h6 => stC h6 (a3.add 1) (.bool false) fun h7 => (∃ (x8 : Int), cell h7 a3 = some (.int .i64 x8) ∧ ∃ (x9 : Bool), cell h7 (a3.add 1) = some (.bool x9) ∧ K x8 x9 h7)) ((stC h4 a3 (.int .i64 (IntKind.i64.wrap (a1 + a2))) fun h11 => stC h11 (a3.add 1) (.bool true) fun h12 => (∃ (x13 : Int), cell h12 a3 = some (.int .i64 x13) ∧ ∃ (x14 : Bool), cell h12 (a3.add 1) = some (.bool x14) ∧ K x13 x14 h12)));
  iteB (decide (a2 ≥ (0 : Int))) (iteB (decide ((IntKind.i64.wrap (a1 + a2)) < a1)) ((j10 true)) (iteB (decide (a2 < (0 : Int))) ((j10 (decide ((IntKind.i64.wrap (a1 + a2)) > a1)))) ((j10 false)))) (iteB (decide (a2 < (0 : Int))) ((j10 (decide ((IntKind.i64.wrap (a1 + a2)) > a1)))) ((j10 false)))))
def F15.ret (K : Int → Bool → Heap → Prop) (v : Value) (h : Heap) : Prop := match v with
  | (.agg ⟨[(.int .i64 r15), (.bool r16)]⟩) => K r15 r16 h
  | _ => False
theorem F15.ret_elim {K : Int → Bool → Heap → Prop} {K' : Value → Heap → Prop} {v : Value} {h : Heap} (hk : ∀ r15 r16 h, K r15 r16 h → K' (.agg #[(.int .i64 r15), (.bool r16)]) h) (hh : F15.ret K v h) : K' v h := by
  unfold F15.ret at hh
  split at hh
  · exact hk _ _ _ hh
  · exact hh.elim
noncomputable def F15.ctx : Ctx := { P := Try.prog, call := fun _ _ _ _ => False, qcall := fun _ _ _ _ => False, quiet := fun f => false, loop := fun _ _ _ _ => False }
theorem F15.ok : F15.ctx.OK where
  mixed := by kernel_rfl
  mono := fun hh _ => hh.elim
  call := fun hh => hh.elim
  qmono := fun hh _ => hh.elim
  qval := fun hh => hh.elim
  qcall := fun hh => hh.elim
noncomputable def F15.code : Code := (Try.f15.body).getD .skip
def F15.ann : Ann := .auto
set_option maxRecDepth 100000 in
theorem F15.eq (a1 : Int) (a2 : Int) (h : Heap) (K : Int → Bool → Heap → Prop) : evF F15.ctx Try.f15 F15.ann [(.int .i64 a1), (.int .i64 a2)] h (F15.ret K) = F15 a1 a2 h K := by kernel_rfl
set_option maxRecDepth 100000 in
theorem F15.calls {a1 : Int} {a2 : Int} {h : Heap} {K : Int → Bool → Heap → Prop} (hh : F15 a1 a2 h K) (w : World) (hw : w.heap = h) :
    (callFunc 15 #[(.int .i64 a1), (.int .i64 a2)]).run Try.prog w = .ok (.enter 15 #[(.int .i64 a1), (.int .i64 a2)]) w ∧ Calls Try.prog 15 #[(.int .i64 a1), (.int .i64 a2)] w fun e w' => ∃ v, e = .returned v ∧ Out w w' ∧ F15.ret K v w'.heap := by
  rw [← F15.eq] at hh
  exact fn_calls (args := [(.int .i64 a1), (.int .i64 a2)]) (c := F15.code) F15.ok Try.func15 (by kernel_rfl) (by kernel_rfl) (by kernel_rfl) (by kernel_rfl) (loops_ok (l := []) (by kernel_rfl) trivial) hh w hw

/-! ### strait/straitref01.Sum: function 7 -/
def F7.b0 (K1 : Heap → Prop) (cont : (Option Addr) → Nat → Nat → Addr → Addr → Int → Heap → Prop) (c0_1001 : Option Addr) (c0_1002 : Nat) (c0_1003 : Nat) (c2_1004 : Addr) (c3_1005 : Addr) (v4_1006 : Int) (h1007 : Heap) : Prop :=
  let j1018 : Prop := ∃ (x1010 : Int), cell h1007 c3_1005 = some (.int .i64 x1010) ∧ chkP c0_1001 fun a1011 => (0 ≤ v4_1006 ∧ v4_1006 < (c0_1002 : Int)) ∧ ∃ (x1012 : Int), cell h1007 (a1011.add (v4_1006.toNat * 1)) = some (.int .i64 x1012) ∧ callP2 (F15 x1010 x1012 h1007) fun x1013 x1014 h1015 => stC h1015 c3_1005 (.int .i64 x1013) fun h1016 => stC h1016 (c3_1005.add 1) (.bool x1014) fun h1017 => ((cont c0_1001 c0_1002 c0_1003 c2_1004 c3_1005 (IntKind.i64.wrap (v4_1006 + 1)) h1017));
  iteB (decide (v4_1006 < (c0_1002 : Int))) (∃ (x1008 : Bool), cell h1007 (c3_1005.add 1) = some (.bool x1008) ∧ (iteB x1008 ((j1018)) (K1 h1007))) (K1 h1007)
def F7.l0 (K1 : Heap → Prop) : Nat → (Option Addr) → Nat → Nat → Addr → Addr → Int → Heap → Prop
  | 0, _, _, _, _, _, _, _ => False
  | m + 1, c0_1001, c0_1002, c0_1003, c2_1004, c3_1005, v4_1006, h => F7.b0 K1 (F7.l0 K1 m) c0_1001 c0_1002 c0_1003 c2_1004 c3_1005 v4_1006 h
def F7 (a1 : Option Addr) (a1l : Nat) (a1c : Nat) (h : Heap) (K : Int → Bool → Heap → Prop) : Prop :=
  newP h (.cells #[(.int .i64 0), (.bool false)] 28) fun a2 h3 => (newP h3 (.cells #[(.int .i64 0), (.bool false)] 28) fun a4 h5 => stC h5 a4 (.int .i64 0) fun h6 => stC h6 (a4.add 1) (.bool true) fun h7 => ((∃ m9, F7.l0 (fun h8 => ((∃ (x10 : Int), cell h8 a4 = some (.int .i64 x10) ∧ ∃ (x11 : Bool), cell h8 (a4.add 1) = some (.bool x11) ∧ stC h8 a2 (.int .i64 x10) fun h12 => stC h12 (a2.add 1) (.bool x11) fun h13 => (∃ (x14 : Int), cell h13 a2 = some (.int .i64 x14) ∧ ∃ (x15 : Bool), cell h13 (a2.add 1) = some (.bool x15) ∧ K x14 x15 h13)))) m9 a1 a1l a1c a2 a4 0 h7)))
def F7.ret (K : Int → Bool → Heap → Prop) (v : Value) (h : Heap) : Prop := match v with
  | (.agg ⟨[(.int .i64 r16), (.bool r17)]⟩) => K r16 r17 h
  | _ => False
theorem F7.ret_elim {K : Int → Bool → Heap → Prop} {K' : Value → Heap → Prop} {v : Value} {h : Heap} (hk : ∀ r16 r17 h, K r16 r17 h → K' (.agg #[(.int .i64 r16), (.bool r17)]) h) (hh : F7.ret K v h) : K' v h := by
  unfold F7.ret at hh
  split at hh
  · exact hk _ _ _ hh
  · exact hh.elim
def F7.call (f : FuncId) (vs : List Value) (h : Heap) (K : Value → Heap → Prop) : Prop := match f, vs with
  | 15, [(.int .i64 a1), (.int .i64 a2)] => callP2 (F15 a1 a2 h) fun r15 r16 h' => K (.agg #[(.int .i64 r15), (.bool r16)]) h'
  | _, _ => False
def F7.r0 (K : Nat → List Value → Heap → Prop) (m : Nat) (vs : List Value) (h : Heap) : Prop := match vs with
  | [(.slice c0_1001 c0_1002 c0_1003), (.pointer (some c2_1004)), (.pointer (some c3_1005)), (.int .i64 v4_1006)] => F7.l0 (fun h' => K 1 [(.pointer (some c2_1004)), (.pointer (some c3_1005))] h') m c0_1001 c0_1002 c0_1003 c2_1004 c3_1005 v4_1006 h
  | _ => False
def F7.loop (i : Nat) (vs : List Value) (h : Heap) (K : Nat → List Value → Heap → Prop) : Prop := match i with
  | 0 => ∃ m, F7.r0 K m vs h
  | _ => False
noncomputable def F7.ctx : Ctx := { P := Try.prog, call := F7.call, qcall := fun _ _ _ _ => False, quiet := fun f => false, loop := F7.loop }
theorem F7.ok : F7.ctx.OK where
  mixed := by kernel_rfl
  mono := by
    intro f args h K K' hh hk
    change F7.call f args h K at hh
    change F7.call f args h K'
    unfold F7.call at hh ⊢
    split at hh
    · obtain ⟨R, h1, h2⟩ := hh
      exact ⟨R, h1, fun _ _ x hr => hk _ _ (h2 _ _ x hr)⟩
    · exact hh.elim
  call := by
    intro f args h K hh w hw
    change F7.call f args h K at hh
    unfold F7.call at hh
    split at hh
    · obtain ⟨R, h1, h2⟩ := hh
      obtain ⟨g1, g2⟩ := F15.calls h1 w hw
      exact ⟨g1, g2.mono fun e w' ⟨v, he, ho, hr⟩ => ⟨v, he, ho, F15.ret_elim h2 hr⟩⟩
    · exact hh.elim
  qmono := fun hh _ => hh.elim
  qval := fun hh => hh.elim
  qcall := fun hh => hh.elim
noncomputable def F7.code : Code := (Try.f7.body).getD .skip
def F7.ann : Ann := (.two .auto (.two .auto (.two (.two .auto (.two (.loop 0 [0, 2, 3, 4] [(1, [2, 3])] (.two .auto (.two (.two (.reg (.take 0 (.take 1 (.take 2 (.take 3 (.take 4 (.take 5 (.alt 6 (.alt 7 .done .noalt) .noalt)))))))) .auto) .auto))) .auto)) .auto)))
noncomputable def F7.c0 : Code := sub F7.code [1, 1, 0, 1, 0, 0]
def F7.a0 : Ann := (.two .auto (.two (.two (.reg (.take 0 (.take 1 (.take 2 (.take 3 (.take 4 (.take 5 (.alt 6 (.alt 7 .done .noalt) .noalt)))))))) .auto) .auto))
def F7.keep0 : List Nat := [0, 2, 3, 4]
def F7.outs0 : List (Nat × List Nat) := [(1, [2, 3])]
set_option maxRecDepth 100000 in
theorem F7.L0 : LoopOK F7.ctx 24 F7.c0 0 F7.keep0 F7.outs0 := by
  refine loop_ok (n := F7.a0) F7.ok (by kernel_rfl) (loops_ok (l := []) (by kernel_rfl) ?_) F7.r0 ?_ ?_ (fun vs h K hh => hh)
  · exact trivial
  · intro K vs h hh
    unfold F7.r0 at hh
    split at hh
    · exact hh
    · exact hh
  · intro K m vs h hh
    unfold F7.r0 at hh
    split at hh
    · exact cast (by kernel_rfl) hh
    · exact hh.elim
set_option maxRecDepth 100000 in
theorem F7.eq (a1 : Option Addr) (a1l : Nat) (a1c : Nat) (h : Heap) (K : Int → Bool → Heap → Prop) : evF F7.ctx Try.f7 F7.ann [(.slice a1 a1l a1c)] h (F7.ret K) = F7 a1 a1l a1c h K := by kernel_rfl
set_option maxRecDepth 100000 in
theorem F7.calls {a1 : Option Addr} {a1l : Nat} {a1c : Nat} {h : Heap} {K : Int → Bool → Heap → Prop} (hh : F7 a1 a1l a1c h K) (w : World) (hw : w.heap = h) :
    (callFunc 7 #[(.slice a1 a1l a1c)]).run Try.prog w = .ok (.enter 7 #[(.slice a1 a1l a1c)]) w ∧ Calls Try.prog 7 #[(.slice a1 a1l a1c)] w fun e w' => ∃ v, e = .returned v ∧ Out w w' ∧ F7.ret K v w'.heap := by
  rw [← F7.eq] at hh
  exact fn_calls (args := [(.slice a1 a1l a1c)]) (c := F7.code) F7.ok Try.func7 (by kernel_rfl) (by kernel_rfl) (by kernel_rfl) (by kernel_rfl) (loops_ok (l := [(F7.c0, 0, F7.keep0, F7.outs0)]) (by kernel_rfl) ⟨F7.L0, trivial⟩) hh w hw

/-! ### strait/straitlaw01.same: function 10 -/
def F10 (a1 : Int) (a2 : Bool) (a3 : Int) (a4 : Bool) (h : Heap) (K : Bool → Heap → Prop) : Prop :=
  newP h (.cells #[(.int .i64 a3), (.bool a4)] 28) fun a5 h6 => (∃ (x7 : Int), cell h6 a5 = some (.int .i64 x7) ∧ iteB (a1 == x7) (∃ (x8 : Bool), cell h6 (a5.add 1) = some (.bool x8) ∧ (K (a2 == x8) h6)) (K false h6))
def F10.ret (K : Bool → Heap → Prop) (v : Value) (h : Heap) : Prop := match v with
  | (.bool r10) => K r10 h
  | _ => False
theorem F10.ret_elim {K : Bool → Heap → Prop} {K' : Value → Heap → Prop} {v : Value} {h : Heap} (hk : ∀ r10 h, K r10 h → K' (.bool r10) h) (hh : F10.ret K v h) : K' v h := by
  unfold F10.ret at hh
  split at hh
  · exact hk _ _ hh
  · exact hh.elim
noncomputable def F10.ctx : Ctx := { P := Try.prog, call := fun _ _ _ _ => False, qcall := fun _ _ _ _ => False, quiet := fun f => false, loop := fun _ _ _ _ => False }
theorem F10.ok : F10.ctx.OK where
  mixed := by kernel_rfl
  mono := fun hh _ => hh.elim
  call := fun hh => hh.elim
  qmono := fun hh _ => hh.elim
  qval := fun hh => hh.elim
  qcall := fun hh => hh.elim
noncomputable def F10.code : Code := (Try.f10.body).getD .skip
def F10.ann : Ann := .auto
set_option maxRecDepth 100000 in
theorem F10.eq (a1 : Int) (a2 : Bool) (a3 : Int) (a4 : Bool) (h : Heap) (K : Bool → Heap → Prop) : evF F10.ctx Try.f10 F10.ann [(.int .i64 a1), (.bool a2), (.agg #[(.int .i64 a3), (.bool a4)])] h (F10.ret K) = F10 a1 a2 a3 a4 h K := by kernel_rfl
set_option maxRecDepth 100000 in
theorem F10.calls {a1 : Int} {a2 : Bool} {a3 : Int} {a4 : Bool} {h : Heap} {K : Bool → Heap → Prop} (hh : F10 a1 a2 a3 a4 h K) (w : World) (hw : w.heap = h) :
    (callFunc 10 #[(.int .i64 a1), (.bool a2), (.agg #[(.int .i64 a3), (.bool a4)])]).run Try.prog w = .ok (.enter 10 #[(.int .i64 a1), (.bool a2), (.agg #[(.int .i64 a3), (.bool a4)])]) w ∧ Calls Try.prog 10 #[(.int .i64 a1), (.bool a2), (.agg #[(.int .i64 a3), (.bool a4)])] w fun e w' => ∃ v, e = .returned v ∧ Out w w' ∧ F10.ret K v w'.heap := by
  rw [← F10.eq] at hh
  exact fn_calls (args := [(.int .i64 a1), (.bool a2), (.agg #[(.int .i64 a3), (.bool a4)])]) (c := F10.code) F10.ok Try.func10 (by kernel_rfl) (by kernel_rfl) (by kernel_rfl) (by kernel_rfl) (loops_ok (l := []) (by kernel_rfl) trivial) hh w hw

/-! ### strait/straitlaw01.NumSums: function 3 -/
def F3.b0 (K0 : Bool → Heap → Prop) (K1 : Heap → Prop) (cont : (Option Addr) → Nat → Nat → Addr → Int → Heap → Prop) (c0_1001 : Option Addr) (c0_1002 : Nat) (c0_1003 : Nat) (c3_1004 : Addr) (v6_1005 : Int) (h1006 : Heap) : Prop :=
  (iteB (decide (v6_1005 < (c0_1002 : Int))) (((0 ≤ (IntKind.i64.wrap (v6_1005 + 1)) ∧ (IntKind.i64.wrap (v6_1005 + 1)) ≤ (c0_1003 : Int)) ∧ callP2 (F7 (if c0_1003 = 0 then c0_1001 else c0_1001.map (·.add (0 * 1))) ((IntKind.i64.wrap (v6_1005 + 1)).toNat) c0_1003 h1006) fun x1007 x1008 h1009 => newP h1009 (.cells #[(.int .i64 0), (.bool false)] 28) fun a1010 h1011 => stC h1011 a1010 (.int .i64 x1007) fun h1012 => stC h1012 (a1010.add 1) (.bool x1008) fun h1013 => (chkP c0_1001 fun a1014 => (0 ≤ v6_1005 ∧ v6_1005 < (c0_1002 : Int)) ∧ ∃ (x1015 : Int), cell h1013 (a1014.add (v6_1005.toNat * 1)) = some (.int .i64 x1015) ∧ callP1 (F8 (some c3_1004) x1015 h1013) fun x1016 h1017 => (qcallP2 h1017 (F9 (some c3_1004) h1017) fun x1018 x1019 => (∃ (x1020 : Bool), cell h1017 (a1010.add 1) = some (.bool x1020) ∧ iteB (!(x1016 == x1020)) (K0 false h1017) (∃ (x1021 : Int), cell h1017 a1010 = some (.int .i64 x1021) ∧ ∃ (x1022 : Bool), cell h1017 (a1010.add 1) = some (.bool x1022) ∧ callP1 (F10 x1018 x1019 x1021 x1022 h1017) fun x1023 h1024 => iteB (!x1023) (K0 false h1024) (chkP c0_1001 fun a1025 => (0 ≤ v6_1005 ∧ v6_1005 < (c0_1002 : Int)) ∧ ∃ (x1026 : Int), cell h1024 (a1025.add (v6_1005.toNat * 1)) = some (.int .i64 x1026) ∧ callP1 (F8 none x1026 h1024) fun x1027 h1028 => (iteB x1027 (K0 false h1028) (((cont c0_1001 c0_1002 c0_1003 c3_1004 (IntKind.i64.wrap (v6_1005 + 1)) h1028))))))))))) (K1 h1006))
def F3.l0 (K0 : Bool → Heap → Prop) (K1 : Heap → Prop) : Nat → (Option Addr) → Nat → Nat → Addr → Int → Heap → Prop
  | 0, _, _, _, _, _, _ => False
  | m + 1, c0_1001, c0_1002, c0_1003, c3_1004, v6_1005, h => F3.b0 K0 K1 (F3.l0 K0 K1 m) c0_1001 c0_1002 c0_1003 c3_1004 v6_1005 h
def F3 (a1 : Option Addr) (a1l : Nat) (a1c : Nat) (h : Heap) (K : Bool → Heap → Prop) : Prop :=
  ((iteB (decide ((a1l : Int) > (200 : Int))) (callP1 (F6 h) fun x2 h3 => K x2 h3) (((newP h (.cells #[(.int .i64 0), (.bool false)] 26) fun a4 h5 => (((∃ m9, F3.l0 (fun z6 h7 => K z6 h7) (fun h8 => ((callP2 (F11 a1 a1l a1c h8) fun x10 x11 h12 => (qcallP2 h12 (F9 none h12) fun x13 x14 => (callP2 (F7 a1 a1l a1c h12) fun x15 x16 h17 => callP1 (F10 x10 x11 x15 x16 h17) fun x18 h19 => iteB x18 (iteB (x13 == (0 : Int)) (iteB (!x14) (callP1 (F6 h19) fun x20 h21 => K x20 h21) (K false h19)) (K false h19)) (K false h19)))))) m9 a1 a1l a1c a4 0 h5))))))))
def F3.ret (K : Bool → Heap → Prop) (v : Value) (h : Heap) : Prop := match v with
  | (.bool r24) => K r24 h
  | _ => False
theorem F3.ret_elim {K : Bool → Heap → Prop} {K' : Value → Heap → Prop} {v : Value} {h : Heap} (hk : ∀ r24 h, K r24 h → K' (.bool r24) h) (hh : F3.ret K v h) : K' v h := by
  unfold F3.ret at hh
  split at hh
  · exact hk _ _ hh
  · exact hh.elim
def F3.call (f : FuncId) (vs : List Value) (h : Heap) (K : Value → Heap → Prop) : Prop := match f, vs with
  | 6, [] => callP1 (F6 h) fun r11 h' => K (.bool r11) h'
  | 7, [(.slice a1 a1l a1c)] => callP2 (F7 a1 a1l a1c h) fun r16 r17 h' => K (.agg #[(.int .i64 r16), (.bool r17)]) h'
  | 8, [(.pointer a1), (.int .i64 a2)] => callP1 (F8 a1 a2 h) fun r30 h' => K (.bool r30) h'
  | 10, [(.int .i64 a1), (.bool a2), (.agg ⟨[(.int .i64 a3), (.bool a4)]⟩)] => callP1 (F10 a1 a2 a3 a4 h) fun r10 h' => K (.bool r10) h'
  | 11, [(.slice a1 a1l a1c)] => callP2 (F11 a1 a1l a1c h) fun r11 r12 h' => K (.tuple #[(.int .i64 r11), (.bool r12)]) h'
  | _, _ => False
def F3.qcall (f : FuncId) (vs : List Value) (h : Heap) (K : Value → Prop) : Prop := match f, vs with
  | 9, [(.pointer a1)] => qcallP2 h (F9 a1 h) fun r11 r12 => K (.tuple #[(.int .i64 r11), (.bool r12)])
  | _, _ => False
def F3.r0 (K : Nat → List Value → Heap → Prop) (m : Nat) (vs : List Value) (h : Heap) : Prop := match vs with
  | [(.slice c0_1001 c0_1002 c0_1003), (.pointer (some c3_1004)), (.pointer none), (.int .i64 v6_1005)] => F3.l0 (fun z25 h' => K 0 [(.bool z25)] h') (fun h' => K 1 [(.slice c0_1001 c0_1002 c0_1003), (.pointer none)] h') m c0_1001 c0_1002 c0_1003 c3_1004 v6_1005 h
  | _ => False
def F3.loop (i : Nat) (vs : List Value) (h : Heap) (K : Nat → List Value → Heap → Prop) : Prop := match i with
  | 0 => ∃ m, F3.r0 K m vs h
  | _ => False
noncomputable def F3.ctx : Ctx := { P := Try.prog, call := F3.call, qcall := F3.qcall, quiet := fun f => Nat.beq f 9, loop := F3.loop }
theorem F3.ok : F3.ctx.OK where
  mixed := by kernel_rfl
  mono := by
    intro f args h K K' hh hk
    change F3.call f args h K at hh
    change F3.call f args h K'
    unfold F3.call at hh ⊢
    split at hh
    · obtain ⟨R, h1, h2⟩ := hh
      exact ⟨R, h1, fun _ x hr => hk _ _ (h2 _ x hr)⟩
    · obtain ⟨R, h1, h2⟩ := hh
      exact ⟨R, h1, fun _ _ x hr => hk _ _ (h2 _ _ x hr)⟩
    · obtain ⟨R, h1, h2⟩ := hh
      exact ⟨R, h1, fun _ x hr => hk _ _ (h2 _ x hr)⟩
    · obtain ⟨R, h1, h2⟩ := hh
      exact ⟨R, h1, fun _ x hr => hk _ _ (h2 _ x hr)⟩
    · obtain ⟨R, h1, h2⟩ := hh
      exact ⟨R, h1, fun _ _ x hr => hk _ _ (h2 _ _ x hr)⟩
    · exact hh.elim
  call := by
    intro f args h K hh w hw
    change F3.call f args h K at hh
    unfold F3.call at hh
    split at hh
    · obtain ⟨R, h1, h2⟩ := hh
      obtain ⟨g1, g2⟩ := F6.calls h1 w hw
      exact ⟨g1, g2.mono fun e w' ⟨v, he, ho, hr⟩ => ⟨v, he, ho, F6.ret_elim h2 hr⟩⟩
    · obtain ⟨R, h1, h2⟩ := hh
      obtain ⟨g1, g2⟩ := F7.calls h1 w hw
      exact ⟨g1, g2.mono fun e w' ⟨v, he, ho, hr⟩ => ⟨v, he, ho, F7.ret_elim h2 hr⟩⟩
    · obtain ⟨R, h1, h2⟩ := hh
      obtain ⟨g1, g2⟩ := F8.calls h1 w hw
      exact ⟨g1, g2.mono fun e w' ⟨v, he, ho, hr⟩ => ⟨v, he, ho, F8.ret_elim h2 hr⟩⟩
    · obtain ⟨R, h1, h2⟩ := hh
      obtain ⟨g1, g2⟩ := F10.calls h1 w hw
      exact ⟨g1, g2.mono fun e w' ⟨v, he, ho, hr⟩ => ⟨v, he, ho, F10.ret_elim h2 hr⟩⟩
    · obtain ⟨R, h1, h2⟩ := hh
      obtain ⟨g1, g2⟩ := F11.calls h1 w hw
      exact ⟨g1, g2.mono fun e w' ⟨v, he, ho, hr⟩ => ⟨v, he, ho, F11.ret_elim h2 hr⟩⟩
    · exact hh.elim
  qmono := by
    intro f args h K K' hh hk
    change F3.qcall f args h K at hh
    change F3.qcall f args h K'
    unfold F3.qcall at hh ⊢
    split at hh
    · obtain ⟨x0, x1, h1, h2⟩ := hh
      exact ⟨x0, x1, h1, hk _ h2⟩
    · exact hh.elim
  qval := by
    intro f args h K hh
    change F3.qcall f args h K at hh
    suffices H : ∃ v, K v ∧ F3.qcall f args h (· = v) from H
    unfold F3.qcall at hh ⊢
    split at hh
    · obtain ⟨x0, x1, h1, h2⟩ := hh
      exact ⟨_, h2, x0, x1, h1, rfl⟩
    · exact hh.elim
  qcall := by
    intro f args h v hh w hw
    change F3.qcall f args h (· = v) at hh
    unfold F3.qcall at hh
    split at hh
    · obtain ⟨x0, x1, h1, h2⟩ := hh
      obtain ⟨g1, g2⟩ := F9.calls h1 w hw
      refine ⟨g1, g2.mono fun e w' ⟨u, he, ho, hr⟩ => ?_⟩
      have hq := F9.ret_elim (K' := fun u h' => u = v ∧ h' = h) (fun _ _ h' hr => by obtain ⟨rfl, rfl, rfl⟩ := hr; exact ⟨h2, rfl⟩) hr
      exact ⟨hq.1 ▸ he, ho, hq.2⟩
    · exact hh.elim
noncomputable def F3.code : Code := (Try.f3.body).getD .skip
def F3.ann : Ann := (.two .auto (.two .auto (.two .auto (.two .auto (.two .auto (.two (.two .auto (.two (.loop 0 [0, 3, 4, 6] [(1, [0, 4]), (0, [2])] .auto) .auto)) .auto))))))
noncomputable def F3.c0 : Code := sub F3.code [1, 1, 1, 1, 1, 0, 1, 0, 0]
def F3.a0 : Ann := .auto
def F3.keep0 : List Nat := [0, 3, 4, 6]
def F3.outs0 : List (Nat × List Nat) := [(1, [0, 4]), (0, [2])]
set_option maxRecDepth 100000 in
theorem F3.L0 : LoopOK F3.ctx 86 F3.c0 0 F3.keep0 F3.outs0 := by
  refine loop_ok (n := F3.a0) F3.ok (by kernel_rfl) (loops_ok (l := []) (by kernel_rfl) ?_) F3.r0 ?_ ?_ (fun vs h K hh => hh)
  · exact trivial
  · intro K vs h hh
    unfold F3.r0 at hh
    split at hh
    · exact hh
    · exact hh
  · intro K m vs h hh
    unfold F3.r0 at hh
    split at hh
    · exact cast (by kernel_rfl) hh
    · exact hh.elim
set_option maxRecDepth 100000 in
theorem F3.eq (a1 : Option Addr) (a1l : Nat) (a1c : Nat) (h : Heap) (K : Bool → Heap → Prop) : evF F3.ctx Try.f3 F3.ann [(.slice a1 a1l a1c)] h (F3.ret K) = F3 a1 a1l a1c h K := by kernel_rfl
set_option maxRecDepth 100000 in
theorem F3.calls {a1 : Option Addr} {a1l : Nat} {a1c : Nat} {h : Heap} {K : Bool → Heap → Prop} (hh : F3 a1 a1l a1c h K) (w : World) (hw : w.heap = h) :
    (callFunc 3 #[(.slice a1 a1l a1c)]).run Try.prog w = .ok (.enter 3 #[(.slice a1 a1l a1c)]) w ∧ Calls Try.prog 3 #[(.slice a1 a1l a1c)] w fun e w' => ∃ v, e = .returned v ∧ Out w w' ∧ F3.ret K v w'.heap := by
  rw [← F3.eq] at hh
  exact fn_calls (args := [(.slice a1 a1l a1c)]) (c := F3.code) F3.ok Try.func3 (by kernel_rfl) (by kernel_rfl) (by kernel_rfl) (by kernel_rfl) (loops_ok (l := [(F3.c0, 0, F3.keep0, F3.outs0)]) (by kernel_rfl) ⟨F3.L0, trivial⟩) hh w hw

/-! ### strait/num.Sub: function 13 -/
def F13 (a1 : Int) (a2 : Int) (h : Heap) (K : Int → Bool → Heap → Prop) : Prop :=
  (((iteB (decide ((bits .and .i64 (bits .xor .i64 a1 a2) (bits .xor .i64 a1 (IntKind.i64.wrap (a1 - a2)))) < (0 : Int))) (K 0 false h) (((K (IntKind.i64.wrap (a1 - a2)) true h))))))
def F13.ret (K : Int → Bool → Heap → Prop) (v : Value) (h : Heap) : Prop := match v with
  | (.tuple ⟨[(.int .i64 r3), (.bool r4)]⟩) => K r3 r4 h
  | _ => False
theorem F13.ret_elim {K : Int → Bool → Heap → Prop} {K' : Value → Heap → Prop} {v : Value} {h : Heap} (hk : ∀ r3 r4 h, K r3 r4 h → K' (.tuple #[(.int .i64 r3), (.bool r4)]) h) (hh : F13.ret K v h) : K' v h := by
  unfold F13.ret at hh
  split at hh
  · exact hk _ _ _ hh
  · exact hh.elim
noncomputable def F13.ctx : Ctx := { P := Try.prog, call := fun _ _ _ _ => False, qcall := fun _ _ _ _ => False, quiet := fun f => false, loop := fun _ _ _ _ => False }
theorem F13.ok : F13.ctx.OK where
  mixed := by kernel_rfl
  mono := fun hh _ => hh.elim
  call := fun hh => hh.elim
  qmono := fun hh _ => hh.elim
  qval := fun hh => hh.elim
  qcall := fun hh => hh.elim
noncomputable def F13.code : Code := (Try.f13.body).getD .skip
def F13.ann : Ann := .auto
set_option maxRecDepth 100000 in
theorem F13.eq (a1 : Int) (a2 : Int) (h : Heap) (K : Int → Bool → Heap → Prop) : evF F13.ctx Try.f13 F13.ann [(.int .i64 a1), (.int .i64 a2)] h (F13.ret K) = F13 a1 a2 h K := by kernel_rfl
set_option maxRecDepth 100000 in
theorem F13.calls {a1 : Int} {a2 : Int} {h : Heap} {K : Int → Bool → Heap → Prop} (hh : F13 a1 a2 h K) (w : World) (hw : w.heap = h) :
    (callFunc 13 #[(.int .i64 a1), (.int .i64 a2)]).run Try.prog w = .ok (.enter 13 #[(.int .i64 a1), (.int .i64 a2)]) w ∧ Calls Try.prog 13 #[(.int .i64 a1), (.int .i64 a2)] w fun e w' => ∃ v, e = .returned v ∧ Out w w' ∧ F13.ret K v w'.heap := by
  rw [← F13.eq] at hh
  exact fn_calls (args := [(.int .i64 a1), (.int .i64 a2)]) (c := F13.code) F13.ok Try.func13 (by kernel_rfl) (by kernel_rfl) (by kernel_rfl) (by kernel_rfl) (loops_ok (l := []) (by kernel_rfl) trivial) hh w hw

/-! ### strait/straitref01.Sub: function 16 -/
def F16 (a1 : Int) (a2 : Int) (h : Heap) (K : Int → Bool → Heap → Prop) : Prop :=
  newP h (.cells #[(.int .i64 0), (.bool false)] 28) fun a3 h4 => ((let j10 := fun (y5 : Bool) => iteB y5 (stC h4 a3 (.int .i64 0) fun h6 => stC h6 (a3.add 1) (.bool false) fun h7 => (∃ (x8 : Int), cell h7 a3 = some (.int .i64 x8) ∧ ∃ (x9 : Bool), cell h7 (a3.add 1) = some (.bool x9) ∧ K x8 x9 h7)) ((stC h4 a3 (.int .i64 (IntKind.i64.wrap (a1 - a2))) fun h11 => stC h11 (a3.add 1) (.bool true) fun h12 => (∃ (x13 : Int), cell h12 a3 = some (.int .i64 x13) ∧ ∃ (x14 : Bool), cell h12 (a3.add 1) = some (.bool x14) ∧ K x13 x14 h12)));
  iteB (decide (a2 ≥ (0 : Int))) (iteB (decide ((IntKind.i64.wrap (a1 - a2)) > a1)) ((j10 true)) (iteB (decide (a2 < (0 : Int))) ((j10 (decide ((IntKind.i64.wrap (a1 - a2)) < a1)))) ((j10 false)))) (iteB (decide (a2 < (0 : Int))) ((j10 (decide ((IntKind.i64.wrap (a1 - a2)) < a1)))) ((j10 false)))))
def F16.ret (K : Int → Bool → Heap → Prop) (v : Value) (h : Heap) : Prop := match v with
  | (.agg ⟨[(.int .i64 r15), (.bool r16)]⟩) => K r15 r16 h
  | _ => False
theorem F16.ret_elim {K : Int → Bool → Heap → Prop} {K' : Value → Heap → Prop} {v : Value} {h : Heap} (hk : ∀ r15 r16 h, K r15 r16 h → K' (.agg #[(.int .i64 r15), (.bool r16)]) h) (hh : F16.ret K v h) : K' v h := by
  unfold F16.ret at hh
  split at hh
  · exact hk _ _ _ hh
  · exact hh.elim
noncomputable def F16.ctx : Ctx := { P := Try.prog, call := fun _ _ _ _ => False, qcall := fun _ _ _ _ => False, quiet := fun f => false, loop := fun _ _ _ _ => False }
theorem F16.ok : F16.ctx.OK where
  mixed := by kernel_rfl
  mono := fun hh _ => hh.elim
  call := fun hh => hh.elim
  qmono := fun hh _ => hh.elim
  qval := fun hh => hh.elim
  qcall := fun hh => hh.elim
noncomputable def F16.code : Code := (Try.f16.body).getD .skip
def F16.ann : Ann := .auto
set_option maxRecDepth 100000 in
theorem F16.eq (a1 : Int) (a2 : Int) (h : Heap) (K : Int → Bool → Heap → Prop) : evF F16.ctx Try.f16 F16.ann [(.int .i64 a1), (.int .i64 a2)] h (F16.ret K) = F16 a1 a2 h K := by kernel_rfl
set_option maxRecDepth 100000 in
theorem F16.calls {a1 : Int} {a2 : Int} {h : Heap} {K : Int → Bool → Heap → Prop} (hh : F16 a1 a2 h K) (w : World) (hw : w.heap = h) :
    (callFunc 16 #[(.int .i64 a1), (.int .i64 a2)]).run Try.prog w = .ok (.enter 16 #[(.int .i64 a1), (.int .i64 a2)]) w ∧ Calls Try.prog 16 #[(.int .i64 a1), (.int .i64 a2)] w fun e w' => ∃ v, e = .returned v ∧ Out w w' ∧ F16.ret K v w'.heap := by
  rw [← F16.eq] at hh
  exact fn_calls (args := [(.int .i64 a1), (.int .i64 a2)]) (c := F16.code) F16.ok Try.func16 (by kernel_rfl) (by kernel_rfl) (by kernel_rfl) (by kernel_rfl) (loops_ok (l := []) (by kernel_rfl) trivial) hh w hw

/-! ### strait/straitref01.Mul: function 17 -/
def F17 (a1 : Int) (a2 : Int) (h : Heap) (K : Int → Bool → Heap → Prop) : Prop :=
  newP h (.cells #[(.int .i64 0), (.bool false)] 28) fun a3 h4 => (let j49 : Prop := (let j23 := fun (y18 : Bool) => iteB y18 (stC h4 a3 (.int .i64 0) fun h19 => stC h19 (a3.add 1) (.bool false) fun h20 => (∃ (x21 : Int), cell h20 a3 = some (.int .i64 x21) ∧ ∃ (x22 : Bool), cell h20 (a3.add 1) = some (.bool x22) ∧ K x21 x22 h20)) (((a2 ≠ 0 ∧ iteB ((IntKind.i64.wrap ((IntKind.i64.wrap (a1 * a2)).tdiv a2)) != a1) ((stC h4 a3 (.int .i64 0) fun h29 => stC h29 (a3.add 1) (.bool false) fun h30 => (∃ (x31 : Int), cell h30 a3 = some (.int .i64 x31) ∧ ∃ (x32 : Bool), cell h30 (a3.add 1) = some (.bool x32) ∧ K x31 x32 h30))) (a1 ≠ 0 ∧ (iteB ((IntKind.i64.wrap ((IntKind.i64.wrap (a1 * a2)).tdiv a1)) != a2) (stC h4 a3 (.int .i64 0) fun h33 => stC h33 (a3.add 1) (.bool false) fun h34 => (∃ (x35 : Int), cell h34 a3 = some (.int .i64 x35) ∧ ∃ (x36 : Bool), cell h34 (a3.add 1) = some (.bool x36) ∧ K x35 x36 h34)) ((stC h4 a3 (.int .i64 (IntKind.i64.wrap (a1 * a2))) fun h45 => stC h45 (a3.add 1) (.bool true) fun h46 => (∃ (x47 : Int), cell h46 a3 = some (.int .i64 x47) ∧ ∃ (x48 : Bool), cell h46 (a3.add 1) = some (.bool x48) ∧ K x47 x48 h46))))))));
  iteB (a1 == ((-1) : Int)) (iteB (a2 == ((-9223372036854775808) : Int)) ((j23 true)) (iteB (a2 == ((-1) : Int)) ((j23 (a1 == ((-9223372036854775808) : Int)))) ((j23 false)))) (iteB (a2 == ((-1) : Int)) ((j23 (a1 == ((-9223372036854775808) : Int)))) ((j23 false))));
  iteB (a1 == (0 : Int)) ((stC h4 a3 (.int .i64 0) fun h10 => stC h10 (a3.add 1) (.bool true) fun h11 => (∃ (x12 : Int), cell h11 a3 = some (.int .i64 x12) ∧ ∃ (x13 : Bool), cell h11 (a3.add 1) = some (.bool x13) ∧ K x12 x13 h11))) ((iteB (a2 == (0 : Int)) (stC h4 a3 (.int .i64 0) fun h14 => stC h14 (a3.add 1) (.bool true) fun h15 => (∃ (x16 : Int), cell h15 a3 = some (.int .i64 x16) ∧ ∃ (x17 : Bool), cell h15 (a3.add 1) = some (.bool x17) ∧ K x16 x17 h15)) ((j49)))))
def F17.ret (K : Int → Bool → Heap → Prop) (v : Value) (h : Heap) : Prop := match v with
  | (.agg ⟨[(.int .i64 r50), (.bool r51)]⟩) => K r50 r51 h
  | _ => False
theorem F17.ret_elim {K : Int → Bool → Heap → Prop} {K' : Value → Heap → Prop} {v : Value} {h : Heap} (hk : ∀ r50 r51 h, K r50 r51 h → K' (.agg #[(.int .i64 r50), (.bool r51)]) h) (hh : F17.ret K v h) : K' v h := by
  unfold F17.ret at hh
  split at hh
  · exact hk _ _ _ hh
  · exact hh.elim
noncomputable def F17.ctx : Ctx := { P := Try.prog, call := fun _ _ _ _ => False, qcall := fun _ _ _ _ => False, quiet := fun f => false, loop := fun _ _ _ _ => False }
theorem F17.ok : F17.ctx.OK where
  mixed := by kernel_rfl
  mono := fun hh _ => hh.elim
  call := fun hh => hh.elim
  qmono := fun hh _ => hh.elim
  qval := fun hh => hh.elim
  qcall := fun hh => hh.elim
noncomputable def F17.code : Code := (Try.f17.body).getD .skip
def F17.ann : Ann := .auto
set_option maxRecDepth 100000 in
theorem F17.eq (a1 : Int) (a2 : Int) (h : Heap) (K : Int → Bool → Heap → Prop) : evF F17.ctx Try.f17 F17.ann [(.int .i64 a1), (.int .i64 a2)] h (F17.ret K) = F17 a1 a2 h K := by kernel_rfl
set_option maxRecDepth 100000 in
theorem F17.calls {a1 : Int} {a2 : Int} {h : Heap} {K : Int → Bool → Heap → Prop} (hh : F17 a1 a2 h K) (w : World) (hw : w.heap = h) :
    (callFunc 17 #[(.int .i64 a1), (.int .i64 a2)]).run Try.prog w = .ok (.enter 17 #[(.int .i64 a1), (.int .i64 a2)]) w ∧ Calls Try.prog 17 #[(.int .i64 a1), (.int .i64 a2)] w fun e w' => ∃ v, e = .returned v ∧ Out w w' ∧ F17.ret K v w'.heap := by
  rw [← F17.eq] at hh
  exact fn_calls (args := [(.int .i64 a1), (.int .i64 a2)]) (c := F17.code) F17.ok Try.func17 (by kernel_rfl) (by kernel_rfl) (by kernel_rfl) (by kernel_rfl) (loops_ok (l := []) (by kernel_rfl) trivial) hh w hw

/-! ### strait/straitlaw01.NumTells: function 4 -/
def F4 (a1 : Int) (a2 : Int) (h : Heap) (K : Bool → Heap → Prop) : Prop :=
  (qcallP2 h (F12 a1 a2 h) fun x3 x4 => (qcallP2 h (F13 a1 a2 h) fun x5 x6 => (qcallP2 h (F14 a1 a2 h) fun x7 x8 => (callP2 (F15 a1 a2 h) fun x9 x10 h11 => callP1 (F10 x3 x4 x9 x10 h11) fun x12 h13 => iteB x12 (callP2 (F16 a1 a2 h13) fun x14 x15 h16 => callP1 (F10 x5 x6 x14 x15 h16) fun x17 h18 => iteB x17 (callP2 (F17 a1 a2 h18) fun x19 x20 h21 => callP1 (F10 x7 x8 x19 x20 h21) fun x22 h23 => iteB x22 (callP1 (F6 h23) fun x24 h25 => K x24 h25) (K false h23)) (K false h18)) (K false h13)))))
def F4.ret (K : Bool → Heap → Prop) (v : Value) (h : Heap) : Prop := match v with
  | (.bool r28) => K r28 h
  | _ => False
theorem F4.ret_elim {K : Bool → Heap → Prop} {K' : Value → Heap → Prop} {v : Value} {h : Heap} (hk : ∀ r28 h, K r28 h → K' (.bool r28) h) (hh : F4.ret K v h) : K' v h := by
  unfold F4.ret at hh
  split at hh
  · exact hk _ _ hh
  · exact hh.elim
def F4.call (f : FuncId) (vs : List Value) (h : Heap) (K : Value → Heap → Prop) : Prop := match f, vs with
  | 6, [] => callP1 (F6 h) fun r11 h' => K (.bool r11) h'
  | 10, [(.int .i64 a1), (.bool a2), (.agg ⟨[(.int .i64 a3), (.bool a4)]⟩)] => callP1 (F10 a1 a2 a3 a4 h) fun r10 h' => K (.bool r10) h'
  | 15, [(.int .i64 a1), (.int .i64 a2)] => callP2 (F15 a1 a2 h) fun r15 r16 h' => K (.agg #[(.int .i64 r15), (.bool r16)]) h'
  | 16, [(.int .i64 a1), (.int .i64 a2)] => callP2 (F16 a1 a2 h) fun r15 r16 h' => K (.agg #[(.int .i64 r15), (.bool r16)]) h'
  | 17, [(.int .i64 a1), (.int .i64 a2)] => callP2 (F17 a1 a2 h) fun r50 r51 h' => K (.agg #[(.int .i64 r50), (.bool r51)]) h'
  | _, _ => False
def F4.qcall (f : FuncId) (vs : List Value) (h : Heap) (K : Value → Prop) : Prop := match f, vs with
  | 12, [(.int .i64 a1), (.int .i64 a2)] => qcallP2 h (F12 a1 a2 h) fun r3 r4 => K (.tuple #[(.int .i64 r3), (.bool r4)])
  | 13, [(.int .i64 a1), (.int .i64 a2)] => qcallP2 h (F13 a1 a2 h) fun r3 r4 => K (.tuple #[(.int .i64 r3), (.bool r4)])
  | 14, [(.int .i64 a1), (.int .i64 a2)] => qcallP2 h (F14 a1 a2 h) fun r7 r8 => K (.tuple #[(.int .i64 r7), (.bool r8)])
  | _, _ => False
noncomputable def F4.ctx : Ctx := { P := Try.prog, call := F4.call, qcall := F4.qcall, quiet := fun f => Nat.beq f 12 || Nat.beq f 13 || Nat.beq f 14, loop := fun _ _ _ _ => False }
theorem F4.ok : F4.ctx.OK where
  mixed := by kernel_rfl
  mono := by
    intro f args h K K' hh hk
    change F4.call f args h K at hh
    change F4.call f args h K'
    unfold F4.call at hh ⊢
    split at hh
    · obtain ⟨R, h1, h2⟩ := hh
      exact ⟨R, h1, fun _ x hr => hk _ _ (h2 _ x hr)⟩
    · obtain ⟨R, h1, h2⟩ := hh
      exact ⟨R, h1, fun _ x hr => hk _ _ (h2 _ x hr)⟩
    · obtain ⟨R, h1, h2⟩ := hh
      exact ⟨R, h1, fun _ _ x hr => hk _ _ (h2 _ _ x hr)⟩
    · obtain ⟨R, h1, h2⟩ := hh
      exact ⟨R, h1, fun _ _ x hr => hk _ _ (h2 _ _ x hr)⟩
    · obtain ⟨R, h1, h2⟩ := hh
      exact ⟨R, h1, fun _ _ x hr => hk _ _ (h2 _ _ x hr)⟩
    · exact hh.elim
  call := by
    intro f args h K hh w hw
    change F4.call f args h K at hh
    unfold F4.call at hh
    split at hh
    · obtain ⟨R, h1, h2⟩ := hh
      obtain ⟨g1, g2⟩ := F6.calls h1 w hw
      exact ⟨g1, g2.mono fun e w' ⟨v, he, ho, hr⟩ => ⟨v, he, ho, F6.ret_elim h2 hr⟩⟩
    · obtain ⟨R, h1, h2⟩ := hh
      obtain ⟨g1, g2⟩ := F10.calls h1 w hw
      exact ⟨g1, g2.mono fun e w' ⟨v, he, ho, hr⟩ => ⟨v, he, ho, F10.ret_elim h2 hr⟩⟩
    · obtain ⟨R, h1, h2⟩ := hh
      obtain ⟨g1, g2⟩ := F15.calls h1 w hw
      exact ⟨g1, g2.mono fun e w' ⟨v, he, ho, hr⟩ => ⟨v, he, ho, F15.ret_elim h2 hr⟩⟩
    · obtain ⟨R, h1, h2⟩ := hh
      obtain ⟨g1, g2⟩ := F16.calls h1 w hw
      exact ⟨g1, g2.mono fun e w' ⟨v, he, ho, hr⟩ => ⟨v, he, ho, F16.ret_elim h2 hr⟩⟩
    · obtain ⟨R, h1, h2⟩ := hh
      obtain ⟨g1, g2⟩ := F17.calls h1 w hw
      exact ⟨g1, g2.mono fun e w' ⟨v, he, ho, hr⟩ => ⟨v, he, ho, F17.ret_elim h2 hr⟩⟩
    · exact hh.elim
  qmono := by
    intro f args h K K' hh hk
    change F4.qcall f args h K at hh
    change F4.qcall f args h K'
    unfold F4.qcall at hh ⊢
    split at hh
    · obtain ⟨x0, x1, h1, h2⟩ := hh
      exact ⟨x0, x1, h1, hk _ h2⟩
    · obtain ⟨x0, x1, h1, h2⟩ := hh
      exact ⟨x0, x1, h1, hk _ h2⟩
    · obtain ⟨x0, x1, h1, h2⟩ := hh
      exact ⟨x0, x1, h1, hk _ h2⟩
    · exact hh.elim
  qval := by
    intro f args h K hh
    change F4.qcall f args h K at hh
    suffices H : ∃ v, K v ∧ F4.qcall f args h (· = v) from H
    unfold F4.qcall at hh ⊢
    split at hh
    · obtain ⟨x0, x1, h1, h2⟩ := hh
      exact ⟨_, h2, x0, x1, h1, rfl⟩
    · obtain ⟨x0, x1, h1, h2⟩ := hh
      exact ⟨_, h2, x0, x1, h1, rfl⟩
    · obtain ⟨x0, x1, h1, h2⟩ := hh
      exact ⟨_, h2, x0, x1, h1, rfl⟩
    · exact hh.elim
  qcall := by
    intro f args h v hh w hw
    change F4.qcall f args h (· = v) at hh
    unfold F4.qcall at hh
    split at hh
    · obtain ⟨x0, x1, h1, h2⟩ := hh
      obtain ⟨g1, g2⟩ := F12.calls h1 w hw
      refine ⟨g1, g2.mono fun e w' ⟨u, he, ho, hr⟩ => ?_⟩
      have hq := F12.ret_elim (K' := fun u h' => u = v ∧ h' = h) (fun _ _ h' hr => by obtain ⟨rfl, rfl, rfl⟩ := hr; exact ⟨h2, rfl⟩) hr
      exact ⟨hq.1 ▸ he, ho, hq.2⟩
    · obtain ⟨x0, x1, h1, h2⟩ := hh
      obtain ⟨g1, g2⟩ := F13.calls h1 w hw
      refine ⟨g1, g2.mono fun e w' ⟨u, he, ho, hr⟩ => ?_⟩
      have hq := F13.ret_elim (K' := fun u h' => u = v ∧ h' = h) (fun _ _ h' hr => by obtain ⟨rfl, rfl, rfl⟩ := hr; exact ⟨h2, rfl⟩) hr
      exact ⟨hq.1 ▸ he, ho, hq.2⟩
    · obtain ⟨x0, x1, h1, h2⟩ := hh
      obtain ⟨g1, g2⟩ := F14.calls h1 w hw
      refine ⟨g1, g2.mono fun e w' ⟨u, he, ho, hr⟩ => ?_⟩
      have hq := F14.ret_elim (K' := fun u h' => u = v ∧ h' = h) (fun _ _ h' hr => by obtain ⟨rfl, rfl, rfl⟩ := hr; exact ⟨h2, rfl⟩) hr
      exact ⟨hq.1 ▸ he, ho, hq.2⟩
    · exact hh.elim
noncomputable def F4.code : Code := (Try.f4.body).getD .skip
def F4.ann : Ann := .auto
set_option maxRecDepth 100000 in
theorem F4.eq (a1 : Int) (a2 : Int) (h : Heap) (K : Bool → Heap → Prop) : evF F4.ctx Try.f4 F4.ann [(.int .i64 a1), (.int .i64 a2)] h (F4.ret K) = F4 a1 a2 h K := by kernel_rfl
set_option maxRecDepth 100000 in
theorem F4.calls {a1 : Int} {a2 : Int} {h : Heap} {K : Bool → Heap → Prop} (hh : F4 a1 a2 h K) (w : World) (hw : w.heap = h) :
    (callFunc 4 #[(.int .i64 a1), (.int .i64 a2)]).run Try.prog w = .ok (.enter 4 #[(.int .i64 a1), (.int .i64 a2)]) w ∧ Calls Try.prog 4 #[(.int .i64 a1), (.int .i64 a2)] w fun e w' => ∃ v, e = .returned v ∧ Out w w' ∧ F4.ret K v w'.heap := by
  rw [← F4.eq] at hh
  exact fn_calls (args := [(.int .i64 a1), (.int .i64 a2)]) (c := F4.code) F4.ok Try.func4 (by kernel_rfl) (by kernel_rfl) (by kernel_rfl) (by kernel_rfl) (loops_ok (l := []) (by kernel_rfl) trivial) hh w hw

/-! ### strait/straitlaw01.NumBack: function 5 -/
def F5 (a1 : Int) (a2 : Int) (h : Heap) (K : Bool → Heap → Prop) : Prop :=
  (qcallP2 h (F12 a1 a2 h) fun x3 x4 => (let j24 : Prop := qcallP2 h (F14 a1 a2 h) fun x10 x11 => (qcallP2 h (F14 a2 a1 h) fun x12 x13 => (iteB (x10 == x12) (iteB (x11 == x13) (iteB (!x11) (callP1 (F6 h) fun x14 h15 => K x14 h15) (iteB (a1 == (0 : Int)) (callP1 (F6 h) fun x16 h17 => K x16 h17) (iteB (a1 == ((-1) : Int)) (callP1 (F6 h) fun x18 h19 => K x18 h19) (a1 ≠ 0 ∧ iteB ((IntKind.i64.wrap (x10.tdiv a1)) == a2) (callP1 (F6 h) fun x20 h21 => K x20 h21) (K false h))))) (K false h)) (K false h)));
  (iteB x4 (qcallP2 h (F13 x3 a2 h) fun x5 x6 => (qcallP2 h (F13 x3 a1 h) fun x7 x8 => (iteB (!x6) (K false h) (iteB (!x8) (K false h) (iteB (x5 != a1) (K false h) ((iteB (x7 != a2) (K false h) ((j24))))))))) ((j24)))))
def F5.ret (K : Bool → Heap → Prop) (v : Value) (h : Heap) : Prop := match v with
  | (.bool r25) => K r25 h
  | _ => False
theorem F5.ret_elim {K : Bool → Heap → Prop} {K' : Value → Heap → Prop} {v : Value} {h : Heap} (hk : ∀ r25 h, K r25 h → K' (.bool r25) h) (hh : F5.ret K v h) : K' v h := by
  unfold F5.ret at hh
  split at hh
  · exact hk _ _ hh
  · exact hh.elim
def F5.call (f : FuncId) (vs : List Value) (h : Heap) (K : Value → Heap → Prop) : Prop := match f, vs with
  | 6, [] => callP1 (F6 h) fun r11 h' => K (.bool r11) h'
  | _, _ => False
def F5.qcall (f : FuncId) (vs : List Value) (h : Heap) (K : Value → Prop) : Prop := match f, vs with
  | 12, [(.int .i64 a1), (.int .i64 a2)] => qcallP2 h (F12 a1 a2 h) fun r3 r4 => K (.tuple #[(.int .i64 r3), (.bool r4)])
  | 13, [(.int .i64 a1), (.int .i64 a2)] => qcallP2 h (F13 a1 a2 h) fun r3 r4 => K (.tuple #[(.int .i64 r3), (.bool r4)])
  | 14, [(.int .i64 a1), (.int .i64 a2)] => qcallP2 h (F14 a1 a2 h) fun r7 r8 => K (.tuple #[(.int .i64 r7), (.bool r8)])
  | _, _ => False
noncomputable def F5.ctx : Ctx := { P := Try.prog, call := F5.call, qcall := F5.qcall, quiet := fun f => Nat.beq f 12 || Nat.beq f 13 || Nat.beq f 14, loop := fun _ _ _ _ => False }
theorem F5.ok : F5.ctx.OK where
  mixed := by kernel_rfl
  mono := by
    intro f args h K K' hh hk
    change F5.call f args h K at hh
    change F5.call f args h K'
    unfold F5.call at hh ⊢
    split at hh
    · obtain ⟨R, h1, h2⟩ := hh
      exact ⟨R, h1, fun _ x hr => hk _ _ (h2 _ x hr)⟩
    · exact hh.elim
  call := by
    intro f args h K hh w hw
    change F5.call f args h K at hh
    unfold F5.call at hh
    split at hh
    · obtain ⟨R, h1, h2⟩ := hh
      obtain ⟨g1, g2⟩ := F6.calls h1 w hw
      exact ⟨g1, g2.mono fun e w' ⟨v, he, ho, hr⟩ => ⟨v, he, ho, F6.ret_elim h2 hr⟩⟩
    · exact hh.elim
  qmono := by
    intro f args h K K' hh hk
    change F5.qcall f args h K at hh
    change F5.qcall f args h K'
    unfold F5.qcall at hh ⊢
    split at hh
    · obtain ⟨x0, x1, h1, h2⟩ := hh
      exact ⟨x0, x1, h1, hk _ h2⟩
    · obtain ⟨x0, x1, h1, h2⟩ := hh
      exact ⟨x0, x1, h1, hk _ h2⟩
    · obtain ⟨x0, x1, h1, h2⟩ := hh
      exact ⟨x0, x1, h1, hk _ h2⟩
    · exact hh.elim
  qval := by
    intro f args h K hh
    change F5.qcall f args h K at hh
    suffices H : ∃ v, K v ∧ F5.qcall f args h (· = v) from H
    unfold F5.qcall at hh ⊢
    split at hh
    · obtain ⟨x0, x1, h1, h2⟩ := hh
      exact ⟨_, h2, x0, x1, h1, rfl⟩
    · obtain ⟨x0, x1, h1, h2⟩ := hh
      exact ⟨_, h2, x0, x1, h1, rfl⟩
    · obtain ⟨x0, x1, h1, h2⟩ := hh
      exact ⟨_, h2, x0, x1, h1, rfl⟩
    · exact hh.elim
  qcall := by
    intro f args h v hh w hw
    change F5.qcall f args h (· = v) at hh
    unfold F5.qcall at hh
    split at hh
    · obtain ⟨x0, x1, h1, h2⟩ := hh
      obtain ⟨g1, g2⟩ := F12.calls h1 w hw
      refine ⟨g1, g2.mono fun e w' ⟨u, he, ho, hr⟩ => ?_⟩
      have hq := F12.ret_elim (K' := fun u h' => u = v ∧ h' = h) (fun _ _ h' hr => by obtain ⟨rfl, rfl, rfl⟩ := hr; exact ⟨h2, rfl⟩) hr
      exact ⟨hq.1 ▸ he, ho, hq.2⟩
    · obtain ⟨x0, x1, h1, h2⟩ := hh
      obtain ⟨g1, g2⟩ := F13.calls h1 w hw
      refine ⟨g1, g2.mono fun e w' ⟨u, he, ho, hr⟩ => ?_⟩
      have hq := F13.ret_elim (K' := fun u h' => u = v ∧ h' = h) (fun _ _ h' hr => by obtain ⟨rfl, rfl, rfl⟩ := hr; exact ⟨h2, rfl⟩) hr
      exact ⟨hq.1 ▸ he, ho, hq.2⟩
    · obtain ⟨x0, x1, h1, h2⟩ := hh
      obtain ⟨g1, g2⟩ := F14.calls h1 w hw
      refine ⟨g1, g2.mono fun e w' ⟨u, he, ho, hr⟩ => ?_⟩
      have hq := F14.ret_elim (K' := fun u h' => u = v ∧ h' = h) (fun _ _ h' hr => by obtain ⟨rfl, rfl, rfl⟩ := hr; exact ⟨h2, rfl⟩) hr
      exact ⟨hq.1 ▸ he, ho, hq.2⟩
    · exact hh.elim
noncomputable def F5.code : Code := (Try.f5.body).getD .skip
def F5.ann : Ann := .auto
set_option maxRecDepth 100000 in
theorem F5.eq (a1 : Int) (a2 : Int) (h : Heap) (K : Bool → Heap → Prop) : evF F5.ctx Try.f5 F5.ann [(.int .i64 a1), (.int .i64 a2)] h (F5.ret K) = F5 a1 a2 h K := by kernel_rfl
set_option maxRecDepth 100000 in
theorem F5.calls {a1 : Int} {a2 : Int} {h : Heap} {K : Bool → Heap → Prop} (hh : F5 a1 a2 h K) (w : World) (hw : w.heap = h) :
    (callFunc 5 #[(.int .i64 a1), (.int .i64 a2)]).run Try.prog w = .ok (.enter 5 #[(.int .i64 a1), (.int .i64 a2)]) w ∧ Calls Try.prog 5 #[(.int .i64 a1), (.int .i64 a2)] w fun e w' => ∃ v, e = .returned v ∧ Out w w' ∧ F5.ret K v w'.heap := by
  rw [← F5.eq] at hh
  exact fn_calls (args := [(.int .i64 a1), (.int .i64 a2)]) (c := F5.code) F5.ok Try.func5 (by kernel_rfl) (by kernel_rfl) (by kernel_rfl) (by kernel_rfl) (loops_ok (l := []) (by kernel_rfl) trivial) hh w hw

end Go.Proofs.Ythcdjimpppajjaa
