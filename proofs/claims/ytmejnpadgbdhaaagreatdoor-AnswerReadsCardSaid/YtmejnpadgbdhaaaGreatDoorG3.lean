/- WRITTEN BY A PROGRAM OF THIS SESSION (gen.py): what each function asks of memory, and that the model's run comes to it. -/
import Derived.Test.YtmejnpadgbdhaaaGreatDoorProg
import Derived.Test.YtmejnpadgbdhaaaGreatDoorFw8
import Derived.Test.YtmejnpadgbdhaaaGreatDoorG2
namespace Go.Proofs.YtmejnpadgbdhaaaGreatDoor
open Go.Hp
set_option linter.unusedVariables false
set_option linter.unusedSimpArgs false
set_option linter.unusedSectionVars false

/-! ### slices.Equal[[]byte,byte]: function 29 -/
def slices_Equal_Lbyte_byte.b0 (K0 : Bool → Heap → Prop) (K2 : Heap → Prop) (cont : (Option Addr) → Nat → Nat → (Option Addr) → Nat → Nat → Int → Int → Heap → Prop) (c0_1001 : Option Addr) (c0_1002 : Nat) (c0_1003 : Nat) (c1_1004 : Option Addr) (c1_1005 : Nat) (c1_1006 : Nat) (c12_1007 : Int) (v13_1008 : Int) (h1009 : Heap) : Prop :=
  (iteB (decide (v13_1008 < c12_1007)) (((chkP c0_1001 fun a1010 => (0 ≤ v13_1008 ∧ v13_1008 < (c0_1002 : Int)) ∧ ∃ (x1011 : Int), cell h1009 (a1010.add (v13_1008.toNat * 1)) = some (.int .u8 x1011) ∧ chkP c1_1004 fun a1012 => (0 ≤ v13_1008 ∧ v13_1008 < (c1_1005 : Int)) ∧ ∃ (x1013 : Int), cell h1009 (a1012.add (v13_1008.toNat * 1)) = some (.int .u8 x1013) ∧ (iteB (x1011 != x1013) (K0 false h1009) (((cont c0_1001 c0_1002 c0_1003 c1_1004 c1_1005 c1_1006 c12_1007 (IntKind.i64.wrap (v13_1008 + 1)) h1009))))))) (K2 h1009))
def slices_Equal_Lbyte_byte.l0 (K0 : Bool → Heap → Prop) (K2 : Heap → Prop) : Nat → (Option Addr) → Nat → Nat → (Option Addr) → Nat → Nat → Int → Int → Heap → Prop
  | 0, _, _, _, _, _, _, _, _, _ => False
  | m + 1, c0_1001, c0_1002, c0_1003, c1_1004, c1_1005, c1_1006, c12_1007, v13_1008, h => slices_Equal_Lbyte_byte.b0 K0 K2 (slices_Equal_Lbyte_byte.l0 K0 K2 m) c0_1001 c0_1002 c0_1003 c1_1004 c1_1005 c1_1006 c12_1007 v13_1008 h
def slices_Equal_Lbyte_byte (a1 : Option Addr) (a1l : Nat) (a1c : Nat) (a2 : Option Addr) (a2l : Nat) (a2c : Nat) (h : Heap) (K : Bool → Heap → Prop) : Prop :=
  ((iteB ((a1l : Int) != (a2l : Int)) (K false h) (((∃ m6, slices_Equal_Lbyte_byte.l0 (fun z3 h4 => K z3 h4) (fun h5 => (K true h5)) m6 a1 a1l a1c a2 a2l a2c (a1l : Int) 0 h)))))
def slices_Equal_Lbyte_byte.ret (K : Bool → Heap → Prop) (v : Value) (h : Heap) : Prop := match v with
  | (.bool r7) => K r7 h
  | _ => False
theorem slices_Equal_Lbyte_byte.ret_elim {K : Bool → Heap → Prop} {K' : Value → Heap → Prop} {v : Value} {h : Heap} (hk : ∀ r7 h, K r7 h → K' (.bool r7) h) (hh : slices_Equal_Lbyte_byte.ret K v h) : K' v h := by
  unfold slices_Equal_Lbyte_byte.ret at hh
  split at hh
  · exact hk _ _ hh
  · exact hh.elim
def slices_Equal_Lbyte_byte.r0 (K : Nat → List Value → Heap → Prop) (m : Nat) (vs : List Value) (h : Heap) : Prop := match vs with
  | [(.slice c0_1001 c0_1002 c0_1003), (.slice c1_1004 c1_1005 c1_1006), (.int .i64 c12_1007), (.int .i64 v13_1008)] => slices_Equal_Lbyte_byte.l0 (fun z8 h' => K 0 [(.bool z8)] h') (fun h' => K 2 [] h') m c0_1001 c0_1002 c0_1003 c1_1004 c1_1005 c1_1006 c12_1007 v13_1008 h
  | _ => False
def slices_Equal_Lbyte_byte.loop (i : Nat) (vs : List Value) (h : Heap) (K : Nat → List Value → Heap → Prop) : Prop := match i with
  | 0 => ∃ m, slices_Equal_Lbyte_byte.r0 K m vs h
  | _ => False
noncomputable def slices_Equal_Lbyte_byte.ctx : Ctx := { P := Tryz.prog, call := fun _ _ _ _ => False, qcall := fun _ _ _ _ => False, quiet := fun f => Nat.beq f 2000025, loop := slices_Equal_Lbyte_byte.loop }
theorem slices_Equal_Lbyte_byte.ok [DKc] : slices_Equal_Lbyte_byte.ctx.OK where
  mixed := by kernel_rfl
  mono := fun hh _ => hh.elim
  call := fun hh => hh.elim
  qmono := fun hh _ => hh.elim
  qval := fun hh => hh.elim
  qcall := fun hh => hh.elim
noncomputable def slices_Equal_Lbyte_byte.code : Code := (Tryz.f29.body).getD .skip
def slices_Equal_Lbyte_byte.ann : Ann := (.two .auto (.two .auto (.two (.two .auto (.two (.loop 0 [0, 1, 12, 13] [(2, []), (0, [4])] (.two .auto (.two .auto (.two (.two (.two .auto (.two (.reg [0, 0, 3, 7, 0, 0, 48, 112, 255] (.take 0 (.take 1 (.take 2 (.take 3 (.take 4 (.take 5 (.take 6 (.take 7 (.take 8 .done)))))))))) .auto)) .auto) .auto)))) .auto)) .auto)))
noncomputable def slices_Equal_Lbyte_byte.c0 : Code := sub slices_Equal_Lbyte_byte.code [1, 1, 0, 1, 0, 0]
def slices_Equal_Lbyte_byte.a0 : Ann := (.two .auto (.two .auto (.two (.two (.two .auto (.two (.reg [0, 0, 3, 7, 0, 0, 48, 112, 255] (.take 0 (.take 1 (.take 2 (.take 3 (.take 4 (.take 5 (.take 6 (.take 7 (.take 8 .done)))))))))) .auto)) .auto) .auto)))
def slices_Equal_Lbyte_byte.keep0 : List Nat := [0, 1, 12, 13]
def slices_Equal_Lbyte_byte.outs0 : List (Nat × List Nat) := [(2, []), (0, [4])]
set_option maxRecDepth 100000 in
theorem slices_Equal_Lbyte_byte.L0 [DKc] : LoopOK slices_Equal_Lbyte_byte.ctx 26 slices_Equal_Lbyte_byte.c0 0 slices_Equal_Lbyte_byte.keep0 slices_Equal_Lbyte_byte.outs0 := by
  refine loop_ok (n := slices_Equal_Lbyte_byte.a0) slices_Equal_Lbyte_byte.ok (by kernel_rfl) (loops_ok (l := []) (by kernel_rfl) ?_) slices_Equal_Lbyte_byte.r0 ?_ ?_ (fun vs h K hh => hh)
  · exact trivial
  · intro K vs h hh
    unfold slices_Equal_Lbyte_byte.r0 at hh
    split at hh
    · exact hh
    · exact hh
  · intro K m vs h hh
    unfold slices_Equal_Lbyte_byte.r0 at hh
    split at hh
    · exact cast (by kernel_rfl) hh
    · exact hh.elim
set_option maxRecDepth 100000 in
theorem slices_Equal_Lbyte_byte.eq (a1 : Option Addr) (a1l : Nat) (a1c : Nat) (a2 : Option Addr) (a2l : Nat) (a2c : Nat) (h : Heap) (K : Bool → Heap → Prop) : evF slices_Equal_Lbyte_byte.ctx Tryz.f29 slices_Equal_Lbyte_byte.ann [(.slice a1 a1l a1c), (.slice a2 a2l a2c)] h (slices_Equal_Lbyte_byte.ret K) = slices_Equal_Lbyte_byte a1 a1l a1c a2 a2l a2c h K := by kernel_rfl
set_option maxRecDepth 100000 in
theorem slices_Equal_Lbyte_byte.calls [DKc] {a1 : Option Addr} {a1l : Nat} {a1c : Nat} {a2 : Option Addr} {a2l : Nat} {a2c : Nat} {h : Heap} {K : Bool → Heap → Prop} (hh : slices_Equal_Lbyte_byte a1 a1l a1c a2 a2l a2c h K) (w : World) (hw : w.heap = h) :
    (callFunc 29 #[(.slice a1 a1l a1c), (.slice a2 a2l a2c)]).run Tryz.prog w = .ok (.enter 29 #[(.slice a1 a1l a1c), (.slice a2 a2l a2c)]) w ∧ Calls Tryz.prog 29 #[(.slice a1 a1l a1c), (.slice a2 a2l a2c)] w fun e w' => ∃ v, e = .returned v ∧ Out w w' ∧ slices_Equal_Lbyte_byte.ret K v w'.heap := by
  rw [← slices_Equal_Lbyte_byte.eq] at hh
  exact fn_calls (args := [(.slice a1 a1l a1c), (.slice a2 a2l a2c)]) (c := slices_Equal_Lbyte_byte.code) slices_Equal_Lbyte_byte.ok Tryz.func29 (by kernel_rfl) (by kernel_rfl) (by kernel_rfl) (by kernel_rfl) (loops_ok (l := [(slices_Equal_Lbyte_byte.c0, none, 0, slices_Equal_Lbyte_byte.keep0, slices_Equal_Lbyte_byte.outs0)]) (by kernel_rfl) ⟨slices_Equal_Lbyte_byte.L0, trivial⟩) hh w hw

/-! ### strait/answer.Same: function 9 -/
def answer_Same (a1 : Int) (a2 : Option Addr) (a2l : Nat) (a2c : Nat) (a3 : Option Addr) (a3l : Nat) (a3c : Nat) (a4 : Option Addr) (a4l : Nat) (a4c : Nat) (a5 : Int) (a6 : Option Addr) (a6l : Nat) (a6c : Nat) (a7 : Option Addr) (a7l : Nat) (a7c : Nat) (a8 : Option Addr) (a8l : Nat) (a8c : Nat) (h : Heap) (K : Bool → Heap → Prop) : Prop :=
  newP h (.cells #[(.int .i64 a1), (.slice a2 a2l a2c), (.slice a3 a3l a3c), (.slice a4 a4l a4c)] 27) fun a9 h10 => newP h10 (.cells #[(.int .i64 a5), (.slice a6 a6l a6c), (.slice a7 a7l a7c), (.slice a8 a8l a8c)] 27) fun a11 h12 => (∃ (x13 : Int), cell h12 a9 = some (.int .i64 x13) ∧ ∃ (x14 : Int), cell h12 a11 = some (.int .i64 x14) ∧ iteB (x13 == x14) (∃ (x15 : Option Addr) (x15l : Nat) (x15c : Nat), cell h12 (a9.add 1) = some (.slice x15 x15l x15c) ∧ ∃ (x16 : Option Addr) (x16l : Nat) (x16c : Nat), cell h12 (a11.add 1) = some (.slice x16 x16l x16c) ∧ qcallP1 h12 (slices_Equal_Lint64_int64 x15 x15l x15c x16 x16l x16c h12) fun x17 => iteB x17 (∃ (x18 : Option Addr) (x18l : Nat) (x18c : Nat), cell h12 (a9.add 2) = some (.slice x18 x18l x18c) ∧ ∃ (x19 : Option Addr) (x19l : Nat) (x19c : Nat), cell h12 (a11.add 2) = some (.slice x19 x19l x19c) ∧ qcallP1 h12 (slices_Equal_Lint_int x18 x18l x18c x19 x19l x19c h12) fun x20 => iteB x20 (∃ (x21 : Option Addr) (x21l : Nat) (x21c : Nat), cell h12 (a9.add 3) = some (.slice x21 x21l x21c) ∧ ∃ (x22 : Option Addr) (x22l : Nat) (x22c : Nat), cell h12 (a11.add 3) = some (.slice x22 x22l x22c) ∧ qcallP1 h12 (slices_Equal_Lbyte_byte x21 x21l x21c x22 x22l x22c h12) fun x23 => K x23 h12) (K false h12)) (K false h12)) (K false h12))
def answer_Same.ret (K : Bool → Heap → Prop) (v : Value) (h : Heap) : Prop := match v with
  | (.bool r25) => K r25 h
  | _ => False
theorem answer_Same.ret_elim {K : Bool → Heap → Prop} {K' : Value → Heap → Prop} {v : Value} {h : Heap} (hk : ∀ r25 h, K r25 h → K' (.bool r25) h) (hh : answer_Same.ret K v h) : K' v h := by
  unfold answer_Same.ret at hh
  split at hh
  · exact hk _ _ hh
  · exact hh.elim
def answer_Same.qcall (f : FuncId) (vs : List Value) (h : Heap) (K : Value → Prop) : Prop := match f, vs with
  | 27, [(.slice a1 a1l a1c), (.slice a2 a2l a2c)] => qcallP1 h (slices_Equal_Lint64_int64 a1 a1l a1c a2 a2l a2c h) fun r7 => K (.bool r7)
  | 28, [(.slice a1 a1l a1c), (.slice a2 a2l a2c)] => qcallP1 h (slices_Equal_Lint_int a1 a1l a1c a2 a2l a2c h) fun r7 => K (.bool r7)
  | 29, [(.slice a1 a1l a1c), (.slice a2 a2l a2c)] => qcallP1 h (slices_Equal_Lbyte_byte a1 a1l a1c a2 a2l a2c h) fun r7 => K (.bool r7)
  | _, _ => False
noncomputable def answer_Same.ctx : Ctx := { P := Tryz.prog, call := fun _ _ _ _ => False, qcall := answer_Same.qcall, quiet := fun f => Nat.beq f 27 || Nat.beq f 28 || Nat.beq f 29 || Nat.beq f 2000025, loop := fun _ _ _ _ => False }
theorem answer_Same.ok [DKc] : answer_Same.ctx.OK where
  mixed := by kernel_rfl
  mono := fun hh _ => hh.elim
  call := fun hh => hh.elim
  qmono := by
    intro f args h K K' hh hk
    change answer_Same.qcall f args h K at hh
    change answer_Same.qcall f args h K'
    unfold answer_Same.qcall at hh ⊢
    split at hh
    · obtain ⟨x0, h1, h2⟩ := hh
      exact ⟨x0, h1, hk _ h2⟩
    · obtain ⟨x0, h1, h2⟩ := hh
      exact ⟨x0, h1, hk _ h2⟩
    · obtain ⟨x0, h1, h2⟩ := hh
      exact ⟨x0, h1, hk _ h2⟩
    · exact hh.elim
  qval := by
    intro f args h K hh
    change answer_Same.qcall f args h K at hh
    suffices H : ∃ v, K v ∧ answer_Same.qcall f args h (· = v) from H
    unfold answer_Same.qcall at hh ⊢
    split at hh
    · obtain ⟨x0, h1, h2⟩ := hh
      exact ⟨_, h2, x0, h1, rfl⟩
    · obtain ⟨x0, h1, h2⟩ := hh
      exact ⟨_, h2, x0, h1, rfl⟩
    · obtain ⟨x0, h1, h2⟩ := hh
      exact ⟨_, h2, x0, h1, rfl⟩
    · exact hh.elim
  qcall := by
    intro f args h v hh w hw
    change answer_Same.qcall f args h (· = v) at hh
    unfold answer_Same.qcall at hh
    split at hh
    · obtain ⟨x0, h1, h2⟩ := hh
      obtain ⟨g1, g2⟩ := slices_Equal_Lint64_int64.calls h1 w hw
      refine .inl ⟨g1, g2.mono fun e w' ⟨u, he, ho, hr⟩ => ?_⟩
      have hq := slices_Equal_Lint64_int64.ret_elim (K' := fun u h' => u = v ∧ h' = h) (fun _ h' hr => by obtain ⟨rfl, rfl⟩ := hr; exact ⟨h2, rfl⟩) hr
      exact ⟨hq.1 ▸ he, ho, hq.2⟩
    · obtain ⟨x0, h1, h2⟩ := hh
      obtain ⟨g1, g2⟩ := slices_Equal_Lint_int.calls h1 w hw
      refine .inl ⟨g1, g2.mono fun e w' ⟨u, he, ho, hr⟩ => ?_⟩
      have hq := slices_Equal_Lint_int.ret_elim (K' := fun u h' => u = v ∧ h' = h) (fun _ h' hr => by obtain ⟨rfl, rfl⟩ := hr; exact ⟨h2, rfl⟩) hr
      exact ⟨hq.1 ▸ he, ho, hq.2⟩
    · obtain ⟨x0, h1, h2⟩ := hh
      obtain ⟨g1, g2⟩ := slices_Equal_Lbyte_byte.calls h1 w hw
      refine .inl ⟨g1, g2.mono fun e w' ⟨u, he, ho, hr⟩ => ?_⟩
      have hq := slices_Equal_Lbyte_byte.ret_elim (K' := fun u h' => u = v ∧ h' = h) (fun _ h' hr => by obtain ⟨rfl, rfl⟩ := hr; exact ⟨h2, rfl⟩) hr
      exact ⟨hq.1 ▸ he, ho, hq.2⟩
    · exact hh.elim
noncomputable def answer_Same.code : Code := (Tryz.f9.body).getD .skip
def answer_Same.ann : Ann := .auto
set_option maxRecDepth 100000 in
theorem answer_Same.eq (a1 : Int) (a2 : Option Addr) (a2l : Nat) (a2c : Nat) (a3 : Option Addr) (a3l : Nat) (a3c : Nat) (a4 : Option Addr) (a4l : Nat) (a4c : Nat) (a5 : Int) (a6 : Option Addr) (a6l : Nat) (a6c : Nat) (a7 : Option Addr) (a7l : Nat) (a7c : Nat) (a8 : Option Addr) (a8l : Nat) (a8c : Nat) (h : Heap) (K : Bool → Heap → Prop) : evF answer_Same.ctx Tryz.f9 answer_Same.ann [(.agg #[(.int .i64 a1), (.slice a2 a2l a2c), (.slice a3 a3l a3c), (.slice a4 a4l a4c)]), (.agg #[(.int .i64 a5), (.slice a6 a6l a6c), (.slice a7 a7l a7c), (.slice a8 a8l a8c)])] h (answer_Same.ret K) = answer_Same a1 a2 a2l a2c a3 a3l a3c a4 a4l a4c a5 a6 a6l a6c a7 a7l a7c a8 a8l a8c h K := by kernel_rfl
set_option maxRecDepth 100000 in
theorem answer_Same.calls [DKc] {a1 : Int} {a2 : Option Addr} {a2l : Nat} {a2c : Nat} {a3 : Option Addr} {a3l : Nat} {a3c : Nat} {a4 : Option Addr} {a4l : Nat} {a4c : Nat} {a5 : Int} {a6 : Option Addr} {a6l : Nat} {a6c : Nat} {a7 : Option Addr} {a7l : Nat} {a7c : Nat} {a8 : Option Addr} {a8l : Nat} {a8c : Nat} {h : Heap} {K : Bool → Heap → Prop} (hh : answer_Same a1 a2 a2l a2c a3 a3l a3c a4 a4l a4c a5 a6 a6l a6c a7 a7l a7c a8 a8l a8c h K) (w : World) (hw : w.heap = h) :
    (callFunc 9 #[(.agg #[(.int .i64 a1), (.slice a2 a2l a2c), (.slice a3 a3l a3c), (.slice a4 a4l a4c)]), (.agg #[(.int .i64 a5), (.slice a6 a6l a6c), (.slice a7 a7l a7c), (.slice a8 a8l a8c)])]).run Tryz.prog w = .ok (.enter 9 #[(.agg #[(.int .i64 a1), (.slice a2 a2l a2c), (.slice a3 a3l a3c), (.slice a4 a4l a4c)]), (.agg #[(.int .i64 a5), (.slice a6 a6l a6c), (.slice a7 a7l a7c), (.slice a8 a8l a8c)])]) w ∧ Calls Tryz.prog 9 #[(.agg #[(.int .i64 a1), (.slice a2 a2l a2c), (.slice a3 a3l a3c), (.slice a4 a4l a4c)]), (.agg #[(.int .i64 a5), (.slice a6 a6l a6c), (.slice a7 a7l a7c), (.slice a8 a8l a8c)])] w fun e w' => ∃ v, e = .returned v ∧ Out w w' ∧ answer_Same.ret K v w'.heap := by
  rw [← answer_Same.eq] at hh
  exact fn_calls (args := [(.agg #[(.int .i64 a1), (.slice a2 a2l a2c), (.slice a3 a3l a3c), (.slice a4 a4l a4c)]), (.agg #[(.int .i64 a5), (.slice a6 a6l a6c), (.slice a7 a7l a7c), (.slice a8 a8l a8c)])]) (c := answer_Same.code) answer_Same.ok Tryz.func9 (by kernel_rfl) (by kernel_rfl) (by kernel_rfl) (by kernel_rfl) (loops_ok (l := []) (by kernel_rfl) trivial) hh w hw

/-! ### strait/straitlaw49.AnswerReads: function 3 -/
section
variable [DKc]
def straitlaw49_AnswerReads (a1 : ByteArray) (a2 : Int) (a3 : Option Addr) (a3l : Nat) (a3c : Nat) (a4 : Option Addr) (a4l : Nat) (a4c : Nat) (a5 : Option Addr) (a5l : Nat) (a5c : Nat) (h : Heap) (K : Bool → Heap → Prop) : Prop :=
  newP h (.cells #[(.int .i64 a2), (.slice a3 a3l a3c), (.slice a4 a4l a4c), (.slice a5 a5l a5c)] 27) fun a6 h7 => (let j108 : Prop := (callP11 (answer_Parse a1 h7) fun x22 x23 x23l x23c x24 x24l x24c x25 x25l x25c x26 h27 => newP h27 (.cells #[(.int .i64 0), (.slice none 0 0), (.slice none 0 0), (.slice none 0 0)] 27) fun a28 h29 => stC h29 a28 (.int .i64 x22) fun h30 => stC h30 (a28.add 1) (.slice x23 x23l x23c) fun h31 => stC h31 (a28.add 2) (.slice x24 x24l x24c) fun h32 => stC h32 (a28.add 3) (.slice x25 x25l x25c) fun h33 => (callP11 (straitref49_Parse a1 h33) fun x34 x35 x35l x35c x36 x36l x36c x37 x37l x37c x38 h39 => newP h39 (.cells #[(.int .i64 0), (.slice none 0 0), (.slice none 0 0), (.slice none 0 0), (.bool false)] 33) fun a40 h41 => stC h41 a40 (.int .i64 x34) fun h42 => stC h42 (a40.add 1) (.slice x35 x35l x35c) fun h43 => stC h43 (a40.add 2) (.slice x36 x36l x36c) fun h44 => stC h44 (a40.add 3) (.slice x37 x37l x37c) fun h45 => stC h45 (a40.add 4) (.bool x38) fun h46 => (∃ (x47 : Int), cell h46 a6 = some (.int .i64 x47) ∧ ∃ (x48 : Option Addr) (x48l : Nat) (x48c : Nat), cell h46 (a6.add 1) = some (.slice x48 x48l x48c) ∧ ∃ (x49 : Option Addr) (x49l : Nat) (x49c : Nat), cell h46 (a6.add 2) = some (.slice x49 x49l x49c) ∧ ∃ (x50 : Option Addr) (x50l : Nat) (x50c : Nat), cell h46 (a6.add 3) = some (.slice x50 x50l x50c) ∧ callP1 (answer_Print x47 x48 x48l x48c x49 x49l x49c x50 x50l x50c h46) fun x51 h52 => callP11 (answer_Parse x51 h52) fun x53 x54 x54l x54c x55 x55l x55c x56 x56l x56c x57 h58 => newP h58 (.cells #[(.int .i64 0), (.slice none 0 0), (.slice none 0 0), (.slice none 0 0)] 27) fun a59 h60 => stC h60 a59 (.int .i64 x53) fun h61 => stC h61 (a59.add 1) (.slice x54 x54l x54c) fun h62 => stC h62 (a59.add 2) (.slice x55 x55l x55c) fun h63 => stC h63 (a59.add 3) (.slice x56 x56l x56c) fun h64 => (∃ (x65 : Bool), cell h64 (a40.add 4) = some (.bool x65) ∧ iteB (x26 == x65) (∃ (x66 : Int), cell h64 a28 = some (.int .i64 x66) ∧ ∃ (x67 : Option Addr) (x67l : Nat) (x67c : Nat), cell h64 (a28.add 1) = some (.slice x67 x67l x67c) ∧ ∃ (x68 : Option Addr) (x68l : Nat) (x68c : Nat), cell h64 (a28.add 2) = some (.slice x68 x68l x68c) ∧ ∃ (x69 : Option Addr) (x69l : Nat) (x69c : Nat), cell h64 (a28.add 3) = some (.slice x69 x69l x69c) ∧ ∃ (x70 : Int), cell h64 a40 = some (.int .i64 x70) ∧ ∃ (x71 : Option Addr) (x71l : Nat) (x71c : Nat), cell h64 (a40.add 1) = some (.slice x71 x71l x71c) ∧ ∃ (x72 : Option Addr) (x72l : Nat) (x72c : Nat), cell h64 (a40.add 2) = some (.slice x72 x72l x72c) ∧ ∃ (x73 : Option Addr) (x73l : Nat) (x73c : Nat), cell h64 (a40.add 3) = some (.slice x73 x73l x73c) ∧ callP1 (straitref49_Same x66 x67 x67l x67c x68 x68l x68c x69 x69l x69c x70 x71 x71l x71c x72 x72l x72c x73 x73l x73c h64) fun x74 h75 => iteB x74 (iteB (!x26) (iteB x57 (∃ (x76 : Int), cell h75 a6 = some (.int .i64 x76) ∧ ∃ (x77 : Option Addr) (x77l : Nat) (x77c : Nat), cell h75 (a6.add 1) = some (.slice x77 x77l x77c) ∧ ∃ (x78 : Option Addr) (x78l : Nat) (x78c : Nat), cell h75 (a6.add 2) = some (.slice x78 x78l x78c) ∧ ∃ (x79 : Option Addr) (x79l : Nat) (x79c : Nat), cell h75 (a6.add 3) = some (.slice x79 x79l x79c) ∧ ∃ (x80 : Int), cell h75 a59 = some (.int .i64 x80) ∧ ∃ (x81 : Option Addr) (x81l : Nat) (x81c : Nat), cell h75 (a59.add 1) = some (.slice x81 x81l x81c) ∧ ∃ (x82 : Option Addr) (x82l : Nat) (x82c : Nat), cell h75 (a59.add 2) = some (.slice x82 x82l x82c) ∧ ∃ (x83 : Option Addr) (x83l : Nat) (x83c : Nat), cell h75 (a59.add 3) = some (.slice x83 x83l x83c) ∧ callP1 (answer_Same x76 x77 x77l x77c x78 x78l x78c x79 x79l x79c x80 x81 x81l x81c x82 x82l x82c x83 x83l x83c h75) fun x84 h85 => iteB x84 (callP1 (straitlaw49_awake h85) fun x86 h87 => K x86 h87) (K false h85)) (K false h75)) (∃ (x88 : Int), cell h75 a28 = some (.int .i64 x88) ∧ ∃ (x89 : Option Addr) (x89l : Nat) (x89c : Nat), cell h75 (a28.add 1) = some (.slice x89 x89l x89c) ∧ ∃ (x90 : Option Addr) (x90l : Nat) (x90c : Nat), cell h75 (a28.add 2) = some (.slice x90 x90l x90c) ∧ ∃ (x91 : Option Addr) (x91l : Nat) (x91c : Nat), cell h75 (a28.add 3) = some (.slice x91 x91l x91c) ∧ callP1 (answer_Print x88 x89 x89l x89c x90 x90l x90c x91 x91l x91c h75) fun x92 h93 => iteB (x92.toList == a1.toList) (iteB x57 (∃ (x94 : Int), cell h93 a6 = some (.int .i64 x94) ∧ ∃ (x95 : Option Addr) (x95l : Nat) (x95c : Nat), cell h93 (a6.add 1) = some (.slice x95 x95l x95c) ∧ ∃ (x96 : Option Addr) (x96l : Nat) (x96c : Nat), cell h93 (a6.add 2) = some (.slice x96 x96l x96c) ∧ ∃ (x97 : Option Addr) (x97l : Nat) (x97c : Nat), cell h93 (a6.add 3) = some (.slice x97 x97l x97c) ∧ ∃ (x98 : Int), cell h93 a59 = some (.int .i64 x98) ∧ ∃ (x99 : Option Addr) (x99l : Nat) (x99c : Nat), cell h93 (a59.add 1) = some (.slice x99 x99l x99c) ∧ ∃ (x100 : Option Addr) (x100l : Nat) (x100c : Nat), cell h93 (a59.add 2) = some (.slice x100 x100l x100c) ∧ ∃ (x101 : Option Addr) (x101l : Nat) (x101c : Nat), cell h93 (a59.add 3) = some (.slice x101 x101l x101c) ∧ callP1 (answer_Same x94 x95 x95l x95c x96 x96l x96c x97 x97l x97c x98 x99 x99l x99c x100 x100l x100c x101 x101l x101c h93) fun x102 h103 => iteB x102 (callP1 (straitlaw49_awake h103) fun x104 h105 => K x104 h105) (K false h103)) (K false h93)) (K false h93))) (K false h75)) (K false h64)))));
  iteB (decide ((a1.size : Int) > (1000 : Int))) ((callP1 (straitlaw49_awake h7) fun x14 h15 => K x14 h15)) (∃ (x8 : Option Addr) (x8l : Nat) (x8c : Nat), cell h7 (a6.add 1) = some (.slice x8 x8l x8c) ∧ iteB (decide ((x8l : Int) > (100 : Int))) ((callP1 (straitlaw49_awake h7) fun x16 h17 => K x16 h17)) (∃ (x9 : Option Addr) (x9l : Nat) (x9c : Nat), cell h7 (a6.add 2) = some (.slice x9 x9l x9c) ∧ iteB (decide ((x9l : Int) > (100 : Int))) ((callP1 (straitlaw49_awake h7) fun x18 h19 => K x18 h19)) (∃ (x10 : Option Addr) (x10l : Nat) (x10c : Nat), cell h7 (a6.add 3) = some (.slice x10 x10l x10c) ∧ (iteB (decide ((x10l : Int) > (300 : Int))) (callP1 (straitlaw49_awake h7) fun x20 h21 => K x20 h21) ((j108)))))))
def straitlaw49_AnswerReads.ret (K : Bool → Heap → Prop) (v : Value) (h : Heap) : Prop := match v with
  | (.bool r109) => K r109 h
  | _ => False
theorem straitlaw49_AnswerReads.ret_elim {K : Bool → Heap → Prop} {K' : Value → Heap → Prop} {v : Value} {h : Heap} (hk : ∀ r109 h, K r109 h → K' (.bool r109) h) (hh : straitlaw49_AnswerReads.ret K v h) : K' v h := by
  unfold straitlaw49_AnswerReads.ret at hh
  split at hh
  · exact hk _ _ hh
  · exact hh.elim
def straitlaw49_AnswerReads.call (f : FuncId) (vs : List Value) (h : Heap) (K : Value → Heap → Prop) : Prop := match f, vs with
  | 4, [] => callP1 (straitlaw49_awake h) fun r26 h' => K (.bool r26) h'
  | 5, [(.string a1)] => callP11 (answer_Parse a1 h) fun r115 r116 r116l r116c r117 r117l r117c r118 r118l r118c r119 h' => K (.tuple #[(.agg #[(.int .i64 r115), (.slice r116 r116l r116c), (.slice r117 r117l r117c), (.slice r118 r118l r118c)]), (.bool r119)]) h'
  | 6, [(.string a1)] => callP11 (straitref49_Parse a1 h) fun r56 r57 r57l r57c r58 r58l r58c r59 r59l r59c r60 h' => K (.agg #[(.int .i64 r56), (.slice r57 r57l r57c), (.slice r58 r58l r58c), (.slice r59 r59l r59c), (.bool r60)]) h'
  | 7, [(.agg ⟨[(.int .i64 a1), (.slice a2 a2l a2c), (.slice a3 a3l a3c), (.slice a4 a4l a4c)]⟩)] => callP1 (answer_Print a1 a2 a2l a2c a3 a3l a3c a4 a4l a4c h) fun r56 h' => K (.string r56) h'
  | 8, [(.agg ⟨[(.int .i64 a1), (.slice a2 a2l a2c), (.slice a3 a3l a3c), (.slice a4 a4l a4c)]⟩), (.agg ⟨[(.int .i64 a5), (.slice a6 a6l a6c), (.slice a7 a7l a7c), (.slice a8 a8l a8c)]⟩)] => callP1 (straitref49_Same a1 a2 a2l a2c a3 a3l a3c a4 a4l a4c a5 a6 a6l a6c a7 a7l a7c a8 a8l a8c h) fun r26 h' => K (.bool r26) h'
  | 9, [(.agg ⟨[(.int .i64 a1), (.slice a2 a2l a2c), (.slice a3 a3l a3c), (.slice a4 a4l a4c)]⟩), (.agg ⟨[(.int .i64 a5), (.slice a6 a6l a6c), (.slice a7 a7l a7c), (.slice a8 a8l a8c)]⟩)] => callP1 (answer_Same a1 a2 a2l a2c a3 a3l a3c a4 a4l a4c a5 a6 a6l a6c a7 a7l a7c a8 a8l a8c h) fun r25 h' => K (.bool r25) h'
  | _, _ => False
noncomputable def straitlaw49_AnswerReads.ctx : Ctx := { P := Tryz.prog, call := straitlaw49_AnswerReads.call, qcall := fun _ _ _ _ => False, quiet := fun f => Nat.beq f 2000025, loop := fun _ _ _ _ => False }
theorem straitlaw49_AnswerReads.ok : straitlaw49_AnswerReads.ctx.OK where
  mixed := by kernel_rfl
  mono := by
    intro f args h K K' hh hk
    change straitlaw49_AnswerReads.call f args h K at hh
    change straitlaw49_AnswerReads.call f args h K'
    unfold straitlaw49_AnswerReads.call at hh ⊢
    split at hh
    · obtain ⟨R, h1, h2⟩ := hh
      exact ⟨R, h1, fun _ x hr => hk _ _ (h2 _ x hr)⟩
    · obtain ⟨R, h1, h2⟩ := hh
      exact ⟨R, h1, fun _ _ _ _ _ _ _ _ _ _ _ x hr => hk _ _ (h2 _ _ _ _ _ _ _ _ _ _ _ x hr)⟩
    · obtain ⟨R, h1, h2⟩ := hh
      exact ⟨R, h1, fun _ _ _ _ _ _ _ _ _ _ _ x hr => hk _ _ (h2 _ _ _ _ _ _ _ _ _ _ _ x hr)⟩
    · obtain ⟨R, h1, h2⟩ := hh
      exact ⟨R, h1, fun _ x hr => hk _ _ (h2 _ x hr)⟩
    · obtain ⟨R, h1, h2⟩ := hh
      exact ⟨R, h1, fun _ x hr => hk _ _ (h2 _ x hr)⟩
    · obtain ⟨R, h1, h2⟩ := hh
      exact ⟨R, h1, fun _ x hr => hk _ _ (h2 _ x hr)⟩
    · exact hh.elim
  call := by
    intro f args h K hh w hw
    change straitlaw49_AnswerReads.call f args h K at hh
    unfold straitlaw49_AnswerReads.call at hh
    split at hh
    · obtain ⟨R, h1, h2⟩ := hh
      obtain ⟨g1, g2⟩ := straitlaw49_awake.calls h1 w hw
      exact ⟨g1, g2.mono fun e w' ⟨v, he, ho, hr⟩ => ⟨v, he, ho, straitlaw49_awake.ret_elim h2 hr⟩⟩
    · obtain ⟨R, h1, h2⟩ := hh
      obtain ⟨g1, g2⟩ := answer_Parse.calls h1 w hw
      exact ⟨g1, g2.mono fun e w' ⟨v, he, ho, hr⟩ => ⟨v, he, ho, answer_Parse.ret_elim h2 hr⟩⟩
    · obtain ⟨R, h1, h2⟩ := hh
      obtain ⟨g1, g2⟩ := straitref49_Parse.calls h1 w hw
      exact ⟨g1, g2.mono fun e w' ⟨v, he, ho, hr⟩ => ⟨v, he, ho, straitref49_Parse.ret_elim h2 hr⟩⟩
    · obtain ⟨R, h1, h2⟩ := hh
      obtain ⟨g1, g2⟩ := answer_Print.calls h1 w hw
      exact ⟨g1, g2.mono fun e w' ⟨v, he, ho, hr⟩ => ⟨v, he, ho, answer_Print.ret_elim h2 hr⟩⟩
    · obtain ⟨R, h1, h2⟩ := hh
      obtain ⟨g1, g2⟩ := straitref49_Same.calls h1 w hw
      exact ⟨g1, g2.mono fun e w' ⟨v, he, ho, hr⟩ => ⟨v, he, ho, straitref49_Same.ret_elim h2 hr⟩⟩
    · obtain ⟨R, h1, h2⟩ := hh
      obtain ⟨g1, g2⟩ := answer_Same.calls h1 w hw
      exact ⟨g1, g2.mono fun e w' ⟨v, he, ho, hr⟩ => ⟨v, he, ho, answer_Same.ret_elim h2 hr⟩⟩
    · exact hh.elim
  qmono := fun hh _ => hh.elim
  qval := fun hh => hh.elim
  qcall := fun hh => hh.elim
noncomputable def straitlaw49_AnswerReads.code : Code := (Tryz.f3.body).getD .skip
def straitlaw49_AnswerReads.ann : Ann := .auto
set_option maxRecDepth 100000 in
theorem straitlaw49_AnswerReads.eq (a1 : ByteArray) (a2 : Int) (a3 : Option Addr) (a3l : Nat) (a3c : Nat) (a4 : Option Addr) (a4l : Nat) (a4c : Nat) (a5 : Option Addr) (a5l : Nat) (a5c : Nat) (h : Heap) (K : Bool → Heap → Prop) : evF straitlaw49_AnswerReads.ctx Tryz.f3 straitlaw49_AnswerReads.ann [(.string a1), (.agg #[(.int .i64 a2), (.slice a3 a3l a3c), (.slice a4 a4l a4c), (.slice a5 a5l a5c)])] h (straitlaw49_AnswerReads.ret K) = straitlaw49_AnswerReads a1 a2 a3 a3l a3c a4 a4l a4c a5 a5l a5c h K := by kernel_rfl
set_option maxRecDepth 100000 in
theorem straitlaw49_AnswerReads.calls {a1 : ByteArray} {a2 : Int} {a3 : Option Addr} {a3l : Nat} {a3c : Nat} {a4 : Option Addr} {a4l : Nat} {a4c : Nat} {a5 : Option Addr} {a5l : Nat} {a5c : Nat} {h : Heap} {K : Bool → Heap → Prop} (hh : straitlaw49_AnswerReads a1 a2 a3 a3l a3c a4 a4l a4c a5 a5l a5c h K) (w : World) (hw : w.heap = h) :
    (callFunc 3 #[(.string a1), (.agg #[(.int .i64 a2), (.slice a3 a3l a3c), (.slice a4 a4l a4c), (.slice a5 a5l a5c)])]).run Tryz.prog w = .ok (.enter 3 #[(.string a1), (.agg #[(.int .i64 a2), (.slice a3 a3l a3c), (.slice a4 a4l a4c), (.slice a5 a5l a5c)])]) w ∧ Calls Tryz.prog 3 #[(.string a1), (.agg #[(.int .i64 a2), (.slice a3 a3l a3c), (.slice a4 a4l a4c), (.slice a5 a5l a5c)])] w fun e w' => ∃ v, e = .returned v ∧ Out w w' ∧ straitlaw49_AnswerReads.ret K v w'.heap := by
  rw [← straitlaw49_AnswerReads.eq] at hh
  exact fn_calls (args := [(.string a1), (.agg #[(.int .i64 a2), (.slice a3 a3l a3c), (.slice a4 a4l a4c), (.slice a5 a5l a5c)])]) (c := straitlaw49_AnswerReads.code) straitlaw49_AnswerReads.ok Tryz.func3 (by kernel_rfl) (by kernel_rfl) (by kernel_rfl) (by kernel_rfl) (loops_ok (l := []) (by kernel_rfl) trivial) hh w hw
end

end Go.Proofs.YtmejnpadgbdhaaaGreatDoor
