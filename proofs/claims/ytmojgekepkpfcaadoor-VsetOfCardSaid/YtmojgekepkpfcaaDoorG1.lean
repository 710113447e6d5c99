/- WRITTEN BY A PROGRAM OF THIS SESSION (gen.py): what each function asks of memory, and that the model's run comes to it. -/
import Derived.Test.YtmojgekepkpfcaaDoorProg
import Derived.Test.YtmojgekepkpfcaaDoorFw8
import Derived.Test.YtmojgekepkpfcaaDoorG0
namespace Go.Proofs.YtmojgekepkpfcaaDoor
open Go.Hp
set_option linter.unusedVariables false
set_option linter.unusedSimpArgs false

/-! ### (strait/straitref09.Set).With: function 12 -/
def straitref09_Set_With (a1 : Int) (a2 : Option Addr) (a2l : Nat) (a2c : Nat) (a3 : Int) (a4 : Bool) (h : Heap) (K : Int → (Option Addr) → Nat → Nat → Heap → Prop) : Prop :=
  newP h (.cells #[(.int .i64 a1), (.slice a2 a2l a2c)] 28) fun a5 h6 => newP h6 (.cells #[(.int .i64 0), (.slice none 0 0)] 28) fun a7 h8 => (let j17 := (fun (y10 : Bool) => iteB y10 (∃ (x11 : Int), cell h8 a5 = some (.int .i64 x11) ∧ ∃ (x12 : Option Addr) (x12l : Nat) (x12c : Nat), cell h8 (a5.add 1) = some (.slice x12 x12l x12c) ∧ stC h8 a7 (.int .i64 x11) fun h13 => stC h13 (a7.add 1) (.slice x12 x12l x12c) fun h14 => (∃ (x15 : Int), cell h14 a7 = some (.int .i64 x15) ∧ ∃ (x16 : Option Addr) (x16l : Nat) (x16c : Nat), cell h14 (a7.add 1) = some (.slice x16 x16l x16c) ∧ K x15 x16 x16l x16c h14)) ((let j74 := (fun (y63 : Addr) (h64 : Heap) => ∃ (x65 : Option Addr) (x65l : Nat) (x65c : Nat), cell h64 (y63.add 1) = some (.slice x65 x65l x65c) ∧ chkP x65 fun a66 => (0 ≤ a3 ∧ a3 < (x65l : Int)) ∧ stC h64 (a66.add (a3.toNat * 1)) (.bool a4) fun h67 => (∃ (x68 : Int), cell h67 y63 = some (.int .i64 x68) ∧ ∃ (x69 : Option Addr) (x69l : Nat) (x69c : Nat), cell h67 (y63.add 1) = some (.slice x69 x69l x69c) ∧ stC h67 a7 (.int .i64 x68) fun h70 => stC h70 (a7.add 1) (.slice x69 x69l x69c) fun h71 => (∃ (x72 : Int), cell h71 a7 = some (.int .i64 x72) ∧ ∃ (x73 : Option Addr) (x73l : Nat) (x73c : Nat), cell h71 (a7.add 1) = some (.slice x73 x73l x73c) ∧ K x72 x73 x73l x73c h71)));
  ∃ (x18 : Int), cell h8 a5 = some (.int .i64 x18) ∧ ∃ (x19 : Option Addr) (x19l : Nat) (x19c : Nat), cell h8 (a5.add 1) = some (.slice x19 x19l x19c) ∧ (newP h8 (.cells #[] 4) fun a20 h21 => (∃ (x22 : Option Addr) (x22l : Nat) (x22c : Nat), cell h21 (a5.add 1) = some (.slice x22 x22l x22c) ∧ ((.slice x22 x22l x22c) : Value) = (.slice x19 x19l x19c)) ∧ (∃ (x23 : Int), cell h21 a5 = some (.int .i64 x23) ∧ ((.int .i64 x23) : Value) = (.int .i64 x18)) ∧ (∃ n28, cellsAt h21 x19 (x19l * 1) n28 ∧ appP 4 1 1 [(.bool false)] (some a20) 0 0 x19l n28 h21 fun q24 l25 c26 h27 => (∃ (x29 : Int), cell h27 a5 = some (.int .i64 x29) ∧ ((.int .i64 x29) : Value) = (.int .i64 x18)) ∧ newP h27 (.cells #[(.int .i64 0), (.slice none 0 0)] 28) fun a30 h31 => (∃ (x32 : Int), cell h31 a5 = some (.int .i64 x32) ∧ ((.int .i64 x32) : Value) = (.int .i64 x18)) ∧ stC h31 a30 (.int .i64 x18) fun h33 => stC h33 (a30.add 1) (.slice q24 l25 c26) fun h34 => (j74 a30 h34)) ∧ (newP h21 (.cells #[(.int .i64 0), (.slice none 0 0)] 28) fun a35 h36 => (∃ (x37 : Option Addr) (x37l : Nat) (x37c : Nat), cell h36 (a5.add 1) = some (.slice x37 x37l x37c) ∧ ((.slice x37 x37l x37c) : Value) = (.slice x19 x19l x19c)) ∧ (∃ (x38 : Int), cell h36 a5 = some (.int .i64 x38) ∧ ((.int .i64 x38) : Value) = (.int .i64 x18)) ∧ ∃ n43, cellsAt h36 x19 (x19l * 1) n43 ∧ appP 4 1 1 [(.bool false)] (some a20) 0 0 x19l n43 h36 fun q39 l40 c41 h42 => (∃ (x44 : Int), cell h42 a5 = some (.int .i64 x44) ∧ ((.int .i64 x44) : Value) = (.int .i64 x18)) ∧ stC h42 a35 (.int .i64 x18) fun h45 => stC h45 (a35.add 1) (.slice q39 l40 c41) fun h46 => (j74 a35 h46))) ∧ (newP h8 (.cells #[(.int .i64 0), (.slice none 0 0)] 28) fun a47 h48 => (∃ (x49 : Option Addr) (x49l : Nat) (x49c : Nat), cell h48 (a5.add 1) = some (.slice x49 x49l x49c) ∧ ((.slice x49 x49l x49c) : Value) = (.slice x19 x19l x19c)) ∧ (∃ (x50 : Int), cell h48 a5 = some (.int .i64 x50) ∧ ((.int .i64 x50) : Value) = (.int .i64 x18)) ∧ newP h48 (.cells #[] 4) fun a51 h52 => (∃ (x53 : Option Addr) (x53l : Nat) (x53c : Nat), cell h52 (a5.add 1) = some (.slice x53 x53l x53c) ∧ ((.slice x53 x53l x53c) : Value) = (.slice x19 x19l x19c)) ∧ (∃ (x54 : Int), cell h52 a5 = some (.int .i64 x54) ∧ ((.int .i64 x54) : Value) = (.int .i64 x18)) ∧ ∃ n59, cellsAt h52 x19 (x19l * 1) n59 ∧ appP 4 1 1 [(.bool false)] (some a51) 0 0 x19l n59 h52 fun q55 l56 c57 h58 => (∃ (x60 : Int), cell h58 a5 = some (.int .i64 x60) ∧ ((.int .i64 x60) : Value) = (.int .i64 x18)) ∧ stC h58 a47 (.int .i64 x18) fun h61 => stC h61 (a47.add 1) (.slice q55 l56 c57) fun h62 => (j74 a47 h62)))));
  iteB (decide (a3 < (0 : Int))) ((j17 true)) (∃ (x9 : Int), cell h8 a5 = some (.int .i64 x9) ∧ (j17 (decide (a3 ≥ x9)))))
def straitref09_Set_With.ret (K : Int → (Option Addr) → Nat → Nat → Heap → Prop) (v : Value) (h : Heap) : Prop := match v with
  | (.agg ⟨[(.int .i64 r75), (.slice r76 r76l r76c)]⟩) => K r75 r76 r76l r76c h
  | _ => False
theorem straitref09_Set_With.ret_elim {K : Int → (Option Addr) → Nat → Nat → Heap → Prop} {K' : Value → Heap → Prop} {v : Value} {h : Heap} (hk : ∀ r75 r76 r76l r76c h, K r75 r76 r76l r76c h → K' (.agg #[(.int .i64 r75), (.slice r76 r76l r76c)]) h) (hh : straitref09_Set_With.ret K v h) : K' v h := by
  unfold straitref09_Set_With.ret at hh
  split at hh
  · exact hk _ _ _ _ _ hh
  · exact hh.elim
noncomputable def straitref09_Set_With.ctx : Ctx := { P := Tryd.prog, call := fun _ _ _ _ => False, qcall := fun _ _ _ _ => False, quiet := fun f => false, loop := fun _ _ _ _ => False }
theorem straitref09_Set_With.ok : straitref09_Set_With.ctx.OK where
  mixed := by kernel_rfl
  mono := fun hh _ => hh.elim
  call := fun hh => hh.elim
  qmono := fun hh _ => hh.elim
  qval := fun hh => hh.elim
  qcall := fun hh => hh.elim
noncomputable def straitref09_Set_With.code : Code := (Tryd.f12.body).getD .skip
def straitref09_Set_With.ann : Ann := (.two .auto (.two .auto (.two (.reg [0, 1, 0, 0, 8, 28, 63, 0, 255] (.take 0 (.take 3 (.early 1 (.early 4 (.alt 2 (.alt 5 (.take 6 (.alt 7 (.alt 8 .done .noalt) .noalt)) (.alt 7 (.alt 5 (.take 6 (.alt 8 .done .noalt)) .noalt) .noalt)) (.alt 7 (.alt 2 (.alt 5 (.take 6 (.alt 8 .done .noalt)) .noalt) .noalt) .noalt))))))) .auto)))
set_option maxRecDepth 100000 in
theorem straitref09_Set_With.eq (a1 : Int) (a2 : Option Addr) (a2l : Nat) (a2c : Nat) (a3 : Int) (a4 : Bool) (h : Heap) (K : Int → (Option Addr) → Nat → Nat → Heap → Prop) : evF straitref09_Set_With.ctx Tryd.f12 straitref09_Set_With.ann [(.agg #[(.int .i64 a1), (.slice a2 a2l a2c)]), (.int .i64 a3), (.bool a4)] h (straitref09_Set_With.ret K) = straitref09_Set_With a1 a2 a2l a2c a3 a4 h K := by kernel_rfl
set_option maxRecDepth 100000 in
theorem straitref09_Set_With.calls {a1 : Int} {a2 : Option Addr} {a2l : Nat} {a2c : Nat} {a3 : Int} {a4 : Bool} {h : Heap} {K : Int → (Option Addr) → Nat → Nat → Heap → Prop} (hh : straitref09_Set_With a1 a2 a2l a2c a3 a4 h K) (w : World) (hw : w.heap = h) :
    (callFunc 12 #[(.agg #[(.int .i64 a1), (.slice a2 a2l a2c)]), (.int .i64 a3), (.bool a4)]).run Tryd.prog w = .ok (.enter 12 #[(.agg #[(.int .i64 a1), (.slice a2 a2l a2c)]), (.int .i64 a3), (.bool a4)]) w ∧ Calls Tryd.prog 12 #[(.agg #[(.int .i64 a1), (.slice a2 a2l a2c)]), (.int .i64 a3), (.bool a4)] w fun e w' => ∃ v, e = .returned v ∧ Out w w' ∧ straitref09_Set_With.ret K v w'.heap := by
  rw [← straitref09_Set_With.eq] at hh
  exact fn_calls (args := [(.agg #[(.int .i64 a1), (.slice a2 a2l a2c)]), (.int .i64 a3), (.bool a4)]) (c := straitref09_Set_With.code) straitref09_Set_With.ok Tryd.func12 (by kernel_rfl) (by kernel_rfl) (by kernel_rfl) (by kernel_rfl) (loops_ok (l := []) (by kernel_rfl) trivial) hh w hw

/-! ### (*strait/vset.Set).Drop: function 13 -/
def vset_Set_Drop (a1 : Option Addr) (a2 : Int) (h : Heap) (K : Bool → Heap → Prop) : Prop :=
  (qcallP3 h (vset_Set_bit a1 a2 h) fun x3 x4 x5 => (iteB (!x5) (K false h) (chkP x3 fun a6 => ∃ (x7 : Int), cell h a6 = some (.int .u64 x7) ∧ (iteB ((bits .and .u64 x7 x4) == (0 : Int)) (K false h) ((chkP x3 fun a17 => ∃ (x18 : Int), cell h a17 = some (.int .u64 x18) ∧ chkP x3 fun a19 => stC h a19 (.int .u64 (bits .andNot .u64 x18 x4)) fun h20 => K true h20))))))
def vset_Set_Drop.ret (K : Bool → Heap → Prop) (v : Value) (h : Heap) : Prop := match v with
  | (.bool r21) => K r21 h
  | _ => False
theorem vset_Set_Drop.ret_elim {K : Bool → Heap → Prop} {K' : Value → Heap → Prop} {v : Value} {h : Heap} (hk : ∀ r21 h, K r21 h → K' (.bool r21) h) (hh : vset_Set_Drop.ret K v h) : K' v h := by
  unfold vset_Set_Drop.ret at hh
  split at hh
  · exact hk _ _ hh
  · exact hh.elim
def vset_Set_Drop.qcall (f : FuncId) (vs : List Value) (h : Heap) (K : Value → Prop) : Prop := match f, vs with
  | 28, [(.pointer a1), (.int .i64 a2)] => qcallP3 h (vset_Set_bit a1 a2 h) fun r10 r11 r12 => K (.tuple #[(.pointer r10), (.int .u64 r11), (.bool r12)])
  | _, _ => False
noncomputable def vset_Set_Drop.ctx : Ctx := { P := Tryd.prog, call := fun _ _ _ _ => False, qcall := vset_Set_Drop.qcall, quiet := fun f => Nat.beq f 28, loop := fun _ _ _ _ => False }
theorem vset_Set_Drop.ok : vset_Set_Drop.ctx.OK where
  mixed := by kernel_rfl
  mono := fun hh _ => hh.elim
  call := fun hh => hh.elim
  qmono := by
    intro f args h K K' hh hk
    change vset_Set_Drop.qcall f args h K at hh
    change vset_Set_Drop.qcall f args h K'
    unfold vset_Set_Drop.qcall at hh ⊢
    split at hh
    · obtain ⟨x0, x1, x2, h1, h2⟩ := hh
      exact ⟨x0, x1, x2, h1, hk _ h2⟩
    · exact hh.elim
  qval := by
    intro f args h K hh
    change vset_Set_Drop.qcall f args h K at hh
    suffices H : ∃ v, K v ∧ vset_Set_Drop.qcall f args h (· = v) from H
    unfold vset_Set_Drop.qcall at hh ⊢
    split at hh
    · obtain ⟨x0, x1, x2, h1, h2⟩ := hh
      exact ⟨_, h2, x0, x1, x2, h1, rfl⟩
    · exact hh.elim
  qcall := by
    intro f args h v hh w hw
    change vset_Set_Drop.qcall f args h (· = v) at hh
    unfold vset_Set_Drop.qcall at hh
    split at hh
    · obtain ⟨x0, x1, x2, h1, h2⟩ := hh
      obtain ⟨g1, g2⟩ := vset_Set_bit.calls h1 w hw
      refine .inl ⟨g1, g2.mono fun e w' ⟨u, he, ho, hr⟩ => ?_⟩
      have hq := vset_Set_bit.ret_elim (K' := fun u h' => u = v ∧ h' = h) (fun _ _ _ h' hr => by obtain ⟨rfl, rfl, rfl, rfl⟩ := hr; exact ⟨h2, rfl⟩) hr
      exact ⟨hq.1 ▸ he, ho, hq.2⟩
    · exact hh.elim
noncomputable def vset_Set_Drop.code : Code := (Tryd.f13.body).getD .skip
def vset_Set_Drop.ann : Ann := .auto
set_option maxRecDepth 100000 in
theorem vset_Set_Drop.eq (a1 : Option Addr) (a2 : Int) (h : Heap) (K : Bool → Heap → Prop) : evF vset_Set_Drop.ctx Tryd.f13 vset_Set_Drop.ann [(.pointer a1), (.int .i64 a2)] h (vset_Set_Drop.ret K) = vset_Set_Drop a1 a2 h K := by kernel_rfl
set_option maxRecDepth 100000 in
theorem vset_Set_Drop.calls {a1 : Option Addr} {a2 : Int} {h : Heap} {K : Bool → Heap → Prop} (hh : vset_Set_Drop a1 a2 h K) (w : World) (hw : w.heap = h) :
    (callFunc 13 #[(.pointer a1), (.int .i64 a2)]).run Tryd.prog w = .ok (.enter 13 #[(.pointer a1), (.int .i64 a2)]) w ∧ Calls Tryd.prog 13 #[(.pointer a1), (.int .i64 a2)] w fun e w' => ∃ v, e = .returned v ∧ Out w w' ∧ vset_Set_Drop.ret K v w'.heap := by
  rw [← vset_Set_Drop.eq] at hh
  exact fn_calls (args := [(.pointer a1), (.int .i64 a2)]) (c := vset_Set_Drop.code) vset_Set_Drop.ok Tryd.func13 (by kernel_rfl) (by kernel_rfl) (by kernel_rfl) (by kernel_rfl) (loops_ok (l := []) (by kernel_rfl) trivial) hh w hw

/-! ### (*strait/vset.Set).Twin: function 15 -/
def vset_Set_Twin (a1 : Option Addr) (h : Heap) (K : (Option Addr) → Heap → Prop) : Prop :=
  ((iteB a1.isNone (K none h) ((chkP a1 fun a2 => ∃ (x3 : Int), cell h a2 = some (.int .i64 x3) ∧ callP1 (vset_New x3 h) fun x4 h5 => (chkP x4 fun a6 => ∃ (x7 : Option Addr) (x7l : Nat) (x7c : Nat), cell h5 (a6.add 1) = some (.slice x7 x7l x7c) ∧ chkP a1 fun a8 => ∃ (x9 : Option Addr) (x9l : Nat) (x9c : Nat), cell h5 (a8.add 1) = some (.slice x9 x9l x9c) ∧ copyP 1 x7 x7l x9 x9l h5 fun m10 h11 => K x4 h11)))))
def vset_Set_Twin.ret (K : (Option Addr) → Heap → Prop) (v : Value) (h : Heap) : Prop := match v with
  | (.pointer r12) => K r12 h
  | _ => False
theorem vset_Set_Twin.ret_elim {K : (Option Addr) → Heap → Prop} {K' : Value → Heap → Prop} {v : Value} {h : Heap} (hk : ∀ r12 h, K r12 h → K' (.pointer r12) h) (hh : vset_Set_Twin.ret K v h) : K' v h := by
  unfold vset_Set_Twin.ret at hh
  split at hh
  · exact hk _ _ hh
  · exact hh.elim
def vset_Set_Twin.call (f : FuncId) (vs : List Value) (h : Heap) (K : Value → Heap → Prop) : Prop := match f, vs with
  | 7, [(.int .i64 a1)] => callP1 (vset_New a1 h) fun r8 h' => K (.pointer r8) h'
  | _, _ => False
noncomputable def vset_Set_Twin.ctx : Ctx := { P := Tryd.prog, call := vset_Set_Twin.call, qcall := fun _ _ _ _ => False, quiet := fun f => false, loop := fun _ _ _ _ => False }
theorem vset_Set_Twin.ok : vset_Set_Twin.ctx.OK where
  mixed := by kernel_rfl
  mono := by
    intro f args h K K' hh hk
    change vset_Set_Twin.call f args h K at hh
    change vset_Set_Twin.call f args h K'
    unfold vset_Set_Twin.call at hh ⊢
    split at hh
    · obtain ⟨R, h1, h2⟩ := hh
      exact ⟨R, h1, fun _ x hr => hk _ _ (h2 _ x hr)⟩
    · exact hh.elim
  call := by
    intro f args h K hh w hw
    change vset_Set_Twin.call f args h K at hh
    unfold vset_Set_Twin.call at hh
    split at hh
    · obtain ⟨R, h1, h2⟩ := hh
      obtain ⟨g1, g2⟩ := vset_New.calls h1 w hw
      exact ⟨g1, g2.mono fun e w' ⟨v, he, ho, hr⟩ => ⟨v, he, ho, vset_New.ret_elim h2 hr⟩⟩
    · exact hh.elim
  qmono := fun hh _ => hh.elim
  qval := fun hh => hh.elim
  qcall := fun hh => hh.elim
noncomputable def vset_Set_Twin.code : Code := (Tryd.f15.body).getD .skip
def vset_Set_Twin.ann : Ann := (.two .auto (.two .auto (.two .auto (.two (.reg [0, 1, 3, 7, 0, 16, 48, 112, 255] (.take 0 (.take 1 (.take 2 (.take 3 (.take 4 (.take 5 (.take 6 (.take 7 (.alt 8 .done .noalt)))))))))) .auto))))
set_option maxRecDepth 100000 in
theorem vset_Set_Twin.eq (a1 : Option Addr) (h : Heap) (K : (Option Addr) → Heap → Prop) : evF vset_Set_Twin.ctx Tryd.f15 vset_Set_Twin.ann [(.pointer a1)] h (vset_Set_Twin.ret K) = vset_Set_Twin a1 h K := by kernel_rfl
set_option maxRecDepth 100000 in
theorem vset_Set_Twin.calls {a1 : Option Addr} {h : Heap} {K : (Option Addr) → Heap → Prop} (hh : vset_Set_Twin a1 h K) (w : World) (hw : w.heap = h) :
    (callFunc 15 #[(.pointer a1)]).run Tryd.prog w = .ok (.enter 15 #[(.pointer a1)]) w ∧ Calls Tryd.prog 15 #[(.pointer a1)] w fun e w' => ∃ v, e = .returned v ∧ Out w w' ∧ vset_Set_Twin.ret K v w'.heap := by
  rw [← vset_Set_Twin.eq] at hh
  exact fn_calls (args := [(.pointer a1)]) (c := vset_Set_Twin.code) vset_Set_Twin.ok Tryd.func15 (by kernel_rfl) (by kernel_rfl) (by kernel_rfl) (by kernel_rfl) (loops_ok (l := []) (by kernel_rfl) trivial) hh w hw

/-! ### (strait/straitref09.Set).Other: function 17 -/
def straitref09_Set_Other.b0 (K2 : Heap → Prop) (cont : Addr → Addr → Addr → Int → Heap → Prop) (c1_1001 : Addr) (c2_1002 : Addr) (c3_1003 : Addr) (v4_1004 : Int) (h1005 : Heap) : Prop :=
  ∃ (x1006 : Int), cell h1005 c1_1001 = some (.int .i64 x1006) ∧ (iteB (decide (v4_1004 < x1006)) ((∃ (x1007 : Option Addr) (x1007l : Nat) (x1007c : Nat), cell h1005 (c3_1003.add 1) = some (.slice x1007 x1007l x1007c) ∧ ∃ (x1008 : Option Addr) (x1008l : Nat) (x1008c : Nat), cell h1005 (c1_1001.add 1) = some (.slice x1008 x1008l x1008c) ∧ chkP x1008 fun a1009 => (0 ≤ v4_1004 ∧ v4_1004 < (x1008l : Int)) ∧ ∃ (x1010 : Bool), cell h1005 (a1009.add (v4_1004.toNat * 1)) = some (.bool x1010) ∧ chkP x1007 fun a1011 => (0 ≤ v4_1004 ∧ v4_1004 < (x1007l : Int)) ∧ stC h1005 (a1011.add (v4_1004.toNat * 1)) (.bool (!x1010)) fun h1012 => ((cont c1_1001 c2_1002 c3_1003 (IntKind.i64.wrap (v4_1004 + 1)) h1012)))) (K2 h1005))
def straitref09_Set_Other.l0 (K2 : Heap → Prop) : Nat → Addr → Addr → Addr → Int → Heap → Prop
  | 0, _, _, _, _, _ => False
  | m + 1, c1_1001, c2_1002, c3_1003, v4_1004, h => straitref09_Set_Other.b0 K2 (straitref09_Set_Other.l0 K2 m) c1_1001 c2_1002 c3_1003 v4_1004 h
def straitref09_Set_Other (a1 : Int) (a2 : Option Addr) (a2l : Nat) (a2c : Nat) (h : Heap) (K : Int → (Option Addr) → Nat → Nat → Heap → Prop) : Prop :=
  newP h (.cells #[(.int .i64 a1), (.slice a2 a2l a2c)] 28) fun a3 h4 => newP h4 (.cells #[(.int .i64 0), (.slice none 0 0)] 28) fun a5 h6 => (∃ (x7 : Int), cell h6 a3 = some (.int .i64 x7) ∧ callP4 (straitref09_New x7 h6) fun x8 x9 x9l x9c h10 => newP h10 (.cells #[(.int .i64 0), (.slice none 0 0)] 28) fun a11 h12 => stC h12 a11 (.int .i64 x8) fun h13 => stC h13 (a11.add 1) (.slice x9 x9l x9c) fun h14 => ((∃ m16, straitref09_Set_Other.l0 (fun h15 => ((∃ (x17 : Int), cell h15 a11 = some (.int .i64 x17) ∧ ∃ (x18 : Option Addr) (x18l : Nat) (x18c : Nat), cell h15 (a11.add 1) = some (.slice x18 x18l x18c) ∧ stC h15 a5 (.int .i64 x17) fun h19 => stC h19 (a5.add 1) (.slice x18 x18l x18c) fun h20 => (∃ (x21 : Int), cell h20 a5 = some (.int .i64 x21) ∧ ∃ (x22 : Option Addr) (x22l : Nat) (x22c : Nat), cell h20 (a5.add 1) = some (.slice x22 x22l x22c) ∧ K x21 x22 x22l x22c h20)))) m16 a3 a5 a11 0 h14)))
def straitref09_Set_Other.ret (K : Int → (Option Addr) → Nat → Nat → Heap → Prop) (v : Value) (h : Heap) : Prop := match v with
  | (.agg ⟨[(.int .i64 r23), (.slice r24 r24l r24c)]⟩) => K r23 r24 r24l r24c h
  | _ => False
theorem straitref09_Set_Other.ret_elim {K : Int → (Option Addr) → Nat → Nat → Heap → Prop} {K' : Value → Heap → Prop} {v : Value} {h : Heap} (hk : ∀ r23 r24 r24l r24c h, K r23 r24 r24l r24c h → K' (.agg #[(.int .i64 r23), (.slice r24 r24l r24c)]) h) (hh : straitref09_Set_Other.ret K v h) : K' v h := by
  unfold straitref09_Set_Other.ret at hh
  split at hh
  · exact hk _ _ _ _ _ hh
  · exact hh.elim
def straitref09_Set_Other.call (f : FuncId) (vs : List Value) (h : Heap) (K : Value → Heap → Prop) : Prop := match f, vs with
  | 8, [(.int .i64 a1)] => callP4 (straitref09_New a1 h) fun r12 r13 r13l r13c h' => K (.agg #[(.int .i64 r12), (.slice r13 r13l r13c)]) h'
  | _, _ => False
def straitref09_Set_Other.r0 (K : Nat → List Value → Heap → Prop) (m : Nat) (vs : List Value) (h : Heap) : Prop := match vs with
  | [(.pointer (some c1_1001)), (.pointer (some c2_1002)), (.pointer (some c3_1003)), (.int .i64 v4_1004)] => straitref09_Set_Other.l0 (fun h' => K 2 [(.pointer (some c2_1002)), (.pointer (some c3_1003))] h') m c1_1001 c2_1002 c3_1003 v4_1004 h
  | _ => False
def straitref09_Set_Other.loop (i : Nat) (vs : List Value) (h : Heap) (K : Nat → List Value → Heap → Prop) : Prop := match i with
  | 0 => ∃ m, straitref09_Set_Other.r0 K m vs h
  | _ => False
noncomputable def straitref09_Set_Other.ctx : Ctx := { P := Tryd.prog, call := straitref09_Set_Other.call, qcall := fun _ _ _ _ => False, quiet := fun f => false, loop := straitref09_Set_Other.loop }
theorem straitref09_Set_Other.ok : straitref09_Set_Other.ctx.OK where
  mixed := by kernel_rfl
  mono := by
    intro f args h K K' hh hk
    change straitref09_Set_Other.call f args h K at hh
    change straitref09_Set_Other.call f args h K'
    unfold straitref09_Set_Other.call at hh ⊢
    split at hh
    · obtain ⟨R, h1, h2⟩ := hh
      exact ⟨R, h1, fun _ _ _ _ x hr => hk _ _ (h2 _ _ _ _ x hr)⟩
    · exact hh.elim
  call := by
    intro f args h K hh w hw
    change straitref09_Set_Other.call f args h K at hh
    unfold straitref09_Set_Other.call at hh
    split at hh
    · obtain ⟨R, h1, h2⟩ := hh
      obtain ⟨g1, g2⟩ := straitref09_New.calls h1 w hw
      exact ⟨g1, g2.mono fun e w' ⟨v, he, ho, hr⟩ => ⟨v, he, ho, straitref09_New.ret_elim h2 hr⟩⟩
    · exact hh.elim
  qmono := fun hh _ => hh.elim
  qval := fun hh => hh.elim
  qcall := fun hh => hh.elim
noncomputable def straitref09_Set_Other.code : Code := (Tryd.f17.body).getD .skip
def straitref09_Set_Other.ann : Ann := (.two .auto (.two .auto (.two (.two .auto (.two (.loop 0 [1, 2, 3, 4] [(2, [2, 3])] (.two .auto (.two (.two (.reg [0, 1, 0, 0, 8, 0, 56, 120, 248, 511, 1023] (.take 0 (.take 1 (.take 2 (.take 3 (.take 4 (.take 5 (.take 6 (.take 7 (.take 8 (.take 9 (.alt 10 .done .noalt)))))))))))) .auto) .auto))) .auto)) .auto)))
noncomputable def straitref09_Set_Other.c0 : Code := sub straitref09_Set_Other.code [1, 1, 0, 1, 0, 0]
def straitref09_Set_Other.a0 : Ann := (.two .auto (.two (.two (.reg [0, 1, 0, 0, 8, 0, 56, 120, 248, 511, 1023] (.take 0 (.take 1 (.take 2 (.take 3 (.take 4 (.take 5 (.take 6 (.take 7 (.take 8 (.take 9 (.alt 10 .done .noalt)))))))))))) .auto) .auto))
def straitref09_Set_Other.keep0 : List Nat := [1, 2, 3, 4]
def straitref09_Set_Other.outs0 : List (Nat × List Nat) := [(2, [2, 3])]
set_option maxRecDepth 100000 in
theorem straitref09_Set_Other.L0 : LoopOK straitref09_Set_Other.ctx 25 straitref09_Set_Other.c0 0 straitref09_Set_Other.keep0 straitref09_Set_Other.outs0 := by
  refine loop_ok (n := straitref09_Set_Other.a0) straitref09_Set_Other.ok (by kernel_rfl) (loops_ok (l := []) (by kernel_rfl) ?_) straitref09_Set_Other.r0 ?_ ?_ (fun vs h K hh => hh)
  · exact trivial
  · intro K vs h hh
    unfold straitref09_Set_Other.r0 at hh
    split at hh
    · exact hh
    · exact hh
  · intro K m vs h hh
    unfold straitref09_Set_Other.r0 at hh
    split at hh
    · exact cast (by kernel_rfl) hh
    · exact hh.elim
set_option maxRecDepth 100000 in
theorem straitref09_Set_Other.eq (a1 : Int) (a2 : Option Addr) (a2l : Nat) (a2c : Nat) (h : Heap) (K : Int → (Option Addr) → Nat → Nat → Heap → Prop) : evF straitref09_Set_Other.ctx Tryd.f17 straitref09_Set_Other.ann [(.agg #[(.int .i64 a1), (.slice a2 a2l a2c)])] h (straitref09_Set_Other.ret K) = straitref09_Set_Other a1 a2 a2l a2c h K := by kernel_rfl
set_option maxRecDepth 100000 in
theorem straitref09_Set_Other.calls {a1 : Int} {a2 : Option Addr} {a2l : Nat} {a2c : Nat} {h : Heap} {K : Int → (Option Addr) → Nat → Nat → Heap → Prop} (hh : straitref09_Set_Other a1 a2 a2l a2c h K) (w : World) (hw : w.heap = h) :
    (callFunc 17 #[(.agg #[(.int .i64 a1), (.slice a2 a2l a2c)])]).run Tryd.prog w = .ok (.enter 17 #[(.agg #[(.int .i64 a1), (.slice a2 a2l a2c)])]) w ∧ Calls Tryd.prog 17 #[(.agg #[(.int .i64 a1), (.slice a2 a2l a2c)])] w fun e w' => ∃ v, e = .returned v ∧ Out w w' ∧ straitref09_Set_Other.ret K v w'.heap := by
  rw [← straitref09_Set_Other.eq] at hh
  exact fn_calls (args := [(.agg #[(.int .i64 a1), (.slice a2 a2l a2c)])]) (c := straitref09_Set_Other.code) straitref09_Set_Other.ok Tryd.func17 (by kernel_rfl) (by kernel_rfl) (by kernel_rfl) (by kernel_rfl) (loops_ok (l := [(straitref09_Set_Other.c0, none, 0, straitref09_Set_Other.keep0, straitref09_Set_Other.outs0)]) (by kernel_rfl) ⟨straitref09_Set_Other.L0, trivial⟩) hh w hw

/-! ### strait/straitlaw09.VsetPlays: function 3 -/
def straitlaw09_VsetPlays.b0 (K0 : Bool → Heap → Prop) (K2 : Heap → Prop) (cont : (Option Addr) → Nat → Nat → (Option Addr) → Addr → Int → Heap → Prop) (c1_1001 : Option Addr) (c1_1002 : Nat) (c1_1003 : Nat) (c5_1004 : Option Addr) (c6_1005 : Addr) (v7_1006 : Int) (h1007 : Heap) : Prop :=
  (iteB (decide (v7_1006 < (c1_1002 : Int))) ((chkP c1_1001 fun a1008 => (0 ≤ v7_1006 ∧ v7_1006 < (c1_1002 : Int)) ∧ ∃ (x1009 : Int), cell h1007 ((a1008.add (v7_1006.toNat * 2)).add 1) = some (.int .i64 x1009) ∧ (∃ (x1010 : Int), cell h1007 c6_1005 = some (.int .i64 x1010) ∧ ∃ (x1011 : Option Addr) (x1011l : Nat) (x1011c : Nat), cell h1007 (c6_1005.add 1) = some (.slice x1011 x1011l x1011c) ∧ callP1 (straitref09_Set_Has x1010 x1011 x1011l x1011c x1009 h1007) fun x1012 h1013 => (let j1048 := (fun (y1015 : Bool) => ((let j1047 := (fun (y1037 : Bool) (y1038 : Bool) (h1039 : Heap) => iteB (!(y1037 == y1038)) (K0 false h1039) (qcallP1 h1039 (vset_Set_Has c5_1004 x1009 h1039) fun x1040 => ∃ (x1041 : Int), cell h1039 c6_1005 = some (.int .i64 x1041) ∧ ∃ (x1042 : Option Addr) (x1042l : Nat) (x1042c : Nat), cell h1039 (c6_1005.add 1) = some (.slice x1042 x1042l x1042c) ∧ callP1 (straitref09_Set_Has x1041 x1042 x1042l x1042c x1009 h1039) fun x1043 h1044 => (iteB (!(x1040 == x1043)) (K0 false h1044) (((cont c1_1001 c1_1002 c1_1003 c5_1004 c6_1005 (IntKind.i64.wrap (v7_1006 + 1)) h1044))))));
  chkP c1_1001 fun a1016 => (0 ≤ v7_1006 ∧ v7_1006 < (c1_1002 : Int)) ∧ ∃ (x1017 : Int), cell h1013 (a1016.add (v7_1006.toNat * 2)) = some (.int .i64 x1017) ∧ ((iteB (x1017 == (0 : Int)) (callP1 (vset_Set_Put c5_1004 x1009 h1013) fun x1018 h1019 => (∃ (x1020 : Int), cell h1019 c6_1005 = some (.int .i64 x1020) ∧ ∃ (x1021 : Option Addr) (x1021l : Nat) (x1021c : Nat), cell h1019 (c6_1005.add 1) = some (.slice x1021 x1021l x1021c) ∧ callP4 (straitref09_Set_With x1020 x1021 x1021l x1021c x1009 true h1019) fun x1022 x1023 x1023l x1023c h1024 => stC h1024 c6_1005 (.int .i64 x1022) fun h1025 => stC h1025 (c6_1005.add 1) (.slice x1023 x1023l x1023c) fun h1026 => (iteB y1015 (((j1047 x1018 (!x1012) h1026))) (((j1047 x1018 false h1026)))))) ((iteB (x1017 == (1 : Int)) (callP1 (vset_Set_Drop c5_1004 x1009 h1013) fun x1027 h1028 => (∃ (x1029 : Int), cell h1028 c6_1005 = some (.int .i64 x1029) ∧ ∃ (x1030 : Option Addr) (x1030l : Nat) (x1030c : Nat), cell h1028 (c6_1005.add 1) = some (.slice x1030 x1030l x1030c) ∧ callP4 (straitref09_Set_With x1029 x1030 x1030l x1030c x1009 false h1028) fun x1031 x1032 x1032l x1032c h1033 => stC h1033 c6_1005 (.int .i64 x1031) fun h1034 => stC h1034 (c6_1005.add 1) (.slice x1032 x1032l x1032c) fun h1035 => ((j1047 x1027 x1012 h1035)))) (qcallP1 h1013 (vset_Set_Has c5_1004 x1009 h1013) fun x1036 => ((j1047 x1036 x1012 h1013))))))))));
  iteB (decide (x1009 ≥ (0 : Int))) (∃ (x1014 : Int), cell h1013 c6_1005 = some (.int .i64 x1014) ∧ (j1048 (decide (x1009 < x1014)))) ((j1048 false)))))) (K2 h1007))
def straitlaw09_VsetPlays.l0 (K0 : Bool → Heap → Prop) (K2 : Heap → Prop) : Nat → (Option Addr) → Nat → Nat → (Option Addr) → Addr → Int → Heap → Prop
  | 0, _, _, _, _, _, _, _ => False
  | m + 1, c1_1001, c1_1002, c1_1003, c5_1004, c6_1005, v7_1006, h => straitlaw09_VsetPlays.b0 K0 K2 (straitlaw09_VsetPlays.l0 K0 K2 m) c1_1001 c1_1002 c1_1003 c5_1004 c6_1005 v7_1006 h
def straitlaw09_VsetPlays (a1 : Int) (a2 : Option Addr) (a2l : Nat) (a2c : Nat) (h : Heap) (K : Bool → Heap → Prop) : Prop :=
  ((iteB (decide ((a2l : Int) > (200 : Int))) (callP1 (straitlaw09_awake h) fun x3 h4 => K x3 h4) ((callP1 (vset_New a1 h) fun x5 h6 => callP4 (straitref09_New a1 h6) fun x7 x8 x8l x8c h9 => newP h9 (.cells #[(.int .i64 0), (.slice none 0 0)] 28) fun a10 h11 => stC h11 a10 (.int .i64 x7) fun h12 => stC h12 (a10.add 1) (.slice x8 x8l x8c) fun h13 => (∃ (x14 : Int), cell h13 a10 = some (.int .i64 x14) ∧ ∃ (x15 : Option Addr) (x15l : Nat) (x15c : Nat), cell h13 (a10.add 1) = some (.slice x15 x15l x15c) ∧ callP1 (straitlaw09_same x5 x14 x15 x15l x15c h13) fun x16 h17 => (iteB (!x16) (K false h17) (((∃ m21, straitlaw09_VsetPlays.l0 (fun z18 h19 => K z18 h19) (fun h20 => ((callP1 (vset_Set_Twin x5 h20) fun x22 h23 => (callP1 (vset_Set_Other x5 h23) fun x24 h25 => (let j63 := (fun (h43 : Heap) => callP1 (vset_Set_Put x5 0 h43) fun x44 h45 => (callP1 (vset_Set_Drop x5 1 h45) fun x46 h47 => (∃ (x48 : Int), cell h47 a10 = some (.int .i64 x48) ∧ ∃ (x49 : Option Addr) (x49l : Nat) (x49c : Nat), cell h47 (a10.add 1) = some (.slice x49 x49l x49c) ∧ callP1 (straitlaw09_same x22 x48 x49 x49l x49c h47) fun x50 h51 => iteB x50 (∃ (x52 : Int), cell h51 a10 = some (.int .i64 x52) ∧ ∃ (x53 : Option Addr) (x53l : Nat) (x53c : Nat), cell h51 (a10.add 1) = some (.slice x53 x53l x53c) ∧ callP4 (straitref09_Set_Other x52 x53 x53l x53c h51) fun x54 x55 x55l x55c h56 => callP1 (straitlaw09_same x24 x54 x55 x55l x55c h56) fun x57 h58 => iteB x57 (callP1 (straitlaw09_awake h58) fun x59 h60 => K x59 h60) (K false h58)) (K false h51))));
  ∃ (x26 : Int), cell h25 a10 = some (.int .i64 x26) ∧ ∃ (x27 : Option Addr) (x27l : Nat) (x27c : Nat), cell h25 (a10.add 1) = some (.slice x27 x27l x27c) ∧ callP1 (straitlaw09_same x5 x26 x27 x27l x27c h25) fun x28 h29 => iteB (!x28) (K false h29) (∃ (x30 : Int), cell h29 a10 = some (.int .i64 x30) ∧ ∃ (x31 : Option Addr) (x31l : Nat) (x31c : Nat), cell h29 (a10.add 1) = some (.slice x31 x31l x31c) ∧ callP1 (straitlaw09_same x22 x30 x31 x31l x31c h29) fun x32 h33 => iteB (!x32) (K false h33) (∃ (x34 : Int), cell h33 a10 = some (.int .i64 x34) ∧ ∃ (x35 : Option Addr) (x35l : Nat) (x35c : Nat), cell h33 (a10.add 1) = some (.slice x35 x35l x35c) ∧ callP4 (straitref09_Set_Other x34 x35 x35l x35c h33) fun x36 x37 x37l x37c h38 => callP1 (straitlaw09_same x24 x36 x37 x37l x37c h38) fun x39 h40 => (iteB (!x39) (K false h40) ((j63 h40)))))))))) m21 a2 a2l a2c x5 a10 0 h17)))))))))
def straitlaw09_VsetPlays.ret (K : Bool → Heap → Prop) (v : Value) (h : Heap) : Prop := match v with
  | (.bool r64) => K r64 h
  | _ => False
theorem straitlaw09_VsetPlays.ret_elim {K : Bool → Heap → Prop} {K' : Value → Heap → Prop} {v : Value} {h : Heap} (hk : ∀ r64 h, K r64 h → K' (.bool r64) h) (hh : straitlaw09_VsetPlays.ret K v h) : K' v h := by
  unfold straitlaw09_VsetPlays.ret at hh
  split at hh
  · exact hk _ _ hh
  · exact hh.elim
def straitlaw09_VsetPlays.call (f : FuncId) (vs : List Value) (h : Heap) (K : Value → Heap → Prop) : Prop := match f, vs with
  | 6, [] => callP1 (straitlaw09_awake h) fun r17 h' => K (.bool r17) h'
  | 7, [(.int .i64 a1)] => callP1 (vset_New a1 h) fun r8 h' => K (.pointer r8) h'
  | 8, [(.int .i64 a1)] => callP4 (straitref09_New a1 h) fun r12 r13 r13l r13c h' => K (.agg #[(.int .i64 r12), (.slice r13 r13l r13c)]) h'
  | 9, [(.pointer a1), (.agg ⟨[(.int .i64 a2), (.slice a3 a3l a3c)]⟩)] => callP1 (straitlaw09_same a1 a2 a3 a3l a3c h) fun r18 h' => K (.bool r18) h'
  | 10, [(.agg ⟨[(.int .i64 a1), (.slice a2 a2l a2c)]⟩), (.int .i64 a3)] => callP1 (straitref09_Set_Has a1 a2 a2l a2c a3 h) fun r11 h' => K (.bool r11) h'
  | 11, [(.pointer a1), (.int .i64 a2)] => callP1 (vset_Set_Put a1 a2 h) fun r21 h' => K (.bool r21) h'
  | 12, [(.agg ⟨[(.int .i64 a1), (.slice a2 a2l a2c)]⟩), (.int .i64 a3), (.bool a4)] => callP4 (straitref09_Set_With a1 a2 a2l a2c a3 a4 h) fun r75 r76 r76l r76c h' => K (.agg #[(.int .i64 r75), (.slice r76 r76l r76c)]) h'
  | 13, [(.pointer a1), (.int .i64 a2)] => callP1 (vset_Set_Drop a1 a2 h) fun r21 h' => K (.bool r21) h'
  | 15, [(.pointer a1)] => callP1 (vset_Set_Twin a1 h) fun r12 h' => K (.pointer r12) h'
  | 16, [(.pointer a1)] => callP1 (vset_Set_Other a1 h) fun r10 h' => K (.pointer r10) h'
  | 17, [(.agg ⟨[(.int .i64 a1), (.slice a2 a2l a2c)]⟩)] => callP4 (straitref09_Set_Other a1 a2 a2l a2c h) fun r23 r24 r24l r24c h' => K (.agg #[(.int .i64 r23), (.slice r24 r24l r24c)]) h'
  | _, _ => False
def straitlaw09_VsetPlays.qcall (f : FuncId) (vs : List Value) (h : Heap) (K : Value → Prop) : Prop := match f, vs with
  | 14, [(.pointer a1), (.int .i64 a2)] => qcallP1 h (vset_Set_Has a1 a2 h) fun r9 => K (.bool r9)
  | _, _ => False
def straitlaw09_VsetPlays.r0 (K : Nat → List Value → Heap → Prop) (m : Nat) (vs : List Value) (h : Heap) : Prop := match vs with
  | [(.slice c1_1001 c1_1002 c1_1003), (.pointer c5_1004), (.pointer (some c6_1005)), (.int .i64 v7_1006)] => straitlaw09_VsetPlays.l0 (fun z65 h' => K 0 [(.bool z65)] h') (fun h' => K 2 [(.pointer c5_1004), (.pointer (some c6_1005))] h') m c1_1001 c1_1002 c1_1003 c5_1004 c6_1005 v7_1006 h
  | _ => False
def straitlaw09_VsetPlays.loop (i : Nat) (vs : List Value) (h : Heap) (K : Nat → List Value → Heap → Prop) : Prop := match i with
  | 0 => ∃ m, straitlaw09_VsetPlays.r0 K m vs h
  | _ => False
noncomputable def straitlaw09_VsetPlays.ctx : Ctx := { P := Tryd.prog, call := straitlaw09_VsetPlays.call, qcall := straitlaw09_VsetPlays.qcall, quiet := fun f => Nat.beq f 14, loop := straitlaw09_VsetPlays.loop }
theorem straitlaw09_VsetPlays.ok : straitlaw09_VsetPlays.ctx.OK where
  mixed := by kernel_rfl
  mono := by
    intro f args h K K' hh hk
    change straitlaw09_VsetPlays.call f args h K at hh
    change straitlaw09_VsetPlays.call f args h K'
    unfold straitlaw09_VsetPlays.call at hh ⊢
    split at hh
    · obtain ⟨R, h1, h2⟩ := hh
      exact ⟨R, h1, fun _ x hr => hk _ _ (h2 _ x hr)⟩
    · obtain ⟨R, h1, h2⟩ := hh
      exact ⟨R, h1, fun _ x hr => hk _ _ (h2 _ x hr)⟩
    · obtain ⟨R, h1, h2⟩ := hh
      exact ⟨R, h1, fun _ _ _ _ x hr => hk _ _ (h2 _ _ _ _ x hr)⟩
    · obtain ⟨R, h1, h2⟩ := hh
      exact ⟨R, h1, fun _ x hr => hk _ _ (h2 _ x hr)⟩
    · obtain ⟨R, h1, h2⟩ := hh
      exact ⟨R, h1, fun _ x hr => hk _ _ (h2 _ x hr)⟩
    · obtain ⟨R, h1, h2⟩ := hh
      exact ⟨R, h1, fun _ x hr => hk _ _ (h2 _ x hr)⟩
    · obtain ⟨R, h1, h2⟩ := hh
      exact ⟨R, h1, fun _ _ _ _ x hr => hk _ _ (h2 _ _ _ _ x hr)⟩
    · obtain ⟨R, h1, h2⟩ := hh
      exact ⟨R, h1, fun _ x hr => hk _ _ (h2 _ x hr)⟩
    · obtain ⟨R, h1, h2⟩ := hh
      exact ⟨R, h1, fun _ x hr => hk _ _ (h2 _ x hr)⟩
    · obtain ⟨R, h1, h2⟩ := hh
      exact ⟨R, h1, fun _ x hr => hk _ _ (h2 _ x hr)⟩
    · obtain ⟨R, h1, h2⟩ := hh
      exact ⟨R, h1, fun _ _ _ _ x hr => hk _ _ (h2 _ _ _ _ x hr)⟩
    · exact hh.elim
  call := by
    intro f args h K hh w hw
    change straitlaw09_VsetPlays.call f args h K at hh
    unfold straitlaw09_VsetPlays.call at hh
    split at hh
    · obtain ⟨R, h1, h2⟩ := hh
      obtain ⟨g1, g2⟩ := straitlaw09_awake.calls h1 w hw
      exact ⟨g1, g2.mono fun e w' ⟨v, he, ho, hr⟩ => ⟨v, he, ho, straitlaw09_awake.ret_elim h2 hr⟩⟩
    · obtain ⟨R, h1, h2⟩ := hh
      obtain ⟨g1, g2⟩ := vset_New.calls h1 w hw
      exact ⟨g1, g2.mono fun e w' ⟨v, he, ho, hr⟩ => ⟨v, he, ho, vset_New.ret_elim h2 hr⟩⟩
    · obtain ⟨R, h1, h2⟩ := hh
      obtain ⟨g1, g2⟩ := straitref09_New.calls h1 w hw
      exact ⟨g1, g2.mono fun e w' ⟨v, he, ho, hr⟩ => ⟨v, he, ho, straitref09_New.ret_elim h2 hr⟩⟩
    · obtain ⟨R, h1, h2⟩ := hh
      obtain ⟨g1, g2⟩ := straitlaw09_same.calls h1 w hw
      exact ⟨g1, g2.mono fun e w' ⟨v, he, ho, hr⟩ => ⟨v, he, ho, straitlaw09_same.ret_elim h2 hr⟩⟩
    · obtain ⟨R, h1, h2⟩ := hh
      obtain ⟨g1, g2⟩ := straitref09_Set_Has.calls h1 w hw
      exact ⟨g1, g2.mono fun e w' ⟨v, he, ho, hr⟩ => ⟨v, he, ho, straitref09_Set_Has.ret_elim h2 hr⟩⟩
    · obtain ⟨R, h1, h2⟩ := hh
      obtain ⟨g1, g2⟩ := vset_Set_Put.calls h1 w hw
      exact ⟨g1, g2.mono fun e w' ⟨v, he, ho, hr⟩ => ⟨v, he, ho, vset_Set_Put.ret_elim h2 hr⟩⟩
    · obtain ⟨R, h1, h2⟩ := hh
      obtain ⟨g1, g2⟩ := straitref09_Set_With.calls h1 w hw
      exact ⟨g1, g2.mono fun e w' ⟨v, he, ho, hr⟩ => ⟨v, he, ho, straitref09_Set_With.ret_elim h2 hr⟩⟩
    · obtain ⟨R, h1, h2⟩ := hh
      obtain ⟨g1, g2⟩ := vset_Set_Drop.calls h1 w hw
      exact ⟨g1, g2.mono fun e w' ⟨v, he, ho, hr⟩ => ⟨v, he, ho, vset_Set_Drop.ret_elim h2 hr⟩⟩
    · obtain ⟨R, h1, h2⟩ := hh
      obtain ⟨g1, g2⟩ := vset_Set_Twin.calls h1 w hw
      exact ⟨g1, g2.mono fun e w' ⟨v, he, ho, hr⟩ => ⟨v, he, ho, vset_Set_Twin.ret_elim h2 hr⟩⟩
    · obtain ⟨R, h1, h2⟩ := hh
      obtain ⟨g1, g2⟩ := vset_Set_Other.calls h1 w hw
      exact ⟨g1, g2.mono fun e w' ⟨v, he, ho, hr⟩ => ⟨v, he, ho, vset_Set_Other.ret_elim h2 hr⟩⟩
    · obtain ⟨R, h1, h2⟩ := hh
      obtain ⟨g1, g2⟩ := straitref09_Set_Other.calls h1 w hw
      exact ⟨g1, g2.mono fun e w' ⟨v, he, ho, hr⟩ => ⟨v, he, ho, straitref09_Set_Other.ret_elim h2 hr⟩⟩
    · exact hh.elim
  qmono := by
    intro f args h K K' hh hk
    change straitlaw09_VsetPlays.qcall f args h K at hh
    change straitlaw09_VsetPlays.qcall f args h K'
    unfold straitlaw09_VsetPlays.qcall at hh ⊢
    split at hh
    · obtain ⟨x0, h1, h2⟩ := hh
      exact ⟨x0, h1, hk _ h2⟩
    · exact hh.elim
  qval := by
    intro f args h K hh
    change straitlaw09_VsetPlays.qcall f args h K at hh
    suffices H : ∃ v, K v ∧ straitlaw09_VsetPlays.qcall f args h (· = v) from H
    unfold straitlaw09_VsetPlays.qcall at hh ⊢
    split at hh
    · obtain ⟨x0, h1, h2⟩ := hh
      exact ⟨_, h2, x0, h1, rfl⟩
    · exact hh.elim
  qcall := by
    intro f args h v hh w hw
    change straitlaw09_VsetPlays.qcall f args h (· = v) at hh
    unfold straitlaw09_VsetPlays.qcall at hh
    split at hh
    · obtain ⟨x0, h1, h2⟩ := hh
      obtain ⟨g1, g2⟩ := vset_Set_Has.calls h1 w hw
      refine .inl ⟨g1, g2.mono fun e w' ⟨u, he, ho, hr⟩ => ?_⟩
      have hq := vset_Set_Has.ret_elim (K' := fun u h' => u = v ∧ h' = h) (fun _ h' hr => by obtain ⟨rfl, rfl⟩ := hr; exact ⟨h2, rfl⟩) hr
      exact ⟨hq.1 ▸ he, ho, hq.2⟩
    · exact hh.elim
noncomputable def straitlaw09_VsetPlays.code : Code := (Tryd.f3.body).getD .skip
def straitlaw09_VsetPlays.ann : Ann := (.two .auto (.two .auto (.two .auto (.two .auto (.two (.two .auto (.two (.loop 0 [1, 5, 6, 7] [(2, [5, 6]), (0, [4])] (.two .auto (.two (.two (.two .auto (.two .auto (.two .auto (.two .auto (.two .auto (.two .auto (.two (.reg [0, 0, 3, 7, 15, 15, 63, 15, 15, 511, 1023, 2047] (.take 0 (.take 1 (.take 2 (.take 3 (.take 4 (.take 5 (.take 6 (.take 7 (.take 8 (.alt 9 (.take 10 (.take 11 .done)) .noalt))))))))))) .auto))))))) .auto) .auto))) .auto)) .auto)))))
noncomputable def straitlaw09_VsetPlays.c0 : Code := sub straitlaw09_VsetPlays.code [1, 1, 1, 1, 0, 1, 0, 0]
def straitlaw09_VsetPlays.a0 : Ann := (.two .auto (.two (.two (.two .auto (.two .auto (.two .auto (.two .auto (.two .auto (.two .auto (.two (.reg [0, 0, 3, 7, 15, 15, 63, 15, 15, 511, 1023, 2047] (.take 0 (.take 1 (.take 2 (.take 3 (.take 4 (.take 5 (.take 6 (.take 7 (.take 8 (.alt 9 (.take 10 (.take 11 .done)) .noalt))))))))))) .auto))))))) .auto) .auto))
def straitlaw09_VsetPlays.keep0 : List Nat := [1, 5, 6, 7]
def straitlaw09_VsetPlays.outs0 : List (Nat × List Nat) := [(2, [5, 6]), (0, [4])]
set_option maxRecDepth 100000 in
theorem straitlaw09_VsetPlays.L0 : LoopOK straitlaw09_VsetPlays.ctx 128 straitlaw09_VsetPlays.c0 0 straitlaw09_VsetPlays.keep0 straitlaw09_VsetPlays.outs0 := by
  refine loop_ok (n := straitlaw09_VsetPlays.a0) straitlaw09_VsetPlays.ok (by kernel_rfl) (loops_ok (l := []) (by kernel_rfl) ?_) straitlaw09_VsetPlays.r0 ?_ ?_ (fun vs h K hh => hh)
  · exact trivial
  · intro K vs h hh
    unfold straitlaw09_VsetPlays.r0 at hh
    split at hh
    · exact hh
    · exact hh
  · intro K m vs h hh
    unfold straitlaw09_VsetPlays.r0 at hh
    split at hh
    · exact cast (by kernel_rfl) hh
    · exact hh.elim
set_option maxRecDepth 100000 in
theorem straitlaw09_VsetPlays.eq (a1 : Int) (a2 : Option Addr) (a2l : Nat) (a2c : Nat) (h : Heap) (K : Bool → Heap → Prop) : evF straitlaw09_VsetPlays.ctx Tryd.f3 straitlaw09_VsetPlays.ann [(.int .i64 a1), (.slice a2 a2l a2c)] h (straitlaw09_VsetPlays.ret K) = straitlaw09_VsetPlays a1 a2 a2l a2c h K := by kernel_rfl
set_option maxRecDepth 100000 in
theorem straitlaw09_VsetPlays.calls {a1 : Int} {a2 : Option Addr} {a2l : Nat} {a2c : Nat} {h : Heap} {K : Bool → Heap → Prop} (hh : straitlaw09_VsetPlays a1 a2 a2l a2c h K) (w : World) (hw : w.heap = h) :
    (callFunc 3 #[(.int .i64 a1), (.slice a2 a2l a2c)]).run Tryd.prog w = .ok (.enter 3 #[(.int .i64 a1), (.slice a2 a2l a2c)]) w ∧ Calls Tryd.prog 3 #[(.int .i64 a1), (.slice a2 a2l a2c)] w fun e w' => ∃ v, e = .returned v ∧ Out w w' ∧ straitlaw09_VsetPlays.ret K v w'.heap := by
  rw [← straitlaw09_VsetPlays.eq] at hh
  exact fn_calls (args := [(.int .i64 a1), (.slice a2 a2l a2c)]) (c := straitlaw09_VsetPlays.code) straitlaw09_VsetPlays.ok Tryd.func3 (by kernel_rfl) (by kernel_rfl) (by kernel_rfl) (by kernel_rfl) (loops_ok (l := [(straitlaw09_VsetPlays.c0, none, 0, straitlaw09_VsetPlays.keep0, straitlaw09_VsetPlays.outs0)]) (by kernel_rfl) ⟨straitlaw09_VsetPlays.L0, trivial⟩) hh w hw

/-! ### strait/straitref09.Of: function 19 -/
def straitref09_Of.b0 (K2 : Heap → Prop) (cont : (Option Addr) → Nat → Nat → Addr → Addr → Int → Heap → Prop) (c1_1001 : Option Addr) (c1_1002 : Nat) (c1_1003 : Nat) (c4_1004 : Addr) (c5_1005 : Addr) (v6_1006 : Int) (h1007 : Heap) : Prop :=
  (iteB (decide (v6_1006 < (c1_1002 : Int))) ((let j1019 := (fun (y1013 : Bool) => iteB y1013 (∃ (x1014 : Option Addr) (x1014l : Nat) (x1014c : Nat), cell h1007 (c5_1005.add 1) = some (.slice x1014 x1014l x1014c) ∧ chkP c1_1001 fun a1015 => (0 ≤ v6_1006 ∧ v6_1006 < (c1_1002 : Int)) ∧ ∃ (x1016 : Int), cell h1007 (a1015.add (v6_1006.toNat * 1)) = some (.int .i64 x1016) ∧ chkP x1014 fun a1017 => (0 ≤ x1016 ∧ x1016 < (x1014l : Int)) ∧ stC h1007 (a1017.add (x1016.toNat * 1)) (.bool true) fun h1018 => ((cont c1_1001 c1_1002 c1_1003 c4_1004 c5_1005 (IntKind.i64.wrap (v6_1006 + 1)) h1018))) (((cont c1_1001 c1_1002 c1_1003 c4_1004 c5_1005 (IntKind.i64.wrap (v6_1006 + 1)) h1007))));
  chkP c1_1001 fun a1008 => (0 ≤ v6_1006 ∧ v6_1006 < (c1_1002 : Int)) ∧ ∃ (x1009 : Int), cell h1007 (a1008.add (v6_1006.toNat * 1)) = some (.int .i64 x1009) ∧ iteB (decide (x1009 ≥ (0 : Int))) (chkP c1_1001 fun a1010 => (0 ≤ v6_1006 ∧ v6_1006 < (c1_1002 : Int)) ∧ ∃ (x1011 : Int), cell h1007 (a1010.add (v6_1006.toNat * 1)) = some (.int .i64 x1011) ∧ ∃ (x1012 : Int), cell h1007 c5_1005 = some (.int .i64 x1012) ∧ (j1019 (decide (x1011 < x1012)))) ((j1019 false)))) (K2 h1007))
def straitref09_Of.l0 (K2 : Heap → Prop) : Nat → (Option Addr) → Nat → Nat → Addr → Addr → Int → Heap → Prop
  | 0, _, _, _, _, _, _, _ => False
  | m + 1, c1_1001, c1_1002, c1_1003, c4_1004, c5_1005, v6_1006, h => straitref09_Of.b0 K2 (straitref09_Of.l0 K2 m) c1_1001 c1_1002 c1_1003 c4_1004 c5_1005 v6_1006 h
def straitref09_Of (a1 : Int) (a2 : Option Addr) (a2l : Nat) (a2c : Nat) (h : Heap) (K : Int → (Option Addr) → Nat → Nat → Heap → Prop) : Prop :=
  newP h (.cells #[(.int .i64 0), (.slice none 0 0)] 28) fun a3 h4 => (callP4 (straitref09_New a1 h4) fun x5 x6 x6l x6c h7 => newP h7 (.cells #[(.int .i64 0), (.slice none 0 0)] 28) fun a8 h9 => stC h9 a8 (.int .i64 x5) fun h10 => stC h10 (a8.add 1) (.slice x6 x6l x6c) fun h11 => ((∃ m13, straitref09_Of.l0 (fun h12 => ((∃ (x14 : Int), cell h12 a8 = some (.int .i64 x14) ∧ ∃ (x15 : Option Addr) (x15l : Nat) (x15c : Nat), cell h12 (a8.add 1) = some (.slice x15 x15l x15c) ∧ stC h12 a3 (.int .i64 x14) fun h16 => stC h16 (a3.add 1) (.slice x15 x15l x15c) fun h17 => (∃ (x18 : Int), cell h17 a3 = some (.int .i64 x18) ∧ ∃ (x19 : Option Addr) (x19l : Nat) (x19c : Nat), cell h17 (a3.add 1) = some (.slice x19 x19l x19c) ∧ K x18 x19 x19l x19c h17)))) m13 a2 a2l a2c a3 a8 0 h11)))
def straitref09_Of.ret (K : Int → (Option Addr) → Nat → Nat → Heap → Prop) (v : Value) (h : Heap) : Prop := match v with
  | (.agg ⟨[(.int .i64 r20), (.slice r21 r21l r21c)]⟩) => K r20 r21 r21l r21c h
  | _ => False
theorem straitref09_Of.ret_elim {K : Int → (Option Addr) → Nat → Nat → Heap → Prop} {K' : Value → Heap → Prop} {v : Value} {h : Heap} (hk : ∀ r20 r21 r21l r21c h, K r20 r21 r21l r21c h → K' (.agg #[(.int .i64 r20), (.slice r21 r21l r21c)]) h) (hh : straitref09_Of.ret K v h) : K' v h := by
  unfold straitref09_Of.ret at hh
  split at hh
  · exact hk _ _ _ _ _ hh
  · exact hh.elim
def straitref09_Of.call (f : FuncId) (vs : List Value) (h : Heap) (K : Value → Heap → Prop) : Prop := match f, vs with
  | 8, [(.int .i64 a1)] => callP4 (straitref09_New a1 h) fun r12 r13 r13l r13c h' => K (.agg #[(.int .i64 r12), (.slice r13 r13l r13c)]) h'
  | _, _ => False
def straitref09_Of.r0 (K : Nat → List Value → Heap → Prop) (m : Nat) (vs : List Value) (h : Heap) : Prop := match vs with
  | [(.slice c1_1001 c1_1002 c1_1003), (.pointer (some c4_1004)), (.pointer (some c5_1005)), (.int .i64 v6_1006)] => straitref09_Of.l0 (fun h' => K 2 [(.pointer (some c4_1004)), (.pointer (some c5_1005))] h') m c1_1001 c1_1002 c1_1003 c4_1004 c5_1005 v6_1006 h
  | _ => False
def straitref09_Of.loop (i : Nat) (vs : List Value) (h : Heap) (K : Nat → List Value → Heap → Prop) : Prop := match i with
  | 0 => ∃ m, straitref09_Of.r0 K m vs h
  | _ => False
noncomputable def straitref09_Of.ctx : Ctx := { P := Tryd.prog, call := straitref09_Of.call, qcall := fun _ _ _ _ => False, quiet := fun f => false, loop := straitref09_Of.loop }
theorem straitref09_Of.ok : straitref09_Of.ctx.OK where
  mixed := by kernel_rfl
  mono := by
    intro f args h K K' hh hk
    change straitref09_Of.call f args h K at hh
    change straitref09_Of.call f args h K'
    unfold straitref09_Of.call at hh ⊢
    split at hh
    · obtain ⟨R, h1, h2⟩ := hh
      exact ⟨R, h1, fun _ _ _ _ x hr => hk _ _ (h2 _ _ _ _ x hr)⟩
    · exact hh.elim
  call := by
    intro f args h K hh w hw
    change straitref09_Of.call f args h K at hh
    unfold straitref09_Of.call at hh
    split at hh
    · obtain ⟨R, h1, h2⟩ := hh
      obtain ⟨g1, g2⟩ := straitref09_New.calls h1 w hw
      exact ⟨g1, g2.mono fun e w' ⟨v, he, ho, hr⟩ => ⟨v, he, ho, straitref09_New.ret_elim h2 hr⟩⟩
    · exact hh.elim
  qmono := fun hh _ => hh.elim
  qval := fun hh => hh.elim
  qcall := fun hh => hh.elim
noncomputable def straitref09_Of.code : Code := (Tryd.f19.body).getD .skip
def straitref09_Of.ann : Ann := (.two .auto (.two .auto (.two (.two .auto (.two (.loop 0 [1, 4, 5, 6] [(2, [4, 5])] (.two .auto (.two (.two (.two (.reg [0, 0, 3, 7, 15, 31, 63, 63, 255, 511, 63, 1087, 4095, 8191] (.take 0 (.take 1 (.take 2 (.take 3 (.take 4 (.take 5 (.take 6 (.take 7 (.take 8 (.take 9 (.take 10 (.take 11 (.take 12 (.take 13 .done))))))))))))))) (.two (.reg [0, 1, 0, 0, 12, 28, 63, 127] (.take 0 (.take 1 (.take 2 (.take 3 (.take 4 (.take 5 (.take 6 (.alt 7 .done .noalt))))))))) .auto)) .auto) .auto))) .auto)) .auto)))
noncomputable def straitref09_Of.c0 : Code := sub straitref09_Of.code [1, 1, 0, 1, 0, 0]
def straitref09_Of.a0 : Ann := (.two .auto (.two (.two (.two (.reg [0, 0, 3, 7, 15, 31, 63, 63, 255, 511, 63, 1087, 4095, 8191] (.take 0 (.take 1 (.take 2 (.take 3 (.take 4 (.take 5 (.take 6 (.take 7 (.take 8 (.take 9 (.take 10 (.take 11 (.take 12 (.take 13 .done))))))))))))))) (.two (.reg [0, 1, 0, 0, 12, 28, 63, 127] (.take 0 (.take 1 (.take 2 (.take 3 (.take 4 (.take 5 (.take 6 (.alt 7 .done .noalt))))))))) .auto)) .auto) .auto))
def straitref09_Of.keep0 : List Nat := [1, 4, 5, 6]
def straitref09_Of.outs0 : List (Nat × List Nat) := [(2, [4, 5])]
set_option maxRecDepth 100000 in
theorem straitref09_Of.L0 : LoopOK straitref09_Of.ctx 37 straitref09_Of.c0 0 straitref09_Of.keep0 straitref09_Of.outs0 := by
  refine loop_ok (n := straitref09_Of.a0) straitref09_Of.ok (by kernel_rfl) (loops_ok (l := []) (by kernel_rfl) ?_) straitref09_Of.r0 ?_ ?_ (fun vs h K hh => hh)
  · exact trivial
  · intro K vs h hh
    unfold straitref09_Of.r0 at hh
    split at hh
    · exact hh
    · exact hh
  · intro K m vs h hh
    unfold straitref09_Of.r0 at hh
    split at hh
    · exact cast (by kernel_rfl) hh
    · exact hh.elim
set_option maxRecDepth 100000 in
theorem straitref09_Of.eq (a1 : Int) (a2 : Option Addr) (a2l : Nat) (a2c : Nat) (h : Heap) (K : Int → (Option Addr) → Nat → Nat → Heap → Prop) : evF straitref09_Of.ctx Tryd.f19 straitref09_Of.ann [(.int .i64 a1), (.slice a2 a2l a2c)] h (straitref09_Of.ret K) = straitref09_Of a1 a2 a2l a2c h K := by kernel_rfl
set_option maxRecDepth 100000 in
theorem straitref09_Of.calls {a1 : Int} {a2 : Option Addr} {a2l : Nat} {a2c : Nat} {h : Heap} {K : Int → (Option Addr) → Nat → Nat → Heap → Prop} (hh : straitref09_Of a1 a2 a2l a2c h K) (w : World) (hw : w.heap = h) :
    (callFunc 19 #[(.int .i64 a1), (.slice a2 a2l a2c)]).run Tryd.prog w = .ok (.enter 19 #[(.int .i64 a1), (.slice a2 a2l a2c)]) w ∧ Calls Tryd.prog 19 #[(.int .i64 a1), (.slice a2 a2l a2c)] w fun e w' => ∃ v, e = .returned v ∧ Out w w' ∧ straitref09_Of.ret K v w'.heap := by
  rw [← straitref09_Of.eq] at hh
  exact fn_calls (args := [(.int .i64 a1), (.slice a2 a2l a2c)]) (c := straitref09_Of.code) straitref09_Of.ok Tryd.func19 (by kernel_rfl) (by kernel_rfl) (by kernel_rfl) (by kernel_rfl) (loops_ok (l := [(straitref09_Of.c0, none, 0, straitref09_Of.keep0, straitref09_Of.outs0)]) (by kernel_rfl) ⟨straitref09_Of.L0, trivial⟩) hh w hw

/-! ### slices.Equal[[]uint64,uint64]: function 29 -/
def slices_Equal_Luint64_uint64.b0 (K0 : Bool → Heap → Prop) (K2 : Heap → Prop) (cont : (Option Addr) → Nat → Nat → (Option Addr) → Nat → Nat → Int → Int → Heap → Prop) (c0_1001 : Option Addr) (c0_1002 : Nat) (c0_1003 : Nat) (c1_1004 : Option Addr) (c1_1005 : Nat) (c1_1006 : Nat) (c12_1007 : Int) (v13_1008 : Int) (h1009 : Heap) : Prop :=
  (iteB (decide (v13_1008 < c12_1007)) (((chkP c0_1001 fun a1010 => (0 ≤ v13_1008 ∧ v13_1008 < (c0_1002 : Int)) ∧ ∃ (x1011 : Int), cell h1009 (a1010.add (v13_1008.toNat * 1)) = some (.int .u64 x1011) ∧ chkP c1_1004 fun a1012 => (0 ≤ v13_1008 ∧ v13_1008 < (c1_1005 : Int)) ∧ ∃ (x1013 : Int), cell h1009 (a1012.add (v13_1008.toNat * 1)) = some (.int .u64 x1013) ∧ (iteB (x1011 != x1013) (K0 false h1009) (((cont c0_1001 c0_1002 c0_1003 c1_1004 c1_1005 c1_1006 c12_1007 (IntKind.i64.wrap (v13_1008 + 1)) h1009))))))) (K2 h1009))
def slices_Equal_Luint64_uint64.l0 (K0 : Bool → Heap → Prop) (K2 : Heap → Prop) : Nat → (Option Addr) → Nat → Nat → (Option Addr) → Nat → Nat → Int → Int → Heap → Prop
  | 0, _, _, _, _, _, _, _, _, _ => False
  | m + 1, c0_1001, c0_1002, c0_1003, c1_1004, c1_1005, c1_1006, c12_1007, v13_1008, h => slices_Equal_Luint64_uint64.b0 K0 K2 (slices_Equal_Luint64_uint64.l0 K0 K2 m) c0_1001 c0_1002 c0_1003 c1_1004 c1_1005 c1_1006 c12_1007 v13_1008 h
def slices_Equal_Luint64_uint64 (a1 : Option Addr) (a1l : Nat) (a1c : Nat) (a2 : Option Addr) (a2l : Nat) (a2c : Nat) (h : Heap) (K : Bool → Heap → Prop) : Prop :=
  ((iteB ((a1l : Int) != (a2l : Int)) (K false h) (((∃ m6, slices_Equal_Luint64_uint64.l0 (fun z3 h4 => K z3 h4) (fun h5 => (K true h5)) m6 a1 a1l a1c a2 a2l a2c (a1l : Int) 0 h)))))
def slices_Equal_Luint64_uint64.ret (K : Bool → Heap → Prop) (v : Value) (h : Heap) : Prop := match v with
  | (.bool r7) => K r7 h
  | _ => False
theorem slices_Equal_Luint64_uint64.ret_elim {K : Bool → Heap → Prop} {K' : Value → Heap → Prop} {v : Value} {h : Heap} (hk : ∀ r7 h, K r7 h → K' (.bool r7) h) (hh : slices_Equal_Luint64_uint64.ret K v h) : K' v h := by
  unfold slices_Equal_Luint64_uint64.ret at hh
  split at hh
  · exact hk _ _ hh
  · exact hh.elim
def slices_Equal_Luint64_uint64.r0 (K : Nat → List Value → Heap → Prop) (m : Nat) (vs : List Value) (h : Heap) : Prop := match vs with
  | [(.slice c0_1001 c0_1002 c0_1003), (.slice c1_1004 c1_1005 c1_1006), (.int .i64 c12_1007), (.int .i64 v13_1008)] => slices_Equal_Luint64_uint64.l0 (fun z8 h' => K 0 [(.bool z8)] h') (fun h' => K 2 [] h') m c0_1001 c0_1002 c0_1003 c1_1004 c1_1005 c1_1006 c12_1007 v13_1008 h
  | _ => False
def slices_Equal_Luint64_uint64.loop (i : Nat) (vs : List Value) (h : Heap) (K : Nat → List Value → Heap → Prop) : Prop := match i with
  | 0 => ∃ m, slices_Equal_Luint64_uint64.r0 K m vs h
  | _ => False
noncomputable def slices_Equal_Luint64_uint64.ctx : Ctx := { P := Tryd.prog, call := fun _ _ _ _ => False, qcall := fun _ _ _ _ => False, quiet := fun f => false, loop := slices_Equal_Luint64_uint64.loop }
theorem slices_Equal_Luint64_uint64.ok : slices_Equal_Luint64_uint64.ctx.OK where
  mixed := by kernel_rfl
  mono := fun hh _ => hh.elim
  call := fun hh => hh.elim
  qmono := fun hh _ => hh.elim
  qval := fun hh => hh.elim
  qcall := fun hh => hh.elim
noncomputable def slices_Equal_Luint64_uint64.code : Code := (Tryd.f29.body).getD .skip
def slices_Equal_Luint64_uint64.ann : Ann := (.two .auto (.two .auto (.two (.two .auto (.two (.loop 0 [0, 1, 12, 13] [(2, []), (0, [4])] (.two .auto (.two .auto (.two (.two (.two .auto (.two (.reg [0, 0, 3, 7, 0, 0, 48, 112, 255] (.take 0 (.take 1 (.take 2 (.take 3 (.take 4 (.take 5 (.take 6 (.take 7 (.take 8 .done)))))))))) .auto)) .auto) .auto)))) .auto)) .auto)))
noncomputable def slices_Equal_Luint64_uint64.c0 : Code := sub slices_Equal_Luint64_uint64.code [1, 1, 0, 1, 0, 0]
def slices_Equal_Luint64_uint64.a0 : Ann := (.two .auto (.two .auto (.two (.two (.two .auto (.two (.reg [0, 0, 3, 7, 0, 0, 48, 112, 255] (.take 0 (.take 1 (.take 2 (.take 3 (.take 4 (.take 5 (.take 6 (.take 7 (.take 8 .done)))))))))) .auto)) .auto) .auto)))
def slices_Equal_Luint64_uint64.keep0 : List Nat := [0, 1, 12, 13]
def slices_Equal_Luint64_uint64.outs0 : List (Nat × List Nat) := [(2, []), (0, [4])]
set_option maxRecDepth 100000 in
theorem slices_Equal_Luint64_uint64.L0 : LoopOK slices_Equal_Luint64_uint64.ctx 26 slices_Equal_Luint64_uint64.c0 0 slices_Equal_Luint64_uint64.keep0 slices_Equal_Luint64_uint64.outs0 := by
  refine loop_ok (n := slices_Equal_Luint64_uint64.a0) slices_Equal_Luint64_uint64.ok (by kernel_rfl) (loops_ok (l := []) (by kernel_rfl) ?_) slices_Equal_Luint64_uint64.r0 ?_ ?_ (fun vs h K hh => hh)
  · exact trivial
  · intro K vs h hh
    unfold slices_Equal_Luint64_uint64.r0 at hh
    split at hh
    · exact hh
    · exact hh
  · intro K m vs h hh
    unfold slices_Equal_Luint64_uint64.r0 at hh
    split at hh
    · exact cast (by kernel_rfl) hh
    · exact hh.elim
set_option maxRecDepth 100000 in
theorem slices_Equal_Luint64_uint64.eq (a1 : Option Addr) (a1l : Nat) (a1c : Nat) (a2 : Option Addr) (a2l : Nat) (a2c : Nat) (h : Heap) (K : Bool → Heap → Prop) : evF slices_Equal_Luint64_uint64.ctx Tryd.f29 slices_Equal_Luint64_uint64.ann [(.slice a1 a1l a1c), (.slice a2 a2l a2c)] h (slices_Equal_Luint64_uint64.ret K) = slices_Equal_Luint64_uint64 a1 a1l a1c a2 a2l a2c h K := by kernel_rfl
set_option maxRecDepth 100000 in
theorem slices_Equal_Luint64_uint64.calls {a1 : Option Addr} {a1l : Nat} {a1c : Nat} {a2 : Option Addr} {a2l : Nat} {a2c : Nat} {h : Heap} {K : Bool → Heap → Prop} (hh : slices_Equal_Luint64_uint64 a1 a1l a1c a2 a2l a2c h K) (w : World) (hw : w.heap = h) :
    (callFunc 29 #[(.slice a1 a1l a1c), (.slice a2 a2l a2c)]).run Tryd.prog w = .ok (.enter 29 #[(.slice a1 a1l a1c), (.slice a2 a2l a2c)]) w ∧ Calls Tryd.prog 29 #[(.slice a1 a1l a1c), (.slice a2 a2l a2c)] w fun e w' => ∃ v, e = .returned v ∧ Out w w' ∧ slices_Equal_Luint64_uint64.ret K v w'.heap := by
  rw [← slices_Equal_Luint64_uint64.eq] at hh
  exact fn_calls (args := [(.slice a1 a1l a1c), (.slice a2 a2l a2c)]) (c := slices_Equal_Luint64_uint64.code) slices_Equal_Luint64_uint64.ok Tryd.func29 (by kernel_rfl) (by kernel_rfl) (by kernel_rfl) (by kernel_rfl) (loops_ok (l := [(slices_Equal_Luint64_uint64.c0, none, 0, slices_Equal_Luint64_uint64.keep0, slices_Equal_Luint64_uint64.outs0)]) (by kernel_rfl) ⟨slices_Equal_Luint64_uint64.L0, trivial⟩) hh w hw

/-! ### strait/vset.Same: function 20 -/
def vset_Same (a1 : Option Addr) (a2 : Option Addr) (h : Heap) (K : Bool → Heap → Prop) : Prop :=
  (let j17 : Prop := (chkP a1 fun a7 => ∃ (x8 : Int), cell h a7 = some (.int .i64 x8) ∧ chkP a2 fun a9 => ∃ (x10 : Int), cell h a9 = some (.int .i64 x10) ∧ iteB (x8 == x10) (chkP a1 fun a11 => ∃ (x12 : Option Addr) (x12l : Nat) (x12c : Nat), cell h (a11.add 1) = some (.slice x12 x12l x12c) ∧ chkP a2 fun a13 => ∃ (x14 : Option Addr) (x14l : Nat) (x14c : Nat), cell h (a13.add 1) = some (.slice x14 x14l x14c) ∧ qcallP1 h (slices_Equal_Luint64_uint64 x12 x12l x12c x14 x14l x14c h) fun x15 => K x15 h) (K false h));
  iteB a1.isNone ((iteB a1.isNone (K a2.isNone h) (K false h))) ((iteB a2.isNone (iteB a1.isNone (K a2.isNone h) (K false h)) ((j17)))))
def vset_Same.ret (K : Bool → Heap → Prop) (v : Value) (h : Heap) : Prop := match v with
  | (.bool r18) => K r18 h
  | _ => False
theorem vset_Same.ret_elim {K : Bool → Heap → Prop} {K' : Value → Heap → Prop} {v : Value} {h : Heap} (hk : ∀ r18 h, K r18 h → K' (.bool r18) h) (hh : vset_Same.ret K v h) : K' v h := by
  unfold vset_Same.ret at hh
  split at hh
  · exact hk _ _ hh
  · exact hh.elim
def vset_Same.qcall (f : FuncId) (vs : List Value) (h : Heap) (K : Value → Prop) : Prop := match f, vs with
  | 29, [(.slice a1 a1l a1c), (.slice a2 a2l a2c)] => qcallP1 h (slices_Equal_Luint64_uint64 a1 a1l a1c a2 a2l a2c h) fun r7 => K (.bool r7)
  | _, _ => False
noncomputable def vset_Same.ctx : Ctx := { P := Tryd.prog, call := fun _ _ _ _ => False, qcall := vset_Same.qcall, quiet := fun f => Nat.beq f 29, loop := fun _ _ _ _ => False }
theorem vset_Same.ok : vset_Same.ctx.OK where
  mixed := by kernel_rfl
  mono := fun hh _ => hh.elim
  call := fun hh => hh.elim
  qmono := by
    intro f args h K K' hh hk
    change vset_Same.qcall f args h K at hh
    change vset_Same.qcall f args h K'
    unfold vset_Same.qcall at hh ⊢
    split at hh
    · obtain ⟨x0, h1, h2⟩ := hh
      exact ⟨x0, h1, hk _ h2⟩
    · exact hh.elim
  qval := by
    intro f args h K hh
    change vset_Same.qcall f args h K at hh
    suffices H : ∃ v, K v ∧ vset_Same.qcall f args h (· = v) from H
    unfold vset_Same.qcall at hh ⊢
    split at hh
    · obtain ⟨x0, h1, h2⟩ := hh
      exact ⟨_, h2, x0, h1, rfl⟩
    · exact hh.elim
  qcall := by
    intro f args h v hh w hw
    change vset_Same.qcall f args h (· = v) at hh
    unfold vset_Same.qcall at hh
    split at hh
    · obtain ⟨x0, h1, h2⟩ := hh
      obtain ⟨g1, g2⟩ := slices_Equal_Luint64_uint64.calls h1 w hw
      refine .inl ⟨g1, g2.mono fun e w' ⟨u, he, ho, hr⟩ => ?_⟩
      have hq := slices_Equal_Luint64_uint64.ret_elim (K' := fun u h' => u = v ∧ h' = h) (fun _ h' hr => by obtain ⟨rfl, rfl⟩ := hr; exact ⟨h2, rfl⟩) hr
      exact ⟨hq.1 ▸ he, ho, hq.2⟩
    · exact hh.elim
noncomputable def vset_Same.code : Code := (Tryd.f20.body).getD .skip
def vset_Same.ann : Ann := (.two .auto (.two .auto (.two (.reg [0, 1, 3, 7, 0, 16, 48, 112, 255, 511, 1023, 2047, 4095, 8191, 1023, 17407, 50175, 115711, 262143, 524287, 1048575] (.take 0 (.take 1 (.take 2 (.take 3 (.take 4 (.take 5 (.take 6 (.take 7 (.take 8 (.take 9 (.take 10 (.take 11 (.take 12 (.take 13 (.take 14 (.take 15 (.take 16 (.take 17 (.take 18 (.take 19 (.take 20 .done)))))))))))))))))))))) .auto)))
set_option maxRecDepth 100000 in
theorem vset_Same.eq (a1 : Option Addr) (a2 : Option Addr) (h : Heap) (K : Bool → Heap → Prop) : evF vset_Same.ctx Tryd.f20 vset_Same.ann [(.pointer a1), (.pointer a2)] h (vset_Same.ret K) = vset_Same a1 a2 h K := by kernel_rfl
set_option maxRecDepth 100000 in
theorem vset_Same.calls {a1 : Option Addr} {a2 : Option Addr} {h : Heap} {K : Bool → Heap → Prop} (hh : vset_Same a1 a2 h K) (w : World) (hw : w.heap = h) :
    (callFunc 20 #[(.pointer a1), (.pointer a2)]).run Tryd.prog w = .ok (.enter 20 #[(.pointer a1), (.pointer a2)]) w ∧ Calls Tryd.prog 20 #[(.pointer a1), (.pointer a2)] w fun e w' => ∃ v, e = .returned v ∧ Out w w' ∧ vset_Same.ret K v w'.heap := by
  rw [← vset_Same.eq] at hh
  exact fn_calls (args := [(.pointer a1), (.pointer a2)]) (c := vset_Same.code) vset_Same.ok Tryd.func20 (by kernel_rfl) (by kernel_rfl) (by kernel_rfl) (by kernel_rfl) (loops_ok (l := []) (by kernel_rfl) trivial) hh w hw

/-! ### strait/straitlaw09.VsetOf: function 4 -/
def straitlaw09_VsetOf (a1 : Int) (a2 : Int) (a3 : Option Addr) (a3l : Nat) (a3c : Nat) (a4 : Option Addr) (a4l : Nat) (a4c : Nat) (h : Heap) (K : Bool → Heap → Prop) : Prop :=
  newP h (.cells #[(.int .i64 a1), (.int .i64 a2)] 38) fun a5 h6 => (let j231 : Prop := ((0 ≤ (0 : Int) ∧ (0 : Int) < (2 : Int)) ∧ ∃ (x14 : Int), cell h6 (a5.add ((0 : Int).toNat * 1)) = some (.int .i64 x14) ∧ (0 ≤ (1 : Int) ∧ (1 : Int) < (2 : Int)) ∧ ∃ (x15 : Int), cell h6 (a5.add ((1 : Int).toNat * 1)) = some (.int .i64 x15) ∧ callP1 (vset_Of x14 a3 a3l a3c h6) fun x16 h17 => (∃ (x18 : Int), cell h17 (a5.add ((1 : Int).toNat * 1)) = some (.int .i64 x18) ∧ ((.int .i64 x18) : Value) = (.int .i64 x15)) ∧ callP1 (vset_Of x15 a4 a4l a4c h17) fun x19 h20 => (let j230 := (fun (y174 : Addr) (y175 : Addr) (h176 : Heap) => (let j229 := (fun (y179 : Int) => let j228 := (fun (y182 : Int) => let j227 := (fun (y195 : Bool) (h196 : Heap) => ∃ (x197 : Int), cell h196 y174 = some (.int .i64 x197) ∧ ∃ (x198 : Option Addr) (x198l : Nat) (x198c : Nat), cell h196 (y174.add 1) = some (.slice x198 x198l x198c) ∧ callP1 (straitlaw09_same x16 x197 x198 x198l x198c h196) fun x199 h200 => iteB x199 (∃ (x201 : Int), cell h200 y175 = some (.int .i64 x201) ∧ ∃ (x202 : Option Addr) (x202l : Nat) (x202c : Nat), cell h200 (y175.add 1) = some (.slice x202 x202l x202c) ∧ callP1 (straitlaw09_same x19 x201 x202 x202l x202c h200) fun x203 h204 => iteB x203 (qcallP1 h204 (vset_Same x16 x19 h204) fun x205 => ∃ (x206 : Int), cell h204 y174 = some (.int .i64 x206) ∧ ∃ (x207 : Int), cell h204 y175 = some (.int .i64 x207) ∧ iteB (x206 == x207) (∃ (x208 : Int), cell h204 y174 = some (.int .i64 x208) ∧ ∃ (x209 : Option Addr) (x209l : Nat) (x209c : Nat), cell h204 (y174.add 1) = some (.slice x209 x209l x209c) ∧ ∃ (x210 : Int), cell h204 y175 = some (.int .i64 x210) ∧ ∃ (x211 : Option Addr) (x211l : Nat) (x211c : Nat), cell h204 (y175.add 1) = some (.slice x211 x211l x211c) ∧ callP3 (straitref09_Set_List x208 x209 x209l x209c h204) fun x212 x212l x212c h213 => (∃ (x214 : Int), cell h213 y175 = some (.int .i64 x214) ∧ ∃ (x215 : Option Addr) (x215l : Nat) (x215c : Nat), cell h213 (y175.add 1) = some (.slice x215 x215l x215c) ∧ ((.agg #[(.int .i64 x214), (.slice x215 x215l x215c)]) : Value) = (.agg #[(.int .i64 x210), (.slice x211 x211l x211c)])) ∧ callP3 (straitref09_Set_List x210 x211 x211l x211c h213) fun x216 x216l x216c h217 => qcallP1 h217 (straitref09_Ints x212 x212l x212c x216 x216l x216c h217) fun x218 => iteB (x205 == x218) (qcallP1 h217 (vset_Parts x16 y179 y182 h217) fun x219 => iteB (x219 == y195) (callP1 (straitlaw09_awake h217) fun x220 h221 => K x220 h221) (K false h217)) (K false h217)) (True ∧ iteB (x205 == false) (qcallP1 h204 (vset_Parts x16 y179 y182 h204) fun x222 => iteB (x222 == y195) (callP1 (straitlaw09_awake h204) fun x223 h224 => K x223 h224) (K false h204)) (K false h204))) (True ∧ K false h204)) (True ∧ K false h200));
  iteB (decide (y179 ≥ (0 : Int))) (∃ (x183 : Int), cell h176 y174 = some (.int .i64 x183) ∧ iteB (decide (y179 < x183)) (iteB (decide (y182 ≥ (0 : Int))) (∃ (x184 : Int), cell h176 y174 = some (.int .i64 x184) ∧ iteB (decide (y182 < x184)) (∃ (x185 : Int), cell h176 y174 = some (.int .i64 x185) ∧ ∃ (x186 : Option Addr) (x186l : Nat) (x186c : Nat), cell h176 (y174.add 1) = some (.slice x186 x186l x186c) ∧ ∃ (x187 : Int), cell h176 y174 = some (.int .i64 x187) ∧ ∃ (x188 : Option Addr) (x188l : Nat) (x188c : Nat), cell h176 (y174.add 1) = some (.slice x188 x188l x188c) ∧ callP1 (straitref09_Set_Has x185 x186 x186l x186c y179 h176) fun x189 h190 => (∃ (x191 : Int), cell h190 y174 = some (.int .i64 x191) ∧ ∃ (x192 : Option Addr) (x192l : Nat) (x192c : Nat), cell h190 (y174.add 1) = some (.slice x192 x192l x192c) ∧ ((.agg #[(.int .i64 x191), (.slice x192 x192l x192c)]) : Value) = (.agg #[(.int .i64 x187), (.slice x188 x188l x188c)])) ∧ callP1 (straitref09_Set_Has x187 x188 x188l x188c y182 h190) fun x193 h194 => (j227 (!(x189 == x193)) h194)) (True ∧ (j227 false h176))) (True ∧ (j227 false h176))) (True ∧ (j227 false h176))) (True ∧ (j227 false h176)));
  (iteB (decide ((a4l : Int) > (0 : Int))) (chkP a4 fun a180 => (0 ≤ (0 : Int) ∧ (0 : Int) < (a4l : Int)) ∧ ∃ (x181 : Int), cell h176 (a180.add ((0 : Int).toNat * 1)) = some (.int .i64 x181) ∧ (j228 x181)) ((j228 1))));
  (iteB (decide ((a3l : Int) > (0 : Int))) (chkP a3 fun a177 => (0 ≤ (0 : Int) ∧ (0 : Int) < (a3l : Int)) ∧ ∃ (x178 : Int), cell h176 (a177.add ((0 : Int).toNat * 1)) = some (.int .i64 x178) ∧ (j229 x178)) ((j229 0)))));
  (0 ≤ (0 : Int) ∧ (0 : Int) < (2 : Int)) ∧ (0 ≤ (1 : Int) ∧ (1 : Int) < (2 : Int)) ∧ ∃ (x21 : Int), cell h20 (a5.add ((0 : Int).toNat * 1)) = some (.int .i64 x21) ∧ ∃ (x22 : Int), cell h20 (a5.add ((1 : Int).toNat * 1)) = some (.int .i64 x22) ∧ (callP4 (straitref09_Of x21 a3 a3l a3c h20) fun x23 x24 x24l x24c h25 => (∃ (x26 : Int), cell h25 (a5.add ((1 : Int).toNat * 1)) = some (.int .i64 x26) ∧ ((.int .i64 x26) : Value) = (.int .i64 x22)) ∧ (callP4 (straitref09_Of x22 a4 a4l a4c h25) fun x27 x28 x28l x28c h29 => (newP h29 (.cells #[(.int .i64 0), (.slice none 0 0)] 28) fun a30 h31 => newP h31 (.cells #[(.int .i64 0), (.slice none 0 0)] 28) fun a32 h33 => stC h33 a30 (.int .i64 x23) fun h34 => stC h34 (a30.add 1) (.slice x24 x24l x24c) fun h35 => stC h35 a32 (.int .i64 x27) fun h36 => stC h36 (a32.add 1) (.slice x28 x28l x28c) fun h37 => (j230 a30 a32 h37)) ∧ (newP h29 (.cells #[(.int .i64 0), (.slice none 0 0)] 28) fun a38 h39 => newP h39 (.cells #[(.int .i64 0), (.slice none 0 0)] 28) fun a40 h41 => stC h41 a40 (.int .i64 x23) fun h42 => stC h42 (a40.add 1) (.slice x24 x24l x24c) fun h43 => stC h43 a38 (.int .i64 x27) fun h44 => stC h44 (a38.add 1) (.slice x28 x28l x28c) fun h45 => (j230 a40 a38 h45))) ∧ ((newP h25 (.cells #[(.int .i64 0), (.slice none 0 0)] 28) fun a46 h47 => (∃ (x48 : Int), cell h47 (a5.add ((1 : Int).toNat * 1)) = some (.int .i64 x48) ∧ ((.int .i64 x48) : Value) = (.int .i64 x22)) ∧ (callP4 (straitref09_Of x22 a4 a4l a4c h47) fun x49 x50 x50l x50c h51 => newP h51 (.cells #[(.int .i64 0), (.slice none 0 0)] 28) fun a52 h53 => stC h53 a46 (.int .i64 x23) fun h54 => stC h54 (a46.add 1) (.slice x24 x24l x24c) fun h55 => stC h55 a52 (.int .i64 x49) fun h56 => stC h56 (a52.add 1) (.slice x50 x50l x50c) fun h57 => (j230 a46 a52 h57)) ∧ (newP h47 (.cells #[(.int .i64 0), (.slice none 0 0)] 28) fun a58 h59 => (∃ (x60 : Int), cell h59 (a5.add ((1 : Int).toNat * 1)) = some (.int .i64 x60) ∧ ((.int .i64 x60) : Value) = (.int .i64 x22)) ∧ callP4 (straitref09_Of x22 a4 a4l a4c h59) fun x61 x62 x62l x62c h63 => stC h63 a46 (.int .i64 x23) fun h64 => stC h64 (a46.add 1) (.slice x24 x24l x24c) fun h65 => stC h65 a58 (.int .i64 x61) fun h66 => stC h66 (a58.add 1) (.slice x62 x62l x62c) fun h67 => (j230 a46 a58 h67))) ∧ (newP h25 (.cells #[(.int .i64 0), (.slice none 0 0)] 28) fun a68 h69 => (∃ (x70 : Int), cell h69 (a5.add ((1 : Int).toNat * 1)) = some (.int .i64 x70) ∧ ((.int .i64 x70) : Value) = (.int .i64 x22)) ∧ (callP4 (straitref09_Of x22 a4 a4l a4c h69) fun x71 x72 x72l x72c h73 => newP h73 (.cells #[(.int .i64 0), (.slice none 0 0)] 28) fun a74 h75 => stC h75 a74 (.int .i64 x23) fun h76 => stC h76 (a74.add 1) (.slice x24 x24l x24c) fun h77 => stC h77 a68 (.int .i64 x71) fun h78 => stC h78 (a68.add 1) (.slice x72 x72l x72c) fun h79 => (j230 a74 a68 h79)) ∧ (newP h69 (.cells #[(.int .i64 0), (.slice none 0 0)] 28) fun a80 h81 => (∃ (x82 : Int), cell h81 (a5.add ((1 : Int).toNat * 1)) = some (.int .i64 x82) ∧ ((.int .i64 x82) : Value) = (.int .i64 x22)) ∧ callP4 (straitref09_Of x22 a4 a4l a4c h81) fun x83 x84 x84l x84c h85 => stC h85 a80 (.int .i64 x23) fun h86 => stC h86 (a80.add 1) (.slice x24 x24l x24c) fun h87 => stC h87 a68 (.int .i64 x83) fun h88 => stC h88 (a68.add 1) (.slice x84 x84l x84c) fun h89 => (j230 a80 a68 h89))))) ∧ ((newP h20 (.cells #[(.int .i64 0), (.slice none 0 0)] 28) fun a90 h91 => (∃ (x92 : Int), cell h91 (a5.add ((1 : Int).toNat * 1)) = some (.int .i64 x92) ∧ ((.int .i64 x92) : Value) = (.int .i64 x22)) ∧ (∃ (x93 : Int), cell h91 (a5.add ((0 : Int).toNat * 1)) = some (.int .i64 x93) ∧ ((.int .i64 x93) : Value) = (.int .i64 x21)) ∧ (callP4 (straitref09_Of x21 a3 a3l a3c h91) fun x94 x95 x95l x95c h96 => (∃ (x97 : Int), cell h96 (a5.add ((1 : Int).toNat * 1)) = some (.int .i64 x97) ∧ ((.int .i64 x97) : Value) = (.int .i64 x22)) ∧ (callP4 (straitref09_Of x22 a4 a4l a4c h96) fun x98 x99 x99l x99c h100 => newP h100 (.cells #[(.int .i64 0), (.slice none 0 0)] 28) fun a101 h102 => stC h102 a90 (.int .i64 x94) fun h103 => stC h103 (a90.add 1) (.slice x95 x95l x95c) fun h104 => stC h104 a101 (.int .i64 x98) fun h105 => stC h105 (a101.add 1) (.slice x99 x99l x99c) fun h106 => (j230 a90 a101 h106)) ∧ (newP h96 (.cells #[(.int .i64 0), (.slice none 0 0)] 28) fun a107 h108 => (∃ (x109 : Int), cell h108 (a5.add ((1 : Int).toNat * 1)) = some (.int .i64 x109) ∧ ((.int .i64 x109) : Value) = (.int .i64 x22)) ∧ callP4 (straitref09_Of x22 a4 a4l a4c h108) fun x110 x111 x111l x111c h112 => stC h112 a90 (.int .i64 x94) fun h113 => stC h113 (a90.add 1) (.slice x95 x95l x95c) fun h114 => stC h114 a107 (.int .i64 x110) fun h115 => stC h115 (a107.add 1) (.slice x111 x111l x111c) fun h116 => (j230 a90 a107 h116))) ∧ (newP h91 (.cells #[(.int .i64 0), (.slice none 0 0)] 28) fun a117 h118 => (∃ (x119 : Int), cell h118 (a5.add ((1 : Int).toNat * 1)) = some (.int .i64 x119) ∧ ((.int .i64 x119) : Value) = (.int .i64 x22)) ∧ (∃ (x120 : Int), cell h118 (a5.add ((0 : Int).toNat * 1)) = some (.int .i64 x120) ∧ ((.int .i64 x120) : Value) = (.int .i64 x21)) ∧ callP4 (straitref09_Of x21 a3 a3l a3c h118) fun x121 x122 x122l x122c h123 => (∃ (x124 : Int), cell h123 (a5.add ((1 : Int).toNat * 1)) = some (.int .i64 x124) ∧ ((.int .i64 x124) : Value) = (.int .i64 x22)) ∧ callP4 (straitref09_Of x22 a4 a4l a4c h123) fun x125 x126 x126l x126c h127 => stC h127 a90 (.int .i64 x121) fun h128 => stC h128 (a90.add 1) (.slice x122 x122l x122c) fun h129 => stC h129 a117 (.int .i64 x125) fun h130 => stC h130 (a117.add 1) (.slice x126 x126l x126c) fun h131 => (j230 a90 a117 h131))) ∧ (newP h20 (.cells #[(.int .i64 0), (.slice none 0 0)] 28) fun a132 h133 => (∃ (x134 : Int), cell h133 (a5.add ((1 : Int).toNat * 1)) = some (.int .i64 x134) ∧ ((.int .i64 x134) : Value) = (.int .i64 x22)) ∧ (∃ (x135 : Int), cell h133 (a5.add ((0 : Int).toNat * 1)) = some (.int .i64 x135) ∧ ((.int .i64 x135) : Value) = (.int .i64 x21)) ∧ (callP4 (straitref09_Of x21 a3 a3l a3c h133) fun x136 x137 x137l x137c h138 => (∃ (x139 : Int), cell h138 (a5.add ((1 : Int).toNat * 1)) = some (.int .i64 x139) ∧ ((.int .i64 x139) : Value) = (.int .i64 x22)) ∧ (callP4 (straitref09_Of x22 a4 a4l a4c h138) fun x140 x141 x141l x141c h142 => newP h142 (.cells #[(.int .i64 0), (.slice none 0 0)] 28) fun a143 h144 => stC h144 a143 (.int .i64 x136) fun h145 => stC h145 (a143.add 1) (.slice x137 x137l x137c) fun h146 => stC h146 a132 (.int .i64 x140) fun h147 => stC h147 (a132.add 1) (.slice x141 x141l x141c) fun h148 => (j230 a143 a132 h148)) ∧ (newP h138 (.cells #[(.int .i64 0), (.slice none 0 0)] 28) fun a149 h150 => (∃ (x151 : Int), cell h150 (a5.add ((1 : Int).toNat * 1)) = some (.int .i64 x151) ∧ ((.int .i64 x151) : Value) = (.int .i64 x22)) ∧ callP4 (straitref09_Of x22 a4 a4l a4c h150) fun x152 x153 x153l x153c h154 => stC h154 a149 (.int .i64 x136) fun h155 => stC h155 (a149.add 1) (.slice x137 x137l x137c) fun h156 => stC h156 a132 (.int .i64 x152) fun h157 => stC h157 (a132.add 1) (.slice x153 x153l x153c) fun h158 => (j230 a149 a132 h158))) ∧ (newP h133 (.cells #[(.int .i64 0), (.slice none 0 0)] 28) fun a159 h160 => (∃ (x161 : Int), cell h160 (a5.add ((1 : Int).toNat * 1)) = some (.int .i64 x161) ∧ ((.int .i64 x161) : Value) = (.int .i64 x22)) ∧ (∃ (x162 : Int), cell h160 (a5.add ((0 : Int).toNat * 1)) = some (.int .i64 x162) ∧ ((.int .i64 x162) : Value) = (.int .i64 x21)) ∧ callP4 (straitref09_Of x21 a3 a3l a3c h160) fun x163 x164 x164l x164c h165 => (∃ (x166 : Int), cell h165 (a5.add ((1 : Int).toNat * 1)) = some (.int .i64 x166) ∧ ((.int .i64 x166) : Value) = (.int .i64 x22)) ∧ callP4 (straitref09_Of x22 a4 a4l a4c h165) fun x167 x168 x168l x168c h169 => stC h169 a159 (.int .i64 x163) fun h170 => stC h170 (a159.add 1) (.slice x164 x164l x164c) fun h171 => stC h171 a132 (.int .i64 x167) fun h172 => stC h172 (a132.add 1) (.slice x168 x168l x168c) fun h173 => (j230 a159 a132 h173))))));
  iteB (decide ((a3l : Int) > (200 : Int))) ((callP1 (straitlaw09_awake h6) fun x10 h11 => K x10 h11)) ((iteB (decide ((a4l : Int) > (200 : Int))) (callP1 (straitlaw09_awake h6) fun x12 h13 => K x12 h13) ((j231)))))
def straitlaw09_VsetOf.ret (K : Bool → Heap → Prop) (v : Value) (h : Heap) : Prop := match v with
  | (.bool r232) => K r232 h
  | _ => False
theorem straitlaw09_VsetOf.ret_elim {K : Bool → Heap → Prop} {K' : Value → Heap → Prop} {v : Value} {h : Heap} (hk : ∀ r232 h, K r232 h → K' (.bool r232) h) (hh : straitlaw09_VsetOf.ret K v h) : K' v h := by
  unfold straitlaw09_VsetOf.ret at hh
  split at hh
  · exact hk _ _ hh
  · exact hh.elim
def straitlaw09_VsetOf.call (f : FuncId) (vs : List Value) (h : Heap) (K : Value → Heap → Prop) : Prop := match f, vs with
  | 6, [] => callP1 (straitlaw09_awake h) fun r17 h' => K (.bool r17) h'
  | 9, [(.pointer a1), (.agg ⟨[(.int .i64 a2), (.slice a3 a3l a3c)]⟩)] => callP1 (straitlaw09_same a1 a2 a3 a3l a3c h) fun r18 h' => K (.bool r18) h'
  | 10, [(.agg ⟨[(.int .i64 a1), (.slice a2 a2l a2c)]⟩), (.int .i64 a3)] => callP1 (straitref09_Set_Has a1 a2 a2l a2c a3 h) fun r11 h' => K (.bool r11) h'
  | 18, [(.int .i64 a1), (.slice a2 a2l a2c)] => callP1 (vset_Of a1 a2 a2l a2c h) fun r7 h' => K (.pointer r7) h'
  | 19, [(.int .i64 a1), (.slice a2 a2l a2c)] => callP4 (straitref09_Of a1 a2 a2l a2c h) fun r20 r21 r21l r21c h' => K (.agg #[(.int .i64 r20), (.slice r21 r21l r21c)]) h'
  | 22, [(.agg ⟨[(.int .i64 a1), (.slice a2 a2l a2c)]⟩)] => callP3 (straitref09_Set_List a1 a2 a2l a2c h) fun r8 r8l r8c h' => K (.slice r8 r8l r8c) h'
  | _, _ => False
def straitlaw09_VsetOf.qcall (f : FuncId) (vs : List Value) (h : Heap) (K : Value → Prop) : Prop := match f, vs with
  | 20, [(.pointer a1), (.pointer a2)] => qcallP1 h (vset_Same a1 a2 h) fun r18 => K (.bool r18)
  | 21, [(.slice a1 a1l a1c), (.slice a2 a2l a2c)] => qcallP1 h (straitref09_Ints a1 a1l a1c a2 a2l a2c h) fun r7 => K (.bool r7)
  | 23, [(.pointer a1), (.int .i64 a2), (.int .i64 a3)] => qcallP1 h (vset_Parts a1 a2 a3 h) fun r13 => K (.bool r13)
  | _, _ => False
noncomputable def straitlaw09_VsetOf.ctx : Ctx := { P := Tryd.prog, call := straitlaw09_VsetOf.call, qcall := straitlaw09_VsetOf.qcall, quiet := fun f => Nat.beq f 20 || Nat.beq f 21 || Nat.beq f 23, loop := fun _ _ _ _ => False }
theorem straitlaw09_VsetOf.ok : straitlaw09_VsetOf.ctx.OK where
  mixed := by kernel_rfl
  mono := by
    intro f args h K K' hh hk
    change straitlaw09_VsetOf.call f args h K at hh
    change straitlaw09_VsetOf.call f args h K'
    unfold straitlaw09_VsetOf.call at hh ⊢
    split at hh
    · obtain ⟨R, h1, h2⟩ := hh
      exact ⟨R, h1, fun _ x hr => hk _ _ (h2 _ x hr)⟩
    · obtain ⟨R, h1, h2⟩ := hh
      exact ⟨R, h1, fun _ x hr => hk _ _ (h2 _ x hr)⟩
    · obtain ⟨R, h1, h2⟩ := hh
      exact ⟨R, h1, fun _ x hr => hk _ _ (h2 _ x hr)⟩
    · obtain ⟨R, h1, h2⟩ := hh
      exact ⟨R, h1, fun _ x hr => hk _ _ (h2 _ x hr)⟩
    · obtain ⟨R, h1, h2⟩ := hh
      exact ⟨R, h1, fun _ _ _ _ x hr => hk _ _ (h2 _ _ _ _ x hr)⟩
    · obtain ⟨R, h1, h2⟩ := hh
      exact ⟨R, h1, fun _ _ _ x hr => hk _ _ (h2 _ _ _ x hr)⟩
    · exact hh.elim
  call := by
    intro f args h K hh w hw
    change straitlaw09_VsetOf.call f args h K at hh
    unfold straitlaw09_VsetOf.call at hh
    split at hh
    · obtain ⟨R, h1, h2⟩ := hh
      obtain ⟨g1, g2⟩ := straitlaw09_awake.calls h1 w hw
      exact ⟨g1, g2.mono fun e w' ⟨v, he, ho, hr⟩ => ⟨v, he, ho, straitlaw09_awake.ret_elim h2 hr⟩⟩
    · obtain ⟨R, h1, h2⟩ := hh
      obtain ⟨g1, g2⟩ := straitlaw09_same.calls h1 w hw
      exact ⟨g1, g2.mono fun e w' ⟨v, he, ho, hr⟩ => ⟨v, he, ho, straitlaw09_same.ret_elim h2 hr⟩⟩
    · obtain ⟨R, h1, h2⟩ := hh
      obtain ⟨g1, g2⟩ := straitref09_Set_Has.calls h1 w hw
      exact ⟨g1, g2.mono fun e w' ⟨v, he, ho, hr⟩ => ⟨v, he, ho, straitref09_Set_Has.ret_elim h2 hr⟩⟩
    · obtain ⟨R, h1, h2⟩ := hh
      obtain ⟨g1, g2⟩ := vset_Of.calls h1 w hw
      exact ⟨g1, g2.mono fun e w' ⟨v, he, ho, hr⟩ => ⟨v, he, ho, vset_Of.ret_elim h2 hr⟩⟩
    · obtain ⟨R, h1, h2⟩ := hh
      obtain ⟨g1, g2⟩ := straitref09_Of.calls h1 w hw
      exact ⟨g1, g2.mono fun e w' ⟨v, he, ho, hr⟩ => ⟨v, he, ho, straitref09_Of.ret_elim h2 hr⟩⟩
    · obtain ⟨R, h1, h2⟩ := hh
      obtain ⟨g1, g2⟩ := straitref09_Set_List.calls h1 w hw
      exact ⟨g1, g2.mono fun e w' ⟨v, he, ho, hr⟩ => ⟨v, he, ho, straitref09_Set_List.ret_elim h2 hr⟩⟩
    · exact hh.elim
  qmono := by
    intro f args h K K' hh hk
    change straitlaw09_VsetOf.qcall f args h K at hh
    change straitlaw09_VsetOf.qcall f args h K'
    unfold straitlaw09_VsetOf.qcall at hh ⊢
    split at hh
    · obtain ⟨x0, h1, h2⟩ := hh
      exact ⟨x0, h1, hk _ h2⟩
    · obtain ⟨x0, h1, h2⟩ := hh
      exact ⟨x0, h1, hk _ h2⟩
    · obtain ⟨x0, h1, h2⟩ := hh
      exact ⟨x0, h1, hk _ h2⟩
    · exact hh.elim
  qval := by
    intro f args h K hh
    change straitlaw09_VsetOf.qcall f args h K at hh
    suffices H : ∃ v, K v ∧ straitlaw09_VsetOf.qcall f args h (· = v) from H
    unfold straitlaw09_VsetOf.qcall at hh ⊢
    split at hh
    · obtain ⟨x0, h1, h2⟩ := hh
      exact ⟨_, h2, x0, h1, rfl⟩
    · obtain ⟨x0, h1, h2⟩ := hh
      exact ⟨_, h2, x0, h1, rfl⟩
    · obtain ⟨x0, h1, h2⟩ := hh
      exact ⟨_, h2, x0, h1, rfl⟩
    · exact hh.elim
  qcall := by
    intro f args h v hh w hw
    change straitlaw09_VsetOf.qcall f args h (· = v) at hh
    unfold straitlaw09_VsetOf.qcall at hh
    split at hh
    · obtain ⟨x0, h1, h2⟩ := hh
      obtain ⟨g1, g2⟩ := vset_Same.calls h1 w hw
      refine .inl ⟨g1, g2.mono fun e w' ⟨u, he, ho, hr⟩ => ?_⟩
      have hq := vset_Same.ret_elim (K' := fun u h' => u = v ∧ h' = h) (fun _ h' hr => by obtain ⟨rfl, rfl⟩ := hr; exact ⟨h2, rfl⟩) hr
      exact ⟨hq.1 ▸ he, ho, hq.2⟩
    · obtain ⟨x0, h1, h2⟩ := hh
      obtain ⟨g1, g2⟩ := straitref09_Ints.calls h1 w hw
      refine .inl ⟨g1, g2.mono fun e w' ⟨u, he, ho, hr⟩ => ?_⟩
      have hq := straitref09_Ints.ret_elim (K' := fun u h' => u = v ∧ h' = h) (fun _ h' hr => by obtain ⟨rfl, rfl⟩ := hr; exact ⟨h2, rfl⟩) hr
      exact ⟨hq.1 ▸ he, ho, hq.2⟩
    · obtain ⟨x0, h1, h2⟩ := hh
      obtain ⟨g1, g2⟩ := vset_Parts.calls h1 w hw
      refine .inl ⟨g1, g2.mono fun e w' ⟨u, he, ho, hr⟩ => ?_⟩
      have hq := vset_Parts.ret_elim (K' := fun u h' => u = v ∧ h' = h) (fun _ h' hr => by obtain ⟨rfl, rfl⟩ := hr; exact ⟨h2, rfl⟩) hr
      exact ⟨hq.1 ▸ he, ho, hq.2⟩
    · exact hh.elim
noncomputable def straitlaw09_VsetOf.code : Code := (Tryd.f4.body).getD .skip
def straitlaw09_VsetOf.ann : Ann := (.two .auto (.two .auto (.two (.reg [0, 1, 0, 7, 0, 16, 0, 127, 255, 511] (.take 0 (.take 1 (.take 2 (.take 4 (.take 6 (.early 5 (.alt 3 (.alt 7 (.take 8 (.take 9 .done)) .noalt) .noalt)))))))) (.two (.reg [0, 1, 0, 7, 0, 16, 0, 127, 0, 0, 1023, 2047] (.take 0 (.take 2 (.take 4 (.take 6 (.early 1 (.early 5 (.alt 3 (.alt 7 (.alt 8 (.alt 9 (.alt 10 (.alt 11 .done .noalt) .noalt) .noalt) (.alt 9 (.alt 8 (.alt 10 (.alt 11 .done .noalt) .noalt) .noalt) .noalt)) (.alt 8 (.alt 7 (.alt 9 (.alt 10 (.alt 11 .done .noalt) .noalt) .noalt) (.alt 9 (.alt 7 (.alt 10 (.alt 11 .done .noalt) .noalt) .noalt) .noalt)) (.alt 9 (.alt 7 (.alt 8 (.alt 10 (.alt 11 .done .noalt) .noalt) .noalt) (.alt 8 (.alt 7 (.alt 10 (.alt 11 .done .noalt) .noalt) .noalt) .noalt)) .noalt))) (.alt 8 (.alt 3 (.alt 7 (.alt 9 (.alt 10 (.alt 11 .done .noalt) .noalt) .noalt) (.alt 9 (.alt 7 (.alt 10 (.alt 11 .done .noalt) .noalt) .noalt) .noalt)) (.alt 9 (.alt 3 (.alt 7 (.alt 10 (.alt 11 .done .noalt) .noalt) .noalt) .noalt) .noalt)) (.alt 9 (.alt 3 (.alt 7 (.alt 8 (.alt 10 (.alt 11 .done .noalt) .noalt) .noalt) (.alt 8 (.alt 7 (.alt 10 (.alt 11 .done .noalt) .noalt) .noalt) .noalt)) (.alt 8 (.alt 3 (.alt 7 (.alt 10 (.alt 11 .done .noalt) .noalt) .noalt) .noalt) .noalt)) .noalt)))))))))) (.two .auto (.two .auto (.two .auto (.two (.reg [0, 1, 3, 7, 7, 23, 63, 127, 255, 511, 1023, 2047, 4095, 8191, 8191, 24575, 65535, 131071, 262143, 524287, 524287, 2097151, 524287, 524287, 16777215, 33554431, 67108863, 134217727] (.take 0 (.take 1 (.take 2 (.take 3 (.take 4 (.take 5 (.take 6 (.take 7 (.take 8 (.take 9 (.take 10 (.take 11 (.take 12 (.take 13 (.take 14 (.take 15 (.take 16 (.take 17 (.take 18 (.take 19 (.take 20 (.take 23 (.early 22 (.alt 21 (.alt 24 (.take 25 (.take 26 (.take 27 .done))) .noalt) .noalt))))))))))))))))))))))))) (.two (.reg [0, 0, 3, 7, 15, 15, 63, 127, 255, 511, 511, 2047, 511, 4607, 511, 16895, 61951, 131071, 262143, 524287, 262143, 2097151, 4194303, 8388607, 16777215, 33554431, 67108863, 134217727, 134217727, 134217727, 1073741823, 134217727, 4294967295, 8589934591, 17179869183, 34359738367, 68719476735, 137438953471] (.take 0 (.take 1 (.alt 2 (.take 3 (.take 4 (.take 5 (.alt 6 (.take 7 (.take 8 (.take 9 (.take 10 (.take 11 (.take 12 (.take 13 (.take 14 (.take 15 (.take 16 (.take 17 (.take 18 (.early 20 (.alt 19 (.alt 21 (.take 22 (.take 23 (.take 24 (.take 25 (.take 26 (.take 27 (.take 28 (.take 29 (.take 30 (.take 31 (.take 32 (.take 33 (.take 34 (.alt 35 (.take 36 (.take 37 .done)) .noalt)))))))))))))) .noalt) .noalt)))))))))))))) .noalt)))) .noalt)))) .auto)))))))))
set_option maxRecDepth 100000 in
theorem straitlaw09_VsetOf.eq (a1 : Int) (a2 : Int) (a3 : Option Addr) (a3l : Nat) (a3c : Nat) (a4 : Option Addr) (a4l : Nat) (a4c : Nat) (h : Heap) (K : Bool → Heap → Prop) : evF straitlaw09_VsetOf.ctx Tryd.f4 straitlaw09_VsetOf.ann [(.agg #[(.int .i64 a1), (.int .i64 a2)]), (.slice a3 a3l a3c), (.slice a4 a4l a4c)] h (straitlaw09_VsetOf.ret K) = straitlaw09_VsetOf a1 a2 a3 a3l a3c a4 a4l a4c h K := by kernel_rfl
set_option maxRecDepth 100000 in
theorem straitlaw09_VsetOf.calls {a1 : Int} {a2 : Int} {a3 : Option Addr} {a3l : Nat} {a3c : Nat} {a4 : Option Addr} {a4l : Nat} {a4c : Nat} {h : Heap} {K : Bool → Heap → Prop} (hh : straitlaw09_VsetOf a1 a2 a3 a3l a3c a4 a4l a4c h K) (w : World) (hw : w.heap = h) :
    (callFunc 4 #[(.agg #[(.int .i64 a1), (.int .i64 a2)]), (.slice a3 a3l a3c), (.slice a4 a4l a4c)]).run Tryd.prog w = .ok (.enter 4 #[(.agg #[(.int .i64 a1), (.int .i64 a2)]), (.slice a3 a3l a3c), (.slice a4 a4l a4c)]) w ∧ Calls Tryd.prog 4 #[(.agg #[(.int .i64 a1), (.int .i64 a2)]), (.slice a3 a3l a3c), (.slice a4 a4l a4c)] w fun e w' => ∃ v, e = .returned v ∧ Out w w' ∧ straitlaw09_VsetOf.ret K v w'.heap := by
  rw [← straitlaw09_VsetOf.eq] at hh
  exact fn_calls (args := [(.agg #[(.int .i64 a1), (.int .i64 a2)]), (.slice a3 a3l a3c), (.slice a4 a4l a4c)]) (c := straitlaw09_VsetOf.code) straitlaw09_VsetOf.ok Tryd.func4 (by kernel_rfl) (by kernel_rfl) (by kernel_rfl) (by kernel_rfl) (loops_ok (l := []) (by kernel_rfl) trivial) hh w hw

end Go.Proofs.YtmojgekepkpfcaaDoor
