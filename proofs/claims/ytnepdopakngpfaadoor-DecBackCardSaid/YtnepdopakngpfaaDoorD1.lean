/- WRITTEN BY A PROGRAM OF THIS SESSION (gen.py): what each function asks of memory, and that the model's run comes to it. -/
import Derived.Test.YtnepdopakngpfaaDoorProg
import Derived.Test.YtnepdopakngpfaaDoorFw8
import Derived.Test.YtnepdopakngpfaaDoorD0
namespace Go.Proofs.YtnepdopakngpfaaDoor
open Go.Hp
set_option linter.unusedVariables false
set_option linter.unusedSimpArgs false
set_option linter.unusedSectionVars false

/-! ### strait/straitref06.List: function 35 -/
section
variable [DKc]
def straitref06_List.b0 (K2 : ByteArray → Heap → Prop) (cont : (Option Addr) → Nat → Nat → ByteArray → Int → Heap → Prop) (c0_1001 : Option Addr) (c0_1002 : Nat) (c0_1003 : Nat) (v3_1004 : ByteArray) (v4_1005 : Int) (h1006 : Heap) : Prop :=
  (iteB (decide (v4_1005 < (c0_1002 : Int))) (((iteB (decide (v4_1005 > (0 : Int))) ((((v3_1004.size + (⟨#[32]⟩ : ByteArray).size : Nat) : Int) ≤ 9223372036854775807) ∧ (chkP c0_1001 fun a1012 => (0 ≤ v4_1005 ∧ v4_1005 < (c0_1002 : Int)) ∧ ∃ (x1013 : Int), cell h1006 (a1012.add (v4_1005.toNat * 1)) = some (.int .i64 x1013) ∧ callP1 (straitref06_Print x1013 h1006) fun x1014 h1015 => ((((v3_1004 ++ (⟨#[32]⟩ : ByteArray)).size + x1014.size : Nat) : Int) ≤ 9223372036854775807) ∧ ((cont c0_1001 c0_1002 c0_1003 ((v3_1004 ++ (⟨#[32]⟩ : ByteArray)) ++ x1014) (IntKind.i64.wrap (v4_1005 + 1)) h1015)))) ((chkP c0_1001 fun a1016 => (0 ≤ v4_1005 ∧ v4_1005 < (c0_1002 : Int)) ∧ ∃ (x1017 : Int), cell h1006 (a1016.add (v4_1005.toNat * 1)) = some (.int .i64 x1017) ∧ callP1 (straitref06_Print x1017 h1006) fun x1018 h1019 => (((v3_1004.size + x1018.size : Nat) : Int) ≤ 9223372036854775807) ∧ ((cont c0_1001 c0_1002 c0_1003 (v3_1004 ++ x1018) (IntKind.i64.wrap (v4_1005 + 1)) h1019))))))) (K2 v3_1004 h1006))
def straitref06_List.l0 (K2 : ByteArray → Heap → Prop) : Nat → (Option Addr) → Nat → Nat → ByteArray → Int → Heap → Prop
  | 0, _, _, _, _, _, _ => False
  | m + 1, c0_1001, c0_1002, c0_1003, v3_1004, v4_1005, h => straitref06_List.b0 K2 (straitref06_List.l0 K2 m) c0_1001 c0_1002 c0_1003 v3_1004 v4_1005 h
def straitref06_List (a1 : Option Addr) (a1l : Nat) (a1c : Nat) (h : Heap) (K : ByteArray → Heap → Prop) : Prop :=
  (((∃ m4, straitref06_List.l0 (fun z2 h3 => (K z2 h3)) m4 a1 a1l a1c (⟨#[]⟩ : ByteArray) 0 h)))
def straitref06_List.ret (K : ByteArray → Heap → Prop) (v : Value) (h : Heap) : Prop := match v with
  | (.string r5) => K r5 h
  | _ => False
theorem straitref06_List.ret_elim {K : ByteArray → Heap → Prop} {K' : Value → Heap → Prop} {v : Value} {h : Heap} (hk : ∀ r5 h, K r5 h → K' (.string r5) h) (hh : straitref06_List.ret K v h) : K' v h := by
  unfold straitref06_List.ret at hh
  split at hh
  · exact hk _ _ hh
  · exact hh.elim
def straitref06_List.call (f : FuncId) (vs : List Value) (h : Heap) (K : Value → Heap → Prop) : Prop := match f, vs with
  | 30, [(.int .i64 a1)] => callP1 (straitref06_Print a1 h) fun r8 h' => K (.string r8) h'
  | _, _ => False
def straitref06_List.r0 (K : Nat → List Value → Heap → Prop) (m : Nat) (vs : List Value) (h : Heap) : Prop := match vs with
  | [(.slice c0_1001 c0_1002 c0_1003), (.string v3_1004), (.int .i64 v4_1005)] => straitref06_List.l0 (fun z6 h' => K 2 [(.string z6)] h') m c0_1001 c0_1002 c0_1003 v3_1004 v4_1005 h
  | _ => False
def straitref06_List.loop (i : Nat) (vs : List Value) (h : Heap) (K : Nat → List Value → Heap → Prop) : Prop := match i with
  | 0 => ∃ m, straitref06_List.r0 K m vs h
  | _ => False
noncomputable def straitref06_List.ctx : Ctx := { P := Tryd.prog, call := straitref06_List.call, qcall := fun _ _ _ _ => False, quiet := fun f => Nat.beq f 2000073, loop := straitref06_List.loop }
theorem straitref06_List.ok : straitref06_List.ctx.OK where
  mixed := by kernel_rfl
  mono := by
    intro f args h K K' hh hk
    change straitref06_List.call f args h K at hh
    change straitref06_List.call f args h K'
    unfold straitref06_List.call at hh ⊢
    split at hh
    · obtain ⟨R, h1, h2⟩ := hh
      exact ⟨R, h1, fun _ x hr => hk _ _ (h2 _ x hr)⟩
    · exact hh.elim
  call := by
    intro f args h K hh w hw
    change straitref06_List.call f args h K at hh
    unfold straitref06_List.call at hh
    split at hh
    · obtain ⟨R, h1, h2⟩ := hh
      obtain ⟨g1, g2⟩ := straitref06_Print.calls h1 w hw
      exact ⟨g1, g2.mono fun e w' ⟨v, he, ho, hr⟩ => ⟨v, he, ho, straitref06_Print.ret_elim h2 hr⟩⟩
    · exact hh.elim
  qmono := fun hh _ => hh.elim
  qval := fun hh => hh.elim
  qcall := fun hh => hh.elim
noncomputable def straitref06_List.code : Code := (Tryd.f35.body).getD .skip
def straitref06_List.ann : Ann := (.two .auto (.two .auto (.two (.two .auto (.two (.loop 0 [0, 3, 4] [(2, [3])] .auto) .auto)) .auto)))
noncomputable def straitref06_List.c0 : Code := sub straitref06_List.code [1, 1, 0, 1, 0, 0]
def straitref06_List.a0 : Ann := .auto
def straitref06_List.keep0 : List Nat := [0, 3, 4]
def straitref06_List.outs0 : List (Nat × List Nat) := [(2, [3])]
set_option maxRecDepth 100000 in
theorem straitref06_List.L0 : LoopOK straitref06_List.ctx 23 straitref06_List.c0 0 straitref06_List.keep0 straitref06_List.outs0 := by
  refine loop_ok (n := straitref06_List.a0) straitref06_List.ok (by kernel_rfl) (loops_ok (l := []) (by kernel_rfl) ?_) straitref06_List.r0 ?_ ?_ (fun vs h K hh => hh)
  · exact trivial
  · intro K vs h hh
    unfold straitref06_List.r0 at hh
    split at hh
    · exact hh
    · exact hh
  · intro K m vs h hh
    unfold straitref06_List.r0 at hh
    split at hh
    · exact cast (by kernel_rfl) hh
    · exact hh.elim
set_option maxRecDepth 100000 in
theorem straitref06_List.eq (a1 : Option Addr) (a1l : Nat) (a1c : Nat) (h : Heap) (K : ByteArray → Heap → Prop) : evF straitref06_List.ctx Tryd.f35 straitref06_List.ann [(.slice a1 a1l a1c)] h (straitref06_List.ret K) = straitref06_List a1 a1l a1c h K := by kernel_rfl
set_option maxRecDepth 100000 in
theorem straitref06_List.calls {a1 : Option Addr} {a1l : Nat} {a1c : Nat} {h : Heap} {K : ByteArray → Heap → Prop} (hh : straitref06_List a1 a1l a1c h K) (w : World) (hw : w.heap = h) :
    (callFunc 35 #[(.slice a1 a1l a1c)]).run Tryd.prog w = .ok (.enter 35 #[(.slice a1 a1l a1c)]) w ∧ Calls Tryd.prog 35 #[(.slice a1 a1l a1c)] w fun e w' => ∃ v, e = .returned v ∧ Out w w' ∧ straitref06_List.ret K v w'.heap := by
  rw [← straitref06_List.eq] at hh
  exact fn_calls (args := [(.slice a1 a1l a1c)]) (c := straitref06_List.code) straitref06_List.ok Tryd.func35 (by kernel_rfl) (by kernel_rfl) (by kernel_rfl) (by kernel_rfl) (loops_ok (l := [(straitref06_List.c0, none, 0, straitref06_List.keep0, straitref06_List.outs0)]) (by kernel_rfl) ⟨straitref06_List.L0, trivial⟩) hh w hw
end

/-! ### strait/straitlaw06.DecLists: function 7 -/
section
variable [DKc]
def straitlaw06_DecLists (a1 : ByteArray) (a2 : Option Addr) (a2l : Nat) (a2c : Nat) (h : Heap) (K : Bool → Heap → Prop) : Prop :=
  (let j35 : Prop := (callP5 (dec_Read a1 h) fun x10 x10l x10c x11 x12 h13 => (callP5 (straitref06_Read a1 h13) fun x14 x14l x14c x15 x16 h17 => newP h17 (.cells #[(.slice none 0 0), (.int .i64 0), (.int .i64 0)] 58) fun a18 h19 => stC h19 a18 (.slice x14 x14l x14c) fun h20 => stC h20 (a18.add 1) (.int .i64 x15) fun h21 => stC h21 (a18.add 2) (.int .i64 x16) fun h22 => (∃ (x23 : Option Addr) (x23l : Nat) (x23c : Nat), cell h22 a18 = some (.slice x23 x23l x23c) ∧ qcallP1 h22 (straitref04_Same x10 x10l x10c x23 x23l x23c h22) fun x24 => iteB x24 (∃ (x25 : Int), cell h22 (a18.add 1) = some (.int .i64 x25) ∧ iteB (x11 == x25) (∃ (x26 : Int), cell h22 (a18.add 2) = some (.int .i64 x26) ∧ iteB (x12 == x26) (callP1 (dec_List a2 a2l a2c h22) fun x27 h28 => callP1 (straitref06_List a2 a2l a2c h28) fun x29 h30 => iteB (x27.toList == x29.toList) (callP1 (straitlaw06_awake h30) fun x31 h32 => K x31 h32) (K false h30)) (K false h22)) (K false h22)) (K false h22))));
  iteB (decide ((a1.size : Int) > (1000 : Int))) ((callP1 (straitlaw06_awake h) fun x6 h7 => K x6 h7)) ((iteB (decide ((a2l : Int) > (100 : Int))) (callP1 (straitlaw06_awake h) fun x8 h9 => K x8 h9) ((j35)))))
def straitlaw06_DecLists.ret (K : Bool → Heap → Prop) (v : Value) (h : Heap) : Prop := match v with
  | (.bool r36) => K r36 h
  | _ => False
theorem straitlaw06_DecLists.ret_elim {K : Bool → Heap → Prop} {K' : Value → Heap → Prop} {v : Value} {h : Heap} (hk : ∀ r36 h, K r36 h → K' (.bool r36) h) (hh : straitlaw06_DecLists.ret K v h) : K' v h := by
  unfold straitlaw06_DecLists.ret at hh
  split at hh
  · exact hk _ _ hh
  · exact hh.elim
def straitlaw06_DecLists.call (f : FuncId) (vs : List Value) (h : Heap) (K : Value → Heap → Prop) : Prop := match f, vs with
  | 24, [] => callP1 (straitlaw06_awake h) fun r15 h' => K (.bool r15) h'
  | 31, [(.string a1)] => callP5 (dec_Read a1 h) fun r11 r11l r11c r12 r13 h' => K (.tuple #[(.slice r11 r11l r11c), (.int .i64 r12), (.int .i64 r13)]) h'
  | 32, [(.string a1)] => callP5 (straitref06_Read a1 h) fun r17 r17l r17c r18 r19 h' => K (.agg #[(.slice r17 r17l r17c), (.int .i64 r18), (.int .i64 r19)]) h'
  | 34, [(.slice a1 a1l a1c)] => callP1 (dec_List a1 a1l a1c h) fun r8 h' => K (.string r8) h'
  | 35, [(.slice a1 a1l a1c)] => callP1 (straitref06_List a1 a1l a1c h) fun r5 h' => K (.string r5) h'
  | _, _ => False
def straitlaw06_DecLists.qcall (f : FuncId) (vs : List Value) (h : Heap) (K : Value → Prop) : Prop := match f, vs with
  | 33, [(.slice a1 a1l a1c), (.slice a2 a2l a2c)] => qcallP1 h (straitref04_Same a1 a1l a1c a2 a2l a2c h) fun r7 => K (.bool r7)
  | _, _ => False
noncomputable def straitlaw06_DecLists.ctx : Ctx := { P := Tryd.prog, call := straitlaw06_DecLists.call, qcall := straitlaw06_DecLists.qcall, quiet := fun f => Nat.beq f 33 || Nat.beq f 2000073, loop := fun _ _ _ _ => False }
theorem straitlaw06_DecLists.ok : straitlaw06_DecLists.ctx.OK where
  mixed := by kernel_rfl
  mono := by
    intro f args h K K' hh hk
    change straitlaw06_DecLists.call f args h K at hh
    change straitlaw06_DecLists.call f args h K'
    unfold straitlaw06_DecLists.call at hh ⊢
    split at hh
    · obtain ⟨R, h1, h2⟩ := hh
      exact ⟨R, h1, fun _ x hr => hk _ _ (h2 _ x hr)⟩
    · obtain ⟨R, h1, h2⟩ := hh
      exact ⟨R, h1, fun _ _ _ _ _ x hr => hk _ _ (h2 _ _ _ _ _ x hr)⟩
    · obtain ⟨R, h1, h2⟩ := hh
      exact ⟨R, h1, fun _ _ _ _ _ x hr => hk _ _ (h2 _ _ _ _ _ x hr)⟩
    · obtain ⟨R, h1, h2⟩ := hh
      exact ⟨R, h1, fun _ x hr => hk _ _ (h2 _ x hr)⟩
    · obtain ⟨R, h1, h2⟩ := hh
      exact ⟨R, h1, fun _ x hr => hk _ _ (h2 _ x hr)⟩
    · exact hh.elim
  call := by
    intro f args h K hh w hw
    change straitlaw06_DecLists.call f args h K at hh
    unfold straitlaw06_DecLists.call at hh
    split at hh
    · obtain ⟨R, h1, h2⟩ := hh
      obtain ⟨g1, g2⟩ := straitlaw06_awake.calls h1 w hw
      exact ⟨g1, g2.mono fun e w' ⟨v, he, ho, hr⟩ => ⟨v, he, ho, straitlaw06_awake.ret_elim h2 hr⟩⟩
    · obtain ⟨R, h1, h2⟩ := hh
      obtain ⟨g1, g2⟩ := dec_Read.calls h1 w hw
      exact ⟨g1, g2.mono fun e w' ⟨v, he, ho, hr⟩ => ⟨v, he, ho, dec_Read.ret_elim h2 hr⟩⟩
    · obtain ⟨R, h1, h2⟩ := hh
      obtain ⟨g1, g2⟩ := straitref06_Read.calls h1 w hw
      exact ⟨g1, g2.mono fun e w' ⟨v, he, ho, hr⟩ => ⟨v, he, ho, straitref06_Read.ret_elim h2 hr⟩⟩
    · obtain ⟨R, h1, h2⟩ := hh
      obtain ⟨g1, g2⟩ := dec_List.calls h1 w hw
      exact ⟨g1, g2.mono fun e w' ⟨v, he, ho, hr⟩ => ⟨v, he, ho, dec_List.ret_elim h2 hr⟩⟩
    · obtain ⟨R, h1, h2⟩ := hh
      obtain ⟨g1, g2⟩ := straitref06_List.calls h1 w hw
      exact ⟨g1, g2.mono fun e w' ⟨v, he, ho, hr⟩ => ⟨v, he, ho, straitref06_List.ret_elim h2 hr⟩⟩
    · exact hh.elim
  qmono := by
    intro f args h K K' hh hk
    change straitlaw06_DecLists.qcall f args h K at hh
    change straitlaw06_DecLists.qcall f args h K'
    unfold straitlaw06_DecLists.qcall at hh ⊢
    split at hh
    · obtain ⟨x0, h1, h2⟩ := hh
      exact ⟨x0, h1, hk _ h2⟩
    · exact hh.elim
  qval := by
    intro f args h K hh
    change straitlaw06_DecLists.qcall f args h K at hh
    suffices H : ∃ v, K v ∧ straitlaw06_DecLists.qcall f args h (· = v) from H
    unfold straitlaw06_DecLists.qcall at hh ⊢
    split at hh
    · obtain ⟨x0, h1, h2⟩ := hh
      exact ⟨_, h2, x0, h1, rfl⟩
    · exact hh.elim
  qcall := by
    intro f args h v hh w hw
    change straitlaw06_DecLists.qcall f args h (· = v) at hh
    unfold straitlaw06_DecLists.qcall at hh
    split at hh
    · obtain ⟨x0, h1, h2⟩ := hh
      obtain ⟨g1, g2⟩ := straitref04_Same.calls h1 w hw
      refine .inl ⟨g1, g2.mono fun e w' ⟨u, he, ho, hr⟩ => ?_⟩
      have hq := straitref04_Same.ret_elim (K' := fun u h' => u = v ∧ h' = h) (fun _ h' hr => by obtain ⟨rfl, rfl⟩ := hr; exact ⟨h2, rfl⟩) hr
      exact ⟨hq.1 ▸ he, ho, hq.2⟩
    · exact hh.elim
noncomputable def straitlaw06_DecLists.code : Code := (Tryd.f7.body).getD .skip
def straitlaw06_DecLists.ann : Ann := .auto
set_option maxRecDepth 100000 in
theorem straitlaw06_DecLists.eq (a1 : ByteArray) (a2 : Option Addr) (a2l : Nat) (a2c : Nat) (h : Heap) (K : Bool → Heap → Prop) : evF straitlaw06_DecLists.ctx Tryd.f7 straitlaw06_DecLists.ann [(.string a1), (.slice a2 a2l a2c)] h (straitlaw06_DecLists.ret K) = straitlaw06_DecLists a1 a2 a2l a2c h K := by kernel_rfl
set_option maxRecDepth 100000 in
theorem straitlaw06_DecLists.calls {a1 : ByteArray} {a2 : Option Addr} {a2l : Nat} {a2c : Nat} {h : Heap} {K : Bool → Heap → Prop} (hh : straitlaw06_DecLists a1 a2 a2l a2c h K) (w : World) (hw : w.heap = h) :
    (callFunc 7 #[(.string a1), (.slice a2 a2l a2c)]).run Tryd.prog w = .ok (.enter 7 #[(.string a1), (.slice a2 a2l a2c)]) w ∧ Calls Tryd.prog 7 #[(.string a1), (.slice a2 a2l a2c)] w fun e w' => ∃ v, e = .returned v ∧ Out w w' ∧ straitlaw06_DecLists.ret K v w'.heap := by
  rw [← straitlaw06_DecLists.eq] at hh
  exact fn_calls (args := [(.string a1), (.slice a2 a2l a2c)]) (c := straitlaw06_DecLists.code) straitlaw06_DecLists.ok Tryd.func7 (by kernel_rfl) (by kernel_rfl) (by kernel_rfl) (by kernel_rfl) (loops_ok (l := []) (by kernel_rfl) trivial) hh w hw
end

/-! ### strait/straitlaw06.DecBack: function 8 -/
section
variable [DKc]
def straitlaw06_DecBack (a1 : ByteArray) (a2 : Option Addr) (a2l : Nat) (a2c : Nat) (h : Heap) (K : Bool → Heap → Prop) : Prop :=
  (let j40 : Prop := (callP1 (dec_List a2 a2l a2c h) fun x10 h11 => callP5 (dec_Read x10 h11) fun x12 x12l x12c x13 x14 h15 => (callP5 (dec_Read a1 h15) fun x16 x16l x16c x17 x18 h19 => (callP2 (dec_Parse a1 h19) fun x20 x21 h22 => (iteB (x13 == (0 : Int)) (qcallP1 h22 (straitref04_Same x12 x12l x12c a2 a2l a2c h22) fun x23 => iteB x23 (iteB (x17 != (0 : Int)) (iteB (x21 != (0 : Int)) (callP1 (straitlaw06_awake h22) fun x24 h25 => K x24 h25) (callP1 (dec_Print x20 h22) fun x26 h27 => iteB (x26.toList == a1.toList) (callP1 (straitlaw06_awake h27) fun x28 h29 => K x28 h29) (K false h27))) (callP1 (dec_List x16 x16l x16c h22) fun x30 h31 => iteB (x30.toList == a1.toList) (iteB (x21 != (0 : Int)) (callP1 (straitlaw06_awake h31) fun x32 h33 => K x32 h33) (callP1 (dec_Print x20 h31) fun x34 h35 => iteB (x34.toList == a1.toList) (callP1 (straitlaw06_awake h35) fun x36 h37 => K x36 h37) (K false h35))) (K false h31))) (K false h22)) (K false h22)))));
  iteB (decide ((a1.size : Int) > (1000 : Int))) ((callP1 (straitlaw06_awake h) fun x6 h7 => K x6 h7)) ((iteB (decide ((a2l : Int) > (100 : Int))) (callP1 (straitlaw06_awake h) fun x8 h9 => K x8 h9) ((j40)))))
def straitlaw06_DecBack.ret (K : Bool → Heap → Prop) (v : Value) (h : Heap) : Prop := match v with
  | (.bool r41) => K r41 h
  | _ => False
theorem straitlaw06_DecBack.ret_elim {K : Bool → Heap → Prop} {K' : Value → Heap → Prop} {v : Value} {h : Heap} (hk : ∀ r41 h, K r41 h → K' (.bool r41) h) (hh : straitlaw06_DecBack.ret K v h) : K' v h := by
  unfold straitlaw06_DecBack.ret at hh
  split at hh
  · exact hk _ _ hh
  · exact hh.elim
def straitlaw06_DecBack.call (f : FuncId) (vs : List Value) (h : Heap) (K : Value → Heap → Prop) : Prop := match f, vs with
  | 24, [] => callP1 (straitlaw06_awake h) fun r15 h' => K (.bool r15) h'
  | 25, [(.string a1)] => callP2 (dec_Parse a1 h) fun r8 r9 h' => K (.tuple #[(.int .i64 r8), (.int .i64 r9)]) h'
  | 29, [(.int .i64 a1)] => callP1 (dec_Print a1 h) fun r4 h' => K (.string r4) h'
  | 31, [(.string a1)] => callP5 (dec_Read a1 h) fun r11 r11l r11c r12 r13 h' => K (.tuple #[(.slice r11 r11l r11c), (.int .i64 r12), (.int .i64 r13)]) h'
  | 34, [(.slice a1 a1l a1c)] => callP1 (dec_List a1 a1l a1c h) fun r8 h' => K (.string r8) h'
  | _, _ => False
def straitlaw06_DecBack.qcall (f : FuncId) (vs : List Value) (h : Heap) (K : Value → Prop) : Prop := match f, vs with
  | 33, [(.slice a1 a1l a1c), (.slice a2 a2l a2c)] => qcallP1 h (straitref04_Same a1 a1l a1c a2 a2l a2c h) fun r7 => K (.bool r7)
  | _, _ => False
noncomputable def straitlaw06_DecBack.ctx : Ctx := { P := Tryd.prog, call := straitlaw06_DecBack.call, qcall := straitlaw06_DecBack.qcall, quiet := fun f => Nat.beq f 33 || Nat.beq f 2000073, loop := fun _ _ _ _ => False }
theorem straitlaw06_DecBack.ok : straitlaw06_DecBack.ctx.OK where
  mixed := by kernel_rfl
  mono := by
    intro f args h K K' hh hk
    change straitlaw06_DecBack.call f args h K at hh
    change straitlaw06_DecBack.call f args h K'
    unfold straitlaw06_DecBack.call at hh ⊢
    split at hh
    · obtain ⟨R, h1, h2⟩ := hh
      exact ⟨R, h1, fun _ x hr => hk _ _ (h2 _ x hr)⟩
    · obtain ⟨R, h1, h2⟩ := hh
      exact ⟨R, h1, fun _ _ x hr => hk _ _ (h2 _ _ x hr)⟩
    · obtain ⟨R, h1, h2⟩ := hh
      exact ⟨R, h1, fun _ x hr => hk _ _ (h2 _ x hr)⟩
    · obtain ⟨R, h1, h2⟩ := hh
      exact ⟨R, h1, fun _ _ _ _ _ x hr => hk _ _ (h2 _ _ _ _ _ x hr)⟩
    · obtain ⟨R, h1, h2⟩ := hh
      exact ⟨R, h1, fun _ x hr => hk _ _ (h2 _ x hr)⟩
    · exact hh.elim
  call := by
    intro f args h K hh w hw
    change straitlaw06_DecBack.call f args h K at hh
    unfold straitlaw06_DecBack.call at hh
    split at hh
    · obtain ⟨R, h1, h2⟩ := hh
      obtain ⟨g1, g2⟩ := straitlaw06_awake.calls h1 w hw
      exact ⟨g1, g2.mono fun e w' ⟨v, he, ho, hr⟩ => ⟨v, he, ho, straitlaw06_awake.ret_elim h2 hr⟩⟩
    · obtain ⟨R, h1, h2⟩ := hh
      obtain ⟨g1, g2⟩ := dec_Parse.calls h1 w hw
      exact ⟨g1, g2.mono fun e w' ⟨v, he, ho, hr⟩ => ⟨v, he, ho, dec_Parse.ret_elim h2 hr⟩⟩
    · obtain ⟨R, h1, h2⟩ := hh
      obtain ⟨g1, g2⟩ := dec_Print.calls h1 w hw
      exact ⟨g1, g2.mono fun e w' ⟨v, he, ho, hr⟩ => ⟨v, he, ho, dec_Print.ret_elim h2 hr⟩⟩
    · obtain ⟨R, h1, h2⟩ := hh
      obtain ⟨g1, g2⟩ := dec_Read.calls h1 w hw
      exact ⟨g1, g2.mono fun e w' ⟨v, he, ho, hr⟩ => ⟨v, he, ho, dec_Read.ret_elim h2 hr⟩⟩
    · obtain ⟨R, h1, h2⟩ := hh
      obtain ⟨g1, g2⟩ := dec_List.calls h1 w hw
      exact ⟨g1, g2.mono fun e w' ⟨v, he, ho, hr⟩ => ⟨v, he, ho, dec_List.ret_elim h2 hr⟩⟩
    · exact hh.elim
  qmono := by
    intro f args h K K' hh hk
    change straitlaw06_DecBack.qcall f args h K at hh
    change straitlaw06_DecBack.qcall f args h K'
    unfold straitlaw06_DecBack.qcall at hh ⊢
    split at hh
    · obtain ⟨x0, h1, h2⟩ := hh
      exact ⟨x0, h1, hk _ h2⟩
    · exact hh.elim
  qval := by
    intro f args h K hh
    change straitlaw06_DecBack.qcall f args h K at hh
    suffices H : ∃ v, K v ∧ straitlaw06_DecBack.qcall f args h (· = v) from H
    unfold straitlaw06_DecBack.qcall at hh ⊢
    split at hh
    · obtain ⟨x0, h1, h2⟩ := hh
      exact ⟨_, h2, x0, h1, rfl⟩
    · exact hh.elim
  qcall := by
    intro f args h v hh w hw
    change straitlaw06_DecBack.qcall f args h (· = v) at hh
    unfold straitlaw06_DecBack.qcall at hh
    split at hh
    · obtain ⟨x0, h1, h2⟩ := hh
      obtain ⟨g1, g2⟩ := straitref04_Same.calls h1 w hw
      refine .inl ⟨g1, g2.mono fun e w' ⟨u, he, ho, hr⟩ => ?_⟩
      have hq := straitref04_Same.ret_elim (K' := fun u h' => u = v ∧ h' = h) (fun _ h' hr => by obtain ⟨rfl, rfl⟩ := hr; exact ⟨h2, rfl⟩) hr
      exact ⟨hq.1 ▸ he, ho, hq.2⟩
    · exact hh.elim
noncomputable def straitlaw06_DecBack.code : Code := (Tryd.f8.body).getD .skip
def straitlaw06_DecBack.ann : Ann := .auto
set_option maxRecDepth 100000 in
theorem straitlaw06_DecBack.eq (a1 : ByteArray) (a2 : Option Addr) (a2l : Nat) (a2c : Nat) (h : Heap) (K : Bool → Heap → Prop) : evF straitlaw06_DecBack.ctx Tryd.f8 straitlaw06_DecBack.ann [(.string a1), (.slice a2 a2l a2c)] h (straitlaw06_DecBack.ret K) = straitlaw06_DecBack a1 a2 a2l a2c h K := by kernel_rfl
set_option maxRecDepth 100000 in
theorem straitlaw06_DecBack.calls {a1 : ByteArray} {a2 : Option Addr} {a2l : Nat} {a2c : Nat} {h : Heap} {K : Bool → Heap → Prop} (hh : straitlaw06_DecBack a1 a2 a2l a2c h K) (w : World) (hw : w.heap = h) :
    (callFunc 8 #[(.string a1), (.slice a2 a2l a2c)]).run Tryd.prog w = .ok (.enter 8 #[(.string a1), (.slice a2 a2l a2c)]) w ∧ Calls Tryd.prog 8 #[(.string a1), (.slice a2 a2l a2c)] w fun e w' => ∃ v, e = .returned v ∧ Out w w' ∧ straitlaw06_DecBack.ret K v w'.heap := by
  rw [← straitlaw06_DecBack.eq] at hh
  exact fn_calls (args := [(.string a1), (.slice a2 a2l a2c)]) (c := straitlaw06_DecBack.code) straitlaw06_DecBack.ok Tryd.func8 (by kernel_rfl) (by kernel_rfl) (by kernel_rfl) (by kernel_rfl) (loops_ok (l := []) (by kernel_rfl) trivial) hh w hw
end

end Go.Proofs.YtnepdopakngpfaaDoor
