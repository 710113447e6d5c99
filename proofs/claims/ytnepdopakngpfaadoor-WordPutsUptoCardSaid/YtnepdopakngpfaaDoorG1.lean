/- WRITTEN BY A PROGRAM OF THIS SESSION (gen.py): what each function asks of memory, and that the model's run comes to it. -/
import Derived.Test.YtnepdopakngpfaaDoorProg
import Derived.Test.YtnepdopakngpfaaDoorFw8
import Derived.Test.YtnepdopakngpfaaDoorG0
namespace Go.Proofs.YtnepdopakngpfaaDoor
open Go.Hp
set_option linter.unusedVariables false
set_option linter.unusedSimpArgs false
set_option linter.unusedSectionVars false

/-! ### strait/straitref07.Key: function 18 -/
def straitref07_Key.b0 (K0 : Int → Heap → Prop) (K2 : Heap → Prop) (cont : ByteArray → (Option Addr) → Nat → Nat → Int → Heap → Prop) (c0_1001 : ByteArray) (c1_1002 : Option Addr) (c1_1003 : Nat) (c1_1004 : Nat) (v5_1005 : Int) (h1006 : Heap) : Prop :=
  (iteB (decide (v5_1005 < (c1_1003 : Int))) ((chkP c1_1002 fun a1007 => (0 ≤ v5_1005 ∧ v5_1005 < (c1_1003 : Int)) ∧ ∃ (x1008 : ByteArray), cell h1006 (a1007.add (v5_1005.toNat * 1)) = some (.string x1008) ∧ (iteB (x1008.toList == c0_1001.toList) (K0 v5_1005 h1006) (((cont c0_1001 c1_1002 c1_1003 c1_1004 (IntKind.i64.wrap (v5_1005 + 1)) h1006)))))) (K2 h1006))
def straitref07_Key.l0 (K0 : Int → Heap → Prop) (K2 : Heap → Prop) : Nat → ByteArray → (Option Addr) → Nat → Nat → Int → Heap → Prop
  | 0, _, _, _, _, _, _ => False
  | m + 1, c0_1001, c1_1002, c1_1003, c1_1004, v5_1005, h => straitref07_Key.b0 K0 K2 (straitref07_Key.l0 K0 K2 m) c0_1001 c1_1002 c1_1003 c1_1004 v5_1005 h
def straitref07_Key (a1 : ByteArray) (a2 : Option Addr) (a2l : Nat) (a2c : Nat) (h : Heap) (K : Int → Heap → Prop) : Prop :=
  ((∃ m6, straitref07_Key.l0 (fun z3 h4 => K z3 h4) (fun h5 => (((K (-1) h5)))) m6 a1 a2 a2l a2c 0 h))
def straitref07_Key.ret (K : Int → Heap → Prop) (v : Value) (h : Heap) : Prop := match v with
  | (.int .i64 r7) => K r7 h
  | _ => False
theorem straitref07_Key.ret_elim {K : Int → Heap → Prop} {K' : Value → Heap → Prop} {v : Value} {h : Heap} (hk : ∀ r7 h, K r7 h → K' (.int .i64 r7) h) (hh : straitref07_Key.ret K v h) : K' v h := by
  unfold straitref07_Key.ret at hh
  split at hh
  · exact hk _ _ hh
  · exact hh.elim
def straitref07_Key.r0 (K : Nat → List Value → Heap → Prop) (m : Nat) (vs : List Value) (h : Heap) : Prop := match vs with
  | [(.string c0_1001), (.slice c1_1002 c1_1003 c1_1004), (.int .i64 v5_1005)] => straitref07_Key.l0 (fun z8 h' => K 0 [(.int .i64 z8)] h') (fun h' => K 2 [] h') m c0_1001 c1_1002 c1_1003 c1_1004 v5_1005 h
  | _ => False
def straitref07_Key.loop (i : Nat) (vs : List Value) (h : Heap) (K : Nat → List Value → Heap → Prop) : Prop := match i with
  | 0 => ∃ m, straitref07_Key.r0 K m vs h
  | _ => False
noncomputable def straitref07_Key.ctx : Ctx := { P := Tryd.prog, call := fun _ _ _ _ => False, qcall := fun _ _ _ _ => False, quiet := fun f => Nat.beq f 2000073, loop := straitref07_Key.loop }
theorem straitref07_Key.ok [DKc] : straitref07_Key.ctx.OK where
  mixed := by kernel_rfl
  mono := fun hh _ => hh.elim
  call := fun hh => hh.elim
  qmono := fun hh _ => hh.elim
  qval := fun hh => hh.elim
  qcall := fun hh => hh.elim
noncomputable def straitref07_Key.code : Code := (Tryd.f18.body).getD .skip
def straitref07_Key.ann : Ann := (.two .auto (.two (.two .auto (.two (.loop 0 [0, 1, 5] [(2, []), (0, [4])] .auto) .auto)) .auto))
noncomputable def straitref07_Key.c0 : Code := sub straitref07_Key.code [1, 0, 1, 0, 0]
def straitref07_Key.a0 : Ann := .auto
def straitref07_Key.keep0 : List Nat := [0, 1, 5]
def straitref07_Key.outs0 : List (Nat × List Nat) := [(2, []), (0, [4])]
set_option maxRecDepth 100000 in
theorem straitref07_Key.L0 [DKc] : LoopOK straitref07_Key.ctx 19 straitref07_Key.c0 0 straitref07_Key.keep0 straitref07_Key.outs0 := by
  refine loop_ok (n := straitref07_Key.a0) straitref07_Key.ok (by kernel_rfl) (loops_ok (l := []) (by kernel_rfl) ?_) straitref07_Key.r0 ?_ ?_ (fun vs h K hh => hh)
  · exact trivial
  · intro K vs h hh
    unfold straitref07_Key.r0 at hh
    split at hh
    · exact hh
    · exact hh
  · intro K m vs h hh
    unfold straitref07_Key.r0 at hh
    split at hh
    · exact cast (by kernel_rfl) hh
    · exact hh.elim
set_option maxRecDepth 100000 in
theorem straitref07_Key.eq (a1 : ByteArray) (a2 : Option Addr) (a2l : Nat) (a2c : Nat) (h : Heap) (K : Int → Heap → Prop) : evF straitref07_Key.ctx Tryd.f18 straitref07_Key.ann [(.string a1), (.slice a2 a2l a2c)] h (straitref07_Key.ret K) = straitref07_Key a1 a2 a2l a2c h K := by kernel_rfl
set_option maxRecDepth 100000 in
theorem straitref07_Key.calls [DKc] {a1 : ByteArray} {a2 : Option Addr} {a2l : Nat} {a2c : Nat} {h : Heap} {K : Int → Heap → Prop} (hh : straitref07_Key a1 a2 a2l a2c h K) (w : World) (hw : w.heap = h) :
    (callFunc 18 #[(.string a1), (.slice a2 a2l a2c)]).run Tryd.prog w = .ok (.enter 18 #[(.string a1), (.slice a2 a2l a2c)]) w ∧ Calls Tryd.prog 18 #[(.string a1), (.slice a2 a2l a2c)] w fun e w' => ∃ v, e = .returned v ∧ Out w w' ∧ straitref07_Key.ret K v w'.heap := by
  rw [← straitref07_Key.eq] at hh
  exact fn_calls (args := [(.string a1), (.slice a2 a2l a2c)]) (c := straitref07_Key.code) straitref07_Key.ok Tryd.func18 (by kernel_rfl) (by kernel_rfl) (by kernel_rfl) (by kernel_rfl) (loops_ok (l := [(straitref07_Key.c0, none, 0, straitref07_Key.keep0, straitref07_Key.outs0)]) (by kernel_rfl) ⟨straitref07_Key.L0, trivial⟩) hh w hw

/-! ### strait/straitlaw07.WordCuts: function 3 -/
section
variable [DKc]
def straitlaw07_WordCuts (a1 : ByteArray) (a2 : Option Addr) (a2l : Nat) (a2c : Nat) (h : Heap) (K : Bool → Heap → Prop) : Prop :=
  (let j35 : Prop := (callP4 (word_Lines a1 h) fun x10 x10l x10c x11 h12 => (callP4 (word_Words a1 h12) fun x13 x13l x13c x14 h15 => (callP4 (straitref07_Lines a1 h15) fun x16 x16l x16c x17 h18 => callP1 (straitlaw07_same x10 x10l x10c x11 x16 x16l x16c x17 h18) fun x19 h20 => iteB x19 (callP4 (straitref07_Words a1 h20) fun x21 x21l x21c x22 h23 => callP1 (straitlaw07_same x13 x13l x13c x14 x21 x21l x21c x22 h23) fun x24 h25 => iteB x24 (callP1 (word_Plain a1 h25) fun x26 h27 => qcallP1 h27 (straitref07_Plain a1 h27) fun x28 => iteB (x26 == x28) (qcallP1 h27 (word_Key a1 a2 a2l a2c h27) fun x29 => qcallP1 h27 (straitref07_Key a1 a2 a2l a2c h27) fun x30 => iteB (x29 == x30) (callP1 (straitlaw07_awake h27) fun x31 h32 => K x31 h32) (K false h27)) (K false h27)) (K false h25)) (K false h20))));
  iteB (decide ((a1.size : Int) > (2000 : Int))) ((callP1 (straitlaw07_awake h) fun x6 h7 => K x6 h7)) ((iteB (decide ((a2l : Int) > (100 : Int))) (callP1 (straitlaw07_awake h) fun x8 h9 => K x8 h9) ((j35)))))
def straitlaw07_WordCuts.ret (K : Bool → Heap → Prop) (v : Value) (h : Heap) : Prop := match v with
  | (.bool r36) => K r36 h
  | _ => False
theorem straitlaw07_WordCuts.ret_elim {K : Bool → Heap → Prop} {K' : Value → Heap → Prop} {v : Value} {h : Heap} (hk : ∀ r36 h, K r36 h → K' (.bool r36) h) (hh : straitlaw07_WordCuts.ret K v h) : K' v h := by
  unfold straitlaw07_WordCuts.ret at hh
  split at hh
  · exact hk _ _ hh
  · exact hh.elim
def straitlaw07_WordCuts.call (f : FuncId) (vs : List Value) (h : Heap) (K : Value → Heap → Prop) : Prop := match f, vs with
  | 9, [] => callP1 (straitlaw07_awake h) fun r15 h' => K (.bool r15) h'
  | 10, [(.string a1)] => callP4 (word_Lines a1 h) fun r10 r10l r10c r11 h' => K (.tuple #[(.slice r10 r10l r10c), (.bool r11)]) h'
  | 11, [(.string a1)] => callP4 (word_Words a1 h) fun r6 r6l r6c r7 h' => K (.tuple #[(.slice r6 r6l r6c), (.bool r7)]) h'
  | 12, [(.slice a1 a1l a1c), (.bool a2), (.agg ⟨[(.slice a3 a3l a3c), (.bool a4)]⟩)] => callP1 (straitlaw07_same a1 a1l a1c a2 a3 a3l a3c a4 h) fun r11 h' => K (.bool r11) h'
  | 13, [(.string a1)] => callP4 (straitref07_Lines a1 h) fun r16 r16l r16c r17 h' => K (.agg #[(.slice r16 r16l r16c), (.bool r17)]) h'
  | 14, [(.string a1)] => callP4 (straitref07_Words a1 h) fun r14 r14l r14c r15 h' => K (.agg #[(.slice r14 r14l r14c), (.bool r15)]) h'
  | 15, [(.string a1)] => callP1 (word_Plain a1 h) fun r4 h' => K (.bool r4) h'
  | _, _ => False
def straitlaw07_WordCuts.qcall (f : FuncId) (vs : List Value) (h : Heap) (K : Value → Prop) : Prop := match f, vs with
  | 16, [(.string a1)] => qcallP1 h (straitref07_Plain a1 h) fun r6 => K (.bool r6)
  | 17, [(.string a1), (.slice a2 a2l a2c)] => qcallP1 h (word_Key a1 a2 a2l a2c h) fun r4 => K (.int .i64 r4)
  | 18, [(.string a1), (.slice a2 a2l a2c)] => qcallP1 h (straitref07_Key a1 a2 a2l a2c h) fun r7 => K (.int .i64 r7)
  | _, _ => False
noncomputable def straitlaw07_WordCuts.ctx : Ctx := { P := Tryd.prog, call := straitlaw07_WordCuts.call, qcall := straitlaw07_WordCuts.qcall, quiet := fun f => Nat.beq f 16 || Nat.beq f 17 || Nat.beq f 18 || Nat.beq f 2000073, loop := fun _ _ _ _ => False }
theorem straitlaw07_WordCuts.ok : straitlaw07_WordCuts.ctx.OK where
  mixed := by kernel_rfl
  mono := by
    intro f args h K K' hh hk
    change straitlaw07_WordCuts.call f args h K at hh
    change straitlaw07_WordCuts.call f args h K'
    unfold straitlaw07_WordCuts.call at hh ⊢
    split at hh
    · obtain ⟨R, h1, h2⟩ := hh
      exact ⟨R, h1, fun _ x hr => hk _ _ (h2 _ x hr)⟩
    · obtain ⟨R, h1, h2⟩ := hh
      exact ⟨R, h1, fun _ _ _ _ x hr => hk _ _ (h2 _ _ _ _ x hr)⟩
    · obtain ⟨R, h1, h2⟩ := hh
      exact ⟨R, h1, fun _ _ _ _ x hr => hk _ _ (h2 _ _ _ _ x hr)⟩
    · obtain ⟨R, h1, h2⟩ := hh
      exact ⟨R, h1, fun _ x hr => hk _ _ (h2 _ x hr)⟩
    · obtain ⟨R, h1, h2⟩ := hh
      exact ⟨R, h1, fun _ _ _ _ x hr => hk _ _ (h2 _ _ _ _ x hr)⟩
    · obtain ⟨R, h1, h2⟩ := hh
      exact ⟨R, h1, fun _ _ _ _ x hr => hk _ _ (h2 _ _ _ _ x hr)⟩
    · obtain ⟨R, h1, h2⟩ := hh
      exact ⟨R, h1, fun _ x hr => hk _ _ (h2 _ x hr)⟩
    · exact hh.elim
  call := by
    intro f args h K hh w hw
    change straitlaw07_WordCuts.call f args h K at hh
    unfold straitlaw07_WordCuts.call at hh
    split at hh
    · obtain ⟨R, h1, h2⟩ := hh
      obtain ⟨g1, g2⟩ := straitlaw07_awake.calls h1 w hw
      exact ⟨g1, g2.mono fun e w' ⟨v, he, ho, hr⟩ => ⟨v, he, ho, straitlaw07_awake.ret_elim h2 hr⟩⟩
    · obtain ⟨R, h1, h2⟩ := hh
      obtain ⟨g1, g2⟩ := word_Lines.calls h1 w hw
      exact ⟨g1, g2.mono fun e w' ⟨v, he, ho, hr⟩ => ⟨v, he, ho, word_Lines.ret_elim h2 hr⟩⟩
    · obtain ⟨R, h1, h2⟩ := hh
      obtain ⟨g1, g2⟩ := word_Words.calls h1 w hw
      exact ⟨g1, g2.mono fun e w' ⟨v, he, ho, hr⟩ => ⟨v, he, ho, word_Words.ret_elim h2 hr⟩⟩
    · obtain ⟨R, h1, h2⟩ := hh
      obtain ⟨g1, g2⟩ := straitlaw07_same.calls h1 w hw
      exact ⟨g1, g2.mono fun e w' ⟨v, he, ho, hr⟩ => ⟨v, he, ho, straitlaw07_same.ret_elim h2 hr⟩⟩
    · obtain ⟨R, h1, h2⟩ := hh
      obtain ⟨g1, g2⟩ := straitref07_Lines.calls h1 w hw
      exact ⟨g1, g2.mono fun e w' ⟨v, he, ho, hr⟩ => ⟨v, he, ho, straitref07_Lines.ret_elim h2 hr⟩⟩
    · obtain ⟨R, h1, h2⟩ := hh
      obtain ⟨g1, g2⟩ := straitref07_Words.calls h1 w hw
      exact ⟨g1, g2.mono fun e w' ⟨v, he, ho, hr⟩ => ⟨v, he, ho, straitref07_Words.ret_elim h2 hr⟩⟩
    · obtain ⟨R, h1, h2⟩ := hh
      obtain ⟨g1, g2⟩ := word_Plain.calls h1 w hw
      exact ⟨g1, g2.mono fun e w' ⟨v, he, ho, hr⟩ => ⟨v, he, ho, word_Plain.ret_elim h2 hr⟩⟩
    · exact hh.elim
  qmono := by
    intro f args h K K' hh hk
    change straitlaw07_WordCuts.qcall f args h K at hh
    change straitlaw07_WordCuts.qcall f args h K'
    unfold straitlaw07_WordCuts.qcall at hh ⊢
    split at hh
    · obtain ⟨x0, h1, h2⟩ := hh
      exact ⟨x0, h1, hk _ h2⟩
    · obtain ⟨x0, h1, h2⟩ := hh
      exact ⟨x0, h1, hk _ h2⟩
    · obtain ⟨x0, h1, h2⟩ := hh
      exact ⟨x0, h1, hk _ h2⟩
    · exact hh.elim
  qval := by
    intro f args h K hh
    change straitlaw07_WordCuts.qcall f args h K at hh
    suffices H : ∃ v, K v ∧ straitlaw07_WordCuts.qcall f args h (· = v) from H
    unfold straitlaw07_WordCuts.qcall at hh ⊢
    split at hh
    · obtain ⟨x0, h1, h2⟩ := hh
      exact ⟨_, h2, x0, h1, rfl⟩
    · obtain ⟨x0, h1, h2⟩ := hh
      exact ⟨_, h2, x0, h1, rfl⟩
    · obtain ⟨x0, h1, h2⟩ := hh
      exact ⟨_, h2, x0, h1, rfl⟩
    · exact hh.elim
  qcall := by
    intro f args h v hh w hw
    change straitlaw07_WordCuts.qcall f args h (· = v) at hh
    unfold straitlaw07_WordCuts.qcall at hh
    split at hh
    · obtain ⟨x0, h1, h2⟩ := hh
      obtain ⟨g1, g2⟩ := straitref07_Plain.calls h1 w hw
      refine .inl ⟨g1, g2.mono fun e w' ⟨u, he, ho, hr⟩ => ?_⟩
      have hq := straitref07_Plain.ret_elim (K' := fun u h' => u = v ∧ h' = h) (fun _ h' hr => by obtain ⟨rfl, rfl⟩ := hr; exact ⟨h2, rfl⟩) hr
      exact ⟨hq.1 ▸ he, ho, hq.2⟩
    · obtain ⟨x0, h1, h2⟩ := hh
      obtain ⟨g1, g2⟩ := word_Key.calls h1 w hw
      refine .inl ⟨g1, g2.mono fun e w' ⟨u, he, ho, hr⟩ => ?_⟩
      have hq := word_Key.ret_elim (K' := fun u h' => u = v ∧ h' = h) (fun _ h' hr => by obtain ⟨rfl, rfl⟩ := hr; exact ⟨h2, rfl⟩) hr
      exact ⟨hq.1 ▸ he, ho, hq.2⟩
    · obtain ⟨x0, h1, h2⟩ := hh
      obtain ⟨g1, g2⟩ := straitref07_Key.calls h1 w hw
      refine .inl ⟨g1, g2.mono fun e w' ⟨u, he, ho, hr⟩ => ?_⟩
      have hq := straitref07_Key.ret_elim (K' := fun u h' => u = v ∧ h' = h) (fun _ h' hr => by obtain ⟨rfl, rfl⟩ := hr; exact ⟨h2, rfl⟩) hr
      exact ⟨hq.1 ▸ he, ho, hq.2⟩
    · exact hh.elim
noncomputable def straitlaw07_WordCuts.code : Code := (Tryd.f3.body).getD .skip
def straitlaw07_WordCuts.ann : Ann := .auto
set_option maxRecDepth 100000 in
theorem straitlaw07_WordCuts.eq (a1 : ByteArray) (a2 : Option Addr) (a2l : Nat) (a2c : Nat) (h : Heap) (K : Bool → Heap → Prop) : evF straitlaw07_WordCuts.ctx Tryd.f3 straitlaw07_WordCuts.ann [(.string a1), (.slice a2 a2l a2c)] h (straitlaw07_WordCuts.ret K) = straitlaw07_WordCuts a1 a2 a2l a2c h K := by kernel_rfl
set_option maxRecDepth 100000 in
theorem straitlaw07_WordCuts.calls {a1 : ByteArray} {a2 : Option Addr} {a2l : Nat} {a2c : Nat} {h : Heap} {K : Bool → Heap → Prop} (hh : straitlaw07_WordCuts a1 a2 a2l a2c h K) (w : World) (hw : w.heap = h) :
    (callFunc 3 #[(.string a1), (.slice a2 a2l a2c)]).run Tryd.prog w = .ok (.enter 3 #[(.string a1), (.slice a2 a2l a2c)]) w ∧ Calls Tryd.prog 3 #[(.string a1), (.slice a2 a2l a2c)] w fun e w' => ∃ v, e = .returned v ∧ Out w w' ∧ straitlaw07_WordCuts.ret K v w'.heap := by
  rw [← straitlaw07_WordCuts.eq] at hh
  exact fn_calls (args := [(.string a1), (.slice a2 a2l a2c)]) (c := straitlaw07_WordCuts.code) straitlaw07_WordCuts.ok Tryd.func3 (by kernel_rfl) (by kernel_rfl) (by kernel_rfl) (by kernel_rfl) (loops_ok (l := []) (by kernel_rfl) trivial) hh w hw
end

/-! ### (*strings.Builder).Grow: function 63, by its contract -/
def strings_Builder_Grow.ret (K : Heap → Prop) (v : Value) (h : Heap) : Prop := match v with
  | (.tuple ⟨[]⟩) => K h
  | _ => False
theorem strings_Builder_Grow.ret_elim {K : Heap → Prop} {K' : Value → Heap → Prop} {v : Value} {h : Heap} (hk : ∀  h, K h → K' (.tuple #[]) h) (hh : strings_Builder_Grow.ret K v h) : K' v h := by
  unfold strings_Builder_Grow.ret at hh
  split at hh
  · exact hk _ hh
  · exact hh.elim
def strings_Builder_Grow [DKc] (a1 : Option Addr) (a2 : Int) (h : Heap) (K : Heap → Prop) : Prop := ∀ w : World, w.heap = h → (callFunc 63 #[(.pointer a1), (.int .i64 a2)]).run Tryd.prog w = .ok (.enter 63 #[(.pointer a1), (.int .i64 a2)]) w ∧ Calls Tryd.prog 63 #[(.pointer a1), (.int .i64 a2)] w fun e w' => ∃ v, e = .returned v ∧ Out w w' ∧ strings_Builder_Grow.ret K v w'.heap
theorem strings_Builder_Grow.calls [DKc] {a1 : Option Addr} {a2 : Int} {h : Heap} {K : Heap → Prop} (hh : strings_Builder_Grow a1 a2 h K) (w : World) (hw : w.heap = h) : (callFunc 63 #[(.pointer a1), (.int .i64 a2)]).run Tryd.prog w = .ok (.enter 63 #[(.pointer a1), (.int .i64 a2)]) w ∧ Calls Tryd.prog 63 #[(.pointer a1), (.int .i64 a2)] w fun e w' => ∃ v, e = .returned v ∧ Out w w' ∧ strings_Builder_Grow.ret K v w'.heap := hh w hw

/-! ### (*strings.Builder).WriteString: function 47, by its contract -/
def strings_Builder_WriteString.ret (K : Int → Value → Heap → Prop) (v : Value) (h : Heap) : Prop := match v with
  | (.tuple ⟨[(.int .i64 r3), r4]⟩) => K r3 r4 h
  | _ => False
theorem strings_Builder_WriteString.ret_elim {K : Int → Value → Heap → Prop} {K' : Value → Heap → Prop} {v : Value} {h : Heap} (hk : ∀ r3 r4 h, K r3 r4 h → K' (.tuple #[(.int .i64 r3), r4]) h) (hh : strings_Builder_WriteString.ret K v h) : K' v h := by
  unfold strings_Builder_WriteString.ret at hh
  split at hh
  · exact hk _ _ _ hh
  · exact hh.elim
def strings_Builder_WriteString [DKc] (a1 : Option Addr) (a2 : ByteArray) (h : Heap) (K : Int → Value → Heap → Prop) : Prop := ∀ w : World, w.heap = h → (callFunc 47 #[(.pointer a1), (.string a2)]).run Tryd.prog w = .ok (.enter 47 #[(.pointer a1), (.string a2)]) w ∧ Calls Tryd.prog 47 #[(.pointer a1), (.string a2)] w fun e w' => ∃ v, e = .returned v ∧ Out w w' ∧ strings_Builder_WriteString.ret K v w'.heap
theorem strings_Builder_WriteString.calls [DKc] {a1 : Option Addr} {a2 : ByteArray} {h : Heap} {K : Int → Value → Heap → Prop} (hh : strings_Builder_WriteString a1 a2 h K) (w : World) (hw : w.heap = h) : (callFunc 47 #[(.pointer a1), (.string a2)]).run Tryd.prog w = .ok (.enter 47 #[(.pointer a1), (.string a2)]) w ∧ Calls Tryd.prog 47 #[(.pointer a1), (.string a2)] w fun e w' => ∃ v, e = .returned v ∧ Out w w' ∧ strings_Builder_WriteString.ret K v w'.heap := hh w hw

/-! ### (*strings.Builder).String: function 49, by its contract -/
def strings_Builder_String.ret (K : ByteArray → Heap → Prop) (v : Value) (h : Heap) : Prop := match v with
  | (.string r2) => K r2 h
  | _ => False
theorem strings_Builder_String.ret_elim {K : ByteArray → Heap → Prop} {K' : Value → Heap → Prop} {v : Value} {h : Heap} (hk : ∀ r2 h, K r2 h → K' (.string r2) h) (hh : strings_Builder_String.ret K v h) : K' v h := by
  unfold strings_Builder_String.ret at hh
  split at hh
  · exact hk _ _ hh
  · exact hh.elim
def strings_Builder_String [DKc] (a1 : Option Addr) (h : Heap) (K : ByteArray → Heap → Prop) : Prop := ∀ w : World, w.heap = h → (callFunc 49 #[(.pointer a1)]).run Tryd.prog w = .ok (.enter 49 #[(.pointer a1)]) w ∧ Calls Tryd.prog 49 #[(.pointer a1)] w fun e w' => ∃ v, e = .returned v ∧ Out w w' ∧ strings_Builder_String.ret K v w'.heap
theorem strings_Builder_String.calls [DKc] {a1 : Option Addr} {h : Heap} {K : ByteArray → Heap → Prop} (hh : strings_Builder_String a1 h K) (w : World) (hw : w.heap = h) : (callFunc 49 #[(.pointer a1)]).run Tryd.prog w = .ok (.enter 49 #[(.pointer a1)]) w ∧ Calls Tryd.prog 49 #[(.pointer a1)] w fun e w' => ∃ v, e = .returned v ∧ Out w w' ∧ strings_Builder_String.ret K v w'.heap := hh w hw

/-! ### strings.Join: function 46 -/
section
variable [DKc]
def strings_Join.b1 (K5 : Heap → Prop) (cont : ByteArray → Addr → (Option Addr) → Nat → Nat → Int → Int → Heap → Prop) (c1_2001 : ByteArray) (c8_2002 : Addr) (c63_2003 : Option Addr) (c63_2004 : Nat) (c63_2005 : Nat) (c64_2006 : Int) (v65_2007 : Int) (h2008 : Heap) : Prop :=
  (iteB (decide (v65_2007 < c64_2006)) ((chkP c63_2003 fun a2009 => (0 ≤ v65_2007 ∧ v65_2007 < (c63_2004 : Int)) ∧ ∃ (x2010 : ByteArray), cell h2008 (a2009.add (v65_2007.toNat * 1)) = some (.string x2010) ∧ (callP2 (strings_Builder_WriteString (some c8_2002) c1_2001 h2008) fun x2011 x2012 h2013 => (callP2 (strings_Builder_WriteString (some c8_2002) x2010 h2013) fun x2014 x2015 h2016 => ((cont c1_2001 c8_2002 c63_2003 c63_2004 c63_2005 c64_2006 (IntKind.i64.wrap (v65_2007 + 1)) h2016)))))) (K5 h2008))
def strings_Join.l1 (K5 : Heap → Prop) : Nat → ByteArray → Addr → (Option Addr) → Nat → Nat → Int → Int → Heap → Prop
  | 0, _, _, _, _, _, _, _, _ => False
  | m + 1, c1_2001, c8_2002, c63_2003, c63_2004, c63_2005, c64_2006, v65_2007, h => strings_Join.b1 K5 (strings_Join.l1 K5 m) c1_2001 c8_2002 c63_2003 c63_2004 c63_2005 c64_2006 v65_2007 h
def strings_Join.b0 (K3 : Int → Heap → Prop) (cont : (Option Addr) → Nat → Nat → ByteArray → Int → (Option Addr) → Nat → Nat → Int → Int → Heap → Prop) (c0_1001 : Option Addr) (c0_1002 : Nat) (c0_1003 : Nat) (c1_1004 : ByteArray) (v5_1005 : Int) (c39_1006 : Option Addr) (c39_1007 : Nat) (c39_1008 : Nat) (c40_1009 : Int) (v41_1010 : Int) (h1011 : Heap) : Prop :=
  (iteB (decide (v41_1010 < c40_1009)) ((chkP c39_1006 fun a1012 => (0 ≤ v41_1010 ∧ v41_1010 < (c39_1007 : Int)) ∧ ∃ (x1013 : ByteArray), cell h1011 (a1012.add (v41_1010.toNat * 1)) = some (.string x1013) ∧ (bindV (IntKind.i64.wrap (9223372036854775807 - v5_1005)) fun n1014 => (iteB (decide ((x1013.size : Int) > n1014)) (False) ((bindV (IntKind.i64.wrap (v5_1005 + (x1013.size : Int))) fun n1015 => ((cont c0_1001 c0_1002 c0_1003 c1_1004 n1015 c39_1006 c39_1007 c39_1008 c40_1009 (IntKind.i64.wrap (v41_1010 + 1)) h1011)))))))) (K3 v5_1005 h1011))
def strings_Join.l0 (K3 : Int → Heap → Prop) : Nat → (Option Addr) → Nat → Nat → ByteArray → Int → (Option Addr) → Nat → Nat → Int → Int → Heap → Prop
  | 0, _, _, _, _, _, _, _, _, _, _, _ => False
  | m + 1, c0_1001, c0_1002, c0_1003, c1_1004, v5_1005, c39_1006, c39_1007, c39_1008, c40_1009, v41_1010, h => strings_Join.b0 K3 (strings_Join.l0 K3 m) c0_1001 c0_1002 c0_1003 c1_1004 v5_1005 c39_1006 c39_1007 c39_1008 c40_1009 v41_1010 h
def strings_Join (a1 : Option Addr) (a1l : Nat) (a1c : Nat) (a2 : ByteArray) (h : Heap) (K : ByteArray → Heap → Prop) : Prop :=
  (((iteB ((a1l : Int) == (0 : Int)) ((K (⟨#[]⟩ : ByteArray) h)) ((iteB ((a1l : Int) == (1 : Int)) (chkP a1 fun a3 => (0 ≤ (0 : Int) ∧ (0 : Int) < (a1l : Int)) ∧ ∃ (x4 : ByteArray), cell h (a3.add ((0 : Int).toNat * 1)) = some (.string x4) ∧ K x4 h) ((((let j23 := (fun (y7 : Int) => (∃ m10, strings_Join.l0 (fun z8 h9 => ((newP h9 (.cells #[(.pointer none), (.slice none 0 0)] 75) fun a11 h12 => (callP0 (strings_Builder_Grow (some a11) z8 h12) fun h13 => (chkP a1 fun a14 => (0 ≤ (0 : Int) ∧ (0 : Int) < (a1l : Int)) ∧ ∃ (x15 : ByteArray), cell h13 (a14.add ((0 : Int).toNat * 1)) = some (.string x15) ∧ callP2 (strings_Builder_WriteString (some a11) x15 h13) fun x16 x17 h18 => ((0 ≤ (1 : Int) ∧ (1 : Int) ≤ (a1l : Int)) ∧ (∃ m20, strings_Join.l1 (fun h19 => ((callP1 (strings_Builder_String (some a11) h19) fun x21 h22 => K x21 h22))) m20 a2 a11 (if a1c = (1 : Int).toNat then a1 else a1.map (·.add ((1 : Int).toNat * 1))) (a1l - (1 : Int).toNat) (a1c - (1 : Int).toNat) (((a1l - (1 : Int).toNat) : Nat) : Int) 0 h18))))))) m10 a1 a1l a1c a2 y7 a1 a1l a1c (a1l : Int) 0 h));
  (iteB (decide ((a2.size : Int) > (0 : Int))) ((IntKind.i64.wrap ((a1l : Int) - 1)) ≠ 0 ∧ bindV (IntKind.i64.wrap ((9223372036854775807 : Int).tdiv (IntKind.i64.wrap ((a1l : Int) - 1)))) fun n5 => (iteB (decide ((a2.size : Int) ≥ n5)) (False) ((bindV (IntKind.i64.wrap ((a2.size : Int) * (IntKind.i64.wrap ((a1l : Int) - 1)))) fun n6 => (j23 (IntKind.i64.wrap (0 + n6))))))) ((j23 0))))))))))))
def strings_Join.ret (K : ByteArray → Heap → Prop) (v : Value) (h : Heap) : Prop := match v with
  | (.string r24) => K r24 h
  | _ => False
theorem strings_Join.ret_elim {K : ByteArray → Heap → Prop} {K' : Value → Heap → Prop} {v : Value} {h : Heap} (hk : ∀ r24 h, K r24 h → K' (.string r24) h) (hh : strings_Join.ret K v h) : K' v h := by
  unfold strings_Join.ret at hh
  split at hh
  · exact hk _ _ hh
  · exact hh.elim
def strings_Join.call (f : FuncId) (vs : List Value) (h : Heap) (K : Value → Heap → Prop) : Prop := match f, vs with
  | 47, [(.pointer a1), (.string a2)] => callP2 (strings_Builder_WriteString a1 a2 h) fun r3 r4 h' => K (.tuple #[(.int .i64 r3), r4]) h'
  | 49, [(.pointer a1)] => callP1 (strings_Builder_String a1 h) fun r2 h' => K (.string r2) h'
  | 63, [(.pointer a1), (.int .i64 a2)] => callP0 (strings_Builder_Grow a1 a2 h) fun h' => K (.tuple #[]) h'
  | _, _ => False
def strings_Join.r0 (K : Nat → List Value → Heap → Prop) (m : Nat) (vs : List Value) (h : Heap) : Prop := match vs with
  | [(.slice c0_1001 c0_1002 c0_1003), (.string c1_1004), (.int .i64 v5_1005), (.slice c39_1006 c39_1007 c39_1008), (.int .i64 c40_1009), (.int .i64 v41_1010)] => strings_Join.l0 (fun z25 h' => K 3 [(.slice c0_1001 c0_1002 c0_1003), (.string c1_1004), (.int .i64 z25)] h') m c0_1001 c0_1002 c0_1003 c1_1004 v5_1005 c39_1006 c39_1007 c39_1008 c40_1009 v41_1010 h
  | _ => False
def strings_Join.r1 (K : Nat → List Value → Heap → Prop) (m : Nat) (vs : List Value) (h : Heap) : Prop := match vs with
  | [(.string c1_2001), (.pointer (some c8_2002)), (.slice c63_2003 c63_2004 c63_2005), (.int .i64 c64_2006), (.int .i64 v65_2007)] => strings_Join.l1 (fun h' => K 5 [(.pointer (some c8_2002))] h') m c1_2001 c8_2002 c63_2003 c63_2004 c63_2005 c64_2006 v65_2007 h
  | _ => False
def strings_Join.loop (i : Nat) (vs : List Value) (h : Heap) (K : Nat → List Value → Heap → Prop) : Prop := match i with
  | 0 => ∃ m, strings_Join.r0 K m vs h
  | 1 => ∃ m, strings_Join.r1 K m vs h
  | _ => False
noncomputable def strings_Join.ctx : Ctx := { P := Tryd.prog, call := strings_Join.call, qcall := fun _ _ _ _ => False, quiet := fun f => Nat.beq f 2000073, loop := strings_Join.loop }
theorem strings_Join.ok : strings_Join.ctx.OK where
  mixed := by kernel_rfl
  mono := by
    intro f args h K K' hh hk
    change strings_Join.call f args h K at hh
    change strings_Join.call f args h K'
    unfold strings_Join.call at hh ⊢
    split at hh
    · obtain ⟨R, h1, h2⟩ := hh
      exact ⟨R, h1, fun _ _ x hr => hk _ _ (h2 _ _ x hr)⟩
    · obtain ⟨R, h1, h2⟩ := hh
      exact ⟨R, h1, fun _ x hr => hk _ _ (h2 _ x hr)⟩
    · obtain ⟨R, h1, h2⟩ := hh
      exact ⟨R, h1, fun x hr => hk _ _ (h2 x hr)⟩
    · exact hh.elim
  call := by
    intro f args h K hh w hw
    change strings_Join.call f args h K at hh
    unfold strings_Join.call at hh
    split at hh
    · obtain ⟨R, h1, h2⟩ := hh
      obtain ⟨g1, g2⟩ := strings_Builder_WriteString.calls h1 w hw
      exact ⟨g1, g2.mono fun e w' ⟨v, he, ho, hr⟩ => ⟨v, he, ho, strings_Builder_WriteString.ret_elim h2 hr⟩⟩
    · obtain ⟨R, h1, h2⟩ := hh
      obtain ⟨g1, g2⟩ := strings_Builder_String.calls h1 w hw
      exact ⟨g1, g2.mono fun e w' ⟨v, he, ho, hr⟩ => ⟨v, he, ho, strings_Builder_String.ret_elim h2 hr⟩⟩
    · obtain ⟨R, h1, h2⟩ := hh
      obtain ⟨g1, g2⟩ := strings_Builder_Grow.calls h1 w hw
      exact ⟨g1, g2.mono fun e w' ⟨v, he, ho, hr⟩ => ⟨v, he, ho, strings_Builder_Grow.ret_elim h2 hr⟩⟩
    · exact hh.elim
  qmono := fun hh _ => hh.elim
  qval := fun hh => hh.elim
  qcall := fun hh => hh.elim
noncomputable def strings_Join.code : Code := (Tryd.f46.body).getD .skip
def strings_Join.ann : Ann := (.two .auto (.two .auto (.two .auto (.two .auto (.two (.two .auto (.two (.loop 0 [0, 1, 5, 39, 40, 41] [(3, [0, 1, 5])] .auto) .auto)) (.two .auto (.two .auto (.two .auto (.two (.two .auto (.two (.loop 1 [1, 8, 63, 64, 65] [(5, [8])] .auto) .auto)) .auto)))))))))
noncomputable def strings_Join.c1 : Code := sub strings_Join.code [1, 1, 1, 1, 1, 1, 1, 1, 0, 1, 0, 0]
def strings_Join.a1 : Ann := .auto
def strings_Join.keep1 : List Nat := [1, 8, 63, 64, 65]
def strings_Join.outs1 : List (Nat × List Nat) := [(5, [8])]
noncomputable def strings_Join.c0 : Code := sub strings_Join.code [1, 1, 1, 1, 0, 1, 0, 0]
def strings_Join.a0 : Ann := .auto
def strings_Join.keep0 : List Nat := [0, 1, 5, 39, 40, 41]
def strings_Join.outs0 : List (Nat × List Nat) := [(3, [0, 1, 5])]
set_option maxRecDepth 100000 in
theorem strings_Join.L0 : LoopOK strings_Join.ctx 75 strings_Join.c0 0 strings_Join.keep0 strings_Join.outs0 := by
  refine loop_ok (n := strings_Join.a0) strings_Join.ok (by kernel_rfl) (loops_ok (l := []) (by kernel_rfl) ?_) strings_Join.r0 ?_ ?_ (fun vs h K hh => hh)
  · exact trivial
  · intro K vs h hh
    unfold strings_Join.r0 at hh
    split at hh
    · exact hh
    · exact hh
  · intro K m vs h hh
    unfold strings_Join.r0 at hh
    split at hh
    · exact cast (by kernel_rfl) hh
    · exact hh.elim
set_option maxRecDepth 100000 in
theorem strings_Join.L1 : LoopOK strings_Join.ctx 75 strings_Join.c1 1 strings_Join.keep1 strings_Join.outs1 := by
  refine loop_ok (n := strings_Join.a1) strings_Join.ok (by kernel_rfl) (loops_ok (l := []) (by kernel_rfl) ?_) strings_Join.r1 ?_ ?_ (fun vs h K hh => hh)
  · exact trivial
  · intro K vs h hh
    unfold strings_Join.r1 at hh
    split at hh
    · exact hh
    · exact hh
  · intro K m vs h hh
    unfold strings_Join.r1 at hh
    split at hh
    · exact cast (by kernel_rfl) hh
    · exact hh.elim
set_option maxRecDepth 100000 in
theorem strings_Join.eq (a1 : Option Addr) (a1l : Nat) (a1c : Nat) (a2 : ByteArray) (h : Heap) (K : ByteArray → Heap → Prop) : evF strings_Join.ctx Tryd.f46 strings_Join.ann [(.slice a1 a1l a1c), (.string a2)] h (strings_Join.ret K) = strings_Join a1 a1l a1c a2 h K := by kernel_rfl
set_option maxRecDepth 100000 in
theorem strings_Join.calls {a1 : Option Addr} {a1l : Nat} {a1c : Nat} {a2 : ByteArray} {h : Heap} {K : ByteArray → Heap → Prop} (hh : strings_Join a1 a1l a1c a2 h K) (w : World) (hw : w.heap = h) :
    (callFunc 46 #[(.slice a1 a1l a1c), (.string a2)]).run Tryd.prog w = .ok (.enter 46 #[(.slice a1 a1l a1c), (.string a2)]) w ∧ Calls Tryd.prog 46 #[(.slice a1 a1l a1c), (.string a2)] w fun e w' => ∃ v, e = .returned v ∧ Out w w' ∧ strings_Join.ret K v w'.heap := by
  rw [← strings_Join.eq] at hh
  exact fn_calls (args := [(.slice a1 a1l a1c), (.string a2)]) (c := strings_Join.code) strings_Join.ok Tryd.func46 (by kernel_rfl) (by kernel_rfl) (by kernel_rfl) (by kernel_rfl) (loops_ok (l := [(strings_Join.c0, none, 0, strings_Join.keep0, strings_Join.outs0), (strings_Join.c1, none, 1, strings_Join.keep1, strings_Join.outs1)]) (by kernel_rfl) ⟨strings_Join.L0, strings_Join.L1, trivial⟩) hh w hw
end

/-! ### strait/word.Line: function 19 -/
section
variable [DKc]
def word_Line.b0 (K0 : ByteArray → Bool → Heap → Prop) (K2 : Heap → Prop) (cont : (Option Addr) → Nat → Nat → (Option Addr) → Nat → Nat → Int → Int → Heap → Prop) (c0_1001 : Option Addr) (c0_1002 : Nat) (c0_1003 : Nat) (c6_1004 : Option Addr) (c6_1005 : Nat) (c6_1006 : Nat) (c7_1007 : Int) (v8_1008 : Int) (h1009 : Heap) : Prop :=
  (iteB (decide (v8_1008 < c7_1007)) ((chkP c6_1004 fun a1010 => (0 ≤ v8_1008 ∧ v8_1008 < (c6_1005 : Int)) ∧ ∃ (x1011 : ByteArray), cell h1009 (a1010.add (v8_1008.toNat * 1)) = some (.string x1011) ∧ (callP1 (word_right x1011 h1009) fun x1012 h1013 => (iteB (!x1012) ((K0 (⟨#[]⟩ : ByteArray) false h1013)) (((cont c0_1001 c0_1002 c0_1003 c6_1004 c6_1005 c6_1006 c7_1007 (IntKind.i64.wrap (v8_1008 + 1)) h1013))))))) (K2 h1009))
def word_Line.l0 (K0 : ByteArray → Bool → Heap → Prop) (K2 : Heap → Prop) : Nat → (Option Addr) → Nat → Nat → (Option Addr) → Nat → Nat → Int → Int → Heap → Prop
  | 0, _, _, _, _, _, _, _, _, _ => False
  | m + 1, c0_1001, c0_1002, c0_1003, c6_1004, c6_1005, c6_1006, c7_1007, v8_1008, h => word_Line.b0 K0 K2 (word_Line.l0 K0 K2 m) c0_1001 c0_1002 c0_1003 c6_1004 c6_1005 c6_1006 c7_1007 v8_1008 h
def word_Line (a1 : Option Addr) (a1l : Nat) (a1c : Nat) (h : Heap) (K : ByteArray → Bool → Heap → Prop) : Prop :=
  ((∃ m6, word_Line.l0 (fun z2 z3 h4 => K z2 z3 h4) (fun h5 => ((callP1 (strings_Join a1 a1l a1c (⟨#[32]⟩ : ByteArray) h5) fun x7 h8 => K x7 true h8))) m6 a1 a1l a1c a1 a1l a1c (a1l : Int) 0 h))
def word_Line.ret (K : ByteArray → Bool → Heap → Prop) (v : Value) (h : Heap) : Prop := match v with
  | (.tuple ⟨[(.string r9), (.bool r10)]⟩) => K r9 r10 h
  | _ => False
theorem word_Line.ret_elim {K : ByteArray → Bool → Heap → Prop} {K' : Value → Heap → Prop} {v : Value} {h : Heap} (hk : ∀ r9 r10 h, K r9 r10 h → K' (.tuple #[(.string r9), (.bool r10)]) h) (hh : word_Line.ret K v h) : K' v h := by
  unfold word_Line.ret at hh
  split at hh
  · exact hk _ _ _ hh
  · exact hh.elim
def word_Line.call (f : FuncId) (vs : List Value) (h : Heap) (K : Value → Heap → Prop) : Prop := match f, vs with
  | 40, [(.string a1)] => callP1 (word_right a1 h) fun r6 h' => K (.bool r6) h'
  | 46, [(.slice a1 a1l a1c), (.string a2)] => callP1 (strings_Join a1 a1l a1c a2 h) fun r24 h' => K (.string r24) h'
  | _, _ => False
def word_Line.r0 (K : Nat → List Value → Heap → Prop) (m : Nat) (vs : List Value) (h : Heap) : Prop := match vs with
  | [(.slice c0_1001 c0_1002 c0_1003), (.slice c6_1004 c6_1005 c6_1006), (.int .i64 c7_1007), (.int .i64 v8_1008)] => word_Line.l0 (fun z11 z12 h' => K 0 [(.string z11), (.bool z12)] h') (fun h' => K 2 [(.slice c0_1001 c0_1002 c0_1003)] h') m c0_1001 c0_1002 c0_1003 c6_1004 c6_1005 c6_1006 c7_1007 v8_1008 h
  | _ => False
def word_Line.loop (i : Nat) (vs : List Value) (h : Heap) (K : Nat → List Value → Heap → Prop) : Prop := match i with
  | 0 => ∃ m, word_Line.r0 K m vs h
  | _ => False
noncomputable def word_Line.ctx : Ctx := { P := Tryd.prog, call := word_Line.call, qcall := fun _ _ _ _ => False, quiet := fun f => Nat.beq f 2000073, loop := word_Line.loop }
theorem word_Line.ok : word_Line.ctx.OK where
  mixed := by kernel_rfl
  mono := by
    intro f args h K K' hh hk
    change word_Line.call f args h K at hh
    change word_Line.call f args h K'
    unfold word_Line.call at hh ⊢
    split at hh
    · obtain ⟨R, h1, h2⟩ := hh
      exact ⟨R, h1, fun _ x hr => hk _ _ (h2 _ x hr)⟩
    · obtain ⟨R, h1, h2⟩ := hh
      exact ⟨R, h1, fun _ x hr => hk _ _ (h2 _ x hr)⟩
    · exact hh.elim
  call := by
    intro f args h K hh w hw
    change word_Line.call f args h K at hh
    unfold word_Line.call at hh
    split at hh
    · obtain ⟨R, h1, h2⟩ := hh
      obtain ⟨g1, g2⟩ := word_right.calls h1 w hw
      exact ⟨g1, g2.mono fun e w' ⟨v, he, ho, hr⟩ => ⟨v, he, ho, word_right.ret_elim h2 hr⟩⟩
    · obtain ⟨R, h1, h2⟩ := hh
      obtain ⟨g1, g2⟩ := strings_Join.calls h1 w hw
      exact ⟨g1, g2.mono fun e w' ⟨v, he, ho, hr⟩ => ⟨v, he, ho, strings_Join.ret_elim h2 hr⟩⟩
    · exact hh.elim
  qmono := fun hh _ => hh.elim
  qval := fun hh => hh.elim
  qcall := fun hh => hh.elim
noncomputable def word_Line.code : Code := (Tryd.f19.body).getD .skip
def word_Line.ann : Ann := (.two .auto (.two (.two .auto (.two (.loop 0 [0, 6, 7, 8] [(2, [0]), (0, [2, 3])] .auto) .auto)) .auto))
noncomputable def word_Line.c0 : Code := sub word_Line.code [1, 0, 1, 0, 0]
def word_Line.a0 : Ann := .auto
def word_Line.keep0 : List Nat := [0, 6, 7, 8]
def word_Line.outs0 : List (Nat × List Nat) := [(2, [0]), (0, [2, 3])]
set_option maxRecDepth 100000 in
theorem word_Line.L0 : LoopOK word_Line.ctx 18 word_Line.c0 0 word_Line.keep0 word_Line.outs0 := by
  refine loop_ok (n := word_Line.a0) word_Line.ok (by kernel_rfl) (loops_ok (l := []) (by kernel_rfl) ?_) word_Line.r0 ?_ ?_ (fun vs h K hh => hh)
  · exact trivial
  · intro K vs h hh
    unfold word_Line.r0 at hh
    split at hh
    · exact hh
    · exact hh
  · intro K m vs h hh
    unfold word_Line.r0 at hh
    split at hh
    · exact cast (by kernel_rfl) hh
    · exact hh.elim
set_option maxRecDepth 100000 in
theorem word_Line.eq (a1 : Option Addr) (a1l : Nat) (a1c : Nat) (h : Heap) (K : ByteArray → Bool → Heap → Prop) : evF word_Line.ctx Tryd.f19 word_Line.ann [(.slice a1 a1l a1c)] h (word_Line.ret K) = word_Line a1 a1l a1c h K := by kernel_rfl
set_option maxRecDepth 100000 in
theorem word_Line.calls {a1 : Option Addr} {a1l : Nat} {a1c : Nat} {h : Heap} {K : ByteArray → Bool → Heap → Prop} (hh : word_Line a1 a1l a1c h K) (w : World) (hw : w.heap = h) :
    (callFunc 19 #[(.slice a1 a1l a1c)]).run Tryd.prog w = .ok (.enter 19 #[(.slice a1 a1l a1c)]) w ∧ Calls Tryd.prog 19 #[(.slice a1 a1l a1c)] w fun e w' => ∃ v, e = .returned v ∧ Out w w' ∧ word_Line.ret K v w'.heap := by
  rw [← word_Line.eq] at hh
  exact fn_calls (args := [(.slice a1 a1l a1c)]) (c := word_Line.code) word_Line.ok Tryd.func19 (by kernel_rfl) (by kernel_rfl) (by kernel_rfl) (by kernel_rfl) (loops_ok (l := [(word_Line.c0, none, 0, word_Line.keep0, word_Line.outs0)]) (by kernel_rfl) ⟨word_Line.L0, trivial⟩) hh w hw
end

/-! ### strait/straitlaw07.WordBack: function 4 -/
section
variable [DKc]
def straitlaw07_WordBack.b0 (K2 : Int → Heap → Prop) (cont : (Option Addr) → Nat → Nat → ByteArray → Int → Int → Heap → Prop) (c0_1001 : Option Addr) (c0_1002 : Nat) (c0_1003 : Nat) (c1_1004 : ByteArray) (v5_1005 : Int) (v6_1006 : Int) (h1007 : Heap) : Prop :=
  let j1012 : Prop := (chkP c0_1001 fun a1009 => (0 ≤ v6_1006 ∧ v6_1006 < (c0_1002 : Int)) ∧ ∃ (x1010 : ByteArray), cell h1007 (a1009.add (v6_1006.toNat * 1)) = some (.string x1010) ∧ bindV (if 2001 < (x1010.size : Int) then 2001 else (x1010.size : Int)) fun n1011 => ((cont c0_1001 c0_1002 c0_1003 c1_1004 (IntKind.i64.wrap (v5_1005 + n1011)) (IntKind.i64.wrap (v6_1006 + 1)) h1007)));
  iteB (decide (v6_1006 < (c0_1002 : Int))) ((iteB (decide (v6_1006 < (101 : Int))) ((j1012)) (K2 v5_1005 h1007))) (K2 v5_1005 h1007)
def straitlaw07_WordBack.l0 (K2 : Int → Heap → Prop) : Nat → (Option Addr) → Nat → Nat → ByteArray → Int → Int → Heap → Prop
  | 0, _, _, _, _, _, _, _ => False
  | m + 1, c0_1001, c0_1002, c0_1003, c1_1004, v5_1005, v6_1006, h => straitlaw07_WordBack.b0 K2 (straitlaw07_WordBack.l0 K2 m) c0_1001 c0_1002 c0_1003 c1_1004 v5_1005 v6_1006 h
def straitlaw07_WordBack (a1 : Option Addr) (a1l : Nat) (a1c : Nat) (a2 : ByteArray) (h : Heap) (K : Bool → Heap → Prop) : Prop :=
  (((∃ m5, straitlaw07_WordBack.l0 (fun z3 h4 => ((let j48 : Prop := (let j47 := (fun (h30 : Heap) => callP4 (word_Words a2 h30) fun x31 x31l x31c x32 h33 => (callP2 (word_Line x31 x31l x31c h33) fun x34 x35 h36 => (iteB (!x32) (iteB x32 (callP1 (straitlaw07_awake h36) fun x37 h38 => K x37 h38) (iteB ((x31l : Int) == (0 : Int)) (callP1 (straitlaw07_awake h36) fun x39 h40 => K x39 h40) (K false h36))) (iteB x35 (iteB (x34.toList == a2.toList) (iteB x32 (callP1 (straitlaw07_awake h36) fun x41 h42 => K x41 h42) (iteB ((x31l : Int) == (0 : Int)) (callP1 (straitlaw07_awake h36) fun x43 h44 => K x43 h44) (K false h36))) (K false h36)) (K false h36)))));
  callP2 (word_Line a1 a1l a1c h4) fun x15 x16 h17 => ((iteB x16 (callP4 (word_Words x15 h17) fun x18 x18l x18c x19 h20 => ((((x15.size + (⟨#[10]⟩ : ByteArray).size : Nat) : Int) ≤ 9223372036854775807) ∧ ((((x15 ++ (⟨#[10]⟩ : ByteArray)).size + x15.size : Nat) : Int) ≤ 9223372036854775807) ∧ (((((x15 ++ (⟨#[10]⟩ : ByteArray)) ++ x15).size + (⟨#[10]⟩ : ByteArray).size : Nat) : Int) ≤ 9223372036854775807) ∧ callP4 (word_Lines (((x15 ++ (⟨#[10]⟩ : ByteArray)) ++ x15) ++ (⟨#[10]⟩ : ByteArray)) h20) fun x21 x21l x21c x22 h23 => (iteB (!x19) (K false h23) (qcallP1 h23 (straitref07_Same x18 x18l x18c a1 a1l a1c h23) fun x24 => iteB (!x24) (K false h23) (iteB (!x22) (K false h23) (newP h23 (.cells #[(.string x15), (.string x15)] 9) fun a25 h26 => qcallP1 h26 (straitref07_Same x21 x21l x21c (some a25) 2 2 h26) fun x27 => (iteB (!x27) (K false h26) ((j47 h26))))))))) ((j47 h17)))));
  iteB (decide ((a1l : Int) > (100 : Int))) ((callP1 (straitlaw07_awake h4) fun x9 h10 => K x9 h10)) (iteB (decide (z3 > (2000 : Int))) ((callP1 (straitlaw07_awake h4) fun x11 h12 => K x11 h12)) ((iteB (decide ((a2.size : Int) > (2000 : Int))) (callP1 (straitlaw07_awake h4) fun x13 h14 => K x13 h14) ((j48)))))))) m5 a1 a1l a1c a2 0 0 h)))
def straitlaw07_WordBack.ret (K : Bool → Heap → Prop) (v : Value) (h : Heap) : Prop := match v with
  | (.bool r49) => K r49 h
  | _ => False
theorem straitlaw07_WordBack.ret_elim {K : Bool → Heap → Prop} {K' : Value → Heap → Prop} {v : Value} {h : Heap} (hk : ∀ r49 h, K r49 h → K' (.bool r49) h) (hh : straitlaw07_WordBack.ret K v h) : K' v h := by
  unfold straitlaw07_WordBack.ret at hh
  split at hh
  · exact hk _ _ hh
  · exact hh.elim
def straitlaw07_WordBack.call (f : FuncId) (vs : List Value) (h : Heap) (K : Value → Heap → Prop) : Prop := match f, vs with
  | 9, [] => callP1 (straitlaw07_awake h) fun r15 h' => K (.bool r15) h'
  | 10, [(.string a1)] => callP4 (word_Lines a1 h) fun r10 r10l r10c r11 h' => K (.tuple #[(.slice r10 r10l r10c), (.bool r11)]) h'
  | 11, [(.string a1)] => callP4 (word_Words a1 h) fun r6 r6l r6c r7 h' => K (.tuple #[(.slice r6 r6l r6c), (.bool r7)]) h'
  | 19, [(.slice a1 a1l a1c)] => callP2 (word_Line a1 a1l a1c h) fun r9 r10 h' => K (.tuple #[(.string r9), (.bool r10)]) h'
  | _, _ => False
def straitlaw07_WordBack.qcall (f : FuncId) (vs : List Value) (h : Heap) (K : Value → Prop) : Prop := match f, vs with
  | 20, [(.slice a1 a1l a1c), (.slice a2 a2l a2c)] => qcallP1 h (straitref07_Same a1 a1l a1c a2 a2l a2c h) fun r7 => K (.bool r7)
  | _, _ => False
def straitlaw07_WordBack.r0 (K : Nat → List Value → Heap → Prop) (m : Nat) (vs : List Value) (h : Heap) : Prop := match vs with
  | [(.slice c0_1001 c0_1002 c0_1003), (.string c1_1004), (.int .i64 v5_1005), (.int .i64 v6_1006)] => straitlaw07_WordBack.l0 (fun z50 h' => K 2 [(.slice c0_1001 c0_1002 c0_1003), (.string c1_1004), (.int .i64 z50)] h') m c0_1001 c0_1002 c0_1003 c1_1004 v5_1005 v6_1006 h
  | _ => False
def straitlaw07_WordBack.loop (i : Nat) (vs : List Value) (h : Heap) (K : Nat → List Value → Heap → Prop) : Prop := match i with
  | 0 => ∃ m, straitlaw07_WordBack.r0 K m vs h
  | _ => False
noncomputable def straitlaw07_WordBack.ctx : Ctx := { P := Tryd.prog, call := straitlaw07_WordBack.call, qcall := straitlaw07_WordBack.qcall, quiet := fun f => Nat.beq f 20 || Nat.beq f 2000073, loop := straitlaw07_WordBack.loop }
theorem straitlaw07_WordBack.ok : straitlaw07_WordBack.ctx.OK where
  mixed := by kernel_rfl
  mono := by
    intro f args h K K' hh hk
    change straitlaw07_WordBack.call f args h K at hh
    change straitlaw07_WordBack.call f args h K'
    unfold straitlaw07_WordBack.call at hh ⊢
    split at hh
    · obtain ⟨R, h1, h2⟩ := hh
      exact ⟨R, h1, fun _ x hr => hk _ _ (h2 _ x hr)⟩
    · obtain ⟨R, h1, h2⟩ := hh
      exact ⟨R, h1, fun _ _ _ _ x hr => hk _ _ (h2 _ _ _ _ x hr)⟩
    · obtain ⟨R, h1, h2⟩ := hh
      exact ⟨R, h1, fun _ _ _ _ x hr => hk _ _ (h2 _ _ _ _ x hr)⟩
    · obtain ⟨R, h1, h2⟩ := hh
      exact ⟨R, h1, fun _ _ x hr => hk _ _ (h2 _ _ x hr)⟩
    · exact hh.elim
  call := by
    intro f args h K hh w hw
    change straitlaw07_WordBack.call f args h K at hh
    unfold straitlaw07_WordBack.call at hh
    split at hh
    · obtain ⟨R, h1, h2⟩ := hh
      obtain ⟨g1, g2⟩ := straitlaw07_awake.calls h1 w hw
      exact ⟨g1, g2.mono fun e w' ⟨v, he, ho, hr⟩ => ⟨v, he, ho, straitlaw07_awake.ret_elim h2 hr⟩⟩
    · obtain ⟨R, h1, h2⟩ := hh
      obtain ⟨g1, g2⟩ := word_Lines.calls h1 w hw
      exact ⟨g1, g2.mono fun e w' ⟨v, he, ho, hr⟩ => ⟨v, he, ho, word_Lines.ret_elim h2 hr⟩⟩
    · obtain ⟨R, h1, h2⟩ := hh
      obtain ⟨g1, g2⟩ := word_Words.calls h1 w hw
      exact ⟨g1, g2.mono fun e w' ⟨v, he, ho, hr⟩ => ⟨v, he, ho, word_Words.ret_elim h2 hr⟩⟩
    · obtain ⟨R, h1, h2⟩ := hh
      obtain ⟨g1, g2⟩ := word_Line.calls h1 w hw
      exact ⟨g1, g2.mono fun e w' ⟨v, he, ho, hr⟩ => ⟨v, he, ho, word_Line.ret_elim h2 hr⟩⟩
    · exact hh.elim
  qmono := by
    intro f args h K K' hh hk
    change straitlaw07_WordBack.qcall f args h K at hh
    change straitlaw07_WordBack.qcall f args h K'
    unfold straitlaw07_WordBack.qcall at hh ⊢
    split at hh
    · obtain ⟨x0, h1, h2⟩ := hh
      exact ⟨x0, h1, hk _ h2⟩
    · exact hh.elim
  qval := by
    intro f args h K hh
    change straitlaw07_WordBack.qcall f args h K at hh
    suffices H : ∃ v, K v ∧ straitlaw07_WordBack.qcall f args h (· = v) from H
    unfold straitlaw07_WordBack.qcall at hh ⊢
    split at hh
    · obtain ⟨x0, h1, h2⟩ := hh
      exact ⟨_, h2, x0, h1, rfl⟩
    · exact hh.elim
  qcall := by
    intro f args h v hh w hw
    change straitlaw07_WordBack.qcall f args h (· = v) at hh
    unfold straitlaw07_WordBack.qcall at hh
    split at hh
    · obtain ⟨x0, h1, h2⟩ := hh
      obtain ⟨g1, g2⟩ := straitref07_Same.calls h1 w hw
      refine .inl ⟨g1, g2.mono fun e w' ⟨u, he, ho, hr⟩ => ?_⟩
      have hq := straitref07_Same.ret_elim (K' := fun u h' => u = v ∧ h' = h) (fun _ h' hr => by obtain ⟨rfl, rfl⟩ := hr; exact ⟨h2, rfl⟩) hr
      exact ⟨hq.1 ▸ he, ho, hq.2⟩
    · exact hh.elim
noncomputable def straitlaw07_WordBack.code : Code := (Tryd.f4.body).getD .skip
def straitlaw07_WordBack.ann : Ann := (.two .auto (.two .auto (.two (.two .auto (.two (.loop 0 [0, 1, 5, 6] [(2, [0, 1, 5])] .auto) .auto)) .auto)))
noncomputable def straitlaw07_WordBack.c0 : Code := sub straitlaw07_WordBack.code [1, 1, 0, 1, 0, 0]
def straitlaw07_WordBack.a0 : Ann := .auto
def straitlaw07_WordBack.keep0 : List Nat := [0, 1, 5, 6]
def straitlaw07_WordBack.outs0 : List (Nat × List Nat) := [(2, [0, 1, 5])]
set_option maxRecDepth 100000 in
theorem straitlaw07_WordBack.L0 : LoopOK straitlaw07_WordBack.ctx 119 straitlaw07_WordBack.c0 0 straitlaw07_WordBack.keep0 straitlaw07_WordBack.outs0 := by
  refine loop_ok (n := straitlaw07_WordBack.a0) straitlaw07_WordBack.ok (by kernel_rfl) (loops_ok (l := []) (by kernel_rfl) ?_) straitlaw07_WordBack.r0 ?_ ?_ (fun vs h K hh => hh)
  · exact trivial
  · intro K vs h hh
    unfold straitlaw07_WordBack.r0 at hh
    split at hh
    · exact hh
    · exact hh
  · intro K m vs h hh
    unfold straitlaw07_WordBack.r0 at hh
    split at hh
    · exact cast (by kernel_rfl) hh
    · exact hh.elim
set_option maxRecDepth 100000 in
theorem straitlaw07_WordBack.eq (a1 : Option Addr) (a1l : Nat) (a1c : Nat) (a2 : ByteArray) (h : Heap) (K : Bool → Heap → Prop) : evF straitlaw07_WordBack.ctx Tryd.f4 straitlaw07_WordBack.ann [(.slice a1 a1l a1c), (.string a2)] h (straitlaw07_WordBack.ret K) = straitlaw07_WordBack a1 a1l a1c a2 h K := by kernel_rfl
set_option maxRecDepth 100000 in
theorem straitlaw07_WordBack.calls {a1 : Option Addr} {a1l : Nat} {a1c : Nat} {a2 : ByteArray} {h : Heap} {K : Bool → Heap → Prop} (hh : straitlaw07_WordBack a1 a1l a1c a2 h K) (w : World) (hw : w.heap = h) :
    (callFunc 4 #[(.slice a1 a1l a1c), (.string a2)]).run Tryd.prog w = .ok (.enter 4 #[(.slice a1 a1l a1c), (.string a2)]) w ∧ Calls Tryd.prog 4 #[(.slice a1 a1l a1c), (.string a2)] w fun e w' => ∃ v, e = .returned v ∧ Out w w' ∧ straitlaw07_WordBack.ret K v w'.heap := by
  rw [← straitlaw07_WordBack.eq] at hh
  exact fn_calls (args := [(.slice a1 a1l a1c), (.string a2)]) (c := straitlaw07_WordBack.code) straitlaw07_WordBack.ok Tryd.func4 (by kernel_rfl) (by kernel_rfl) (by kernel_rfl) (by kernel_rfl) (loops_ok (l := [(straitlaw07_WordBack.c0, none, 0, straitlaw07_WordBack.keep0, straitlaw07_WordBack.outs0)]) (by kernel_rfl) ⟨straitlaw07_WordBack.L0, trivial⟩) hh w hw
end

/-! ### strait/straitref07.Line: function 21 -/
def straitref07_Line.b0 (K0 : Heap → Prop) (K2 : ByteArray → Heap → Prop) (cont : (Option Addr) → Nat → Nat → Addr → ByteArray → Int → Heap → Prop) (c0_1001 : Option Addr) (c0_1002 : Nat) (c0_1003 : Nat) (c2_1004 : Addr) (v3_1005 : ByteArray) (v4_1006 : Int) (h1007 : Heap) : Prop :=
  (iteB (decide (v4_1006 < (c0_1002 : Int))) ((chkP c0_1001 fun a1008 => (0 ≤ v4_1006 ∧ v4_1006 < (c0_1002 : Int)) ∧ ∃ (x1009 : ByteArray), cell h1007 (a1008.add (v4_1006.toNat * 1)) = some (.string x1009) ∧ qcallP1 h1007 (straitref07_word x1009 h1007) fun x1010 => (iteB (!x1010) (stC h1007 c2_1004 (.string (⟨#[]⟩ : ByteArray)) fun h1011 => stC h1011 (c2_1004.add 1) (.bool false) fun h1012 => K0 h1012) (((iteB (decide (v4_1006 > (0 : Int))) ((((v3_1005.size + (⟨#[32]⟩ : ByteArray).size : Nat) : Int) ≤ 9223372036854775807) ∧ (chkP c0_1001 fun a1016 => (0 ≤ v4_1006 ∧ v4_1006 < (c0_1002 : Int)) ∧ ∃ (x1017 : ByteArray), cell h1007 (a1016.add (v4_1006.toNat * 1)) = some (.string x1017) ∧ ((((v3_1005 ++ (⟨#[32]⟩ : ByteArray)).size + x1017.size : Nat) : Int) ≤ 9223372036854775807) ∧ ((cont c0_1001 c0_1002 c0_1003 c2_1004 ((v3_1005 ++ (⟨#[32]⟩ : ByteArray)) ++ x1017) (IntKind.i64.wrap (v4_1006 + 1)) h1007)))) ((chkP c0_1001 fun a1018 => (0 ≤ v4_1006 ∧ v4_1006 < (c0_1002 : Int)) ∧ ∃ (x1019 : ByteArray), cell h1007 (a1018.add (v4_1006.toNat * 1)) = some (.string x1019) ∧ (((v3_1005.size + x1019.size : Nat) : Int) ≤ 9223372036854775807) ∧ ((cont c0_1001 c0_1002 c0_1003 c2_1004 (v3_1005 ++ x1019) (IntKind.i64.wrap (v4_1006 + 1)) h1007)))))))))) (K2 v3_1005 h1007))
def straitref07_Line.l0 (K0 : Heap → Prop) (K2 : ByteArray → Heap → Prop) : Nat → (Option Addr) → Nat → Nat → Addr → ByteArray → Int → Heap → Prop
  | 0, _, _, _, _, _, _, _ => False
  | m + 1, c0_1001, c0_1002, c0_1003, c2_1004, v3_1005, v4_1006, h => straitref07_Line.b0 K0 K2 (straitref07_Line.l0 K0 K2 m) c0_1001 c0_1002 c0_1003 c2_1004 v3_1005 v4_1006 h
def straitref07_Line (a1 : Option Addr) (a1l : Nat) (a1c : Nat) (h : Heap) (K : ByteArray → Bool → Heap → Prop) : Prop :=
  newP h (.cells #[(.string (⟨#[]⟩ : ByteArray)), (.bool false)] 39) fun a2 h3 => (((∃ m9, straitref07_Line.l0 (fun h4 => ∃ (x5 : ByteArray), cell h4 a2 = some (.string x5) ∧ ∃ (x6 : Bool), cell h4 (a2.add 1) = some (.bool x6) ∧ K x5 x6 h4) (fun z7 h8 => ((stC h8 a2 (.string z7) fun h10 => stC h10 (a2.add 1) (.bool true) fun h11 => (∃ (x12 : ByteArray), cell h11 a2 = some (.string x12) ∧ ∃ (x13 : Bool), cell h11 (a2.add 1) = some (.bool x13) ∧ K x12 x13 h11)))) m9 a1 a1l a1c a2 (⟨#[]⟩ : ByteArray) 0 h3)))
def straitref07_Line.ret (K : ByteArray → Bool → Heap → Prop) (v : Value) (h : Heap) : Prop := match v with
  | (.agg ⟨[(.string r14), (.bool r15)]⟩) => K r14 r15 h
  | _ => False
theorem straitref07_Line.ret_elim {K : ByteArray → Bool → Heap → Prop} {K' : Value → Heap → Prop} {v : Value} {h : Heap} (hk : ∀ r14 r15 h, K r14 r15 h → K' (.agg #[(.string r14), (.bool r15)]) h) (hh : straitref07_Line.ret K v h) : K' v h := by
  unfold straitref07_Line.ret at hh
  split at hh
  · exact hk _ _ _ hh
  · exact hh.elim
def straitref07_Line.qcall (f : FuncId) (vs : List Value) (h : Heap) (K : Value → Prop) : Prop := match f, vs with
  | 42, [(.string a1)] => qcallP1 h (straitref07_word a1 h) fun r6 => K (.bool r6)
  | _, _ => False
def straitref07_Line.r0 (K : Nat → List Value → Heap → Prop) (m : Nat) (vs : List Value) (h : Heap) : Prop := match vs with
  | [(.slice c0_1001 c0_1002 c0_1003), (.pointer (some c2_1004)), (.string v3_1005), (.int .i64 v4_1006)] => straitref07_Line.l0 (fun h' => K 0 [(.pointer (some c2_1004))] h') (fun z16 h' => K 2 [(.pointer (some c2_1004)), (.string z16)] h') m c0_1001 c0_1002 c0_1003 c2_1004 v3_1005 v4_1006 h
  | _ => False
def straitref07_Line.loop (i : Nat) (vs : List Value) (h : Heap) (K : Nat → List Value → Heap → Prop) : Prop := match i with
  | 0 => ∃ m, straitref07_Line.r0 K m vs h
  | _ => False
noncomputable def straitref07_Line.ctx : Ctx := { P := Tryd.prog, call := fun _ _ _ _ => False, qcall := straitref07_Line.qcall, quiet := fun f => Nat.beq f 42 || Nat.beq f 2000073, loop := straitref07_Line.loop }
theorem straitref07_Line.ok [DKc] : straitref07_Line.ctx.OK where
  mixed := by kernel_rfl
  mono := fun hh _ => hh.elim
  call := fun hh => hh.elim
  qmono := by
    intro f args h K K' hh hk
    change straitref07_Line.qcall f args h K at hh
    change straitref07_Line.qcall f args h K'
    unfold straitref07_Line.qcall at hh ⊢
    split at hh
    · obtain ⟨x0, h1, h2⟩ := hh
      exact ⟨x0, h1, hk _ h2⟩
    · exact hh.elim
  qval := by
    intro f args h K hh
    change straitref07_Line.qcall f args h K at hh
    suffices H : ∃ v, K v ∧ straitref07_Line.qcall f args h (· = v) from H
    unfold straitref07_Line.qcall at hh ⊢
    split at hh
    · obtain ⟨x0, h1, h2⟩ := hh
      exact ⟨_, h2, x0, h1, rfl⟩
    · exact hh.elim
  qcall := by
    intro f args h v hh w hw
    change straitref07_Line.qcall f args h (· = v) at hh
    unfold straitref07_Line.qcall at hh
    split at hh
    · obtain ⟨x0, h1, h2⟩ := hh
      obtain ⟨g1, g2⟩ := straitref07_word.calls h1 w hw
      refine .inl ⟨g1, g2.mono fun e w' ⟨u, he, ho, hr⟩ => ?_⟩
      have hq := straitref07_word.ret_elim (K' := fun u h' => u = v ∧ h' = h) (fun _ h' hr => by obtain ⟨rfl, rfl⟩ := hr; exact ⟨h2, rfl⟩) hr
      exact ⟨hq.1 ▸ he, ho, hq.2⟩
    · exact hh.elim
noncomputable def straitref07_Line.code : Code := (Tryd.f21.body).getD .skip
def straitref07_Line.ann : Ann := (.two .auto (.two .auto (.two (.two .auto (.two (.loop 0 [0, 2, 3, 4] [(2, [2, 3]), (0, [2])] .auto) .auto)) .auto)))
noncomputable def straitref07_Line.c0 : Code := sub straitref07_Line.code [1, 1, 0, 1, 0, 0]
def straitref07_Line.a0 : Ann := .auto
def straitref07_Line.keep0 : List Nat := [0, 2, 3, 4]
def straitref07_Line.outs0 : List (Nat × List Nat) := [(2, [2, 3]), (0, [2])]
set_option maxRecDepth 100000 in
theorem straitref07_Line.L0 [DKc] : LoopOK straitref07_Line.ctx 30 straitref07_Line.c0 0 straitref07_Line.keep0 straitref07_Line.outs0 := by
  refine loop_ok (n := straitref07_Line.a0) straitref07_Line.ok (by kernel_rfl) (loops_ok (l := []) (by kernel_rfl) ?_) straitref07_Line.r0 ?_ ?_ (fun vs h K hh => hh)
  · exact trivial
  · intro K vs h hh
    unfold straitref07_Line.r0 at hh
    split at hh
    · exact hh
    · exact hh
  · intro K m vs h hh
    unfold straitref07_Line.r0 at hh
    split at hh
    · exact cast (by kernel_rfl) hh
    · exact hh.elim
set_option maxRecDepth 100000 in
theorem straitref07_Line.eq (a1 : Option Addr) (a1l : Nat) (a1c : Nat) (h : Heap) (K : ByteArray → Bool → Heap → Prop) : evF straitref07_Line.ctx Tryd.f21 straitref07_Line.ann [(.slice a1 a1l a1c)] h (straitref07_Line.ret K) = straitref07_Line a1 a1l a1c h K := by kernel_rfl
set_option maxRecDepth 100000 in
theorem straitref07_Line.calls [DKc] {a1 : Option Addr} {a1l : Nat} {a1c : Nat} {h : Heap} {K : ByteArray → Bool → Heap → Prop} (hh : straitref07_Line a1 a1l a1c h K) (w : World) (hw : w.heap = h) :
    (callFunc 21 #[(.slice a1 a1l a1c)]).run Tryd.prog w = .ok (.enter 21 #[(.slice a1 a1l a1c)]) w ∧ Calls Tryd.prog 21 #[(.slice a1 a1l a1c)] w fun e w' => ∃ v, e = .returned v ∧ Out w w' ∧ straitref07_Line.ret K v w'.heap := by
  rw [← straitref07_Line.eq] at hh
  exact fn_calls (args := [(.slice a1 a1l a1c)]) (c := straitref07_Line.code) straitref07_Line.ok Tryd.func21 (by kernel_rfl) (by kernel_rfl) (by kernel_rfl) (by kernel_rfl) (loops_ok (l := [(straitref07_Line.c0, none, 0, straitref07_Line.keep0, straitref07_Line.outs0)]) (by kernel_rfl) ⟨straitref07_Line.L0, trivial⟩) hh w hw

/-! ### (*strings.Builder).WriteByte: function 48, by its contract -/
def strings_Builder_WriteByte.ret (K : Value → Heap → Prop) (v : Value) (h : Heap) : Prop := K v h
theorem strings_Builder_WriteByte.ret_elim {K : Value → Heap → Prop} {K' : Value → Heap → Prop} {v : Value} {h : Heap} (hk : ∀ x h, K x h → K' x h) (hh : strings_Builder_WriteByte.ret K v h) : K' v h := hk _ _ hh
def strings_Builder_WriteByte [DKc] (a1 : Option Addr) (a2 : Int) (h : Heap) (K : Value → Heap → Prop) : Prop := ∀ w : World, w.heap = h → (callFunc 48 #[(.pointer a1), (.int .u8 a2)]).run Tryd.prog w = .ok (.enter 48 #[(.pointer a1), (.int .u8 a2)]) w ∧ Calls Tryd.prog 48 #[(.pointer a1), (.int .u8 a2)] w fun e w' => ∃ v, e = .returned v ∧ Out w w' ∧ strings_Builder_WriteByte.ret K v w'.heap
theorem strings_Builder_WriteByte.calls [DKc] {a1 : Option Addr} {a2 : Int} {h : Heap} {K : Value → Heap → Prop} (hh : strings_Builder_WriteByte a1 a2 h K) (w : World) (hw : w.heap = h) : (callFunc 48 #[(.pointer a1), (.int .u8 a2)]).run Tryd.prog w = .ok (.enter 48 #[(.pointer a1), (.int .u8 a2)]) w ∧ Calls Tryd.prog 48 #[(.pointer a1), (.int .u8 a2)] w fun e w' => ∃ v, e = .returned v ∧ Out w w' ∧ strings_Builder_WriteByte.ret K v w'.heap := hh w hw

/-! ### strait/word.Text: function 22 -/
section
variable [DKc]
def word_Text.b0 (K0 : ByteArray → Bool → Heap → Prop) (K2 : Heap → Prop) (cont : Addr → (Option Addr) → Nat → Nat → Int → Int → Heap → Prop) (c4_1001 : Addr) (c9_1002 : Option Addr) (c9_1003 : Nat) (c9_1004 : Nat) (c10_1005 : Int) (v11_1006 : Int) (h1007 : Heap) : Prop :=
  (iteB (decide (v11_1006 < c10_1005)) ((chkP c9_1002 fun a1008 => (0 ≤ v11_1006 ∧ v11_1006 < (c9_1003 : Int)) ∧ ∃ (x1009 : Option Addr) (x1009l : Nat) (x1009c : Nat), cell h1007 (a1008.add (v11_1006.toNat * 1)) = some (.slice x1009 x1009l x1009c) ∧ (callP2 (word_Line x1009 x1009l x1009c h1007) fun x1010 x1011 h1012 => ((iteB (!x1011) ((K0 (⟨#[]⟩ : ByteArray) false h1012)) ((callP2 (strings_Builder_WriteString (some c4_1001) x1010 h1012) fun x1013 x1014 h1015 => (callP1 (strings_Builder_WriteByte (some c4_1001) 10 h1015) fun x1016 h1017 => ((cont c4_1001 c9_1002 c9_1003 c9_1004 c10_1005 (IntKind.i64.wrap (v11_1006 + 1)) h1017)))))))))) (K2 h1007))
def word_Text.l0 (K0 : ByteArray → Bool → Heap → Prop) (K2 : Heap → Prop) : Nat → Addr → (Option Addr) → Nat → Nat → Int → Int → Heap → Prop
  | 0, _, _, _, _, _, _, _ => False
  | m + 1, c4_1001, c9_1002, c9_1003, c9_1004, c10_1005, v11_1006, h => word_Text.b0 K0 K2 (word_Text.l0 K0 K2 m) c4_1001 c9_1002 c9_1003 c9_1004 c10_1005 v11_1006 h
def word_Text (a1 : Option Addr) (a1l : Nat) (a1c : Nat) (h : Heap) (K : ByteArray → Bool → Heap → Prop) : Prop :=
  (newP h (.cells #[(.pointer none), (.slice none 0 0)] 75) fun a2 h3 => ((∃ m8, word_Text.l0 (fun z4 z5 h6 => K z4 z5 h6) (fun h7 => ((callP1 (strings_Builder_String (some a2) h7) fun x9 h10 => K x9 true h10))) m8 a2 a1 a1l a1c (a1l : Int) 0 h3)))
def word_Text.ret (K : ByteArray → Bool → Heap → Prop) (v : Value) (h : Heap) : Prop := match v with
  | (.tuple ⟨[(.string r11), (.bool r12)]⟩) => K r11 r12 h
  | _ => False
theorem word_Text.ret_elim {K : ByteArray → Bool → Heap → Prop} {K' : Value → Heap → Prop} {v : Value} {h : Heap} (hk : ∀ r11 r12 h, K r11 r12 h → K' (.tuple #[(.string r11), (.bool r12)]) h) (hh : word_Text.ret K v h) : K' v h := by
  unfold word_Text.ret at hh
  split at hh
  · exact hk _ _ _ hh
  · exact hh.elim
def word_Text.call (f : FuncId) (vs : List Value) (h : Heap) (K : Value → Heap → Prop) : Prop := match f, vs with
  | 19, [(.slice a1 a1l a1c)] => callP2 (word_Line a1 a1l a1c h) fun r9 r10 h' => K (.tuple #[(.string r9), (.bool r10)]) h'
  | 47, [(.pointer a1), (.string a2)] => callP2 (strings_Builder_WriteString a1 a2 h) fun r3 r4 h' => K (.tuple #[(.int .i64 r3), r4]) h'
  | 48, [(.pointer a1), (.int .u8 a2)] => callP1 (strings_Builder_WriteByte a1 a2 h) fun r3 h' => K r3 h'
  | 49, [(.pointer a1)] => callP1 (strings_Builder_String a1 h) fun r2 h' => K (.string r2) h'
  | _, _ => False
def word_Text.r0 (K : Nat → List Value → Heap → Prop) (m : Nat) (vs : List Value) (h : Heap) : Prop := match vs with
  | [(.pointer (some c4_1001)), (.slice c9_1002 c9_1003 c9_1004), (.int .i64 c10_1005), (.int .i64 v11_1006)] => word_Text.l0 (fun z13 z14 h' => K 0 [(.string z13), (.bool z14)] h') (fun h' => K 2 [(.pointer (some c4_1001))] h') m c4_1001 c9_1002 c9_1003 c9_1004 c10_1005 v11_1006 h
  | _ => False
def word_Text.loop (i : Nat) (vs : List Value) (h : Heap) (K : Nat → List Value → Heap → Prop) : Prop := match i with
  | 0 => ∃ m, word_Text.r0 K m vs h
  | _ => False
noncomputable def word_Text.ctx : Ctx := { P := Tryd.prog, call := word_Text.call, qcall := fun _ _ _ _ => False, quiet := fun f => Nat.beq f 2000073, loop := word_Text.loop }
theorem word_Text.ok : word_Text.ctx.OK where
  mixed := by kernel_rfl
  mono := by
    intro f args h K K' hh hk
    change word_Text.call f args h K at hh
    change word_Text.call f args h K'
    unfold word_Text.call at hh ⊢
    split at hh
    · obtain ⟨R, h1, h2⟩ := hh
      exact ⟨R, h1, fun _ _ x hr => hk _ _ (h2 _ _ x hr)⟩
    · obtain ⟨R, h1, h2⟩ := hh
      exact ⟨R, h1, fun _ _ x hr => hk _ _ (h2 _ _ x hr)⟩
    · obtain ⟨R, h1, h2⟩ := hh
      exact ⟨R, h1, fun _ x hr => hk _ _ (h2 _ x hr)⟩
    · obtain ⟨R, h1, h2⟩ := hh
      exact ⟨R, h1, fun _ x hr => hk _ _ (h2 _ x hr)⟩
    · exact hh.elim
  call := by
    intro f args h K hh w hw
    change word_Text.call f args h K at hh
    unfold word_Text.call at hh
    split at hh
    · obtain ⟨R, h1, h2⟩ := hh
      obtain ⟨g1, g2⟩ := word_Line.calls h1 w hw
      exact ⟨g1, g2.mono fun e w' ⟨v, he, ho, hr⟩ => ⟨v, he, ho, word_Line.ret_elim h2 hr⟩⟩
    · obtain ⟨R, h1, h2⟩ := hh
      obtain ⟨g1, g2⟩ := strings_Builder_WriteString.calls h1 w hw
      exact ⟨g1, g2.mono fun e w' ⟨v, he, ho, hr⟩ => ⟨v, he, ho, strings_Builder_WriteString.ret_elim h2 hr⟩⟩
    · obtain ⟨R, h1, h2⟩ := hh
      obtain ⟨g1, g2⟩ := strings_Builder_WriteByte.calls h1 w hw
      exact ⟨g1, g2.mono fun e w' ⟨v, he, ho, hr⟩ => ⟨v, he, ho, strings_Builder_WriteByte.ret_elim h2 hr⟩⟩
    · obtain ⟨R, h1, h2⟩ := hh
      obtain ⟨g1, g2⟩ := strings_Builder_String.calls h1 w hw
      exact ⟨g1, g2.mono fun e w' ⟨v, he, ho, hr⟩ => ⟨v, he, ho, strings_Builder_String.ret_elim h2 hr⟩⟩
    · exact hh.elim
  qmono := fun hh _ => hh.elim
  qval := fun hh => hh.elim
  qcall := fun hh => hh.elim
noncomputable def word_Text.code : Code := (Tryd.f22.body).getD .skip
def word_Text.ann : Ann := (.two .auto (.two .auto (.two (.two .auto (.two (.loop 0 [4, 9, 10, 11] [(2, [4]), (0, [2, 3])] .auto) .auto)) .auto)))
noncomputable def word_Text.c0 : Code := sub word_Text.code [1, 1, 0, 1, 0, 0]
def word_Text.a0 : Ann := .auto
def word_Text.keep0 : List Nat := [4, 9, 10, 11]
def word_Text.outs0 : List (Nat × List Nat) := [(2, [4]), (0, [2, 3])]
set_option maxRecDepth 100000 in
theorem word_Text.L0 : LoopOK word_Text.ctx 27 word_Text.c0 0 word_Text.keep0 word_Text.outs0 := by
  refine loop_ok (n := word_Text.a0) word_Text.ok (by kernel_rfl) (loops_ok (l := []) (by kernel_rfl) ?_) word_Text.r0 ?_ ?_ (fun vs h K hh => hh)
  · exact trivial
  · intro K vs h hh
    unfold word_Text.r0 at hh
    split at hh
    · exact hh
    · exact hh
  · intro K m vs h hh
    unfold word_Text.r0 at hh
    split at hh
    · exact cast (by kernel_rfl) hh
    · exact hh.elim
set_option maxRecDepth 100000 in
theorem word_Text.eq (a1 : Option Addr) (a1l : Nat) (a1c : Nat) (h : Heap) (K : ByteArray → Bool → Heap → Prop) : evF word_Text.ctx Tryd.f22 word_Text.ann [(.slice a1 a1l a1c)] h (word_Text.ret K) = word_Text a1 a1l a1c h K := by kernel_rfl
set_option maxRecDepth 100000 in
theorem word_Text.calls {a1 : Option Addr} {a1l : Nat} {a1c : Nat} {h : Heap} {K : ByteArray → Bool → Heap → Prop} (hh : word_Text a1 a1l a1c h K) (w : World) (hw : w.heap = h) :
    (callFunc 22 #[(.slice a1 a1l a1c)]).run Tryd.prog w = .ok (.enter 22 #[(.slice a1 a1l a1c)]) w ∧ Calls Tryd.prog 22 #[(.slice a1 a1l a1c)] w fun e w' => ∃ v, e = .returned v ∧ Out w w' ∧ word_Text.ret K v w'.heap := by
  rw [← word_Text.eq] at hh
  exact fn_calls (args := [(.slice a1 a1l a1c)]) (c := word_Text.code) word_Text.ok Tryd.func22 (by kernel_rfl) (by kernel_rfl) (by kernel_rfl) (by kernel_rfl) (loops_ok (l := [(word_Text.c0, none, 0, word_Text.keep0, word_Text.outs0)]) (by kernel_rfl) ⟨word_Text.L0, trivial⟩) hh w hw
end

/-! ### strait/straitref07.Text: function 23 -/
def straitref07_Text.b0 (K0 : Heap → Prop) (K2 : ByteArray → Heap → Prop) (cont : (Option Addr) → Nat → Nat → Addr → ByteArray → Int → Heap → Prop) (c0_1001 : Option Addr) (c0_1002 : Nat) (c0_1003 : Nat) (c2_1004 : Addr) (v3_1005 : ByteArray) (v4_1006 : Int) (h1007 : Heap) : Prop :=
  (iteB (decide (v4_1006 < (c0_1002 : Int))) ((chkP c0_1001 fun a1008 => (0 ≤ v4_1006 ∧ v4_1006 < (c0_1002 : Int)) ∧ ∃ (x1009 : Option Addr) (x1009l : Nat) (x1009c : Nat), cell h1007 (a1008.add (v4_1006.toNat * 1)) = some (.slice x1009 x1009l x1009c) ∧ callP2 (straitref07_Line x1009 x1009l x1009c h1007) fun x1010 x1011 h1012 => newP h1012 (.cells #[(.string (⟨#[]⟩ : ByteArray)), (.bool false)] 39) fun a1013 h1014 => stC h1014 a1013 (.string x1010) fun h1015 => stC h1015 (a1013.add 1) (.bool x1011) fun h1016 => (∃ (x1017 : Bool), cell h1016 (a1013.add 1) = some (.bool x1017) ∧ (iteB (!x1017) (stC h1016 c2_1004 (.string (⟨#[]⟩ : ByteArray)) fun h1018 => stC h1018 (c2_1004.add 1) (.bool false) fun h1019 => K0 h1019) ((∃ (x1020 : ByteArray), cell h1016 a1013 = some (.string x1020) ∧ (((v3_1005.size + x1020.size : Nat) : Int) ≤ 9223372036854775807) ∧ ((((v3_1005 ++ x1020).size + (⟨#[10]⟩ : ByteArray).size : Nat) : Int) ≤ 9223372036854775807) ∧ ((cont c0_1001 c0_1002 c0_1003 c2_1004 ((v3_1005 ++ x1020) ++ (⟨#[10]⟩ : ByteArray)) (IntKind.i64.wrap (v4_1006 + 1)) h1016)))))))) (K2 v3_1005 h1007))
def straitref07_Text.l0 (K0 : Heap → Prop) (K2 : ByteArray → Heap → Prop) : Nat → (Option Addr) → Nat → Nat → Addr → ByteArray → Int → Heap → Prop
  | 0, _, _, _, _, _, _, _ => False
  | m + 1, c0_1001, c0_1002, c0_1003, c2_1004, v3_1005, v4_1006, h => straitref07_Text.b0 K0 K2 (straitref07_Text.l0 K0 K2 m) c0_1001 c0_1002 c0_1003 c2_1004 v3_1005 v4_1006 h
def straitref07_Text (a1 : Option Addr) (a1l : Nat) (a1c : Nat) (h : Heap) (K : ByteArray → Bool → Heap → Prop) : Prop :=
  newP h (.cells #[(.string (⟨#[]⟩ : ByteArray)), (.bool false)] 39) fun a2 h3 => (((∃ m9, straitref07_Text.l0 (fun h4 => ∃ (x5 : ByteArray), cell h4 a2 = some (.string x5) ∧ ∃ (x6 : Bool), cell h4 (a2.add 1) = some (.bool x6) ∧ K x5 x6 h4) (fun z7 h8 => ((stC h8 a2 (.string z7) fun h10 => stC h10 (a2.add 1) (.bool true) fun h11 => (∃ (x12 : ByteArray), cell h11 a2 = some (.string x12) ∧ ∃ (x13 : Bool), cell h11 (a2.add 1) = some (.bool x13) ∧ K x12 x13 h11)))) m9 a1 a1l a1c a2 (⟨#[]⟩ : ByteArray) 0 h3)))
def straitref07_Text.ret (K : ByteArray → Bool → Heap → Prop) (v : Value) (h : Heap) : Prop := match v with
  | (.agg ⟨[(.string r14), (.bool r15)]⟩) => K r14 r15 h
  | _ => False
theorem straitref07_Text.ret_elim {K : ByteArray → Bool → Heap → Prop} {K' : Value → Heap → Prop} {v : Value} {h : Heap} (hk : ∀ r14 r15 h, K r14 r15 h → K' (.agg #[(.string r14), (.bool r15)]) h) (hh : straitref07_Text.ret K v h) : K' v h := by
  unfold straitref07_Text.ret at hh
  split at hh
  · exact hk _ _ _ hh
  · exact hh.elim
def straitref07_Text.call (f : FuncId) (vs : List Value) (h : Heap) (K : Value → Heap → Prop) : Prop := match f, vs with
  | 21, [(.slice a1 a1l a1c)] => callP2 (straitref07_Line a1 a1l a1c h) fun r14 r15 h' => K (.agg #[(.string r14), (.bool r15)]) h'
  | _, _ => False
def straitref07_Text.r0 (K : Nat → List Value → Heap → Prop) (m : Nat) (vs : List Value) (h : Heap) : Prop := match vs with
  | [(.slice c0_1001 c0_1002 c0_1003), (.pointer (some c2_1004)), (.string v3_1005), (.int .i64 v4_1006)] => straitref07_Text.l0 (fun h' => K 0 [(.pointer (some c2_1004))] h') (fun z16 h' => K 2 [(.pointer (some c2_1004)), (.string z16)] h') m c0_1001 c0_1002 c0_1003 c2_1004 v3_1005 v4_1006 h
  | _ => False
def straitref07_Text.loop (i : Nat) (vs : List Value) (h : Heap) (K : Nat → List Value → Heap → Prop) : Prop := match i with
  | 0 => ∃ m, straitref07_Text.r0 K m vs h
  | _ => False
noncomputable def straitref07_Text.ctx : Ctx := { P := Tryd.prog, call := straitref07_Text.call, qcall := fun _ _ _ _ => False, quiet := fun f => Nat.beq f 2000073, loop := straitref07_Text.loop }
theorem straitref07_Text.ok [DKc] : straitref07_Text.ctx.OK where
  mixed := by kernel_rfl
  mono := by
    intro f args h K K' hh hk
    change straitref07_Text.call f args h K at hh
    change straitref07_Text.call f args h K'
    unfold straitref07_Text.call at hh ⊢
    split at hh
    · obtain ⟨R, h1, h2⟩ := hh
      exact ⟨R, h1, fun _ _ x hr => hk _ _ (h2 _ _ x hr)⟩
    · exact hh.elim
  call := by
    intro f args h K hh w hw
    change straitref07_Text.call f args h K at hh
    unfold straitref07_Text.call at hh
    split at hh
    · obtain ⟨R, h1, h2⟩ := hh
      obtain ⟨g1, g2⟩ := straitref07_Line.calls h1 w hw
      exact ⟨g1, g2.mono fun e w' ⟨v, he, ho, hr⟩ => ⟨v, he, ho, straitref07_Line.ret_elim h2 hr⟩⟩
    · exact hh.elim
  qmono := fun hh _ => hh.elim
  qval := fun hh => hh.elim
  qcall := fun hh => hh.elim
noncomputable def straitref07_Text.code : Code := (Tryd.f23.body).getD .skip
def straitref07_Text.ann : Ann := (.two .auto (.two .auto (.two (.two .auto (.two (.loop 0 [0, 2, 3, 4] [(2, [2, 3]), (0, [2])] .auto) .auto)) .auto)))
noncomputable def straitref07_Text.c0 : Code := sub straitref07_Text.code [1, 1, 0, 1, 0, 0]
def straitref07_Text.a0 : Ann := .auto
def straitref07_Text.keep0 : List Nat := [0, 2, 3, 4]
def straitref07_Text.outs0 : List (Nat × List Nat) := [(2, [2, 3]), (0, [2])]
set_option maxRecDepth 100000 in
theorem straitref07_Text.L0 [DKc] : LoopOK straitref07_Text.ctx 28 straitref07_Text.c0 0 straitref07_Text.keep0 straitref07_Text.outs0 := by
  refine loop_ok (n := straitref07_Text.a0) straitref07_Text.ok (by kernel_rfl) (loops_ok (l := []) (by kernel_rfl) ?_) straitref07_Text.r0 ?_ ?_ (fun vs h K hh => hh)
  · exact trivial
  · intro K vs h hh
    unfold straitref07_Text.r0 at hh
    split at hh
    · exact hh
    · exact hh
  · intro K m vs h hh
    unfold straitref07_Text.r0 at hh
    split at hh
    · exact cast (by kernel_rfl) hh
    · exact hh.elim
set_option maxRecDepth 100000 in
theorem straitref07_Text.eq (a1 : Option Addr) (a1l : Nat) (a1c : Nat) (h : Heap) (K : ByteArray → Bool → Heap → Prop) : evF straitref07_Text.ctx Tryd.f23 straitref07_Text.ann [(.slice a1 a1l a1c)] h (straitref07_Text.ret K) = straitref07_Text a1 a1l a1c h K := by kernel_rfl
set_option maxRecDepth 100000 in
theorem straitref07_Text.calls [DKc] {a1 : Option Addr} {a1l : Nat} {a1c : Nat} {h : Heap} {K : ByteArray → Bool → Heap → Prop} (hh : straitref07_Text a1 a1l a1c h K) (w : World) (hw : w.heap = h) :
    (callFunc 23 #[(.slice a1 a1l a1c)]).run Tryd.prog w = .ok (.enter 23 #[(.slice a1 a1l a1c)]) w ∧ Calls Tryd.prog 23 #[(.slice a1 a1l a1c)] w fun e w' => ∃ v, e = .returned v ∧ Out w w' ∧ straitref07_Text.ret K v w'.heap := by
  rw [← straitref07_Text.eq] at hh
  exact fn_calls (args := [(.slice a1 a1l a1c)]) (c := straitref07_Text.code) straitref07_Text.ok Tryd.func23 (by kernel_rfl) (by kernel_rfl) (by kernel_rfl) (by kernel_rfl) (loops_ok (l := [(straitref07_Text.c0, none, 0, straitref07_Text.keep0, straitref07_Text.outs0)]) (by kernel_rfl) ⟨straitref07_Text.L0, trivial⟩) hh w hw

/-! ### strait/straitlaw07.WordPuts: function 5 -/
section
variable [DKc]
def straitlaw07_WordPuts.b2 (K0 : Bool → Heap → Prop) (K6 : Heap → Prop) (cont : (Option Addr) → Nat → Nat → Int → Heap → Prop) (c0_3001 : Option Addr) (c0_3002 : Nat) (c0_3003 : Nat) (v6_3004 : Int) (h3005 : Heap) : Prop :=
  (iteB (decide (v6_3004 < (c0_3002 : Int))) ((chkP c0_3001 fun a3006 => (0 ≤ v6_3004 ∧ v6_3004 < (c0_3002 : Int)) ∧ ∃ (x3007 : Option Addr) (x3007l : Nat) (x3007c : Nat), cell h3005 (a3006.add (v6_3004.toNat * 1)) = some (.slice x3007 x3007l x3007c) ∧ callP2 (word_Line x3007 x3007l x3007c h3005) fun x3008 x3009 h3010 => (chkP c0_3001 fun a3011 => (0 ≤ v6_3004 ∧ v6_3004 < (c0_3002 : Int)) ∧ ∃ (x3012 : Option Addr) (x3012l : Nat) (x3012c : Nat), cell h3010 (a3011.add (v6_3004.toNat * 1)) = some (.slice x3012 x3012l x3012c) ∧ callP2 (straitref07_Line x3012 x3012l x3012c h3010) fun x3013 x3014 h3015 => (iteB (!(eqAll [(x3013.toList == x3008.toList), (x3014 == x3009)])) (K0 false h3015) (((cont c0_3001 c0_3002 c0_3003 (IntKind.i64.wrap (v6_3004 + 1)) h3015))))))) (K6 h3005))
def straitlaw07_WordPuts.l2 (K0 : Bool → Heap → Prop) (K6 : Heap → Prop) : Nat → (Option Addr) → Nat → Nat → Int → Heap → Prop
  | 0, _, _, _, _, _ => False
  | m + 1, c0_3001, c0_3002, c0_3003, v6_3004, h => straitlaw07_WordPuts.b2 K0 K6 (straitlaw07_WordPuts.l2 K0 K6 m) c0_3001 c0_3002 c0_3003 v6_3004 h
def straitlaw07_WordPuts.b1 (K4 : Int → Heap → Prop) (cont : (Option Addr) → Nat → Nat → Int → Int → Int → Heap → Prop) (c0_2001 : Option Addr) (c0_2002 : Nat) (c0_2003 : Nat) (v3_2004 : Int) (c4_2005 : Int) (v5_2006 : Int) (h2007 : Heap) : Prop :=
  let j2016 : Prop := (chkP c0_2001 fun a2011 => (0 ≤ c4_2005 ∧ c4_2005 < (c0_2002 : Int)) ∧ ∃ (x2012 : Option Addr) (x2012l : Nat) (x2012c : Nat), cell h2007 (a2011.add (c4_2005.toNat * 1)) = some (.slice x2012 x2012l x2012c) ∧ chkP x2012 fun a2013 => (0 ≤ v5_2006 ∧ v5_2006 < (x2012l : Int)) ∧ ∃ (x2014 : ByteArray), cell h2007 (a2013.add (v5_2006.toNat * 1)) = some (.string x2014) ∧ bindV (if 2001 < (x2014.size : Int) then 2001 else (x2014.size : Int)) fun n2015 => ((cont c0_2001 c0_2002 c0_2003 (IntKind.i64.wrap (v3_2004 + n2015)) c4_2005 (IntKind.i64.wrap (v5_2006 + 1)) h2007)));
  chkP c0_2001 fun a2008 => (0 ≤ c4_2005 ∧ c4_2005 < (c0_2002 : Int)) ∧ ∃ (x2009 : Option Addr) (x2009l : Nat) (x2009c : Nat), cell h2007 (a2008.add (c4_2005.toNat * 1)) = some (.slice x2009 x2009l x2009c) ∧ iteB (decide (v5_2006 < (x2009l : Int))) ((iteB (decide (v5_2006 < (101 : Int))) ((j2016)) (K4 v3_2004 h2007))) (K4 v3_2004 h2007)
def straitlaw07_WordPuts.l1 (K4 : Int → Heap → Prop) : Nat → (Option Addr) → Nat → Nat → Int → Int → Int → Heap → Prop
  | 0, _, _, _, _, _, _, _ => False
  | m + 1, c0_2001, c0_2002, c0_2003, v3_2004, c4_2005, v5_2006, h => straitlaw07_WordPuts.b1 K4 (straitlaw07_WordPuts.l1 K4 m) c0_2001 c0_2002 c0_2003 v3_2004 c4_2005 v5_2006 h
def straitlaw07_WordPuts.b0 (K2 : Int → Heap → Prop) (cont : (Option Addr) → Nat → Nat → Int → Int → Heap → Prop) (c0_1001 : Option Addr) (c0_1002 : Nat) (c0_1003 : Nat) (v3_1004 : Int) (v4_1005 : Int) (h1006 : Heap) : Prop :=
  let j1014 : Prop := (chkP c0_1001 fun a1008 => (0 ≤ v4_1005 ∧ v4_1005 < (c0_1002 : Int)) ∧ ∃ (x1009 : Option Addr) (x1009l : Nat) (x1009c : Nat), cell h1006 (a1008.add (v4_1005.toNat * 1)) = some (.slice x1009 x1009l x1009c) ∧ bindV (if 101 < (x1009l : Int) then 101 else (x1009l : Int)) fun n1010 => ((∃ m1013, straitlaw07_WordPuts.l1 (fun z1011 h1012 => (((cont c0_1001 c0_1002 c0_1003 z1011 (IntKind.i64.wrap (v4_1005 + 1)) h1012)))) m1013 c0_1001 c0_1002 c0_1003 (IntKind.i64.wrap (v3_1004 + n1010)) v4_1005 0 h1006)));
  iteB (decide (v4_1005 < (c0_1002 : Int))) ((iteB (decide (v4_1005 < (101 : Int))) ((j1014)) (K2 v3_1004 h1006))) (K2 v3_1004 h1006)
def straitlaw07_WordPuts.l0 (K2 : Int → Heap → Prop) : Nat → (Option Addr) → Nat → Nat → Int → Int → Heap → Prop
  | 0, _, _, _, _, _, _ => False
  | m + 1, c0_1001, c0_1002, c0_1003, v3_1004, v4_1005, h => straitlaw07_WordPuts.b0 K2 (straitlaw07_WordPuts.l0 K2 m) c0_1001 c0_1002 c0_1003 v3_1004 v4_1005 h
def straitlaw07_WordPuts (a1 : Option Addr) (a1l : Nat) (a1c : Nat) (h : Heap) (K : Bool → Heap → Prop) : Prop :=
  (((∃ m4, straitlaw07_WordPuts.l0 (fun z2 h3 => ((let j26 : Prop := ((∃ m15, straitlaw07_WordPuts.l2 (fun z12 h13 => K z12 h13) (fun h14 => ((callP2 (word_Text a1 a1l a1c h14) fun x16 x17 h18 => (callP2 (straitref07_Text a1 a1l a1c h18) fun x19 x20 h21 => iteB (eqAll [(x19.toList == x16.toList), (x20 == x17)]) (callP1 (straitlaw07_awake h21) fun x22 h23 => K x22 h23) (K false h21))))) m15 a1 a1l a1c 0 h3));
  iteB (decide ((a1l : Int) > (100 : Int))) ((callP1 (straitlaw07_awake h3) fun x8 h9 => K x8 h9)) ((iteB (decide (z2 > (2000 : Int))) (callP1 (straitlaw07_awake h3) fun x10 h11 => K x10 h11) ((j26))))))) m4 a1 a1l a1c 0 0 h)))
def straitlaw07_WordPuts.ret (K : Bool → Heap → Prop) (v : Value) (h : Heap) : Prop := match v with
  | (.bool r27) => K r27 h
  | _ => False
theorem straitlaw07_WordPuts.ret_elim {K : Bool → Heap → Prop} {K' : Value → Heap → Prop} {v : Value} {h : Heap} (hk : ∀ r27 h, K r27 h → K' (.bool r27) h) (hh : straitlaw07_WordPuts.ret K v h) : K' v h := by
  unfold straitlaw07_WordPuts.ret at hh
  split at hh
  · exact hk _ _ hh
  · exact hh.elim
def straitlaw07_WordPuts.call (f : FuncId) (vs : List Value) (h : Heap) (K : Value → Heap → Prop) : Prop := match f, vs with
  | 9, [] => callP1 (straitlaw07_awake h) fun r15 h' => K (.bool r15) h'
  | 19, [(.slice a1 a1l a1c)] => callP2 (word_Line a1 a1l a1c h) fun r9 r10 h' => K (.tuple #[(.string r9), (.bool r10)]) h'
  | 21, [(.slice a1 a1l a1c)] => callP2 (straitref07_Line a1 a1l a1c h) fun r14 r15 h' => K (.agg #[(.string r14), (.bool r15)]) h'
  | 22, [(.slice a1 a1l a1c)] => callP2 (word_Text a1 a1l a1c h) fun r11 r12 h' => K (.tuple #[(.string r11), (.bool r12)]) h'
  | 23, [(.slice a1 a1l a1c)] => callP2 (straitref07_Text a1 a1l a1c h) fun r14 r15 h' => K (.agg #[(.string r14), (.bool r15)]) h'
  | _, _ => False
def straitlaw07_WordPuts.r0 (K : Nat → List Value → Heap → Prop) (m : Nat) (vs : List Value) (h : Heap) : Prop := match vs with
  | [(.slice c0_1001 c0_1002 c0_1003), (.int .i64 v3_1004), (.int .i64 v4_1005)] => straitlaw07_WordPuts.l0 (fun z28 h' => K 2 [(.slice c0_1001 c0_1002 c0_1003), (.int .i64 z28)] h') m c0_1001 c0_1002 c0_1003 v3_1004 v4_1005 h
  | _ => False
def straitlaw07_WordPuts.r1 (K : Nat → List Value → Heap → Prop) (m : Nat) (vs : List Value) (h : Heap) : Prop := match vs with
  | [(.slice c0_2001 c0_2002 c0_2003), (.int .i64 v3_2004), (.int .i64 c4_2005), (.int .i64 v5_2006)] => straitlaw07_WordPuts.l1 (fun z29 h' => K 4 [(.slice c0_2001 c0_2002 c0_2003), (.int .i64 z29), (.int .i64 c4_2005)] h') m c0_2001 c0_2002 c0_2003 v3_2004 c4_2005 v5_2006 h
  | _ => False
def straitlaw07_WordPuts.r2 (K : Nat → List Value → Heap → Prop) (m : Nat) (vs : List Value) (h : Heap) : Prop := match vs with
  | [(.slice c0_3001 c0_3002 c0_3003), (.int .i64 v6_3004)] => straitlaw07_WordPuts.l2 (fun z30 h' => K 0 [(.bool z30)] h') (fun h' => K 6 [(.slice c0_3001 c0_3002 c0_3003)] h') m c0_3001 c0_3002 c0_3003 v6_3004 h
  | _ => False
def straitlaw07_WordPuts.loop (i : Nat) (vs : List Value) (h : Heap) (K : Nat → List Value → Heap → Prop) : Prop := match i with
  | 0 => ∃ m, straitlaw07_WordPuts.r0 K m vs h
  | 1 => ∃ m, straitlaw07_WordPuts.r1 K m vs h
  | 2 => ∃ m, straitlaw07_WordPuts.r2 K m vs h
  | _ => False
noncomputable def straitlaw07_WordPuts.ctx : Ctx := { P := Tryd.prog, call := straitlaw07_WordPuts.call, qcall := fun _ _ _ _ => False, quiet := fun f => Nat.beq f 2000073, loop := straitlaw07_WordPuts.loop }
theorem straitlaw07_WordPuts.ok : straitlaw07_WordPuts.ctx.OK where
  mixed := by kernel_rfl
  mono := by
    intro f args h K K' hh hk
    change straitlaw07_WordPuts.call f args h K at hh
    change straitlaw07_WordPuts.call f args h K'
    unfold straitlaw07_WordPuts.call at hh ⊢
    split at hh
    · obtain ⟨R, h1, h2⟩ := hh
      exact ⟨R, h1, fun _ x hr => hk _ _ (h2 _ x hr)⟩
    · obtain ⟨R, h1, h2⟩ := hh
      exact ⟨R, h1, fun _ _ x hr => hk _ _ (h2 _ _ x hr)⟩
    · obtain ⟨R, h1, h2⟩ := hh
      exact ⟨R, h1, fun _ _ x hr => hk _ _ (h2 _ _ x hr)⟩
    · obtain ⟨R, h1, h2⟩ := hh
      exact ⟨R, h1, fun _ _ x hr => hk _ _ (h2 _ _ x hr)⟩
    · obtain ⟨R, h1, h2⟩ := hh
      exact ⟨R, h1, fun _ _ x hr => hk _ _ (h2 _ _ x hr)⟩
    · exact hh.elim
  call := by
    intro f args h K hh w hw
    change straitlaw07_WordPuts.call f args h K at hh
    unfold straitlaw07_WordPuts.call at hh
    split at hh
    · obtain ⟨R, h1, h2⟩ := hh
      obtain ⟨g1, g2⟩ := straitlaw07_awake.calls h1 w hw
      exact ⟨g1, g2.mono fun e w' ⟨v, he, ho, hr⟩ => ⟨v, he, ho, straitlaw07_awake.ret_elim h2 hr⟩⟩
    · obtain ⟨R, h1, h2⟩ := hh
      obtain ⟨g1, g2⟩ := word_Line.calls h1 w hw
      exact ⟨g1, g2.mono fun e w' ⟨v, he, ho, hr⟩ => ⟨v, he, ho, word_Line.ret_elim h2 hr⟩⟩
    · obtain ⟨R, h1, h2⟩ := hh
      obtain ⟨g1, g2⟩ := straitref07_Line.calls h1 w hw
      exact ⟨g1, g2.mono fun e w' ⟨v, he, ho, hr⟩ => ⟨v, he, ho, straitref07_Line.ret_elim h2 hr⟩⟩
    · obtain ⟨R, h1, h2⟩ := hh
      obtain ⟨g1, g2⟩ := word_Text.calls h1 w hw
      exact ⟨g1, g2.mono fun e w' ⟨v, he, ho, hr⟩ => ⟨v, he, ho, word_Text.ret_elim h2 hr⟩⟩
    · obtain ⟨R, h1, h2⟩ := hh
      obtain ⟨g1, g2⟩ := straitref07_Text.calls h1 w hw
      exact ⟨g1, g2.mono fun e w' ⟨v, he, ho, hr⟩ => ⟨v, he, ho, straitref07_Text.ret_elim h2 hr⟩⟩
    · exact hh.elim
  qmono := fun hh _ => hh.elim
  qval := fun hh => hh.elim
  qcall := fun hh => hh.elim
noncomputable def straitlaw07_WordPuts.code : Code := (Tryd.f5.body).getD .skip
def straitlaw07_WordPuts.ann : Ann := (.two .auto (.two .auto (.two (.two .auto (.two (.loop 0 [0, 3, 4] [(2, [0, 3])] (.two .auto (.two (.two (.two .auto (.two .auto (.two (.loop 1 [0, 3, 4, 5] [(4, [0, 3, 4])] .auto) .auto))) .auto) .auto))) .auto)) (.two .auto (.two (.two .auto (.two (.loop 2 [0, 6] [(6, [0]), (0, [2])] .auto) .auto)) .auto)))))
noncomputable def straitlaw07_WordPuts.c2 : Code := sub straitlaw07_WordPuts.code [1, 1, 1, 1, 0, 1, 0, 0]
def straitlaw07_WordPuts.a2 : Ann := .auto
def straitlaw07_WordPuts.keep2 : List Nat := [0, 6]
def straitlaw07_WordPuts.outs2 : List (Nat × List Nat) := [(6, [0]), (0, [2])]
noncomputable def straitlaw07_WordPuts.c1 : Code := sub straitlaw07_WordPuts.code [1, 1, 0, 1, 0, 0, 1, 0, 0, 1, 1, 0, 0]
def straitlaw07_WordPuts.a1 : Ann := .auto
def straitlaw07_WordPuts.keep1 : List Nat := [0, 3, 4, 5]
def straitlaw07_WordPuts.outs1 : List (Nat × List Nat) := [(4, [0, 3, 4])]
noncomputable def straitlaw07_WordPuts.c0 : Code := sub straitlaw07_WordPuts.code [1, 1, 0, 1, 0, 0]
def straitlaw07_WordPuts.a0 : Ann := (.two .auto (.two (.two (.two .auto (.two .auto (.two (.loop 1 [0, 3, 4, 5] [(4, [0, 3, 4])] .auto) .auto))) .auto) .auto))
def straitlaw07_WordPuts.keep0 : List Nat := [0, 3, 4]
def straitlaw07_WordPuts.outs0 : List (Nat × List Nat) := [(2, [0, 3])]
set_option maxRecDepth 100000 in
theorem straitlaw07_WordPuts.L1 : LoopOK straitlaw07_WordPuts.ctx 98 straitlaw07_WordPuts.c1 1 straitlaw07_WordPuts.keep1 straitlaw07_WordPuts.outs1 := by
  refine loop_ok (n := straitlaw07_WordPuts.a1) straitlaw07_WordPuts.ok (by kernel_rfl) (loops_ok (l := []) (by kernel_rfl) ?_) straitlaw07_WordPuts.r1 ?_ ?_ (fun vs h K hh => hh)
  · exact trivial
  · intro K vs h hh
    unfold straitlaw07_WordPuts.r1 at hh
    split at hh
    · exact hh
    · exact hh
  · intro K m vs h hh
    unfold straitlaw07_WordPuts.r1 at hh
    split at hh
    · exact cast (by kernel_rfl) hh
    · exact hh.elim
set_option maxRecDepth 100000 in
theorem straitlaw07_WordPuts.L0 : LoopOK straitlaw07_WordPuts.ctx 98 straitlaw07_WordPuts.c0 0 straitlaw07_WordPuts.keep0 straitlaw07_WordPuts.outs0 := by
  refine loop_ok (n := straitlaw07_WordPuts.a0) straitlaw07_WordPuts.ok (by kernel_rfl) (loops_ok (l := [(straitlaw07_WordPuts.c1, none, 1, straitlaw07_WordPuts.keep1, straitlaw07_WordPuts.outs1)]) (by kernel_rfl) ?_) straitlaw07_WordPuts.r0 ?_ ?_ (fun vs h K hh => hh)
  · exact ⟨straitlaw07_WordPuts.L1, trivial⟩
  · intro K vs h hh
    unfold straitlaw07_WordPuts.r0 at hh
    split at hh
    · exact hh
    · exact hh
  · intro K m vs h hh
    unfold straitlaw07_WordPuts.r0 at hh
    split at hh
    · exact cast (by kernel_rfl) hh
    · exact hh.elim
set_option maxRecDepth 100000 in
theorem straitlaw07_WordPuts.L2 : LoopOK straitlaw07_WordPuts.ctx 98 straitlaw07_WordPuts.c2 2 straitlaw07_WordPuts.keep2 straitlaw07_WordPuts.outs2 := by
  refine loop_ok (n := straitlaw07_WordPuts.a2) straitlaw07_WordPuts.ok (by kernel_rfl) (loops_ok (l := []) (by kernel_rfl) ?_) straitlaw07_WordPuts.r2 ?_ ?_ (fun vs h K hh => hh)
  · exact trivial
  · intro K vs h hh
    unfold straitlaw07_WordPuts.r2 at hh
    split at hh
    · exact hh
    · exact hh
  · intro K m vs h hh
    unfold straitlaw07_WordPuts.r2 at hh
    split at hh
    · exact cast (by kernel_rfl) hh
    · exact hh.elim
set_option maxRecDepth 100000 in
theorem straitlaw07_WordPuts.eq (a1 : Option Addr) (a1l : Nat) (a1c : Nat) (h : Heap) (K : Bool → Heap → Prop) : evF straitlaw07_WordPuts.ctx Tryd.f5 straitlaw07_WordPuts.ann [(.slice a1 a1l a1c)] h (straitlaw07_WordPuts.ret K) = straitlaw07_WordPuts a1 a1l a1c h K := by kernel_rfl
set_option maxRecDepth 100000 in
theorem straitlaw07_WordPuts.calls {a1 : Option Addr} {a1l : Nat} {a1c : Nat} {h : Heap} {K : Bool → Heap → Prop} (hh : straitlaw07_WordPuts a1 a1l a1c h K) (w : World) (hw : w.heap = h) :
    (callFunc 5 #[(.slice a1 a1l a1c)]).run Tryd.prog w = .ok (.enter 5 #[(.slice a1 a1l a1c)]) w ∧ Calls Tryd.prog 5 #[(.slice a1 a1l a1c)] w fun e w' => ∃ v, e = .returned v ∧ Out w w' ∧ straitlaw07_WordPuts.ret K v w'.heap := by
  rw [← straitlaw07_WordPuts.eq] at hh
  exact fn_calls (args := [(.slice a1 a1l a1c)]) (c := straitlaw07_WordPuts.code) straitlaw07_WordPuts.ok Tryd.func5 (by kernel_rfl) (by kernel_rfl) (by kernel_rfl) (by kernel_rfl) (loops_ok (l := [(straitlaw07_WordPuts.c0, none, 0, straitlaw07_WordPuts.keep0, straitlaw07_WordPuts.outs0), (straitlaw07_WordPuts.c2, none, 2, straitlaw07_WordPuts.keep2, straitlaw07_WordPuts.outs2)]) (by kernel_rfl) ⟨straitlaw07_WordPuts.L0, straitlaw07_WordPuts.L2, trivial⟩) hh w hw
end

end Go.Proofs.YtnepdopakngpfaaDoor
