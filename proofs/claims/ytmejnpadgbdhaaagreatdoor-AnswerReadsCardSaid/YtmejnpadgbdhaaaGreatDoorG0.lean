/- WRITTEN BY A PROGRAM OF THIS SESSION (gen.py): what each function asks of memory, and that the model's run comes to it. -/
import Derived.Test.YtmejnpadgbdhaaaGreatDoorProg
import Derived.Test.YtmejnpadgbdhaaaGreatDoorFw8

namespace Go.Proofs.YtmejnpadgbdhaaaGreatDoor
open Go.Hp
set_option linter.unusedVariables false
set_option linter.unusedSimpArgs false
set_option linter.unusedSectionVars false

/-! ### strings.Split: function 31, by its contract -/
def strings_Split.ret (K : (Option Addr) → Nat → Nat → Heap → Prop) (v : Value) (h : Heap) : Prop := match v with
  | (.slice r3 r3l r3c) => K r3 r3l r3c h
  | _ => False
theorem strings_Split.ret_elim {K : (Option Addr) → Nat → Nat → Heap → Prop} {K' : Value → Heap → Prop} {v : Value} {h : Heap} (hk : ∀ r3 r3l r3c h, K r3 r3l r3c h → K' (.slice r3 r3l r3c) h) (hh : strings_Split.ret K v h) : K' v h := by
  unfold strings_Split.ret at hh
  split at hh
  · exact hk _ _ _ _ hh
  · exact hh.elim
def strings_Split [DKc] (a1 : ByteArray) (a2 : ByteArray) (h : Heap) (K : (Option Addr) → Nat → Nat → Heap → Prop) : Prop := ∀ w : World, w.heap = h → (callFunc 31 #[(.string a1), (.string a2)]).run Tryz.prog w = .ok (.enter 31 #[(.string a1), (.string a2)]) w ∧ Calls Tryz.prog 31 #[(.string a1), (.string a2)] w fun e w' => ∃ v, e = .returned v ∧ Out w w' ∧ strings_Split.ret K v w'.heap
theorem strings_Split.calls [DKc] {a1 : ByteArray} {a2 : ByteArray} {h : Heap} {K : (Option Addr) → Nat → Nat → Heap → Prop} (hh : strings_Split a1 a2 h K) (w : World) (hw : w.heap = h) : (callFunc 31 #[(.string a1), (.string a2)]).run Tryz.prog w = .ok (.enter 31 #[(.string a1), (.string a2)]) w ∧ Calls Tryz.prog 31 #[(.string a1), (.string a2)] w fun e w' => ∃ v, e = .returned v ∧ Out w w' ∧ strings_Split.ret K v w'.heap := hh w hw

/-! ### strings.IndexAny: function 59, by its contract -/
def strings_IndexAny.ret (K : Int → Heap → Prop) (v : Value) (h : Heap) : Prop := match v with
  | (.int .i64 r3) => K r3 h
  | _ => False
theorem strings_IndexAny.ret_elim {K : Int → Heap → Prop} {K' : Value → Heap → Prop} {v : Value} {h : Heap} (hk : ∀ r3 h, K r3 h → K' (.int .i64 r3) h) (hh : strings_IndexAny.ret K v h) : K' v h := by
  unfold strings_IndexAny.ret at hh
  split at hh
  · exact hk _ _ hh
  · exact hh.elim
def strings_IndexAny [DKc] (a1 : ByteArray) (a2 : ByteArray) (h : Heap) (K : Int → Heap → Prop) : Prop := ∀ w : World, w.heap = h → (callFunc 59 #[(.string a1), (.string a2)]).run Tryz.prog w = .ok (.enter 59 #[(.string a1), (.string a2)]) w ∧ Calls Tryz.prog 59 #[(.string a1), (.string a2)] w fun e w' => ∃ v, e = .returned v ∧ Out w w' ∧ strings_IndexAny.ret K v w'.heap
theorem strings_IndexAny.calls [DKc] {a1 : ByteArray} {a2 : ByteArray} {h : Heap} {K : Int → Heap → Prop} (hh : strings_IndexAny a1 a2 h K) (w : World) (hw : w.heap = h) : (callFunc 59 #[(.string a1), (.string a2)]).run Tryz.prog w = .ok (.enter 59 #[(.string a1), (.string a2)]) w ∧ Calls Tryz.prog 59 #[(.string a1), (.string a2)] w fun e w' => ∃ v, e = .returned v ∧ Out w w' ∧ strings_IndexAny.ret K v w'.heap := hh w hw

/-! ### strings.ContainsAny: function 47 -/
section
variable [DKc]
def strings_ContainsAny (a1 : ByteArray) (a2 : ByteArray) (h : Heap) (K : Bool → Heap → Prop) : Prop :=
  (callP1 (strings_IndexAny a1 a2 h) fun x3 h4 => (K (decide (x3 ≥ (0 : Int))) h4))
def strings_ContainsAny.ret (K : Bool → Heap → Prop) (v : Value) (h : Heap) : Prop := match v with
  | (.bool r5) => K r5 h
  | _ => False
theorem strings_ContainsAny.ret_elim {K : Bool → Heap → Prop} {K' : Value → Heap → Prop} {v : Value} {h : Heap} (hk : ∀ r5 h, K r5 h → K' (.bool r5) h) (hh : strings_ContainsAny.ret K v h) : K' v h := by
  unfold strings_ContainsAny.ret at hh
  split at hh
  · exact hk _ _ hh
  · exact hh.elim
def strings_ContainsAny.call (f : FuncId) (vs : List Value) (h : Heap) (K : Value → Heap → Prop) : Prop := match f, vs with
  | 59, [(.string a1), (.string a2)] => callP1 (strings_IndexAny a1 a2 h) fun r3 h' => K (.int .i64 r3) h'
  | _, _ => False
noncomputable def strings_ContainsAny.ctx : Ctx := { P := Tryz.prog, call := strings_ContainsAny.call, qcall := fun _ _ _ _ => False, quiet := fun f => Nat.beq f 2000025, loop := fun _ _ _ _ => False }
theorem strings_ContainsAny.ok : strings_ContainsAny.ctx.OK where
  mixed := by kernel_rfl
  mono := by
    intro f args h K K' hh hk
    change strings_ContainsAny.call f args h K at hh
    change strings_ContainsAny.call f args h K'
    unfold strings_ContainsAny.call at hh ⊢
    split at hh
    · obtain ⟨R, h1, h2⟩ := hh
      exact ⟨R, h1, fun _ x hr => hk _ _ (h2 _ x hr)⟩
    · exact hh.elim
  call := by
    intro f args h K hh w hw
    change strings_ContainsAny.call f args h K at hh
    unfold strings_ContainsAny.call at hh
    split at hh
    · obtain ⟨R, h1, h2⟩ := hh
      obtain ⟨g1, g2⟩ := strings_IndexAny.calls h1 w hw
      exact ⟨g1, g2.mono fun e w' ⟨v, he, ho, hr⟩ => ⟨v, he, ho, strings_IndexAny.ret_elim h2 hr⟩⟩
    · exact hh.elim
  qmono := fun hh _ => hh.elim
  qval := fun hh => hh.elim
  qcall := fun hh => hh.elim
noncomputable def strings_ContainsAny.code : Code := (Tryz.f47.body).getD .skip
def strings_ContainsAny.ann : Ann := .auto
set_option maxRecDepth 100000 in
theorem strings_ContainsAny.eq (a1 : ByteArray) (a2 : ByteArray) (h : Heap) (K : Bool → Heap → Prop) : evF strings_ContainsAny.ctx Tryz.f47 strings_ContainsAny.ann [(.string a1), (.string a2)] h (strings_ContainsAny.ret K) = strings_ContainsAny a1 a2 h K := by kernel_rfl
set_option maxRecDepth 100000 in
theorem strings_ContainsAny.calls {a1 : ByteArray} {a2 : ByteArray} {h : Heap} {K : Bool → Heap → Prop} (hh : strings_ContainsAny a1 a2 h K) (w : World) (hw : w.heap = h) :
    (callFunc 47 #[(.string a1), (.string a2)]).run Tryz.prog w = .ok (.enter 47 #[(.string a1), (.string a2)]) w ∧ Calls Tryz.prog 47 #[(.string a1), (.string a2)] w fun e w' => ∃ v, e = .returned v ∧ Out w w' ∧ strings_ContainsAny.ret K v w'.heap := by
  rw [← strings_ContainsAny.eq] at hh
  exact fn_calls (args := [(.string a1), (.string a2)]) (c := strings_ContainsAny.code) strings_ContainsAny.ok Tryz.func47 (by kernel_rfl) (by kernel_rfl) (by kernel_rfl) (by kernel_rfl) (loops_ok (l := []) (by kernel_rfl) trivial) hh w hw
end

/-! ### strait/word.right: function 33 -/
section
variable [DKc]
def word_right (a1 : ByteArray) (h : Heap) (K : Bool → Heap → Prop) : Prop :=
  (iteB (!(a1.toList == (⟨#[]⟩ : ByteArray).toList)) (callP1 (strings_ContainsAny a1 (⟨#[32, 10]⟩ : ByteArray) h) fun x2 h3 => (K (!x2) h3)) (K false h))
def word_right.ret (K : Bool → Heap → Prop) (v : Value) (h : Heap) : Prop := match v with
  | (.bool r6) => K r6 h
  | _ => False
theorem word_right.ret_elim {K : Bool → Heap → Prop} {K' : Value → Heap → Prop} {v : Value} {h : Heap} (hk : ∀ r6 h, K r6 h → K' (.bool r6) h) (hh : word_right.ret K v h) : K' v h := by
  unfold word_right.ret at hh
  split at hh
  · exact hk _ _ hh
  · exact hh.elim
def word_right.call (f : FuncId) (vs : List Value) (h : Heap) (K : Value → Heap → Prop) : Prop := match f, vs with
  | 47, [(.string a1), (.string a2)] => callP1 (strings_ContainsAny a1 a2 h) fun r5 h' => K (.bool r5) h'
  | _, _ => False
noncomputable def word_right.ctx : Ctx := { P := Tryz.prog, call := word_right.call, qcall := fun _ _ _ _ => False, quiet := fun f => Nat.beq f 2000025, loop := fun _ _ _ _ => False }
theorem word_right.ok : word_right.ctx.OK where
  mixed := by kernel_rfl
  mono := by
    intro f args h K K' hh hk
    change word_right.call f args h K at hh
    change word_right.call f args h K'
    unfold word_right.call at hh ⊢
    split at hh
    · obtain ⟨R, h1, h2⟩ := hh
      exact ⟨R, h1, fun _ x hr => hk _ _ (h2 _ x hr)⟩
    · exact hh.elim
  call := by
    intro f args h K hh w hw
    change word_right.call f args h K at hh
    unfold word_right.call at hh
    split at hh
    · obtain ⟨R, h1, h2⟩ := hh
      obtain ⟨g1, g2⟩ := strings_ContainsAny.calls h1 w hw
      exact ⟨g1, g2.mono fun e w' ⟨v, he, ho, hr⟩ => ⟨v, he, ho, strings_ContainsAny.ret_elim h2 hr⟩⟩
    · exact hh.elim
  qmono := fun hh _ => hh.elim
  qval := fun hh => hh.elim
  qcall := fun hh => hh.elim
noncomputable def word_right.code : Code := (Tryz.f33.body).getD .skip
def word_right.ann : Ann := .auto
set_option maxRecDepth 100000 in
theorem word_right.eq (a1 : ByteArray) (h : Heap) (K : Bool → Heap → Prop) : evF word_right.ctx Tryz.f33 word_right.ann [(.string a1)] h (word_right.ret K) = word_right a1 h K := by kernel_rfl
set_option maxRecDepth 100000 in
theorem word_right.calls {a1 : ByteArray} {h : Heap} {K : Bool → Heap → Prop} (hh : word_right a1 h K) (w : World) (hw : w.heap = h) :
    (callFunc 33 #[(.string a1)]).run Tryz.prog w = .ok (.enter 33 #[(.string a1)]) w ∧ Calls Tryz.prog 33 #[(.string a1)] w fun e w' => ∃ v, e = .returned v ∧ Out w w' ∧ word_right.ret K v w'.heap := by
  rw [← word_right.eq] at hh
  exact fn_calls (args := [(.string a1)]) (c := word_right.code) word_right.ok Tryz.func33 (by kernel_rfl) (by kernel_rfl) (by kernel_rfl) (by kernel_rfl) (loops_ok (l := []) (by kernel_rfl) trivial) hh w hw
end

/-! ### strait/word.Words$1: function 32 -/
section
variable [DKc]
def word_Words_c1 (a1 : ByteArray) (h : Heap) (K : Bool → Heap → Prop) : Prop :=
  (callP1 (word_right a1 h) fun x2 h3 => (K (!x2) h3))
def word_Words_c1.ret (K : Bool → Heap → Prop) (v : Value) (h : Heap) : Prop := match v with
  | (.bool r4) => K r4 h
  | _ => False
theorem word_Words_c1.ret_elim {K : Bool → Heap → Prop} {K' : Value → Heap → Prop} {v : Value} {h : Heap} (hk : ∀ r4 h, K r4 h → K' (.bool r4) h) (hh : word_Words_c1.ret K v h) : K' v h := by
  unfold word_Words_c1.ret at hh
  split at hh
  · exact hk _ _ hh
  · exact hh.elim
def word_Words_c1.call (f : FuncId) (vs : List Value) (h : Heap) (K : Value → Heap → Prop) : Prop := match f, vs with
  | 33, [(.string a1)] => callP1 (word_right a1 h) fun r6 h' => K (.bool r6) h'
  | _, _ => False
noncomputable def word_Words_c1.ctx : Ctx := { P := Tryz.prog, call := word_Words_c1.call, qcall := fun _ _ _ _ => False, quiet := fun f => Nat.beq f 2000025, loop := fun _ _ _ _ => False }
theorem word_Words_c1.ok : word_Words_c1.ctx.OK where
  mixed := by kernel_rfl
  mono := by
    intro f args h K K' hh hk
    change word_Words_c1.call f args h K at hh
    change word_Words_c1.call f args h K'
    unfold word_Words_c1.call at hh ⊢
    split at hh
    · obtain ⟨R, h1, h2⟩ := hh
      exact ⟨R, h1, fun _ x hr => hk _ _ (h2 _ x hr)⟩
    · exact hh.elim
  call := by
    intro f args h K hh w hw
    change word_Words_c1.call f args h K at hh
    unfold word_Words_c1.call at hh
    split at hh
    · obtain ⟨R, h1, h2⟩ := hh
      obtain ⟨g1, g2⟩ := word_right.calls h1 w hw
      exact ⟨g1, g2.mono fun e w' ⟨v, he, ho, hr⟩ => ⟨v, he, ho, word_right.ret_elim h2 hr⟩⟩
    · exact hh.elim
  qmono := fun hh _ => hh.elim
  qval := fun hh => hh.elim
  qcall := fun hh => hh.elim
noncomputable def word_Words_c1.code : Code := (Tryz.f32.body).getD .skip
def word_Words_c1.ann : Ann := .auto
set_option maxRecDepth 100000 in
theorem word_Words_c1.eq (a1 : ByteArray) (h : Heap) (K : Bool → Heap → Prop) : evF word_Words_c1.ctx Tryz.f32 word_Words_c1.ann [(.string a1)] h (word_Words_c1.ret K) = word_Words_c1 a1 h K := by kernel_rfl
set_option maxRecDepth 100000 in
theorem word_Words_c1.calls {a1 : ByteArray} {h : Heap} {K : Bool → Heap → Prop} (hh : word_Words_c1 a1 h K) (w : World) (hw : w.heap = h) :
    (callFunc 32 #[(.string a1)]).run Tryz.prog w = .ok (.enter 32 #[(.string a1)]) w ∧ Calls Tryz.prog 32 #[(.string a1)] w fun e w' => ∃ v, e = .returned v ∧ Out w w' ∧ word_Words_c1.ret K v w'.heap := by
  rw [← word_Words_c1.eq] at hh
  exact fn_calls (args := [(.string a1)]) (c := word_Words_c1.code) word_Words_c1.ok Tryz.func32 (by kernel_rfl) (by kernel_rfl) (by kernel_rfl) (by kernel_rfl) (loops_ok (l := []) (by kernel_rfl) trivial) hh w hw
end

/-! ### slices.IndexFunc[[]string,string]: function 48 -/
section
variable [DKc]
def slices_IndexFunc_Lstring_string_word_Words_c1.b0 (K0 : Int → Heap → Prop) (K2 : Heap → Prop) (cont : (Option Addr) → Nat → Nat → Int → Int → Heap → Prop) (c0_1001 : Option Addr) (c0_1002 : Nat) (c0_1003 : Nat) (c7_1004 : Int) (v8_1005 : Int) (h1006 : Heap) : Prop :=
  (iteB (decide (v8_1005 < c7_1004)) (((chkP c0_1001 fun a1007 => (0 ≤ v8_1005 ∧ v8_1005 < (c0_1002 : Int)) ∧ ∃ (x1008 : ByteArray), cell h1006 (a1007.add (v8_1005.toNat * 1)) = some (.string x1008) ∧ callP1 (word_Words_c1 x1008 h1006) fun x1009 h1010 => (iteB x1009 (K0 v8_1005 h1010) (((cont c0_1001 c0_1002 c0_1003 c7_1004 (IntKind.i64.wrap (v8_1005 + 1)) h1010))))))) (K2 h1006))
def slices_IndexFunc_Lstring_string_word_Words_c1.l0 (K0 : Int → Heap → Prop) (K2 : Heap → Prop) : Nat → (Option Addr) → Nat → Nat → Int → Int → Heap → Prop
  | 0, _, _, _, _, _, _ => False
  | m + 1, c0_1001, c0_1002, c0_1003, c7_1004, v8_1005, h => slices_IndexFunc_Lstring_string_word_Words_c1.b0 K0 K2 (slices_IndexFunc_Lstring_string_word_Words_c1.l0 K0 K2 m) c0_1001 c0_1002 c0_1003 c7_1004 v8_1005 h
def slices_IndexFunc_Lstring_string_word_Words_c1 (a1 : Option Addr) (a1l : Nat) (a1c : Nat) (h : Heap) (K : Int → Heap → Prop) : Prop :=
  ((∃ m5, slices_IndexFunc_Lstring_string_word_Words_c1.l0 (fun z2 h3 => K z2 h3) (fun h4 => (((K (-1) h4)))) m5 a1 a1l a1c (a1l : Int) 0 h))
def slices_IndexFunc_Lstring_string_word_Words_c1.ret (K : Int → Heap → Prop) (v : Value) (h : Heap) : Prop := match v with
  | (.int .i64 r6) => K r6 h
  | _ => False
theorem slices_IndexFunc_Lstring_string_word_Words_c1.ret_elim {K : Int → Heap → Prop} {K' : Value → Heap → Prop} {v : Value} {h : Heap} (hk : ∀ r6 h, K r6 h → K' (.int .i64 r6) h) (hh : slices_IndexFunc_Lstring_string_word_Words_c1.ret K v h) : K' v h := by
  unfold slices_IndexFunc_Lstring_string_word_Words_c1.ret at hh
  split at hh
  · exact hk _ _ hh
  · exact hh.elim
def slices_IndexFunc_Lstring_string_word_Words_c1.call (f : FuncId) (vs : List Value) (h : Heap) (K : Value → Heap → Prop) : Prop := match f, vs with
  | 32, [(.string a1)] => callP1 (word_Words_c1 a1 h) fun r4 h' => K (.bool r4) h'
  | _, _ => False
def slices_IndexFunc_Lstring_string_word_Words_c1.r0 (K : Nat → List Value → Heap → Prop) (m : Nat) (vs : List Value) (h : Heap) : Prop := match vs with
  | [(.slice c0_1001 c0_1002 c0_1003), (.func (.func 32) ⟨[]⟩ ⟨[]⟩), (.int .i64 c7_1004), (.int .i64 v8_1005)] => slices_IndexFunc_Lstring_string_word_Words_c1.l0 (fun z7 h' => K 0 [(.int .i64 z7)] h') (fun h' => K 2 [] h') m c0_1001 c0_1002 c0_1003 c7_1004 v8_1005 h
  | _ => False
def slices_IndexFunc_Lstring_string_word_Words_c1.loop (i : Nat) (vs : List Value) (h : Heap) (K : Nat → List Value → Heap → Prop) : Prop := match i with
  | 0 => ∃ m, slices_IndexFunc_Lstring_string_word_Words_c1.r0 K m vs h
  | _ => False
noncomputable def slices_IndexFunc_Lstring_string_word_Words_c1.ctx : Ctx := { P := Tryz.prog, call := slices_IndexFunc_Lstring_string_word_Words_c1.call, qcall := fun _ _ _ _ => False, quiet := fun f => Nat.beq f 2000025, loop := slices_IndexFunc_Lstring_string_word_Words_c1.loop }
theorem slices_IndexFunc_Lstring_string_word_Words_c1.ok : slices_IndexFunc_Lstring_string_word_Words_c1.ctx.OK where
  mixed := by kernel_rfl
  mono := by
    intro f args h K K' hh hk
    change slices_IndexFunc_Lstring_string_word_Words_c1.call f args h K at hh
    change slices_IndexFunc_Lstring_string_word_Words_c1.call f args h K'
    unfold slices_IndexFunc_Lstring_string_word_Words_c1.call at hh ⊢
    split at hh
    · obtain ⟨R, h1, h2⟩ := hh
      exact ⟨R, h1, fun _ x hr => hk _ _ (h2 _ x hr)⟩
    · exact hh.elim
  call := by
    intro f args h K hh w hw
    change slices_IndexFunc_Lstring_string_word_Words_c1.call f args h K at hh
    unfold slices_IndexFunc_Lstring_string_word_Words_c1.call at hh
    split at hh
    · obtain ⟨R, h1, h2⟩ := hh
      obtain ⟨g1, g2⟩ := word_Words_c1.calls h1 w hw
      exact ⟨g1, g2.mono fun e w' ⟨v, he, ho, hr⟩ => ⟨v, he, ho, word_Words_c1.ret_elim h2 hr⟩⟩
    · exact hh.elim
  qmono := fun hh _ => hh.elim
  qval := fun hh => hh.elim
  qcall := fun hh => hh.elim
noncomputable def slices_IndexFunc_Lstring_string_word_Words_c1.code : Code := (Tryz.f48.body).getD .skip
def slices_IndexFunc_Lstring_string_word_Words_c1.ann : Ann := (.two .auto (.two (.two .auto (.two (.loop 0 [0, 1, 7, 8] [(2, []), (0, [4])] .auto) .auto)) .auto))
noncomputable def slices_IndexFunc_Lstring_string_word_Words_c1.c0 : Code := sub slices_IndexFunc_Lstring_string_word_Words_c1.code [1, 0, 1, 0, 0]
def slices_IndexFunc_Lstring_string_word_Words_c1.a0 : Ann := .auto
def slices_IndexFunc_Lstring_string_word_Words_c1.keep0 : List Nat := [0, 1, 7, 8]
def slices_IndexFunc_Lstring_string_word_Words_c1.outs0 : List (Nat × List Nat) := [(2, []), (0, [4])]
set_option maxRecDepth 100000 in
theorem slices_IndexFunc_Lstring_string_word_Words_c1.L0 : LoopOK slices_IndexFunc_Lstring_string_word_Words_c1.ctx 19 slices_IndexFunc_Lstring_string_word_Words_c1.c0 0 slices_IndexFunc_Lstring_string_word_Words_c1.keep0 slices_IndexFunc_Lstring_string_word_Words_c1.outs0 := by
  refine loop_ok (n := slices_IndexFunc_Lstring_string_word_Words_c1.a0) slices_IndexFunc_Lstring_string_word_Words_c1.ok (by kernel_rfl) (loops_ok (l := []) (by kernel_rfl) ?_) slices_IndexFunc_Lstring_string_word_Words_c1.r0 ?_ ?_ (fun vs h K hh => hh)
  · exact trivial
  · intro K vs h hh
    unfold slices_IndexFunc_Lstring_string_word_Words_c1.r0 at hh
    split at hh
    · exact hh
    · exact hh
  · intro K m vs h hh
    unfold slices_IndexFunc_Lstring_string_word_Words_c1.r0 at hh
    split at hh
    · exact cast (by kernel_rfl) hh
    · exact hh.elim
set_option maxRecDepth 100000 in
theorem slices_IndexFunc_Lstring_string_word_Words_c1.eq (a1 : Option Addr) (a1l : Nat) (a1c : Nat) (h : Heap) (K : Int → Heap → Prop) : evF slices_IndexFunc_Lstring_string_word_Words_c1.ctx Tryz.f48 slices_IndexFunc_Lstring_string_word_Words_c1.ann [(.slice a1 a1l a1c), (.func (.func 32) #[] #[])] h (slices_IndexFunc_Lstring_string_word_Words_c1.ret K) = slices_IndexFunc_Lstring_string_word_Words_c1 a1 a1l a1c h K := by kernel_rfl
set_option maxRecDepth 100000 in
theorem slices_IndexFunc_Lstring_string_word_Words_c1.calls {a1 : Option Addr} {a1l : Nat} {a1c : Nat} {h : Heap} {K : Int → Heap → Prop} (hh : slices_IndexFunc_Lstring_string_word_Words_c1 a1 a1l a1c h K) (w : World) (hw : w.heap = h) :
    (callFunc 48 #[(.slice a1 a1l a1c), (.func (.func 32) #[] #[])]).run Tryz.prog w = .ok (.enter 48 #[(.slice a1 a1l a1c), (.func (.func 32) #[] #[])]) w ∧ Calls Tryz.prog 48 #[(.slice a1 a1l a1c), (.func (.func 32) #[] #[])] w fun e w' => ∃ v, e = .returned v ∧ Out w w' ∧ slices_IndexFunc_Lstring_string_word_Words_c1.ret K v w'.heap := by
  rw [← slices_IndexFunc_Lstring_string_word_Words_c1.eq] at hh
  exact fn_calls (args := [(.slice a1 a1l a1c), (.func (.func 32) #[] #[])]) (c := slices_IndexFunc_Lstring_string_word_Words_c1.code) slices_IndexFunc_Lstring_string_word_Words_c1.ok Tryz.func48 (by kernel_rfl) (by kernel_rfl) (by kernel_rfl) (by kernel_rfl) (loops_ok (l := [(slices_IndexFunc_Lstring_string_word_Words_c1.c0, none, 0, slices_IndexFunc_Lstring_string_word_Words_c1.keep0, slices_IndexFunc_Lstring_string_word_Words_c1.outs0)]) (by kernel_rfl) ⟨slices_IndexFunc_Lstring_string_word_Words_c1.L0, trivial⟩) hh w hw
end

/-! ### slices.ContainsFunc[[]string,string]: function 34 -/
section
variable [DKc]
def slices_ContainsFunc_Lstring_string_word_Words_c1 (a1 : Option Addr) (a1l : Nat) (a1c : Nat) (h : Heap) (K : Bool → Heap → Prop) : Prop :=
  (callP1 (slices_IndexFunc_Lstring_string_word_Words_c1 a1 a1l a1c h) fun x2 h3 => (K (decide (x2 ≥ (0 : Int))) h3))
def slices_ContainsFunc_Lstring_string_word_Words_c1.ret (K : Bool → Heap → Prop) (v : Value) (h : Heap) : Prop := match v with
  | (.bool r4) => K r4 h
  | _ => False
theorem slices_ContainsFunc_Lstring_string_word_Words_c1.ret_elim {K : Bool → Heap → Prop} {K' : Value → Heap → Prop} {v : Value} {h : Heap} (hk : ∀ r4 h, K r4 h → K' (.bool r4) h) (hh : slices_ContainsFunc_Lstring_string_word_Words_c1.ret K v h) : K' v h := by
  unfold slices_ContainsFunc_Lstring_string_word_Words_c1.ret at hh
  split at hh
  · exact hk _ _ hh
  · exact hh.elim
def slices_ContainsFunc_Lstring_string_word_Words_c1.call (f : FuncId) (vs : List Value) (h : Heap) (K : Value → Heap → Prop) : Prop := match f, vs with
  | 48, [(.slice a1 a1l a1c), (.func (.func 32) ⟨[]⟩ ⟨[]⟩)] => callP1 (slices_IndexFunc_Lstring_string_word_Words_c1 a1 a1l a1c h) fun r6 h' => K (.int .i64 r6) h'
  | _, _ => False
noncomputable def slices_ContainsFunc_Lstring_string_word_Words_c1.ctx : Ctx := { P := Tryz.prog, call := slices_ContainsFunc_Lstring_string_word_Words_c1.call, qcall := fun _ _ _ _ => False, quiet := fun f => Nat.beq f 2000025, loop := fun _ _ _ _ => False }
theorem slices_ContainsFunc_Lstring_string_word_Words_c1.ok : slices_ContainsFunc_Lstring_string_word_Words_c1.ctx.OK where
  mixed := by kernel_rfl
  mono := by
    intro f args h K K' hh hk
    change slices_ContainsFunc_Lstring_string_word_Words_c1.call f args h K at hh
    change slices_ContainsFunc_Lstring_string_word_Words_c1.call f args h K'
    unfold slices_ContainsFunc_Lstring_string_word_Words_c1.call at hh ⊢
    split at hh
    · obtain ⟨R, h1, h2⟩ := hh
      exact ⟨R, h1, fun _ x hr => hk _ _ (h2 _ x hr)⟩
    · exact hh.elim
  call := by
    intro f args h K hh w hw
    change slices_ContainsFunc_Lstring_string_word_Words_c1.call f args h K at hh
    unfold slices_ContainsFunc_Lstring_string_word_Words_c1.call at hh
    split at hh
    · obtain ⟨R, h1, h2⟩ := hh
      obtain ⟨g1, g2⟩ := slices_IndexFunc_Lstring_string_word_Words_c1.calls h1 w hw
      exact ⟨g1, g2.mono fun e w' ⟨v, he, ho, hr⟩ => ⟨v, he, ho, slices_IndexFunc_Lstring_string_word_Words_c1.ret_elim h2 hr⟩⟩
    · exact hh.elim
  qmono := fun hh _ => hh.elim
  qval := fun hh => hh.elim
  qcall := fun hh => hh.elim
noncomputable def slices_ContainsFunc_Lstring_string_word_Words_c1.code : Code := (Tryz.f34.body).getD .skip
def slices_ContainsFunc_Lstring_string_word_Words_c1.ann : Ann := .auto
set_option maxRecDepth 100000 in
theorem slices_ContainsFunc_Lstring_string_word_Words_c1.eq (a1 : Option Addr) (a1l : Nat) (a1c : Nat) (h : Heap) (K : Bool → Heap → Prop) : evF slices_ContainsFunc_Lstring_string_word_Words_c1.ctx Tryz.f34 slices_ContainsFunc_Lstring_string_word_Words_c1.ann [(.slice a1 a1l a1c), (.func (.func 32) #[] #[])] h (slices_ContainsFunc_Lstring_string_word_Words_c1.ret K) = slices_ContainsFunc_Lstring_string_word_Words_c1 a1 a1l a1c h K := by kernel_rfl
set_option maxRecDepth 100000 in
theorem slices_ContainsFunc_Lstring_string_word_Words_c1.calls {a1 : Option Addr} {a1l : Nat} {a1c : Nat} {h : Heap} {K : Bool → Heap → Prop} (hh : slices_ContainsFunc_Lstring_string_word_Words_c1 a1 a1l a1c h K) (w : World) (hw : w.heap = h) :
    (callFunc 34 #[(.slice a1 a1l a1c), (.func (.func 32) #[] #[])]).run Tryz.prog w = .ok (.enter 34 #[(.slice a1 a1l a1c), (.func (.func 32) #[] #[])]) w ∧ Calls Tryz.prog 34 #[(.slice a1 a1l a1c), (.func (.func 32) #[] #[])] w fun e w' => ∃ v, e = .returned v ∧ Out w w' ∧ slices_ContainsFunc_Lstring_string_word_Words_c1.ret K v w'.heap := by
  rw [← slices_ContainsFunc_Lstring_string_word_Words_c1.eq] at hh
  exact fn_calls (args := [(.slice a1 a1l a1c), (.func (.func 32) #[] #[])]) (c := slices_ContainsFunc_Lstring_string_word_Words_c1.code) slices_ContainsFunc_Lstring_string_word_Words_c1.ok Tryz.func34 (by kernel_rfl) (by kernel_rfl) (by kernel_rfl) (by kernel_rfl) (loops_ok (l := []) (by kernel_rfl) trivial) hh w hw
end

/-! ### strait/word.Words: function 11 -/
section
variable [DKc]
def word_Words (a1 : ByteArray) (h : Heap) (K : (Option Addr) → Nat → Nat → Bool → Heap → Prop) : Prop :=
  ((iteB (a1.toList == (⟨#[]⟩ : ByteArray).toList) (K none 0 0 true h) ((callP3 (strings_Split a1 (⟨#[32]⟩ : ByteArray) h) fun x2 x2l x2c h3 => ((callP1 (slices_ContainsFunc_Lstring_string_word_Words_c1 x2 x2l x2c h3) fun x4 h5 => (iteB x4 (K none 0 0 false h5) (K x2 x2l x2c true h5))))))))
def word_Words.ret (K : (Option Addr) → Nat → Nat → Bool → Heap → Prop) (v : Value) (h : Heap) : Prop := match v with
  | (.tuple ⟨[(.slice r6 r6l r6c), (.bool r7)]⟩) => K r6 r6l r6c r7 h
  | _ => False
theorem word_Words.ret_elim {K : (Option Addr) → Nat → Nat → Bool → Heap → Prop} {K' : Value → Heap → Prop} {v : Value} {h : Heap} (hk : ∀ r6 r6l r6c r7 h, K r6 r6l r6c r7 h → K' (.tuple #[(.slice r6 r6l r6c), (.bool r7)]) h) (hh : word_Words.ret K v h) : K' v h := by
  unfold word_Words.ret at hh
  split at hh
  · exact hk _ _ _ _ _ hh
  · exact hh.elim
def word_Words.call (f : FuncId) (vs : List Value) (h : Heap) (K : Value → Heap → Prop) : Prop := match f, vs with
  | 31, [(.string a1), (.string a2)] => callP3 (strings_Split a1 a2 h) fun r3 r3l r3c h' => K (.slice r3 r3l r3c) h'
  | 34, [(.slice a1 a1l a1c), (.func (.func 32) ⟨[]⟩ ⟨[]⟩)] => callP1 (slices_ContainsFunc_Lstring_string_word_Words_c1 a1 a1l a1c h) fun r4 h' => K (.bool r4) h'
  | _, _ => False
noncomputable def word_Words.ctx : Ctx := { P := Tryz.prog, call := word_Words.call, qcall := fun _ _ _ _ => False, quiet := fun f => Nat.beq f 2000025, loop := fun _ _ _ _ => False }
theorem word_Words.ok : word_Words.ctx.OK where
  mixed := by kernel_rfl
  mono := by
    intro f args h K K' hh hk
    change word_Words.call f args h K at hh
    change word_Words.call f args h K'
    unfold word_Words.call at hh ⊢
    split at hh
    · obtain ⟨R, h1, h2⟩ := hh
      exact ⟨R, h1, fun _ _ _ x hr => hk _ _ (h2 _ _ _ x hr)⟩
    · obtain ⟨R, h1, h2⟩ := hh
      exact ⟨R, h1, fun _ x hr => hk _ _ (h2 _ x hr)⟩
    · exact hh.elim
  call := by
    intro f args h K hh w hw
    change word_Words.call f args h K at hh
    unfold word_Words.call at hh
    split at hh
    · obtain ⟨R, h1, h2⟩ := hh
      obtain ⟨g1, g2⟩ := strings_Split.calls h1 w hw
      exact ⟨g1, g2.mono fun e w' ⟨v, he, ho, hr⟩ => ⟨v, he, ho, strings_Split.ret_elim h2 hr⟩⟩
    · obtain ⟨R, h1, h2⟩ := hh
      obtain ⟨g1, g2⟩ := slices_ContainsFunc_Lstring_string_word_Words_c1.calls h1 w hw
      exact ⟨g1, g2.mono fun e w' ⟨v, he, ho, hr⟩ => ⟨v, he, ho, slices_ContainsFunc_Lstring_string_word_Words_c1.ret_elim h2 hr⟩⟩
    · exact hh.elim
  qmono := fun hh _ => hh.elim
  qval := fun hh => hh.elim
  qcall := fun hh => hh.elim
noncomputable def word_Words.code : Code := (Tryz.f11.body).getD .skip
def word_Words.ann : Ann := .auto
set_option maxRecDepth 100000 in
theorem word_Words.eq (a1 : ByteArray) (h : Heap) (K : (Option Addr) → Nat → Nat → Bool → Heap → Prop) : evF word_Words.ctx Tryz.f11 word_Words.ann [(.string a1)] h (word_Words.ret K) = word_Words a1 h K := by kernel_rfl
set_option maxRecDepth 100000 in
theorem word_Words.calls {a1 : ByteArray} {h : Heap} {K : (Option Addr) → Nat → Nat → Bool → Heap → Prop} (hh : word_Words a1 h K) (w : World) (hw : w.heap = h) :
    (callFunc 11 #[(.string a1)]).run Tryz.prog w = .ok (.enter 11 #[(.string a1)]) w ∧ Calls Tryz.prog 11 #[(.string a1)] w fun e w' => ∃ v, e = .returned v ∧ Out w w' ∧ word_Words.ret K v w'.heap := by
  rw [← word_Words.eq] at hh
  exact fn_calls (args := [(.string a1)]) (c := word_Words.code) word_Words.ok Tryz.func11 (by kernel_rfl) (by kernel_rfl) (by kernel_rfl) (by kernel_rfl) (loops_ok (l := []) (by kernel_rfl) trivial) hh w hw
end

/-! ### (*strait/answer.line).word: function 12 -/
def answer_line_word (a1 : Option Addr) (a2 : ByteArray) (h : Heap) (K : Bool → Heap → Prop) : Prop :=
  (let j14 : Prop := (chkP a1 fun a10 => ∃ (x11 : Option Addr) (x11l : Nat) (x11c : Nat), cell h a10 = some (.slice x11 x11l x11c) ∧ (0 ≤ (1 : Int) ∧ (1 : Int) ≤ (x11l : Int)) ∧ chkP a1 fun a12 => stC h a12 (.slice (if x11c = (1 : Int).toNat then x11 else x11.map (·.add ((1 : Int).toNat * 1))) (x11l - (1 : Int).toNat) (x11c - (1 : Int).toNat)) fun h13 => K true h13);
  chkP a1 fun a3 => ∃ (x4 : Option Addr) (x4l : Nat) (x4c : Nat), cell h a3 = some (.slice x4 x4l x4c) ∧ iteB ((x4l : Int) == (0 : Int)) (K false h) (chkP a1 fun a5 => ∃ (x6 : Option Addr) (x6l : Nat) (x6c : Nat), cell h a5 = some (.slice x6 x6l x6c) ∧ chkP x6 fun a7 => (0 ≤ (0 : Int) ∧ (0 : Int) < (x6l : Int)) ∧ ∃ (x8 : ByteArray), cell h (a7.add ((0 : Int).toNat * 1)) = some (.string x8) ∧ (iteB (!(x8.toList == a2.toList)) (K false h) ((j14)))))
def answer_line_word.ret (K : Bool → Heap → Prop) (v : Value) (h : Heap) : Prop := match v with
  | (.bool r15) => K r15 h
  | _ => False
theorem answer_line_word.ret_elim {K : Bool → Heap → Prop} {K' : Value → Heap → Prop} {v : Value} {h : Heap} (hk : ∀ r15 h, K r15 h → K' (.bool r15) h) (hh : answer_line_word.ret K v h) : K' v h := by
  unfold answer_line_word.ret at hh
  split at hh
  · exact hk _ _ hh
  · exact hh.elim
noncomputable def answer_line_word.ctx : Ctx := { P := Tryz.prog, call := fun _ _ _ _ => False, qcall := fun _ _ _ _ => False, quiet := fun f => Nat.beq f 2000025, loop := fun _ _ _ _ => False }
theorem answer_line_word.ok [DKc] : answer_line_word.ctx.OK where
  mixed := by kernel_rfl
  mono := fun hh _ => hh.elim
  call := fun hh => hh.elim
  qmono := fun hh _ => hh.elim
  qval := fun hh => hh.elim
  qcall := fun hh => hh.elim
noncomputable def answer_line_word.code : Code := (Tryz.f12.body).getD .skip
def answer_line_word.ann : Ann := .auto
set_option maxRecDepth 100000 in
theorem answer_line_word.eq (a1 : Option Addr) (a2 : ByteArray) (h : Heap) (K : Bool → Heap → Prop) : evF answer_line_word.ctx Tryz.f12 answer_line_word.ann [(.pointer a1), (.string a2)] h (answer_line_word.ret K) = answer_line_word a1 a2 h K := by kernel_rfl
set_option maxRecDepth 100000 in
theorem answer_line_word.calls [DKc] {a1 : Option Addr} {a2 : ByteArray} {h : Heap} {K : Bool → Heap → Prop} (hh : answer_line_word a1 a2 h K) (w : World) (hw : w.heap = h) :
    (callFunc 12 #[(.pointer a1), (.string a2)]).run Tryz.prog w = .ok (.enter 12 #[(.pointer a1), (.string a2)]) w ∧ Calls Tryz.prog 12 #[(.pointer a1), (.string a2)] w fun e w' => ∃ v, e = .returned v ∧ Out w w' ∧ answer_line_word.ret K v w'.heap := by
  rw [← answer_line_word.eq] at hh
  exact fn_calls (args := [(.pointer a1), (.string a2)]) (c := answer_line_word.code) answer_line_word.ok Tryz.func12 (by kernel_rfl) (by kernel_rfl) (by kernel_rfl) (by kernel_rfl) (loops_ok (l := []) (by kernel_rfl) trivial) hh w hw

/-! ### strings.CutPrefix: function 60, by its contract -/
def strings_CutPrefix.ret (K : ByteArray → Bool → Heap → Prop) (v : Value) (h : Heap) : Prop := match v with
  | (.tuple ⟨[(.string r3), (.bool r4)]⟩) => K r3 r4 h
  | _ => False
theorem strings_CutPrefix.ret_elim {K : ByteArray → Bool → Heap → Prop} {K' : Value → Heap → Prop} {v : Value} {h : Heap} (hk : ∀ r3 r4 h, K r3 r4 h → K' (.tuple #[(.string r3), (.bool r4)]) h) (hh : strings_CutPrefix.ret K v h) : K' v h := by
  unfold strings_CutPrefix.ret at hh
  split at hh
  · exact hk _ _ _ hh
  · exact hh.elim
def strings_CutPrefix [DKc] (a1 : ByteArray) (a2 : ByteArray) (h : Heap) (K : ByteArray → Bool → Heap → Prop) : Prop := ∀ w : World, w.heap = h → (callFunc 60 #[(.string a1), (.string a2)]).run Tryz.prog w = .ok (.enter 60 #[(.string a1), (.string a2)]) w ∧ Calls Tryz.prog 60 #[(.string a1), (.string a2)] w fun e w' => ∃ v, e = .returned v ∧ Out w w' ∧ strings_CutPrefix.ret K v w'.heap
theorem strings_CutPrefix.calls [DKc] {a1 : ByteArray} {a2 : ByteArray} {h : Heap} {K : ByteArray → Bool → Heap → Prop} (hh : strings_CutPrefix a1 a2 h K) (w : World) (hw : w.heap = h) : (callFunc 60 #[(.string a1), (.string a2)]).run Tryz.prog w = .ok (.enter 60 #[(.string a1), (.string a2)]) w ∧ Calls Tryz.prog 60 #[(.string a1), (.string a2)] w fun e w' => ∃ v, e = .returned v ∧ Out w w' ∧ strings_CutPrefix.ret K v w'.heap := hh w hw

/-! ### strait/dec.formed: function 49 -/
section
variable [DKc]
def dec_formed.b0 (K0 : Bool → Heap → Prop) (K2 : Heap → Prop) (cont : ByteArray → Bool → Addr → Heap → Prop) (c3_1001 : ByteArray) (c4_1002 : Bool) (c13_1003 : Addr) (h1004 : Heap) : Prop :=
  (c13_1003.off = 0 ∧ c13_1003.spot = none) ∧ ∃ (s1005 : ByteArray) (p1006 : Nat), h1004[c13_1003.block]? = some (.stringIter s1005 p1006) ∧ (¬ p1006 < s1005.size → K2 h1004) ∧ (p1006 < s1005.size → bindV (setO h1004 c13_1003.block (.stringIter s1005 (p1006 + (Utf8.decode s1005 p1006).2))) fun h1007 => (((iteB (decide (((Utf8.decode s1005 p1006).1 : Int) < (48 : Int))) (K0 false h1007) (iteB (decide (((Utf8.decode s1005 p1006).1 : Int) > (57 : Int))) (K0 false h1007) (iteB (((Utf8.decode s1005 p1006).1 : Int) == (48 : Int)) (iteB ((p1006 : Int) == (0 : Int)) (iteB c4_1002 (K0 false h1007) ((iteB (decide ((c3_1001.size : Int) > (1 : Int))) (K0 false h1007) (cont c3_1001 c4_1002 c13_1003 h1007)))) ((cont c3_1001 c4_1002 c13_1003 h1007))) ((cont c3_1001 c4_1002 c13_1003 h1007))))))))
def dec_formed.l0 (K0 : Bool → Heap → Prop) (K2 : Heap → Prop) : Nat → ByteArray → Bool → Addr → Heap → Prop
  | 0, _, _, _, _ => False
  | m + 1, c3_1001, c4_1002, c13_1003, h => dec_formed.b0 K0 K2 (dec_formed.l0 K0 K2 m) c3_1001 c4_1002 c13_1003 h
def dec_formed (a1 : ByteArray) (h : Heap) (K : Bool → Heap → Prop) : Prop :=
  (callP2 (strings_CutPrefix a1 (⟨#[45]⟩ : ByteArray) h) fun x2 x3 h4 => (newP h4 (.stringIter x2 0) fun a5 h6 => (∃ m10, dec_formed.l0 (fun z7 h8 => K z7 h8) (fun h9 => (((K (!(x2.toList == (⟨#[]⟩ : ByteArray).toList)) h9)))) m10 x2 x3 a5 h6)))
def dec_formed.ret (K : Bool → Heap → Prop) (v : Value) (h : Heap) : Prop := match v with
  | (.bool r11) => K r11 h
  | _ => False
theorem dec_formed.ret_elim {K : Bool → Heap → Prop} {K' : Value → Heap → Prop} {v : Value} {h : Heap} (hk : ∀ r11 h, K r11 h → K' (.bool r11) h) (hh : dec_formed.ret K v h) : K' v h := by
  unfold dec_formed.ret at hh
  split at hh
  · exact hk _ _ hh
  · exact hh.elim
def dec_formed.call (f : FuncId) (vs : List Value) (h : Heap) (K : Value → Heap → Prop) : Prop := match f, vs with
  | 60, [(.string a1), (.string a2)] => callP2 (strings_CutPrefix a1 a2 h) fun r3 r4 h' => K (.tuple #[(.string r3), (.bool r4)]) h'
  | _, _ => False
def dec_formed.r0 (K : Nat → List Value → Heap → Prop) (m : Nat) (vs : List Value) (h : Heap) : Prop := match vs with
  | [(.string c3_1001), (.bool c4_1002), (.pointer (some c13_1003))] => dec_formed.l0 (fun z12 h' => K 0 [(.bool z12)] h') (fun h' => K 2 [(.string c3_1001)] h') m c3_1001 c4_1002 c13_1003 h
  | _ => False
def dec_formed.loop (i : Nat) (vs : List Value) (h : Heap) (K : Nat → List Value → Heap → Prop) : Prop := match i with
  | 0 => ∃ m, dec_formed.r0 K m vs h
  | _ => False
noncomputable def dec_formed.ctx : Ctx := { P := Tryz.prog, call := dec_formed.call, qcall := fun _ _ _ _ => False, quiet := fun f => Nat.beq f 2000025, loop := dec_formed.loop }
theorem dec_formed.ok : dec_formed.ctx.OK where
  mixed := by kernel_rfl
  mono := by
    intro f args h K K' hh hk
    change dec_formed.call f args h K at hh
    change dec_formed.call f args h K'
    unfold dec_formed.call at hh ⊢
    split at hh
    · obtain ⟨R, h1, h2⟩ := hh
      exact ⟨R, h1, fun _ _ x hr => hk _ _ (h2 _ _ x hr)⟩
    · exact hh.elim
  call := by
    intro f args h K hh w hw
    change dec_formed.call f args h K at hh
    unfold dec_formed.call at hh
    split at hh
    · obtain ⟨R, h1, h2⟩ := hh
      obtain ⟨g1, g2⟩ := strings_CutPrefix.calls h1 w hw
      exact ⟨g1, g2.mono fun e w' ⟨v, he, ho, hr⟩ => ⟨v, he, ho, strings_CutPrefix.ret_elim h2 hr⟩⟩
    · exact hh.elim
  qmono := fun hh _ => hh.elim
  qval := fun hh => hh.elim
  qcall := fun hh => hh.elim
noncomputable def dec_formed.code : Code := (Tryz.f49.body).getD .skip
def dec_formed.ann : Ann := (.two .auto (.two .auto (.two (.two .auto (.two (.loop 0 [3, 4, 13] [(2, [3]), (0, [2])] .auto) .auto)) .auto)))
noncomputable def dec_formed.c0 : Code := sub dec_formed.code [1, 1, 0, 1, 0, 0]
def dec_formed.a0 : Ann := .auto
def dec_formed.keep0 : List Nat := [3, 4, 13]
def dec_formed.outs0 : List (Nat × List Nat) := [(2, [3]), (0, [2])]
set_option maxRecDepth 100000 in
theorem dec_formed.L0 : LoopOK dec_formed.ctx 42 dec_formed.c0 0 dec_formed.keep0 dec_formed.outs0 := by
  refine loop_ok (n := dec_formed.a0) dec_formed.ok (by kernel_rfl) (loops_ok (l := []) (by kernel_rfl) ?_) dec_formed.r0 ?_ ?_ (fun vs h K hh => hh)
  · exact trivial
  · intro K vs h hh
    unfold dec_formed.r0 at hh
    split at hh
    · exact hh
    · exact hh
  · intro K m vs h hh
    unfold dec_formed.r0 at hh
    split at hh
    · exact cast (by kernel_rfl) hh
    · exact hh.elim
set_option maxRecDepth 100000 in
theorem dec_formed.eq (a1 : ByteArray) (h : Heap) (K : Bool → Heap → Prop) : evF dec_formed.ctx Tryz.f49 dec_formed.ann [(.string a1)] h (dec_formed.ret K) = dec_formed a1 h K := by kernel_rfl
set_option maxRecDepth 100000 in
theorem dec_formed.calls {a1 : ByteArray} {h : Heap} {K : Bool → Heap → Prop} (hh : dec_formed a1 h K) (w : World) (hw : w.heap = h) :
    (callFunc 49 #[(.string a1)]).run Tryz.prog w = .ok (.enter 49 #[(.string a1)]) w ∧ Calls Tryz.prog 49 #[(.string a1)] w fun e w' => ∃ v, e = .returned v ∧ Out w w' ∧ dec_formed.ret K v w'.heap := by
  rw [← dec_formed.eq] at hh
  exact fn_calls (args := [(.string a1)]) (c := dec_formed.code) dec_formed.ok Tryz.func49 (by kernel_rfl) (by kernel_rfl) (by kernel_rfl) (by kernel_rfl) (loops_ok (l := [(dec_formed.c0, none, 0, dec_formed.keep0, dec_formed.outs0)]) (by kernel_rfl) ⟨dec_formed.L0, trivial⟩) hh w hw
end

/-! ### strconv.ParseInt: function 50, by its contract -/
def strconv_ParseInt.ret (K : Int → Value → Heap → Prop) (v : Value) (h : Heap) : Prop := match v with
  | (.tuple ⟨[(.int .i64 r4), r5]⟩) => K r4 r5 h
  | _ => False
theorem strconv_ParseInt.ret_elim {K : Int → Value → Heap → Prop} {K' : Value → Heap → Prop} {v : Value} {h : Heap} (hk : ∀ r4 r5 h, K r4 r5 h → K' (.tuple #[(.int .i64 r4), r5]) h) (hh : strconv_ParseInt.ret K v h) : K' v h := by
  unfold strconv_ParseInt.ret at hh
  split at hh
  · exact hk _ _ _ hh
  · exact hh.elim
def strconv_ParseInt [DKc] (a1 : ByteArray) (a2 : Int) (a3 : Int) (h : Heap) (K : Int → Value → Heap → Prop) : Prop := ∀ w : World, w.heap = h → (callFunc 50 #[(.string a1), (.int .i64 a2), (.int .i64 a3)]).run Tryz.prog w = .ok (.enter 50 #[(.string a1), (.int .i64 a2), (.int .i64 a3)]) w ∧ Calls Tryz.prog 50 #[(.string a1), (.int .i64 a2), (.int .i64 a3)] w fun e w' => ∃ v, e = .returned v ∧ Out w w' ∧ strconv_ParseInt.ret K v w'.heap
theorem strconv_ParseInt.calls [DKc] {a1 : ByteArray} {a2 : Int} {a3 : Int} {h : Heap} {K : Int → Value → Heap → Prop} (hh : strconv_ParseInt a1 a2 a3 h K) (w : World) (hw : w.heap = h) : (callFunc 50 #[(.string a1), (.int .i64 a2), (.int .i64 a3)]).run Tryz.prog w = .ok (.enter 50 #[(.string a1), (.int .i64 a2), (.int .i64 a3)]) w ∧ Calls Tryz.prog 50 #[(.string a1), (.int .i64 a2), (.int .i64 a3)] w fun e w' => ∃ v, e = .returned v ∧ Out w w' ∧ strconv_ParseInt.ret K v w'.heap := hh w hw

/-! ### strait/dec.Parse: function 35 -/
section
variable [DKc]
def dec_Parse (a1 : ByteArray) (h : Heap) (K : Int → Int → Heap → Prop) : Prop :=
  (callP1 (dec_formed a1 h) fun x2 h3 => (iteB (!x2) (K 0 2 h3) ((callP2 (strconv_ParseInt a1 10 64 h3) fun x4 x5 h6 => (nilP x5 fun z7 => (iteB (!z7) (K 0 10 h6) (K x4 0 h6)))))))
def dec_Parse.ret (K : Int → Int → Heap → Prop) (v : Value) (h : Heap) : Prop := match v with
  | (.tuple ⟨[(.int .i64 r8), (.int .i64 r9)]⟩) => K r8 r9 h
  | _ => False
theorem dec_Parse.ret_elim {K : Int → Int → Heap → Prop} {K' : Value → Heap → Prop} {v : Value} {h : Heap} (hk : ∀ r8 r9 h, K r8 r9 h → K' (.tuple #[(.int .i64 r8), (.int .i64 r9)]) h) (hh : dec_Parse.ret K v h) : K' v h := by
  unfold dec_Parse.ret at hh
  split at hh
  · exact hk _ _ _ hh
  · exact hh.elim
def dec_Parse.call (f : FuncId) (vs : List Value) (h : Heap) (K : Value → Heap → Prop) : Prop := match f, vs with
  | 49, [(.string a1)] => callP1 (dec_formed a1 h) fun r11 h' => K (.bool r11) h'
  | 50, [(.string a1), (.int .i64 a2), (.int .i64 a3)] => callP2 (strconv_ParseInt a1 a2 a3 h) fun r4 r5 h' => K (.tuple #[(.int .i64 r4), r5]) h'
  | _, _ => False
noncomputable def dec_Parse.ctx : Ctx := { P := Tryz.prog, call := dec_Parse.call, qcall := fun _ _ _ _ => False, quiet := fun f => Nat.beq f 2000025, loop := fun _ _ _ _ => False }
theorem dec_Parse.ok : dec_Parse.ctx.OK where
  mixed := by kernel_rfl
  mono := by
    intro f args h K K' hh hk
    change dec_Parse.call f args h K at hh
    change dec_Parse.call f args h K'
    unfold dec_Parse.call at hh ⊢
    split at hh
    · obtain ⟨R, h1, h2⟩ := hh
      exact ⟨R, h1, fun _ x hr => hk _ _ (h2 _ x hr)⟩
    · obtain ⟨R, h1, h2⟩ := hh
      exact ⟨R, h1, fun _ _ x hr => hk _ _ (h2 _ _ x hr)⟩
    · exact hh.elim
  call := by
    intro f args h K hh w hw
    change dec_Parse.call f args h K at hh
    unfold dec_Parse.call at hh
    split at hh
    · obtain ⟨R, h1, h2⟩ := hh
      obtain ⟨g1, g2⟩ := dec_formed.calls h1 w hw
      exact ⟨g1, g2.mono fun e w' ⟨v, he, ho, hr⟩ => ⟨v, he, ho, dec_formed.ret_elim h2 hr⟩⟩
    · obtain ⟨R, h1, h2⟩ := hh
      obtain ⟨g1, g2⟩ := strconv_ParseInt.calls h1 w hw
      exact ⟨g1, g2.mono fun e w' ⟨v, he, ho, hr⟩ => ⟨v, he, ho, strconv_ParseInt.ret_elim h2 hr⟩⟩
    · exact hh.elim
  qmono := fun hh _ => hh.elim
  qval := fun hh => hh.elim
  qcall := fun hh => hh.elim
noncomputable def dec_Parse.code : Code := (Tryz.f35.body).getD .skip
def dec_Parse.ann : Ann := .auto
set_option maxRecDepth 100000 in
theorem dec_Parse.eq (a1 : ByteArray) (h : Heap) (K : Int → Int → Heap → Prop) : evF dec_Parse.ctx Tryz.f35 dec_Parse.ann [(.string a1)] h (dec_Parse.ret K) = dec_Parse a1 h K := by kernel_rfl
set_option maxRecDepth 100000 in
theorem dec_Parse.calls {a1 : ByteArray} {h : Heap} {K : Int → Int → Heap → Prop} (hh : dec_Parse a1 h K) (w : World) (hw : w.heap = h) :
    (callFunc 35 #[(.string a1)]).run Tryz.prog w = .ok (.enter 35 #[(.string a1)]) w ∧ Calls Tryz.prog 35 #[(.string a1)] w fun e w' => ∃ v, e = .returned v ∧ Out w w' ∧ dec_Parse.ret K v w'.heap := by
  rw [← dec_Parse.eq] at hh
  exact fn_calls (args := [(.string a1)]) (c := dec_Parse.code) dec_Parse.ok Tryz.func35 (by kernel_rfl) (by kernel_rfl) (by kernel_rfl) (by kernel_rfl) (loops_ok (l := []) (by kernel_rfl) trivial) hh w hw
end

/-! ### (*strait/answer.line).number: function 13 -/
section
variable [DKc]
def answer_line_number (a1 : Option Addr) (h : Heap) (K : Int → Bool → Heap → Prop) : Prop :=
  (chkP a1 fun a2 => ∃ (x3 : Option Addr) (x3l : Nat) (x3c : Nat), cell h a2 = some (.slice x3 x3l x3c) ∧ (iteB ((x3l : Int) == (0 : Int)) (K 0 false h) ((chkP a1 fun a4 => ∃ (x5 : Option Addr) (x5l : Nat) (x5c : Nat), cell h a4 = some (.slice x5 x5l x5c) ∧ chkP x5 fun a6 => (0 ≤ (0 : Int) ∧ (0 : Int) < (x5l : Int)) ∧ ∃ (x7 : ByteArray), cell h (a6.add ((0 : Int).toNat * 1)) = some (.string x7) ∧ callP2 (dec_Parse x7 h) fun x8 x9 h10 => ((iteB (x9 == (0 : Int)) (chkP a1 fun a11 => ∃ (x12 : Option Addr) (x12l : Nat) (x12c : Nat), cell h10 a11 = some (.slice x12 x12l x12c) ∧ (0 ≤ (1 : Int) ∧ (1 : Int) ≤ (x12l : Int)) ∧ chkP a1 fun a13 => stC h10 a13 (.slice (if x12c = (1 : Int).toNat then x12 else x12.map (·.add ((1 : Int).toNat * 1))) (x12l - (1 : Int).toNat) (x12c - (1 : Int).toNat)) fun h14 => ((K x8 (x9 == (0 : Int)) h14))) (((K x8 (x9 == (0 : Int)) h10)))))))))
def answer_line_number.ret (K : Int → Bool → Heap → Prop) (v : Value) (h : Heap) : Prop := match v with
  | (.tuple ⟨[(.int .i64 r16), (.bool r17)]⟩) => K r16 r17 h
  | _ => False
theorem answer_line_number.ret_elim {K : Int → Bool → Heap → Prop} {K' : Value → Heap → Prop} {v : Value} {h : Heap} (hk : ∀ r16 r17 h, K r16 r17 h → K' (.tuple #[(.int .i64 r16), (.bool r17)]) h) (hh : answer_line_number.ret K v h) : K' v h := by
  unfold answer_line_number.ret at hh
  split at hh
  · exact hk _ _ _ hh
  · exact hh.elim
def answer_line_number.call (f : FuncId) (vs : List Value) (h : Heap) (K : Value → Heap → Prop) : Prop := match f, vs with
  | 35, [(.string a1)] => callP2 (dec_Parse a1 h) fun r8 r9 h' => K (.tuple #[(.int .i64 r8), (.int .i64 r9)]) h'
  | _, _ => False
noncomputable def answer_line_number.ctx : Ctx := { P := Tryz.prog, call := answer_line_number.call, qcall := fun _ _ _ _ => False, quiet := fun f => Nat.beq f 2000025, loop := fun _ _ _ _ => False }
theorem answer_line_number.ok : answer_line_number.ctx.OK where
  mixed := by kernel_rfl
  mono := by
    intro f args h K K' hh hk
    change answer_line_number.call f args h K at hh
    change answer_line_number.call f args h K'
    unfold answer_line_number.call at hh ⊢
    split at hh
    · obtain ⟨R, h1, h2⟩ := hh
      exact ⟨R, h1, fun _ _ x hr => hk _ _ (h2 _ _ x hr)⟩
    · exact hh.elim
  call := by
    intro f args h K hh w hw
    change answer_line_number.call f args h K at hh
    unfold answer_line_number.call at hh
    split at hh
    · obtain ⟨R, h1, h2⟩ := hh
      obtain ⟨g1, g2⟩ := dec_Parse.calls h1 w hw
      exact ⟨g1, g2.mono fun e w' ⟨v, he, ho, hr⟩ => ⟨v, he, ho, dec_Parse.ret_elim h2 hr⟩⟩
    · exact hh.elim
  qmono := fun hh _ => hh.elim
  qval := fun hh => hh.elim
  qcall := fun hh => hh.elim
noncomputable def answer_line_number.code : Code := (Tryz.f13.body).getD .skip
def answer_line_number.ann : Ann := .auto
set_option maxRecDepth 100000 in
theorem answer_line_number.eq (a1 : Option Addr) (h : Heap) (K : Int → Bool → Heap → Prop) : evF answer_line_number.ctx Tryz.f13 answer_line_number.ann [(.pointer a1)] h (answer_line_number.ret K) = answer_line_number a1 h K := by kernel_rfl
set_option maxRecDepth 100000 in
theorem answer_line_number.calls {a1 : Option Addr} {h : Heap} {K : Int → Bool → Heap → Prop} (hh : answer_line_number a1 h K) (w : World) (hw : w.heap = h) :
    (callFunc 13 #[(.pointer a1)]).run Tryz.prog w = .ok (.enter 13 #[(.pointer a1)]) w ∧ Calls Tryz.prog 13 #[(.pointer a1)] w fun e w' => ∃ v, e = .returned v ∧ Out w w' ∧ answer_line_number.ret K v w'.heap := by
  rw [← answer_line_number.eq] at hh
  exact fn_calls (args := [(.pointer a1)]) (c := answer_line_number.code) answer_line_number.ok Tryz.func13 (by kernel_rfl) (by kernel_rfl) (by kernel_rfl) (by kernel_rfl) (loops_ok (l := []) (by kernel_rfl) trivial) hh w hw
end

/-! ### strings.IndexByte: function 36, by its contract -/
def strings_IndexByte.ret (K : Int → Heap → Prop) (v : Value) (h : Heap) : Prop := match v with
  | (.int .i64 r3) => K r3 h
  | _ => False
theorem strings_IndexByte.ret_elim {K : Int → Heap → Prop} {K' : Value → Heap → Prop} {v : Value} {h : Heap} (hk : ∀ r3 h, K r3 h → K' (.int .i64 r3) h) (hh : strings_IndexByte.ret K v h) : K' v h := by
  unfold strings_IndexByte.ret at hh
  split at hh
  · exact hk _ _ hh
  · exact hh.elim
def strings_IndexByte [DKc] (a1 : ByteArray) (a2 : Int) (h : Heap) (K : Int → Heap → Prop) : Prop := ∀ w : World, w.heap = h → (callFunc 36 #[(.string a1), (.int .u8 a2)]).run Tryz.prog w = .ok (.enter 36 #[(.string a1), (.int .u8 a2)]) w ∧ Calls Tryz.prog 36 #[(.string a1), (.int .u8 a2)] w fun e w' => ∃ v, e = .returned v ∧ Out w w' ∧ strings_IndexByte.ret K v w'.heap
theorem strings_IndexByte.calls [DKc] {a1 : ByteArray} {a2 : Int} {h : Heap} {K : Int → Heap → Prop} (hh : strings_IndexByte a1 a2 h K) (w : World) (hw : w.heap = h) : (callFunc 36 #[(.string a1), (.int .u8 a2)]).run Tryz.prog w = .ok (.enter 36 #[(.string a1), (.int .u8 a2)]) w ∧ Calls Tryz.prog 36 #[(.string a1), (.int .u8 a2)] w fun e w' => ∃ v, e = .returned v ∧ Out w w' ∧ strings_IndexByte.ret K v w'.heap := hh w hw

/-! ### strait/command.Bytes: function 17 -/
section
variable [DKc]
def command_Bytes.b0 (K0 : (Option Addr) → Nat → Nat → Bool → Heap → Prop) (K2 : Heap → Prop) (cont : ByteArray → Addr → Nat → Nat → Int → Int → Heap → Prop) (c0_1001 : ByteArray) (c4_1002 : Addr) (c4_1003 : Nat) (c4_1004 : Nat) (c22_1005 : Int) (v23_1006 : Int) (h1007 : Heap) : Prop :=
  (iteB (decide (v23_1006 < c22_1005)) (((0 ≤ v23_1006 ∧ ∃ b1008 : UInt8, c0_1001[v23_1006.toNat]? = some b1008 ∧ callP1 (strings_IndexByte (⟨#[48, 49, 50, 51, 52, 53, 54, 55, 56, 57, 97, 98, 99, 100, 101, 102]⟩ : ByteArray) (b1008.toNat : Int) h1007) fun x1009 h1010 => ((iteB (decide (x1009 < (0 : Int))) (K0 none 0 0 false h1010) (((2 : Int) ≠ 0 ∧ (2 : Int) ≠ 0 ∧ (0 ≤ (IntKind.i64.wrap (v23_1006.tdiv 2)) ∧ (IntKind.i64.wrap (v23_1006.tdiv 2)) < (c4_1003 : Int)) ∧ ∃ (x1011 : Int), cell h1010 (c4_1002.add ((IntKind.i64.wrap (v23_1006.tdiv 2)).toNat * 1)) = some (.int .u8 x1011) ∧ 0 ≤ (4 : Int) ∧ bindV (bits .or .u8 (IntKind.u8.wrap (x1011 * 2 ^ 4)) (IntKind.u8.wrap x1009)) fun n1012 => (0 ≤ (IntKind.i64.wrap (v23_1006.tdiv 2)) ∧ (IntKind.i64.wrap (v23_1006.tdiv 2)) < (c4_1003 : Int)) ∧ stC h1010 (c4_1002.add ((IntKind.i64.wrap (v23_1006.tdiv 2)).toNat * 1)) (.int .u8 n1012) fun h1013 => ((cont c0_1001 c4_1002 c4_1003 c4_1004 c22_1005 (IntKind.i64.wrap (v23_1006 + 1)) h1013))))))))) (K2 h1007))
def command_Bytes.l0 (K0 : (Option Addr) → Nat → Nat → Bool → Heap → Prop) (K2 : Heap → Prop) : Nat → ByteArray → Addr → Nat → Nat → Int → Int → Heap → Prop
  | 0, _, _, _, _, _, _, _ => False
  | m + 1, c0_1001, c4_1002, c4_1003, c4_1004, c22_1005, v23_1006, h => command_Bytes.b0 K0 K2 (command_Bytes.l0 K0 K2 m) c0_1001 c4_1002 c4_1003 c4_1004 c22_1005 v23_1006 h
def command_Bytes (a1 : ByteArray) (h : Heap) (K : (Option Addr) → Nat → Nat → Bool → Heap → Prop) : Prop :=
  ((iteB (a1.toList == (⟨#[46]⟩ : ByteArray).toList) (K none 0 0 true h) ((let j10 : Prop := ((2 : Int) ≠ 0 ∧ (0 ≤ (IntKind.i64.wrap ((a1.size : Int).tdiv 2)) ∧ (IntKind.i64.wrap ((a1.size : Int).tdiv 2)) ≤ (IntKind.i64.wrap ((a1.size : Int).tdiv 2)) ∧ (IntKind.i64.wrap ((a1.size : Int).tdiv 2)) * (1 : Nat) ≤ 2 ^ 47 ∧ (IntKind.i64.wrap ((a1.size : Int).tdiv 2)) ≤ 2 ^ 47) ∧ newP h (.cells (zeroRow [(.int .u8 0)] (IntKind.i64.wrap ((a1.size : Int).tdiv 2)).toNat).toArray 5) fun a3 h4 => ((∃ m9, command_Bytes.l0 (fun z5 z5l z5c z6 h7 => K z5 z5l z5c z6 h7) (fun h8 => (((K (some a3) ((IntKind.i64.wrap ((a1.size : Int).tdiv 2)).toNat) ((IntKind.i64.wrap ((a1.size : Int).tdiv 2)).toNat) true h8)))) m9 a1 a3 ((IntKind.i64.wrap ((a1.size : Int).tdiv 2)).toNat) ((IntKind.i64.wrap ((a1.size : Int).tdiv 2)).toNat) (a1.size : Int) 0 h4)));
  iteB (a1.toList == (⟨#[]⟩ : ByteArray).toList) (K none 0 0 false h) ((2 : Int) ≠ 0 ∧ (iteB (decide (((a1.size : Int).tmod 2) > (0 : Int))) (K none 0 0 false h) ((j10))))))))
def command_Bytes.ret (K : (Option Addr) → Nat → Nat → Bool → Heap → Prop) (v : Value) (h : Heap) : Prop := match v with
  | (.tuple ⟨[(.slice r11 r11l r11c), (.bool r12)]⟩) => K r11 r11l r11c r12 h
  | _ => False
theorem command_Bytes.ret_elim {K : (Option Addr) → Nat → Nat → Bool → Heap → Prop} {K' : Value → Heap → Prop} {v : Value} {h : Heap} (hk : ∀ r11 r11l r11c r12 h, K r11 r11l r11c r12 h → K' (.tuple #[(.slice r11 r11l r11c), (.bool r12)]) h) (hh : command_Bytes.ret K v h) : K' v h := by
  unfold command_Bytes.ret at hh
  split at hh
  · exact hk _ _ _ _ _ hh
  · exact hh.elim
def command_Bytes.call (f : FuncId) (vs : List Value) (h : Heap) (K : Value → Heap → Prop) : Prop := match f, vs with
  | 36, [(.string a1), (.int .u8 a2)] => callP1 (strings_IndexByte a1 a2 h) fun r3 h' => K (.int .i64 r3) h'
  | _, _ => False
def command_Bytes.r0 (K : Nat → List Value → Heap → Prop) (m : Nat) (vs : List Value) (h : Heap) : Prop := match vs with
  | [(.string c0_1001), (.slice (some c4_1002) c4_1003 c4_1004), (.int .i64 c22_1005), (.int .i64 v23_1006)] => command_Bytes.l0 (fun z13 z13l z13c z14 h' => K 0 [(.slice z13 z13l z13c), (.bool z14)] h') (fun h' => K 2 [(.slice (some c4_1002) c4_1003 c4_1004)] h') m c0_1001 c4_1002 c4_1003 c4_1004 c22_1005 v23_1006 h
  | _ => False
def command_Bytes.loop (i : Nat) (vs : List Value) (h : Heap) (K : Nat → List Value → Heap → Prop) : Prop := match i with
  | 0 => ∃ m, command_Bytes.r0 K m vs h
  | _ => False
noncomputable def command_Bytes.ctx : Ctx := { P := Tryz.prog, call := command_Bytes.call, qcall := fun _ _ _ _ => False, quiet := fun f => Nat.beq f 2000025, loop := command_Bytes.loop }
theorem command_Bytes.ok : command_Bytes.ctx.OK where
  mixed := by kernel_rfl
  mono := by
    intro f args h K K' hh hk
    change command_Bytes.call f args h K at hh
    change command_Bytes.call f args h K'
    unfold command_Bytes.call at hh ⊢
    split at hh
    · obtain ⟨R, h1, h2⟩ := hh
      exact ⟨R, h1, fun _ x hr => hk _ _ (h2 _ x hr)⟩
    · exact hh.elim
  call := by
    intro f args h K hh w hw
    change command_Bytes.call f args h K at hh
    unfold command_Bytes.call at hh
    split at hh
    · obtain ⟨R, h1, h2⟩ := hh
      obtain ⟨g1, g2⟩ := strings_IndexByte.calls h1 w hw
      exact ⟨g1, g2.mono fun e w' ⟨v, he, ho, hr⟩ => ⟨v, he, ho, strings_IndexByte.ret_elim h2 hr⟩⟩
    · exact hh.elim
  qmono := fun hh _ => hh.elim
  qval := fun hh => hh.elim
  qcall := fun hh => hh.elim
noncomputable def command_Bytes.code : Code := (Tryz.f17.body).getD .skip
def command_Bytes.ann : Ann := (.two .auto (.two .auto (.two .auto (.two .auto (.two (.two .auto (.two (.loop 0 [0, 4, 22, 23] [(2, [4]), (0, [2, 3])] .auto) .auto)) .auto)))))
noncomputable def command_Bytes.c0 : Code := sub command_Bytes.code [1, 1, 1, 1, 0, 1, 0, 0]
def command_Bytes.a0 : Ann := .auto
def command_Bytes.keep0 : List Nat := [0, 4, 22, 23]
def command_Bytes.outs0 : List (Nat × List Nat) := [(2, [4]), (0, [2, 3])]
set_option maxRecDepth 100000 in
theorem command_Bytes.L0 : LoopOK command_Bytes.ctx 47 command_Bytes.c0 0 command_Bytes.keep0 command_Bytes.outs0 := by
  refine loop_ok (n := command_Bytes.a0) command_Bytes.ok (by kernel_rfl) (loops_ok (l := []) (by kernel_rfl) ?_) command_Bytes.r0 ?_ ?_ (fun vs h K hh => hh)
  · exact trivial
  · intro K vs h hh
    unfold command_Bytes.r0 at hh
    split at hh
    · exact hh
    · exact hh
  · intro K m vs h hh
    unfold command_Bytes.r0 at hh
    split at hh
    · exact cast (by kernel_rfl) hh
    · exact hh.elim
set_option maxRecDepth 100000 in
theorem command_Bytes.eq (a1 : ByteArray) (h : Heap) (K : (Option Addr) → Nat → Nat → Bool → Heap → Prop) : evF command_Bytes.ctx Tryz.f17 command_Bytes.ann [(.string a1)] h (command_Bytes.ret K) = command_Bytes a1 h K := by kernel_rfl
set_option maxRecDepth 100000 in
theorem command_Bytes.calls {a1 : ByteArray} {h : Heap} {K : (Option Addr) → Nat → Nat → Bool → Heap → Prop} (hh : command_Bytes a1 h K) (w : World) (hw : w.heap = h) :
    (callFunc 17 #[(.string a1)]).run Tryz.prog w = .ok (.enter 17 #[(.string a1)]) w ∧ Calls Tryz.prog 17 #[(.string a1)] w fun e w' => ∃ v, e = .returned v ∧ Out w w' ∧ command_Bytes.ret K v w'.heap := by
  rw [← command_Bytes.eq] at hh
  exact fn_calls (args := [(.string a1)]) (c := command_Bytes.code) command_Bytes.ok Tryz.func17 (by kernel_rfl) (by kernel_rfl) (by kernel_rfl) (by kernel_rfl) (loops_ok (l := [(command_Bytes.c0, none, 0, command_Bytes.keep0, command_Bytes.outs0)]) (by kernel_rfl) ⟨command_Bytes.L0, trivial⟩) hh w hw
end

/-! ### strconv.FormatInt: function 42, by its contract -/
def strconv_FormatInt.ret (K : ByteArray → Heap → Prop) (v : Value) (h : Heap) : Prop := match v with
  | (.string r3) => K r3 h
  | _ => False
theorem strconv_FormatInt.ret_elim {K : ByteArray → Heap → Prop} {K' : Value → Heap → Prop} {v : Value} {h : Heap} (hk : ∀ r3 h, K r3 h → K' (.string r3) h) (hh : strconv_FormatInt.ret K v h) : K' v h := by
  unfold strconv_FormatInt.ret at hh
  split at hh
  · exact hk _ _ hh
  · exact hh.elim
def strconv_FormatInt [DKc] (a1 : Int) (a2 : Int) (h : Heap) (K : ByteArray → Heap → Prop) : Prop := ∀ w : World, w.heap = h → (callFunc 42 #[(.int .i64 a1), (.int .i64 a2)]).run Tryz.prog w = .ok (.enter 42 #[(.int .i64 a1), (.int .i64 a2)]) w ∧ Calls Tryz.prog 42 #[(.int .i64 a1), (.int .i64 a2)] w fun e w' => ∃ v, e = .returned v ∧ Out w w' ∧ strconv_FormatInt.ret K v w'.heap
theorem strconv_FormatInt.calls [DKc] {a1 : Int} {a2 : Int} {h : Heap} {K : ByteArray → Heap → Prop} (hh : strconv_FormatInt a1 a2 h K) (w : World) (hw : w.heap = h) : (callFunc 42 #[(.int .i64 a1), (.int .i64 a2)]).run Tryz.prog w = .ok (.enter 42 #[(.int .i64 a1), (.int .i64 a2)]) w ∧ Calls Tryz.prog 42 #[(.int .i64 a1), (.int .i64 a2)] w fun e w' => ∃ v, e = .returned v ∧ Out w w' ∧ strconv_FormatInt.ret K v w'.heap := hh w hw

/-! ### strait/dec.Print: function 22 -/
section
variable [DKc]
def dec_Print (a1 : Int) (h : Heap) (K : ByteArray → Heap → Prop) : Prop :=
  (callP1 (strconv_FormatInt a1 10 h) fun x2 h3 => K x2 h3)
def dec_Print.ret (K : ByteArray → Heap → Prop) (v : Value) (h : Heap) : Prop := match v with
  | (.string r4) => K r4 h
  | _ => False
theorem dec_Print.ret_elim {K : ByteArray → Heap → Prop} {K' : Value → Heap → Prop} {v : Value} {h : Heap} (hk : ∀ r4 h, K r4 h → K' (.string r4) h) (hh : dec_Print.ret K v h) : K' v h := by
  unfold dec_Print.ret at hh
  split at hh
  · exact hk _ _ hh
  · exact hh.elim
def dec_Print.call (f : FuncId) (vs : List Value) (h : Heap) (K : Value → Heap → Prop) : Prop := match f, vs with
  | 42, [(.int .i64 a1), (.int .i64 a2)] => callP1 (strconv_FormatInt a1 a2 h) fun r3 h' => K (.string r3) h'
  | _, _ => False
noncomputable def dec_Print.ctx : Ctx := { P := Tryz.prog, call := dec_Print.call, qcall := fun _ _ _ _ => False, quiet := fun f => Nat.beq f 2000025, loop := fun _ _ _ _ => False }
theorem dec_Print.ok : dec_Print.ctx.OK where
  mixed := by kernel_rfl
  mono := by
    intro f args h K K' hh hk
    change dec_Print.call f args h K at hh
    change dec_Print.call f args h K'
    unfold dec_Print.call at hh ⊢
    split at hh
    · obtain ⟨R, h1, h2⟩ := hh
      exact ⟨R, h1, fun _ x hr => hk _ _ (h2 _ x hr)⟩
    · exact hh.elim
  call := by
    intro f args h K hh w hw
    change dec_Print.call f args h K at hh
    unfold dec_Print.call at hh
    split at hh
    · obtain ⟨R, h1, h2⟩ := hh
      obtain ⟨g1, g2⟩ := strconv_FormatInt.calls h1 w hw
      exact ⟨g1, g2.mono fun e w' ⟨v, he, ho, hr⟩ => ⟨v, he, ho, strconv_FormatInt.ret_elim h2 hr⟩⟩
    · exact hh.elim
  qmono := fun hh _ => hh.elim
  qval := fun hh => hh.elim
  qcall := fun hh => hh.elim
noncomputable def dec_Print.code : Code := (Tryz.f22.body).getD .skip
def dec_Print.ann : Ann := .auto
set_option maxRecDepth 100000 in
theorem dec_Print.eq (a1 : Int) (h : Heap) (K : ByteArray → Heap → Prop) : evF dec_Print.ctx Tryz.f22 dec_Print.ann [(.int .i64 a1)] h (dec_Print.ret K) = dec_Print a1 h K := by kernel_rfl
set_option maxRecDepth 100000 in
theorem dec_Print.calls {a1 : Int} {h : Heap} {K : ByteArray → Heap → Prop} (hh : dec_Print a1 h K) (w : World) (hw : w.heap = h) :
    (callFunc 22 #[(.int .i64 a1)]).run Tryz.prog w = .ok (.enter 22 #[(.int .i64 a1)]) w ∧ Calls Tryz.prog 22 #[(.int .i64 a1)] w fun e w' => ∃ v, e = .returned v ∧ Out w w' ∧ dec_Print.ret K v w'.heap := by
  rw [← dec_Print.eq] at hh
  exact fn_calls (args := [(.int .i64 a1)]) (c := dec_Print.code) dec_Print.ok Tryz.func22 (by kernel_rfl) (by kernel_rfl) (by kernel_rfl) (by kernel_rfl) (loops_ok (l := []) (by kernel_rfl) trivial) hh w hw
end

/-! ### strait/command.Hex: function 23 -/
def command_Hex.b0 (K2 : (Option Addr) → Nat → Nat → Heap → Prop) (cont : (Option Addr) → Nat → Nat → (Option Addr) → Nat → Nat → Int → Int → Heap → Prop) (v3_1001 : Option Addr) (v3_1001l : Nat) (v3_1001c : Nat) (c13_1002 : Option Addr) (c13_1003 : Nat) (c13_1004 : Nat) (c14_1005 : Int) (v15_1006 : Int) (h1007 : Heap) : Prop :=
  (iteB (decide (v15_1006 < c14_1005)) ((chkP c13_1002 fun a1008 => (0 ≤ v15_1006 ∧ v15_1006 < (c13_1003 : Int)) ∧ ∃ (x1009 : Int), cell h1007 (a1008.add (v15_1006.toNat * 1)) = some (.int .u8 x1009) ∧ (0 ≤ (4 : Int) ∧ 0 ≤ (x1009.fdiv (2 ^ 4)) ∧ ∃ b1010 : UInt8, (⟨#[48, 49, 50, 51, 52, 53, 54, 55, 56, 57, 97, 98, 99, 100, 101, 102]⟩ : ByteArray)[(x1009.fdiv (2 ^ 4)).toNat]? = some b1010 ∧ 0 ≤ (bits .and .u8 x1009 15) ∧ ∃ b1011 : UInt8, (⟨#[48, 49, 50, 51, 52, 53, 54, 55, 56, 57, 97, 98, 99, 100, 101, 102]⟩ : ByteArray)[(bits .and .u8 x1009 15).toNat]? = some b1011 ∧ newP h1007 (.cells #[(.int .u8 (b1010.toNat : Int)), (.int .u8 (b1011.toNat : Int))] 5) fun a1012 h1013 => ∃ n1018, cellsAt h1013 (some a1012) (2 * 1) n1018 ∧ appP 5 1 1 [(.int .u8 0)] v3_1001 v3_1001l v3_1001c 2 n1018 h1013 fun q1014 l1015 c1016 h1017 => ((cont q1014 l1015 c1016 c13_1002 c13_1003 c13_1004 c14_1005 (IntKind.i64.wrap (v15_1006 + 1)) h1017))))) (K2 v3_1001 v3_1001l v3_1001c h1007))
def command_Hex.l0 (K2 : (Option Addr) → Nat → Nat → Heap → Prop) : Nat → (Option Addr) → Nat → Nat → (Option Addr) → Nat → Nat → Int → Int → Heap → Prop
  | 0, _, _, _, _, _, _, _, _, _ => False
  | m + 1, v3_1001, v3_1001l, v3_1001c, c13_1002, c13_1003, c13_1004, c14_1005, v15_1006, h => command_Hex.b0 K2 (command_Hex.l0 K2 m) v3_1001 v3_1001l v3_1001c c13_1002 c13_1003 c13_1004 c14_1005 v15_1006 h
def command_Hex (a1 : Option Addr) (a1l : Nat) (a1c : Nat) (h : Heap) (K : ByteArray → Heap → Prop) : Prop :=
  ((iteB ((a1l : Int) == (0 : Int)) ((K (⟨#[46]⟩ : ByteArray) h)) (((0 ≤ (0 : Int) ∧ (0 : Int) ≤ (IntKind.i64.wrap (2 * (a1l : Int))) ∧ (IntKind.i64.wrap (2 * (a1l : Int))) * (1 : Nat) ≤ 2 ^ 47 ∧ (IntKind.i64.wrap (2 * (a1l : Int))) ≤ 2 ^ 47) ∧ newP h (.cells (zeroRow [(.int .u8 0)] (IntKind.i64.wrap (2 * (a1l : Int))).toNat).toArray 5) fun a2 h3 => ((∃ m6, command_Hex.l0 (fun z4 z4l z4c h5 => ((∃ l7 : List UInt8, bytesAt h5 z4 z4l l7 ∧ (K (⟨l7.toArray⟩ : ByteArray) h5)))) m6 (some a2) ((0 : Int).toNat) ((IntKind.i64.wrap (2 * (a1l : Int))).toNat) a1 a1l a1c (a1l : Int) 0 h3))))))
def command_Hex.ret (K : ByteArray → Heap → Prop) (v : Value) (h : Heap) : Prop := match v with
  | (.string r8) => K r8 h
  | _ => False
theorem command_Hex.ret_elim {K : ByteArray → Heap → Prop} {K' : Value → Heap → Prop} {v : Value} {h : Heap} (hk : ∀ r8 h, K r8 h → K' (.string r8) h) (hh : command_Hex.ret K v h) : K' v h := by
  unfold command_Hex.ret at hh
  split at hh
  · exact hk _ _ hh
  · exact hh.elim
def command_Hex.r0 (K : Nat → List Value → Heap → Prop) (m : Nat) (vs : List Value) (h : Heap) : Prop := match vs with
  | [(.slice v3_1001 v3_1001l v3_1001c), (.slice c13_1002 c13_1003 c13_1004), (.int .i64 c14_1005), (.int .i64 v15_1006)] => command_Hex.l0 (fun z9 z9l z9c h' => K 2 [(.slice z9 z9l z9c)] h') m v3_1001 v3_1001l v3_1001c c13_1002 c13_1003 c13_1004 c14_1005 v15_1006 h
  | _ => False
def command_Hex.loop (i : Nat) (vs : List Value) (h : Heap) (K : Nat → List Value → Heap → Prop) : Prop := match i with
  | 0 => ∃ m, command_Hex.r0 K m vs h
  | _ => False
noncomputable def command_Hex.ctx : Ctx := { P := Tryz.prog, call := fun _ _ _ _ => False, qcall := fun _ _ _ _ => False, quiet := fun f => Nat.beq f 2000025, loop := command_Hex.loop }
theorem command_Hex.ok [DKc] : command_Hex.ctx.OK where
  mixed := by kernel_rfl
  mono := fun hh _ => hh.elim
  call := fun hh => hh.elim
  qmono := fun hh _ => hh.elim
  qval := fun hh => hh.elim
  qcall := fun hh => hh.elim
noncomputable def command_Hex.code : Code := (Tryz.f23.body).getD .skip
def command_Hex.ann : Ann := (.two .auto (.two .auto (.two .auto (.two (.two .auto (.two (.loop 0 [3, 13, 14, 15] [(2, [3])] (.two .auto (.two .auto (.two (.two (.two .auto (.reg [0, 0, 2, 6, 0, 16, 48, 126, 255, 511] (.take 0 (.take 1 (.take 2 (.take 3 (.take 4 (.take 5 (.take 6 (.alt 7 (.alt 8 (.take 9 .done) .noalt) .noalt)))))))))) .auto) .auto)))) .auto)) .auto))))
noncomputable def command_Hex.c0 : Code := sub command_Hex.code [1, 1, 1, 0, 1, 0, 0]
def command_Hex.a0 : Ann := (.two .auto (.two .auto (.two (.two (.two .auto (.reg [0, 0, 2, 6, 0, 16, 48, 126, 255, 511] (.take 0 (.take 1 (.take 2 (.take 3 (.take 4 (.take 5 (.take 6 (.alt 7 (.alt 8 (.take 9 .done) .noalt) .noalt)))))))))) .auto) .auto)))
def command_Hex.keep0 : List Nat := [3, 13, 14, 15]
def command_Hex.outs0 : List (Nat × List Nat) := [(2, [3])]
set_option maxRecDepth 100000 in
theorem command_Hex.L0 [DKc] : LoopOK command_Hex.ctx 31 command_Hex.c0 0 command_Hex.keep0 command_Hex.outs0 := by
  refine loop_ok (n := command_Hex.a0) command_Hex.ok (by kernel_rfl) (loops_ok (l := []) (by kernel_rfl) ?_) command_Hex.r0 ?_ ?_ (fun vs h K hh => hh)
  · exact trivial
  · intro K vs h hh
    unfold command_Hex.r0 at hh
    split at hh
    · exact hh
    · exact hh
  · intro K m vs h hh
    unfold command_Hex.r0 at hh
    split at hh
    · exact cast (by kernel_rfl) hh
    · exact hh.elim
set_option maxRecDepth 100000 in
theorem command_Hex.eq (a1 : Option Addr) (a1l : Nat) (a1c : Nat) (h : Heap) (K : ByteArray → Heap → Prop) : evF command_Hex.ctx Tryz.f23 command_Hex.ann [(.slice a1 a1l a1c)] h (command_Hex.ret K) = command_Hex a1 a1l a1c h K := by kernel_rfl
set_option maxRecDepth 100000 in
theorem command_Hex.calls [DKc] {a1 : Option Addr} {a1l : Nat} {a1c : Nat} {h : Heap} {K : ByteArray → Heap → Prop} (hh : command_Hex a1 a1l a1c h K) (w : World) (hw : w.heap = h) :
    (callFunc 23 #[(.slice a1 a1l a1c)]).run Tryz.prog w = .ok (.enter 23 #[(.slice a1 a1l a1c)]) w ∧ Calls Tryz.prog 23 #[(.slice a1 a1l a1c)] w fun e w' => ∃ v, e = .returned v ∧ Out w w' ∧ command_Hex.ret K v w'.heap := by
  rw [← command_Hex.eq] at hh
  exact fn_calls (args := [(.slice a1 a1l a1c)]) (c := command_Hex.code) command_Hex.ok Tryz.func23 (by kernel_rfl) (by kernel_rfl) (by kernel_rfl) (by kernel_rfl) (loops_ok (l := [(command_Hex.c0, none, 0, command_Hex.keep0, command_Hex.outs0)]) (by kernel_rfl) ⟨command_Hex.L0, trivial⟩) hh w hw

/-! ### (*strings.Builder).Grow: function 43, by its contract -/
def strings_Builder_Grow.ret (K : Heap → Prop) (v : Value) (h : Heap) : Prop := match v with
  | (.tuple ⟨[]⟩) => K h
  | _ => False
theorem strings_Builder_Grow.ret_elim {K : Heap → Prop} {K' : Value → Heap → Prop} {v : Value} {h : Heap} (hk : ∀  h, K h → K' (.tuple #[]) h) (hh : strings_Builder_Grow.ret K v h) : K' v h := by
  unfold strings_Builder_Grow.ret at hh
  split at hh
  · exact hk _ hh
  · exact hh.elim
def strings_Builder_Grow [DKc] (a1 : Option Addr) (a2 : Int) (h : Heap) (K : Heap → Prop) : Prop := ∀ w : World, w.heap = h → (callFunc 43 #[(.pointer a1), (.int .i64 a2)]).run Tryz.prog w = .ok (.enter 43 #[(.pointer a1), (.int .i64 a2)]) w ∧ Calls Tryz.prog 43 #[(.pointer a1), (.int .i64 a2)] w fun e w' => ∃ v, e = .returned v ∧ Out w w' ∧ strings_Builder_Grow.ret K v w'.heap
theorem strings_Builder_Grow.calls [DKc] {a1 : Option Addr} {a2 : Int} {h : Heap} {K : Heap → Prop} (hh : strings_Builder_Grow a1 a2 h K) (w : World) (hw : w.heap = h) : (callFunc 43 #[(.pointer a1), (.int .i64 a2)]).run Tryz.prog w = .ok (.enter 43 #[(.pointer a1), (.int .i64 a2)]) w ∧ Calls Tryz.prog 43 #[(.pointer a1), (.int .i64 a2)] w fun e w' => ∃ v, e = .returned v ∧ Out w w' ∧ strings_Builder_Grow.ret K v w'.heap := hh w hw

/-! ### (*strings.Builder).WriteString: function 44, by its contract -/
def strings_Builder_WriteString.ret (K : Int → Value → Heap → Prop) (v : Value) (h : Heap) : Prop := match v with
  | (.tuple ⟨[(.int .i64 r3), r4]⟩) => K r3 r4 h
  | _ => False
theorem strings_Builder_WriteString.ret_elim {K : Int → Value → Heap → Prop} {K' : Value → Heap → Prop} {v : Value} {h : Heap} (hk : ∀ r3 r4 h, K r3 r4 h → K' (.tuple #[(.int .i64 r3), r4]) h) (hh : strings_Builder_WriteString.ret K v h) : K' v h := by
  unfold strings_Builder_WriteString.ret at hh
  split at hh
  · exact hk _ _ _ hh
  · exact hh.elim
def strings_Builder_WriteString [DKc] (a1 : Option Addr) (a2 : ByteArray) (h : Heap) (K : Int → Value → Heap → Prop) : Prop := ∀ w : World, w.heap = h → (callFunc 44 #[(.pointer a1), (.string a2)]).run Tryz.prog w = .ok (.enter 44 #[(.pointer a1), (.string a2)]) w ∧ Calls Tryz.prog 44 #[(.pointer a1), (.string a2)] w fun e w' => ∃ v, e = .returned v ∧ Out w w' ∧ strings_Builder_WriteString.ret K v w'.heap
theorem strings_Builder_WriteString.calls [DKc] {a1 : Option Addr} {a2 : ByteArray} {h : Heap} {K : Int → Value → Heap → Prop} (hh : strings_Builder_WriteString a1 a2 h K) (w : World) (hw : w.heap = h) : (callFunc 44 #[(.pointer a1), (.string a2)]).run Tryz.prog w = .ok (.enter 44 #[(.pointer a1), (.string a2)]) w ∧ Calls Tryz.prog 44 #[(.pointer a1), (.string a2)] w fun e w' => ∃ v, e = .returned v ∧ Out w w' ∧ strings_Builder_WriteString.ret K v w'.heap := hh w hw

/-! ### (*strings.Builder).String: function 45, by its contract -/
def strings_Builder_String.ret (K : ByteArray → Heap → Prop) (v : Value) (h : Heap) : Prop := match v with
  | (.string r2) => K r2 h
  | _ => False
theorem strings_Builder_String.ret_elim {K : ByteArray → Heap → Prop} {K' : Value → Heap → Prop} {v : Value} {h : Heap} (hk : ∀ r2 h, K r2 h → K' (.string r2) h) (hh : strings_Builder_String.ret K v h) : K' v h := by
  unfold strings_Builder_String.ret at hh
  split at hh
  · exact hk _ _ hh
  · exact hh.elim
def strings_Builder_String [DKc] (a1 : Option Addr) (h : Heap) (K : ByteArray → Heap → Prop) : Prop := ∀ w : World, w.heap = h → (callFunc 45 #[(.pointer a1)]).run Tryz.prog w = .ok (.enter 45 #[(.pointer a1)]) w ∧ Calls Tryz.prog 45 #[(.pointer a1)] w fun e w' => ∃ v, e = .returned v ∧ Out w w' ∧ strings_Builder_String.ret K v w'.heap
theorem strings_Builder_String.calls [DKc] {a1 : Option Addr} {h : Heap} {K : ByteArray → Heap → Prop} (hh : strings_Builder_String a1 h K) (w : World) (hw : w.heap = h) : (callFunc 45 #[(.pointer a1)]).run Tryz.prog w = .ok (.enter 45 #[(.pointer a1)]) w ∧ Calls Tryz.prog 45 #[(.pointer a1)] w fun e w' => ∃ v, e = .returned v ∧ Out w w' ∧ strings_Builder_String.ret K v w'.heap := hh w hw

/-! ### strings.Join: function 24 -/
section
variable [DKc]
def strings_Join.b1 (K5 : Heap → Prop) (cont : ByteArray → Addr → (Option Addr) → Nat → Nat → Int → Int → Heap → Prop) (c1_2001 : ByteArray) (c8_2002 : Addr) (c63_2003 : Option Addr) (c63_2004 : Nat) (c63_2005 : Nat) (c64_2006 : Int) (v65_2007 : Int) (h2008 : Heap) : Prop :=
  (iteB (decide (v65_2007 < c64_2006)) ((chkP c63_2003 fun a2009 => (0 ≤ v65_2007 ∧ v65_2007 < (c63_2004 : Int)) ∧ ∃ (x2010 : ByteArray), cell h2008 (a2009.add (v65_2007.toNat * 1)) = some (.string x2010) ∧ (callP2 (strings_Builder_WriteString (some c8_2002) c1_2001 h2008) fun x2011 x2012 h2013 => (callP2 (strings_Builder_WriteString (some c8_2002) x2010 h2013) fun x2014 x2015 h2016 => ((cont c1_2001 c8_2002 c63_2003 c63_2004 c63_2005 c64_2006 (IntKind.i64.wrap (v65_2007 + 1)) h2016)))))) (K5 h2008))
def strings_Join.l1 (K5 : Heap → Prop) : Nat → ByteArray → Addr → (Option Addr) → Nat → Nat → Int → Int → Heap → Prop
  | 0, _, _, _, _, _, _, _, _ => False
  | m + 1, c1_2001, c8_2002, c63_2003, c63_2004, c63_2005, c64_2006, v65_2007, h => strings_Join.b1 K5 (strings_Join.l1 K5 m) c1_2001 c8_2002 c63_2003 c63_2004 c63_2005 c64_2006 v65_2007 h
def strings_Join.b0 (K3 : Int → Heap → Prop) (cont : (Option Addr) → Nat → Nat → ByteArray → Int → (Option Addr) → Nat → Nat → Int → Int → Heap → Prop) (c0_1001 : Option Addr) (c0_1002 : Nat) (c0_1003 : Nat) (c1_1004 : ByteArray) (v5_1005 : Int) (c39_1006 : Option Addr) (c39_1007 : Nat) (c39_1008 : Nat) (c40_1009 : Int) (v41_1010 : Int) (h1011 : Heap) : Prop :=
  (iteB (decide (v41_1010 < c40_1009)) ((chkP c39_1006 fun a1012 => (0 ≤ v41_1010 ∧ v41_1010 < (c39_1007 : Int)) ∧ ∃ (x1013 : ByteArray), cell h1011 (a1012.add (v41_1010.toNat * 1)) = some (.string x1013) ∧ (bindV (IntKind.i64.wrap (9223372036854775807 - v5_1005)) fun n1014 => (iteB (decide ((x1013.size : Int) > n1014)) (False) ((bindV (IntKind.i64.wrap (v5_1005 + (x1013.size : Int))) fun n1015 => ((cont c0_1001 c0_1002 c0_1003 c1_1004 n1015 c39_1006 c39_1007 c39_1008 c40_1009 (IntKind.i64.wrap (v41_1010 + 1)) h1011)))))))) (K3 v5_1005 h1011))
def strings_Join.l0 (K3 : Int → Heap → Prop) : Nat → (Option Addr) → Nat → Nat → ByteArray → Int → (Option Addr) → Nat → Nat → Int → Int → Heap → Prop
  | 0, _, _, _, _, _, _, _, _, _, _, _ => False
  | m + 1, c0_1001, c0_1002, c0_1003, c1_1004, v5_1005, c39_1006, c39_1007, c39_1008, c40_1009, v41_1010, h => strings_Join.b0 K3 (strings_Join.l0 K3 m) c0_1001 c0_1002 c0_1003 c1_1004 v5_1005 c39_1006 c39_1007 c39_1008 c40_1009 v41_1010 h
def strings_Join (a1 : Option Addr) (a1l : Nat) (a1c : Nat) (a2 : ByteArray) (h : Heap) (K : ByteArray → Heap → Prop) : Prop :=
  (((iteB ((a1l : Int) == (0 : Int)) ((K (⟨#[]⟩ : ByteArray) h)) ((iteB ((a1l : Int) == (1 : Int)) (chkP a1 fun a3 => (0 ≤ (0 : Int) ∧ (0 : Int) < (a1l : Int)) ∧ ∃ (x4 : ByteArray), cell h (a3.add ((0 : Int).toNat * 1)) = some (.string x4) ∧ K x4 h) ((((let j23 := (fun (y7 : Int) => (∃ m10, strings_Join.l0 (fun z8 h9 => ((newP h9 (.cells #[(.pointer none), (.slice none 0 0)] 80) fun a11 h12 => (callP0 (strings_Builder_Grow (some a11) z8 h12) fun h13 => (chkP a1 fun a14 => (0 ≤ (0 : Int) ∧ (0 : Int) < (a1l : Int)) ∧ ∃ (x15 : ByteArray), cell h13 (a14.add ((0 : Int).toNat * 1)) = some (.string x15) ∧ callP2 (strings_Builder_WriteString (some a11) x15 h13) fun x16 x17 h18 => ((0 ≤ (1 : Int) ∧ (1 : Int) ≤ (a1l : Int)) ∧ (∃ m20, strings_Join.l1 (fun h19 => ((callP1 (strings_Builder_String (some a11) h19) fun x21 h22 => K x21 h22))) m20 a2 a11 (if a1c = (1 : Int).toNat then a1 else a1.map (·.add ((1 : Int).toNat * 1))) (a1l - (1 : Int).toNat) (a1c - (1 : Int).toNat) (((a1l - (1 : Int).toNat) : Nat) : Int) 0 h18))))))) m10 a1 a1l a1c a2 y7 a1 a1l a1c (a1l : Int) 0 h));
  (iteB (decide ((a2.size : Int) > (0 : Int))) ((IntKind.i64.wrap ((a1l : Int) - 1)) ≠ 0 ∧ bindV (IntKind.i64.wrap ((9223372036854775807 : Int).tdiv (IntKind.i64.wrap ((a1l : Int) - 1)))) fun n5 => (iteB (decide ((a2.size : Int) ≥ n5)) (False) ((bindV (IntKind.i64.wrap ((a2.size : Int) * (IntKind.i64.wrap ((a1l : Int) - 1)))) fun n6 => (j23 (IntKind.i64.wrap (0 + n6))))))) ((j23 0))))))))))))
def strings_Join.ret (K : ByteArray → Heap → Prop) (v : Value) (h : Heap) : Prop := match v with
  | (.string r24) => K r24 h
  | _ => False
theorem strings_Join.ret_elim {K : ByteArray → Heap → Prop} {K' : Value → Heap → Prop} {v : Value} {h : Heap} (hk : ∀ r24 h, K r24 h → K' (.string r24) h) (hh : strings_Join.ret K v h) : K' v h := by
  unfold strings_Join.ret at hh
  split at hh
  · exact hk _ _ hh
  · exact hh.elim
def strings_Join.call (f : FuncId) (vs : List Value) (h : Heap) (K : Value → Heap → Prop) : Prop := match f, vs with
  | 43, [(.pointer a1), (.int .i64 a2)] => callP0 (strings_Builder_Grow a1 a2 h) fun h' => K (.tuple #[]) h'
  | 44, [(.pointer a1), (.string a2)] => callP2 (strings_Builder_WriteString a1 a2 h) fun r3 r4 h' => K (.tuple #[(.int .i64 r3), r4]) h'
  | 45, [(.pointer a1)] => callP1 (strings_Builder_String a1 h) fun r2 h' => K (.string r2) h'
  | _, _ => False
def strings_Join.r0 (K : Nat → List Value → Heap → Prop) (m : Nat) (vs : List Value) (h : Heap) : Prop := match vs with
  | [(.slice c0_1001 c0_1002 c0_1003), (.string c1_1004), (.int .i64 v5_1005), (.slice c39_1006 c39_1007 c39_1008), (.int .i64 c40_1009), (.int .i64 v41_1010)] => strings_Join.l0 (fun z25 h' => K 3 [(.slice c0_1001 c0_1002 c0_1003), (.string c1_1004), (.int .i64 z25)] h') m c0_1001 c0_1002 c0_1003 c1_1004 v5_1005 c39_1006 c39_1007 c39_1008 c40_1009 v41_1010 h
  | _ => False
def strings_Join.r1 (K : Nat → List Value → Heap → Prop) (m : Nat) (vs : List Value) (h : Heap) : Prop := match vs with
  | [(.string c1_2001), (.pointer (some c8_2002)), (.slice c63_2003 c63_2004 c63_2005), (.int .i64 c64_2006), (.int .i64 v65_2007)] => strings_Join.l1 (fun h' => K 5 [(.pointer (some c8_2002))] h') m c1_2001 c8_2002 c63_2003 c63_2004 c63_2005 c64_2006 v65_2007 h
  | _ => False
def strings_Join.loop (i : Nat) (vs : List Value) (h : Heap) (K : Nat → List Value → Heap → Prop) : Prop := match i with
  | 0 => ∃ m, strings_Join.r0 K m vs h
  | 1 => ∃ m, strings_Join.r1 K m vs h
  | _ => False
noncomputable def strings_Join.ctx : Ctx := { P := Tryz.prog, call := strings_Join.call, qcall := fun _ _ _ _ => False, quiet := fun f => Nat.beq f 2000025, loop := strings_Join.loop }
theorem strings_Join.ok : strings_Join.ctx.OK where
  mixed := by kernel_rfl
  mono := by
    intro f args h K K' hh hk
    change strings_Join.call f args h K at hh
    change strings_Join.call f args h K'
    unfold strings_Join.call at hh ⊢
    split at hh
    · obtain ⟨R, h1, h2⟩ := hh
      exact ⟨R, h1, fun x hr => hk _ _ (h2 x hr)⟩
    · obtain ⟨R, h1, h2⟩ := hh
      exact ⟨R, h1, fun _ _ x hr => hk _ _ (h2 _ _ x hr)⟩
    · obtain ⟨R, h1, h2⟩ := hh
      exact ⟨R, h1, fun _ x hr => hk _ _ (h2 _ x hr)⟩
    · exact hh.elim
  call := by
    intro f args h K hh w hw
    change strings_Join.call f args h K at hh
    unfold strings_Join.call at hh
    split at hh
    · obtain ⟨R, h1, h2⟩ := hh
      obtain ⟨g1, g2⟩ := strings_Builder_Grow.calls h1 w hw
      exact ⟨g1, g2.mono fun e w' ⟨v, he, ho, hr⟩ => ⟨v, he, ho, strings_Builder_Grow.ret_elim h2 hr⟩⟩
    · obtain ⟨R, h1, h2⟩ := hh
      obtain ⟨g1, g2⟩ := strings_Builder_WriteString.calls h1 w hw
      exact ⟨g1, g2.mono fun e w' ⟨v, he, ho, hr⟩ => ⟨v, he, ho, strings_Builder_WriteString.ret_elim h2 hr⟩⟩
    · obtain ⟨R, h1, h2⟩ := hh
      obtain ⟨g1, g2⟩ := strings_Builder_String.calls h1 w hw
      exact ⟨g1, g2.mono fun e w' ⟨v, he, ho, hr⟩ => ⟨v, he, ho, strings_Builder_String.ret_elim h2 hr⟩⟩
    · exact hh.elim
  qmono := fun hh _ => hh.elim
  qval := fun hh => hh.elim
  qcall := fun hh => hh.elim
noncomputable def strings_Join.code : Code := (Tryz.f24.body).getD .skip
def strings_Join.ann : Ann := (.two .auto (.two .auto (.two .auto (.two .auto (.two (.two .auto (.two (.loop 0 [0, 1, 5, 39, 40, 41] [(3, [0, 1, 5])] .auto) .auto)) (.two .auto (.two .auto (.two .auto (.two (.two .auto (.two (.loop 1 [1, 8, 63, 64, 65] [(5, [8])] .auto) .auto)) .auto)))))))))
noncomputable def strings_Join.c1 : Code := sub strings_Join.code [1, 1, 1, 1, 1, 1, 1, 1, 0, 1, 0, 0]
def strings_Join.a1 : Ann := .auto
def strings_Join.keep1 : List Nat := [1, 8, 63, 64, 65]
def strings_Join.outs1 : List (Nat × List Nat) := [(5, [8])]
noncomputable def strings_Join.c0 : Code := sub strings_Join.code [1, 1, 1, 1, 0, 1, 0, 0]
def strings_Join.a0 : Ann := .auto
def strings_Join.keep0 : List Nat := [0, 1, 5, 39, 40, 41]
def strings_Join.outs0 : List (Nat × List Nat) := [(3, [0, 1, 5])]
set_option maxRecDepth 100000 in
theorem strings_Join.L0 : LoopOK strings_Join.ctx 75 strings_Join.c0 0 strings_Join.keep0 strings_Join.outs0 := by
  refine loop_ok (n := strings_Join.a0) strings_Join.ok (by kernel_rfl) (loops_ok (l := []) (by kernel_rfl) ?_) strings_Join.r0 ?_ ?_ (fun vs h K hh => hh)
  · exact trivial
  · intro K vs h hh
    unfold strings_Join.r0 at hh
    split at hh
    · exact hh
    · exact hh
  · intro K m vs h hh
    unfold strings_Join.r0 at hh
    split at hh
    · exact cast (by kernel_rfl) hh
    · exact hh.elim
set_option maxRecDepth 100000 in
theorem strings_Join.L1 : LoopOK strings_Join.ctx 75 strings_Join.c1 1 strings_Join.keep1 strings_Join.outs1 := by
  refine loop_ok (n := strings_Join.a1) strings_Join.ok (by kernel_rfl) (loops_ok (l := []) (by kernel_rfl) ?_) strings_Join.r1 ?_ ?_ (fun vs h K hh => hh)
  · exact trivial
  · intro K vs h hh
    unfold strings_Join.r1 at hh
    split at hh
    · exact hh
    · exact hh
  · intro K m vs h hh
    unfold strings_Join.r1 at hh
    split at hh
    · exact cast (by kernel_rfl) hh
    · exact hh.elim
set_option maxRecDepth 100000 in
theorem strings_Join.eq (a1 : Option Addr) (a1l : Nat) (a1c : Nat) (a2 : ByteArray) (h : Heap) (K : ByteArray → Heap → Prop) : evF strings_Join.ctx Tryz.f24 strings_Join.ann [(.slice a1 a1l a1c), (.string a2)] h (strings_Join.ret K) = strings_Join a1 a1l a1c a2 h K := by kernel_rfl
set_option maxRecDepth 100000 in
theorem strings_Join.calls {a1 : Option Addr} {a1l : Nat} {a1c : Nat} {a2 : ByteArray} {h : Heap} {K : ByteArray → Heap → Prop} (hh : strings_Join a1 a1l a1c a2 h K) (w : World) (hw : w.heap = h) :
    (callFunc 24 #[(.slice a1 a1l a1c), (.string a2)]).run Tryz.prog w = .ok (.enter 24 #[(.slice a1 a1l a1c), (.string a2)]) w ∧ Calls Tryz.prog 24 #[(.slice a1 a1l a1c), (.string a2)] w fun e w' => ∃ v, e = .returned v ∧ Out w w' ∧ strings_Join.ret K v w'.heap := by
  rw [← strings_Join.eq] at hh
  exact fn_calls (args := [(.slice a1 a1l a1c), (.string a2)]) (c := strings_Join.code) strings_Join.ok Tryz.func24 (by kernel_rfl) (by kernel_rfl) (by kernel_rfl) (by kernel_rfl) (loops_ok (l := [(strings_Join.c0, none, 0, strings_Join.keep0, strings_Join.outs0), (strings_Join.c1, none, 1, strings_Join.keep1, strings_Join.outs1)]) (by kernel_rfl) ⟨strings_Join.L0, strings_Join.L1, trivial⟩) hh w hw
end

end Go.Proofs.YtmejnpadgbdhaaaGreatDoor
