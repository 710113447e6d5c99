/- WRITTEN BY A PROGRAM OF THIS SESSION (gen.py): what each function asks of memory, and that the model's run comes to it. -/
import Derived.Test.YtnepdopakngpfaaDoorProg
import Derived.Test.YtnepdopakngpfaaDoorFw8

namespace Go.Proofs.YtnepdopakngpfaaDoor
open Go.Hp
set_option linter.unusedVariables false
set_option linter.unusedSimpArgs false
set_option linter.unusedSectionVars false

/-! ### strings.Count: function 36, by its contract -/
def strings_Count.ret (K : Int → Heap → Prop) (v : Value) (h : Heap) : Prop := match v with
  | (.int .i64 r3) => K r3 h
  | _ => False
theorem strings_Count.ret_elim {K : Int → Heap → Prop} {K' : Value → Heap → Prop} {v : Value} {h : Heap} (hk : ∀ r3 h, K r3 h → K' (.int .i64 r3) h) (hh : strings_Count.ret K v h) : K' v h := by
  unfold strings_Count.ret at hh
  split at hh
  · exact hk _ _ hh
  · exact hh.elim
def strings_Count [DKc] (a1 : ByteArray) (a2 : ByteArray) (h : Heap) (K : Int → Heap → Prop) : Prop := ∀ w : World, w.heap = h → (callFunc 36 #[(.string a1), (.string a2)]).run Tryd.prog w = .ok (.enter 36 #[(.string a1), (.string a2)]) w ∧ Calls Tryd.prog 36 #[(.string a1), (.string a2)] w fun e w' => ∃ v, e = .returned v ∧ Out w w' ∧ strings_Count.ret K v w'.heap
theorem strings_Count.calls [DKc] {a1 : ByteArray} {a2 : ByteArray} {h : Heap} {K : Int → Heap → Prop} (hh : strings_Count a1 a2 h K) (w : World) (hw : w.heap = h) : (callFunc 36 #[(.string a1), (.string a2)]).run Tryd.prog w = .ok (.enter 36 #[(.string a1), (.string a2)]) w ∧ Calls Tryd.prog 36 #[(.string a1), (.string a2)] w fun e w' => ∃ v, e = .returned v ∧ Out w w' ∧ strings_Count.ret K v w'.heap := hh w hw

/-! ### strings.Cut: function 37, by its contract -/
def strings_Cut.ret (K : ByteArray → ByteArray → Bool → Heap → Prop) (v : Value) (h : Heap) : Prop := match v with
  | (.tuple ⟨[(.string r3), (.string r4), (.bool r5)]⟩) => K r3 r4 r5 h
  | _ => False
theorem strings_Cut.ret_elim {K : ByteArray → ByteArray → Bool → Heap → Prop} {K' : Value → Heap → Prop} {v : Value} {h : Heap} (hk : ∀ r3 r4 r5 h, K r3 r4 r5 h → K' (.tuple #[(.string r3), (.string r4), (.bool r5)]) h) (hh : strings_Cut.ret K v h) : K' v h := by
  unfold strings_Cut.ret at hh
  split at hh
  · exact hk _ _ _ _ hh
  · exact hh.elim
def strings_Cut [DKc] (a1 : ByteArray) (a2 : ByteArray) (h : Heap) (K : ByteArray → ByteArray → Bool → Heap → Prop) : Prop := ∀ w : World, w.heap = h → (callFunc 37 #[(.string a1), (.string a2)]).run Tryd.prog w = .ok (.enter 37 #[(.string a1), (.string a2)]) w ∧ Calls Tryd.prog 37 #[(.string a1), (.string a2)] w fun e w' => ∃ v, e = .returned v ∧ Out w w' ∧ strings_Cut.ret K v w'.heap
theorem strings_Cut.calls [DKc] {a1 : ByteArray} {a2 : ByteArray} {h : Heap} {K : ByteArray → ByteArray → Bool → Heap → Prop} (hh : strings_Cut a1 a2 h K) (w : World) (hw : w.heap = h) : (callFunc 37 #[(.string a1), (.string a2)]).run Tryd.prog w = .ok (.enter 37 #[(.string a1), (.string a2)]) w ∧ Calls Tryd.prog 37 #[(.string a1), (.string a2)] w fun e w' => ∃ v, e = .returned v ∧ Out w w' ∧ strings_Cut.ret K v w'.heap := hh w hw

/-! ### strait/word.Lines: function 10 -/
section
variable [DKc]
def word_Lines.b0 (K2 : ByteArray → (Option Addr) → Nat → Nat → Heap → Prop) (cont : ByteArray → (Option Addr) → Nat → Nat → Heap → Prop) (v0_1001 : ByteArray) (v4_1002 : Option Addr) (v4_1002l : Nat) (v4_1002c : Nat) (h1003 : Heap) : Prop :=
  (iteB (!(v0_1001.toList == (⟨#[]⟩ : ByteArray).toList)) ((callP3 (strings_Cut v0_1001 (⟨#[10]⟩ : ByteArray) h1003) fun x1004 x1005 x1006 h1007 => ((iteB (!x1006) (K2 v0_1001 v4_1002 v4_1002l v4_1002c h1007) (newP h1007 (.cells #[(.string x1004)] 9) fun a1008 h1009 => ∃ n1014, cellsAt h1009 (some a1008) (1 * 1) n1014 ∧ appP 9 1 16 [(.string (⟨#[]⟩ : ByteArray))] v4_1002 v4_1002l v4_1002c 1 n1014 h1009 fun q1010 l1011 c1012 h1013 => (cont x1005 q1010 l1011 c1012 h1013)))))) (K2 v0_1001 v4_1002 v4_1002l v4_1002c h1003))
def word_Lines.l0 (K2 : ByteArray → (Option Addr) → Nat → Nat → Heap → Prop) : Nat → ByteArray → (Option Addr) → Nat → Nat → Heap → Prop
  | 0, _, _, _, _, _ => False
  | m + 1, v0_1001, v4_1002, v4_1002l, v4_1002c, h => word_Lines.b0 K2 (word_Lines.l0 K2 m) v0_1001 v4_1002 v4_1002l v4_1002c h
def word_Lines (a1 : ByteArray) (h : Heap) (K : (Option Addr) → Nat → Nat → Bool → Heap → Prop) : Prop :=
  (callP1 (strings_Count a1 (⟨#[10]⟩ : ByteArray) h) fun x2 h3 => (0 ≤ (0 : Int) ∧ (0 : Int) ≤ x2 ∧ x2 * (16 : Nat) ≤ 2 ^ 47 ∧ x2 ≤ 2 ^ 47) ∧ newP h3 (.cells (zeroRow [(.string (⟨#[]⟩ : ByteArray))] x2.toNat).toArray 9) fun a4 h5 => ((∃ m9, word_Lines.l0 (fun z6 z7 z7l z7c h8 => (((iteB (!(z6.toList == (⟨#[]⟩ : ByteArray).toList)) (K none 0 0 false h8) (K z7 z7l z7c true h8))))) m9 a1 (some a4) ((0 : Int).toNat) x2.toNat h5)))
def word_Lines.ret (K : (Option Addr) → Nat → Nat → Bool → Heap → Prop) (v : Value) (h : Heap) : Prop := match v with
  | (.tuple ⟨[(.slice r10 r10l r10c), (.bool r11)]⟩) => K r10 r10l r10c r11 h
  | _ => False
theorem word_Lines.ret_elim {K : (Option Addr) → Nat → Nat → Bool → Heap → Prop} {K' : Value → Heap → Prop} {v : Value} {h : Heap} (hk : ∀ r10 r10l r10c r11 h, K r10 r10l r10c r11 h → K' (.tuple #[(.slice r10 r10l r10c), (.bool r11)]) h) (hh : word_Lines.ret K v h) : K' v h := by
  unfold word_Lines.ret at hh
  split at hh
  · exact hk _ _ _ _ _ hh
  · exact hh.elim
def word_Lines.call (f : FuncId) (vs : List Value) (h : Heap) (K : Value → Heap → Prop) : Prop := match f, vs with
  | 36, [(.string a1), (.string a2)] => callP1 (strings_Count a1 a2 h) fun r3 h' => K (.int .i64 r3) h'
  | 37, [(.string a1), (.string a2)] => callP3 (strings_Cut a1 a2 h) fun r3 r4 r5 h' => K (.tuple #[(.string r3), (.string r4), (.bool r5)]) h'
  | _, _ => False
def word_Lines.r0 (K : Nat → List Value → Heap → Prop) (m : Nat) (vs : List Value) (h : Heap) : Prop := match vs with
  | [(.string v0_1001), (.slice v4_1002 v4_1002l v4_1002c)] => word_Lines.l0 (fun z12 z13 z13l z13c h' => K 2 [(.string z12), (.slice z13 z13l z13c)] h') m v0_1001 v4_1002 v4_1002l v4_1002c h
  | _ => False
def word_Lines.loop (i : Nat) (vs : List Value) (h : Heap) (K : Nat → List Value → Heap → Prop) : Prop := match i with
  | 0 => ∃ m, word_Lines.r0 K m vs h
  | _ => False
noncomputable def word_Lines.ctx : Ctx := { P := Tryd.prog, call := word_Lines.call, qcall := fun _ _ _ _ => False, quiet := fun f => Nat.beq f 2000073, loop := word_Lines.loop }
theorem word_Lines.ok : word_Lines.ctx.OK where
  mixed := by kernel_rfl
  mono := by
    intro f args h K K' hh hk
    change word_Lines.call f args h K at hh
    change word_Lines.call f args h K'
    unfold word_Lines.call at hh ⊢
    split at hh
    · obtain ⟨R, h1, h2⟩ := hh
      exact ⟨R, h1, fun _ x hr => hk _ _ (h2 _ x hr)⟩
    · obtain ⟨R, h1, h2⟩ := hh
      exact ⟨R, h1, fun _ _ _ x hr => hk _ _ (h2 _ _ _ x hr)⟩
    · exact hh.elim
  call := by
    intro f args h K hh w hw
    change word_Lines.call f args h K at hh
    unfold word_Lines.call at hh
    split at hh
    · obtain ⟨R, h1, h2⟩ := hh
      obtain ⟨g1, g2⟩ := strings_Count.calls h1 w hw
      exact ⟨g1, g2.mono fun e w' ⟨v, he, ho, hr⟩ => ⟨v, he, ho, strings_Count.ret_elim h2 hr⟩⟩
    · obtain ⟨R, h1, h2⟩ := hh
      obtain ⟨g1, g2⟩ := strings_Cut.calls h1 w hw
      exact ⟨g1, g2.mono fun e w' ⟨v, he, ho, hr⟩ => ⟨v, he, ho, strings_Cut.ret_elim h2 hr⟩⟩
    · exact hh.elim
  qmono := fun hh _ => hh.elim
  qval := fun hh => hh.elim
  qcall := fun hh => hh.elim
noncomputable def word_Lines.code : Code := (Tryd.f10.body).getD .skip
def word_Lines.ann : Ann := (.two .auto (.two (.two .auto (.two .auto (.two (.two (.loop 0 [0, 4] [(2, [0, 4])] .auto) .auto) .auto))) .auto))
noncomputable def word_Lines.c0 : Code := sub word_Lines.code [1, 0, 1, 1, 0, 0, 0]
def word_Lines.a0 : Ann := .auto
def word_Lines.keep0 : List Nat := [0, 4]
def word_Lines.outs0 : List (Nat × List Nat) := [(2, [0, 4])]
set_option maxRecDepth 100000 in
theorem word_Lines.L0 : LoopOK word_Lines.ctx 30 word_Lines.c0 0 word_Lines.keep0 word_Lines.outs0 := by
  refine loop_ok (n := word_Lines.a0) word_Lines.ok (by kernel_rfl) (loops_ok (l := []) (by kernel_rfl) ?_) word_Lines.r0 ?_ ?_ (fun vs h K hh => hh)
  · exact trivial
  · intro K vs h hh
    unfold word_Lines.r0 at hh
    split at hh
    · exact hh
    · exact hh
  · intro K m vs h hh
    unfold word_Lines.r0 at hh
    split at hh
    · exact cast (by kernel_rfl) hh
    · exact hh.elim
set_option maxRecDepth 100000 in
theorem word_Lines.eq (a1 : ByteArray) (h : Heap) (K : (Option Addr) → Nat → Nat → Bool → Heap → Prop) : evF word_Lines.ctx Tryd.f10 word_Lines.ann [(.string a1)] h (word_Lines.ret K) = word_Lines a1 h K := by kernel_rfl
set_option maxRecDepth 100000 in
theorem word_Lines.calls {a1 : ByteArray} {h : Heap} {K : (Option Addr) → Nat → Nat → Bool → Heap → Prop} (hh : word_Lines a1 h K) (w : World) (hw : w.heap = h) :
    (callFunc 10 #[(.string a1)]).run Tryd.prog w = .ok (.enter 10 #[(.string a1)]) w ∧ Calls Tryd.prog 10 #[(.string a1)] w fun e w' => ∃ v, e = .returned v ∧ Out w w' ∧ word_Lines.ret K v w'.heap := by
  rw [← word_Lines.eq] at hh
  exact fn_calls (args := [(.string a1)]) (c := word_Lines.code) word_Lines.ok Tryd.func10 (by kernel_rfl) (by kernel_rfl) (by kernel_rfl) (by kernel_rfl) (loops_ok (l := [(word_Lines.c0, none, 0, word_Lines.keep0, word_Lines.outs0)]) (by kernel_rfl) ⟨word_Lines.L0, trivial⟩) hh w hw
end

/-! ### strings.Split: function 38, by its contract -/
def strings_Split.ret (K : (Option Addr) → Nat → Nat → Heap → Prop) (v : Value) (h : Heap) : Prop := match v with
  | (.slice r3 r3l r3c) => K r3 r3l r3c h
  | _ => False
theorem strings_Split.ret_elim {K : (Option Addr) → Nat → Nat → Heap → Prop} {K' : Value → Heap → Prop} {v : Value} {h : Heap} (hk : ∀ r3 r3l r3c h, K r3 r3l r3c h → K' (.slice r3 r3l r3c) h) (hh : strings_Split.ret K v h) : K' v h := by
  unfold strings_Split.ret at hh
  split at hh
  · exact hk _ _ _ _ hh
  · exact hh.elim
def strings_Split [DKc] (a1 : ByteArray) (a2 : ByteArray) (h : Heap) (K : (Option Addr) → Nat → Nat → Heap → Prop) : Prop := ∀ w : World, w.heap = h → (callFunc 38 #[(.string a1), (.string a2)]).run Tryd.prog w = .ok (.enter 38 #[(.string a1), (.string a2)]) w ∧ Calls Tryd.prog 38 #[(.string a1), (.string a2)] w fun e w' => ∃ v, e = .returned v ∧ Out w w' ∧ strings_Split.ret K v w'.heap
theorem strings_Split.calls [DKc] {a1 : ByteArray} {a2 : ByteArray} {h : Heap} {K : (Option Addr) → Nat → Nat → Heap → Prop} (hh : strings_Split a1 a2 h K) (w : World) (hw : w.heap = h) : (callFunc 38 #[(.string a1), (.string a2)]).run Tryd.prog w = .ok (.enter 38 #[(.string a1), (.string a2)]) w ∧ Calls Tryd.prog 38 #[(.string a1), (.string a2)] w fun e w' => ∃ v, e = .returned v ∧ Out w w' ∧ strings_Split.ret K v w'.heap := hh w hw

/-! ### strings.IndexAny: function 71, by its contract -/
def strings_IndexAny.ret (K : Int → Heap → Prop) (v : Value) (h : Heap) : Prop := match v with
  | (.int .i64 r3) => K r3 h
  | _ => False
theorem strings_IndexAny.ret_elim {K : Int → Heap → Prop} {K' : Value → Heap → Prop} {v : Value} {h : Heap} (hk : ∀ r3 h, K r3 h → K' (.int .i64 r3) h) (hh : strings_IndexAny.ret K v h) : K' v h := by
  unfold strings_IndexAny.ret at hh
  split at hh
  · exact hk _ _ hh
  · exact hh.elim
def strings_IndexAny [DKc] (a1 : ByteArray) (a2 : ByteArray) (h : Heap) (K : Int → Heap → Prop) : Prop := ∀ w : World, w.heap = h → (callFunc 71 #[(.string a1), (.string a2)]).run Tryd.prog w = .ok (.enter 71 #[(.string a1), (.string a2)]) w ∧ Calls Tryd.prog 71 #[(.string a1), (.string a2)] w fun e w' => ∃ v, e = .returned v ∧ Out w w' ∧ strings_IndexAny.ret K v w'.heap
theorem strings_IndexAny.calls [DKc] {a1 : ByteArray} {a2 : ByteArray} {h : Heap} {K : Int → Heap → Prop} (hh : strings_IndexAny a1 a2 h K) (w : World) (hw : w.heap = h) : (callFunc 71 #[(.string a1), (.string a2)]).run Tryd.prog w = .ok (.enter 71 #[(.string a1), (.string a2)]) w ∧ Calls Tryd.prog 71 #[(.string a1), (.string a2)] w fun e w' => ∃ v, e = .returned v ∧ Out w w' ∧ strings_IndexAny.ret K v w'.heap := hh w hw

/-! ### strings.ContainsAny: function 60 -/
section
variable [DKc]
def strings_ContainsAny (a1 : ByteArray) (a2 : ByteArray) (h : Heap) (K : Bool → Heap → Prop) : Prop :=
  (callP1 (strings_IndexAny a1 a2 h) fun x3 h4 => (K (decide (x3 ≥ (0 : Int))) h4))
def strings_ContainsAny.ret (K : Bool → Heap → Prop) (v : Value) (h : Heap) : Prop := match v with
  | (.bool r5) => K r5 h
  | _ => False
theorem strings_ContainsAny.ret_elim {K : Bool → Heap → Prop} {K' : Value → Heap → Prop} {v : Value} {h : Heap} (hk : ∀ r5 h, K r5 h → K' (.bool r5) h) (hh : strings_ContainsAny.ret K v h) : K' v h := by
  unfold strings_ContainsAny.ret at hh
  split at hh
  · exact hk _ _ hh
  · exact hh.elim
def strings_ContainsAny.call (f : FuncId) (vs : List Value) (h : Heap) (K : Value → Heap → Prop) : Prop := match f, vs with
  | 71, [(.string a1), (.string a2)] => callP1 (strings_IndexAny a1 a2 h) fun r3 h' => K (.int .i64 r3) h'
  | _, _ => False
noncomputable def strings_ContainsAny.ctx : Ctx := { P := Tryd.prog, call := strings_ContainsAny.call, qcall := fun _ _ _ _ => False, quiet := fun f => Nat.beq f 2000073, loop := fun _ _ _ _ => False }
theorem strings_ContainsAny.ok : strings_ContainsAny.ctx.OK where
  mixed := by kernel_rfl
  mono := by
    intro f args h K K' hh hk
    change strings_ContainsAny.call f args h K at hh
    change strings_ContainsAny.call f args h K'
    unfold strings_ContainsAny.call at hh ⊢
    split at hh
    · obtain ⟨R, h1, h2⟩ := hh
      exact ⟨R, h1, fun _ x hr => hk _ _ (h2 _ x hr)⟩
    · exact hh.elim
  call := by
    intro f args h K hh w hw
    change strings_ContainsAny.call f args h K at hh
    unfold strings_ContainsAny.call at hh
    split at hh
    · obtain ⟨R, h1, h2⟩ := hh
      obtain ⟨g1, g2⟩ := strings_IndexAny.calls h1 w hw
      exact ⟨g1, g2.mono fun e w' ⟨v, he, ho, hr⟩ => ⟨v, he, ho, strings_IndexAny.ret_elim h2 hr⟩⟩
    · exact hh.elim
  qmono := fun hh _ => hh.elim
  qval := fun hh => hh.elim
  qcall := fun hh => hh.elim
noncomputable def strings_ContainsAny.code : Code := (Tryd.f60.body).getD .skip
def strings_ContainsAny.ann : Ann := .auto
set_option maxRecDepth 100000 in
theorem strings_ContainsAny.eq (a1 : ByteArray) (a2 : ByteArray) (h : Heap) (K : Bool → Heap → Prop) : evF strings_ContainsAny.ctx Tryd.f60 strings_ContainsAny.ann [(.string a1), (.string a2)] h (strings_ContainsAny.ret K) = strings_ContainsAny a1 a2 h K := by kernel_rfl
set_option maxRecDepth 100000 in
theorem strings_ContainsAny.calls {a1 : ByteArray} {a2 : ByteArray} {h : Heap} {K : Bool → Heap → Prop} (hh : strings_ContainsAny a1 a2 h K) (w : World) (hw : w.heap = h) :
    (callFunc 60 #[(.string a1), (.string a2)]).run Tryd.prog w = .ok (.enter 60 #[(.string a1), (.string a2)]) w ∧ Calls Tryd.prog 60 #[(.string a1), (.string a2)] w fun e w' => ∃ v, e = .returned v ∧ Out w w' ∧ strings_ContainsAny.ret K v w'.heap := by
  rw [← strings_ContainsAny.eq] at hh
  exact fn_calls (args := [(.string a1), (.string a2)]) (c := strings_ContainsAny.code) strings_ContainsAny.ok Tryd.func60 (by kernel_rfl) (by kernel_rfl) (by kernel_rfl) (by kernel_rfl) (loops_ok (l := []) (by kernel_rfl) trivial) hh w hw
end

/-! ### strait/word.right: function 40 -/
section
variable [DKc]
def word_right (a1 : ByteArray) (h : Heap) (K : Bool → Heap → Prop) : Prop :=
  (iteB (!(a1.toList == (⟨#[]⟩ : ByteArray).toList)) (callP1 (strings_ContainsAny a1 (⟨#[32, 10]⟩ : ByteArray) h) fun x2 h3 => (K (!x2) h3)) (K false h))
def word_right.ret (K : Bool → Heap → Prop) (v : Value) (h : Heap) : Prop := match v with
  | (.bool r6) => K r6 h
  | _ => False
theorem word_right.ret_elim {K : Bool → Heap → Prop} {K' : Value → Heap → Prop} {v : Value} {h : Heap} (hk : ∀ r6 h, K r6 h → K' (.bool r6) h) (hh : word_right.ret K v h) : K' v h := by
  unfold word_right.ret at hh
  split at hh
  · exact hk _ _ hh
  · exact hh.elim
def word_right.call (f : FuncId) (vs : List Value) (h : Heap) (K : Value → Heap → Prop) : Prop := match f, vs with
  | 60, [(.string a1), (.string a2)] => callP1 (strings_ContainsAny a1 a2 h) fun r5 h' => K (.bool r5) h'
  | _, _ => False
noncomputable def word_right.ctx : Ctx := { P := Tryd.prog, call := word_right.call, qcall := fun _ _ _ _ => False, quiet := fun f => Nat.beq f 2000073, loop := fun _ _ _ _ => False }
theorem word_right.ok : word_right.ctx.OK where
  mixed := by kernel_rfl
  mono := by
    intro f args h K K' hh hk
    change word_right.call f args h K at hh
    change word_right.call f args h K'
    unfold word_right.call at hh ⊢
    split at hh
    · obtain ⟨R, h1, h2⟩ := hh
      exact ⟨R, h1, fun _ x hr => hk _ _ (h2 _ x hr)⟩
    · exact hh.elim
  call := by
    intro f args h K hh w hw
    change word_right.call f args h K at hh
    unfold word_right.call at hh
    split at hh
    · obtain ⟨R, h1, h2⟩ := hh
      obtain ⟨g1, g2⟩ := strings_ContainsAny.calls h1 w hw
      exact ⟨g1, g2.mono fun e w' ⟨v, he, ho, hr⟩ => ⟨v, he, ho, strings_ContainsAny.ret_elim h2 hr⟩⟩
    · exact hh.elim
  qmono := fun hh _ => hh.elim
  qval := fun hh => hh.elim
  qcall := fun hh => hh.elim
noncomputable def word_right.code : Code := (Tryd.f40.body).getD .skip
def word_right.ann : Ann := .auto
set_option maxRecDepth 100000 in
theorem word_right.eq (a1 : ByteArray) (h : Heap) (K : Bool → Heap → Prop) : evF word_right.ctx Tryd.f40 word_right.ann [(.string a1)] h (word_right.ret K) = word_right a1 h K := by kernel_rfl
set_option maxRecDepth 100000 in
theorem word_right.calls {a1 : ByteArray} {h : Heap} {K : Bool → Heap → Prop} (hh : word_right a1 h K) (w : World) (hw : w.heap = h) :
    (callFunc 40 #[(.string a1)]).run Tryd.prog w = .ok (.enter 40 #[(.string a1)]) w ∧ Calls Tryd.prog 40 #[(.string a1)] w fun e w' => ∃ v, e = .returned v ∧ Out w w' ∧ word_right.ret K v w'.heap := by
  rw [← word_right.eq] at hh
  exact fn_calls (args := [(.string a1)]) (c := word_right.code) word_right.ok Tryd.func40 (by kernel_rfl) (by kernel_rfl) (by kernel_rfl) (by kernel_rfl) (loops_ok (l := []) (by kernel_rfl) trivial) hh w hw
end

/-! ### strait/word.Words$1: function 39 -/
section
variable [DKc]
def word_Words_c1 (a1 : ByteArray) (h : Heap) (K : Bool → Heap → Prop) : Prop :=
  (callP1 (word_right a1 h) fun x2 h3 => (K (!x2) h3))
def word_Words_c1.ret (K : Bool → Heap → Prop) (v : Value) (h : Heap) : Prop := match v with
  | (.bool r4) => K r4 h
  | _ => False
theorem word_Words_c1.ret_elim {K : Bool → Heap → Prop} {K' : Value → Heap → Prop} {v : Value} {h : Heap} (hk : ∀ r4 h, K r4 h → K' (.bool r4) h) (hh : word_Words_c1.ret K v h) : K' v h := by
  unfold word_Words_c1.ret at hh
  split at hh
  · exact hk _ _ hh
  · exact hh.elim
def word_Words_c1.call (f : FuncId) (vs : List Value) (h : Heap) (K : Value → Heap → Prop) : Prop := match f, vs with
  | 40, [(.string a1)] => callP1 (word_right a1 h) fun r6 h' => K (.bool r6) h'
  | _, _ => False
noncomputable def word_Words_c1.ctx : Ctx := { P := Tryd.prog, call := word_Words_c1.call, qcall := fun _ _ _ _ => False, quiet := fun f => Nat.beq f 2000073, loop := fun _ _ _ _ => False }
theorem word_Words_c1.ok : word_Words_c1.ctx.OK where
  mixed := by kernel_rfl
  mono := by
    intro f args h K K' hh hk
    change word_Words_c1.call f args h K at hh
    change word_Words_c1.call f args h K'
    unfold word_Words_c1.call at hh ⊢
    split at hh
    · obtain ⟨R, h1, h2⟩ := hh
      exact ⟨R, h1, fun _ x hr => hk _ _ (h2 _ x hr)⟩
    · exact hh.elim
  call := by
    intro f args h K hh w hw
    change word_Words_c1.call f args h K at hh
    unfold word_Words_c1.call at hh
    split at hh
    · obtain ⟨R, h1, h2⟩ := hh
      obtain ⟨g1, g2⟩ := word_right.calls h1 w hw
      exact ⟨g1, g2.mono fun e w' ⟨v, he, ho, hr⟩ => ⟨v, he, ho, word_right.ret_elim h2 hr⟩⟩
    · exact hh.elim
  qmono := fun hh _ => hh.elim
  qval := fun hh => hh.elim
  qcall := fun hh => hh.elim
noncomputable def word_Words_c1.code : Code := (Tryd.f39.body).getD .skip
def word_Words_c1.ann : Ann := .auto
set_option maxRecDepth 100000 in
theorem word_Words_c1.eq (a1 : ByteArray) (h : Heap) (K : Bool → Heap → Prop) : evF word_Words_c1.ctx Tryd.f39 word_Words_c1.ann [(.string a1)] h (word_Words_c1.ret K) = word_Words_c1 a1 h K := by kernel_rfl
set_option maxRecDepth 100000 in
theorem word_Words_c1.calls {a1 : ByteArray} {h : Heap} {K : Bool → Heap → Prop} (hh : word_Words_c1 a1 h K) (w : World) (hw : w.heap = h) :
    (callFunc 39 #[(.string a1)]).run Tryd.prog w = .ok (.enter 39 #[(.string a1)]) w ∧ Calls Tryd.prog 39 #[(.string a1)] w fun e w' => ∃ v, e = .returned v ∧ Out w w' ∧ word_Words_c1.ret K v w'.heap := by
  rw [← word_Words_c1.eq] at hh
  exact fn_calls (args := [(.string a1)]) (c := word_Words_c1.code) word_Words_c1.ok Tryd.func39 (by kernel_rfl) (by kernel_rfl) (by kernel_rfl) (by kernel_rfl) (loops_ok (l := []) (by kernel_rfl) trivial) hh w hw
end

/-! ### slices.IndexFunc[[]string,string]: function 61 -/
section
variable [DKc]
def slices_IndexFunc_Lstring_string_word_Words_c1.b0 (K0 : Int → Heap → Prop) (K2 : Heap → Prop) (cont : (Option Addr) → Nat → Nat → Int → Int → Heap → Prop) (c0_1001 : Option Addr) (c0_1002 : Nat) (c0_1003 : Nat) (c7_1004 : Int) (v8_1005 : Int) (h1006 : Heap) : Prop :=
  (iteB (decide (v8_1005 < c7_1004)) (((chkP c0_1001 fun a1007 => (0 ≤ v8_1005 ∧ v8_1005 < (c0_1002 : Int)) ∧ ∃ (x1008 : ByteArray), cell h1006 (a1007.add (v8_1005.toNat * 1)) = some (.string x1008) ∧ callP1 (word_Words_c1 x1008 h1006) fun x1009 h1010 => (iteB x1009 (K0 v8_1005 h1010) (((cont c0_1001 c0_1002 c0_1003 c7_1004 (IntKind.i64.wrap (v8_1005 + 1)) h1010))))))) (K2 h1006))
def slices_IndexFunc_Lstring_string_word_Words_c1.l0 (K0 : Int → Heap → Prop) (K2 : Heap → Prop) : Nat → (Option Addr) → Nat → Nat → Int → Int → Heap → Prop
  | 0, _, _, _, _, _, _ => False
  | m + 1, c0_1001, c0_1002, c0_1003, c7_1004, v8_1005, h => slices_IndexFunc_Lstring_string_word_Words_c1.b0 K0 K2 (slices_IndexFunc_Lstring_string_word_Words_c1.l0 K0 K2 m) c0_1001 c0_1002 c0_1003 c7_1004 v8_1005 h
def slices_IndexFunc_Lstring_string_word_Words_c1 (a1 : Option Addr) (a1l : Nat) (a1c : Nat) (h : Heap) (K : Int → Heap → Prop) : Prop :=
  ((∃ m5, slices_IndexFunc_Lstring_string_word_Words_c1.l0 (fun z2 h3 => K z2 h3) (fun h4 => (((K (-1) h4)))) m5 a1 a1l a1c (a1l : Int) 0 h))
def slices_IndexFunc_Lstring_string_word_Words_c1.ret (K : Int → Heap → Prop) (v : Value) (h : Heap) : Prop := match v with
  | (.int .i64 r6) => K r6 h
  | _ => False
theorem slices_IndexFunc_Lstring_string_word_Words_c1.ret_elim {K : Int → Heap → Prop} {K' : Value → Heap → Prop} {v : Value} {h : Heap} (hk : ∀ r6 h, K r6 h → K' (.int .i64 r6) h) (hh : slices_IndexFunc_Lstring_string_word_Words_c1.ret K v h) : K' v h := by
  unfold slices_IndexFunc_Lstring_string_word_Words_c1.ret at hh
  split at hh
  · exact hk _ _ hh
  · exact hh.elim
def slices_IndexFunc_Lstring_string_word_Words_c1.call (f : FuncId) (vs : List Value) (h : Heap) (K : Value → Heap → Prop) : Prop := match f, vs with
  | 39, [(.string a1)] => callP1 (word_Words_c1 a1 h) fun r4 h' => K (.bool r4) h'
  | _, _ => False
def slices_IndexFunc_Lstring_string_word_Words_c1.r0 (K : Nat → List Value → Heap → Prop) (m : Nat) (vs : List Value) (h : Heap) : Prop := match vs with
  | [(.slice c0_1001 c0_1002 c0_1003), (.func (.func 39) ⟨[]⟩ ⟨[]⟩), (.int .i64 c7_1004), (.int .i64 v8_1005)] => slices_IndexFunc_Lstring_string_word_Words_c1.l0 (fun z7 h' => K 0 [(.int .i64 z7)] h') (fun h' => K 2 [] h') m c0_1001 c0_1002 c0_1003 c7_1004 v8_1005 h
  | _ => False
def slices_IndexFunc_Lstring_string_word_Words_c1.loop (i : Nat) (vs : List Value) (h : Heap) (K : Nat → List Value → Heap → Prop) : Prop := match i with
  | 0 => ∃ m, slices_IndexFunc_Lstring_string_word_Words_c1.r0 K m vs h
  | _ => False
noncomputable def slices_IndexFunc_Lstring_string_word_Words_c1.ctx : Ctx := { P := Tryd.prog, call := slices_IndexFunc_Lstring_string_word_Words_c1.call, qcall := fun _ _ _ _ => False, quiet := fun f => Nat.beq f 2000073, loop := slices_IndexFunc_Lstring_string_word_Words_c1.loop }
theorem slices_IndexFunc_Lstring_string_word_Words_c1.ok : slices_IndexFunc_Lstring_string_word_Words_c1.ctx.OK where
  mixed := by kernel_rfl
  mono := by
    intro f args h K K' hh hk
    change slices_IndexFunc_Lstring_string_word_Words_c1.call f args h K at hh
    change slices_IndexFunc_Lstring_string_word_Words_c1.call f args h K'
    unfold slices_IndexFunc_Lstring_string_word_Words_c1.call at hh ⊢
    split at hh
    · obtain ⟨R, h1, h2⟩ := hh
      exact ⟨R, h1, fun _ x hr => hk _ _ (h2 _ x hr)⟩
    · exact hh.elim
  call := by
    intro f args h K hh w hw
    change slices_IndexFunc_Lstring_string_word_Words_c1.call f args h K at hh
    unfold slices_IndexFunc_Lstring_string_word_Words_c1.call at hh
    split at hh
    · obtain ⟨R, h1, h2⟩ := hh
      obtain ⟨g1, g2⟩ := word_Words_c1.calls h1 w hw
      exact ⟨g1, g2.mono fun e w' ⟨v, he, ho, hr⟩ => ⟨v, he, ho, word_Words_c1.ret_elim h2 hr⟩⟩
    · exact hh.elim
  qmono := fun hh _ => hh.elim
  qval := fun hh => hh.elim
  qcall := fun hh => hh.elim
noncomputable def slices_IndexFunc_Lstring_string_word_Words_c1.code : Code := (Tryd.f61.body).getD .skip
def slices_IndexFunc_Lstring_string_word_Words_c1.ann : Ann := (.two .auto (.two (.two .auto (.two (.loop 0 [0, 1, 7, 8] [(2, []), (0, [4])] .auto) .auto)) .auto))
noncomputable def slices_IndexFunc_Lstring_string_word_Words_c1.c0 : Code := sub slices_IndexFunc_Lstring_string_word_Words_c1.code [1, 0, 1, 0, 0]
def slices_IndexFunc_Lstring_string_word_Words_c1.a0 : Ann := .auto
def slices_IndexFunc_Lstring_string_word_Words_c1.keep0 : List Nat := [0, 1, 7, 8]
def slices_IndexFunc_Lstring_string_word_Words_c1.outs0 : List (Nat × List Nat) := [(2, []), (0, [4])]
set_option maxRecDepth 100000 in
theorem slices_IndexFunc_Lstring_string_word_Words_c1.L0 : LoopOK slices_IndexFunc_Lstring_string_word_Words_c1.ctx 19 slices_IndexFunc_Lstring_string_word_Words_c1.c0 0 slices_IndexFunc_Lstring_string_word_Words_c1.keep0 slices_IndexFunc_Lstring_string_word_Words_c1.outs0 := by
  refine loop_ok (n := slices_IndexFunc_Lstring_string_word_Words_c1.a0) slices_IndexFunc_Lstring_string_word_Words_c1.ok (by kernel_rfl) (loops_ok (l := []) (by kernel_rfl) ?_) slices_IndexFunc_Lstring_string_word_Words_c1.r0 ?_ ?_ (fun vs h K hh => hh)
  · exact trivial
  · intro K vs h hh
    unfold slices_IndexFunc_Lstring_string_word_Words_c1.r0 at hh
    split at hh
    · exact hh
    · exact hh
  · intro K m vs h hh
    unfold slices_IndexFunc_Lstring_string_word_Words_c1.r0 at hh
    split at hh
    · exact cast (by kernel_rfl) hh
    · exact hh.elim
set_option maxRecDepth 100000 in
theorem slices_IndexFunc_Lstring_string_word_Words_c1.eq (a1 : Option Addr) (a1l : Nat) (a1c : Nat) (h : Heap) (K : Int → Heap → Prop) : evF slices_IndexFunc_Lstring_string_word_Words_c1.ctx Tryd.f61 slices_IndexFunc_Lstring_string_word_Words_c1.ann [(.slice a1 a1l a1c), (.func (.func 39) #[] #[])] h (slices_IndexFunc_Lstring_string_word_Words_c1.ret K) = slices_IndexFunc_Lstring_string_word_Words_c1 a1 a1l a1c h K := by kernel_rfl
set_option maxRecDepth 100000 in
theorem slices_IndexFunc_Lstring_string_word_Words_c1.calls {a1 : Option Addr} {a1l : Nat} {a1c : Nat} {h : Heap} {K : Int → Heap → Prop} (hh : slices_IndexFunc_Lstring_string_word_Words_c1 a1 a1l a1c h K) (w : World) (hw : w.heap = h) :
    (callFunc 61 #[(.slice a1 a1l a1c), (.func (.func 39) #[] #[])]).run Tryd.prog w = .ok (.enter 61 #[(.slice a1 a1l a1c), (.func (.func 39) #[] #[])]) w ∧ Calls Tryd.prog 61 #[(.slice a1 a1l a1c), (.func (.func 39) #[] #[])] w fun e w' => ∃ v, e = .returned v ∧ Out w w' ∧ slices_IndexFunc_Lstring_string_word_Words_c1.ret K v w'.heap := by
  rw [← slices_IndexFunc_Lstring_string_word_Words_c1.eq] at hh
  exact fn_calls (args := [(.slice a1 a1l a1c), (.func (.func 39) #[] #[])]) (c := slices_IndexFunc_Lstring_string_word_Words_c1.code) slices_IndexFunc_Lstring_string_word_Words_c1.ok Tryd.func61 (by kernel_rfl) (by kernel_rfl) (by kernel_rfl) (by kernel_rfl) (loops_ok (l := [(slices_IndexFunc_Lstring_string_word_Words_c1.c0, none, 0, slices_IndexFunc_Lstring_string_word_Words_c1.keep0, slices_IndexFunc_Lstring_string_word_Words_c1.outs0)]) (by kernel_rfl) ⟨slices_IndexFunc_Lstring_string_word_Words_c1.L0, trivial⟩) hh w hw
end

/-! ### slices.ContainsFunc[[]string,string]: function 41 -/
section
variable [DKc]
def slices_ContainsFunc_Lstring_string_word_Words_c1 (a1 : Option Addr) (a1l : Nat) (a1c : Nat) (h : Heap) (K : Bool → Heap → Prop) : Prop :=
  (callP1 (slices_IndexFunc_Lstring_string_word_Words_c1 a1 a1l a1c h) fun x2 h3 => (K (decide (x2 ≥ (0 : Int))) h3))
def slices_ContainsFunc_Lstring_string_word_Words_c1.ret (K : Bool → Heap → Prop) (v : Value) (h : Heap) : Prop := match v with
  | (.bool r4) => K r4 h
  | _ => False
theorem slices_ContainsFunc_Lstring_string_word_Words_c1.ret_elim {K : Bool → Heap → Prop} {K' : Value → Heap → Prop} {v : Value} {h : Heap} (hk : ∀ r4 h, K r4 h → K' (.bool r4) h) (hh : slices_ContainsFunc_Lstring_string_word_Words_c1.ret K v h) : K' v h := by
  unfold slices_ContainsFunc_Lstring_string_word_Words_c1.ret at hh
  split at hh
  · exact hk _ _ hh
  · exact hh.elim
def slices_ContainsFunc_Lstring_string_word_Words_c1.call (f : FuncId) (vs : List Value) (h : Heap) (K : Value → Heap → Prop) : Prop := match f, vs with
  | 61, [(.slice a1 a1l a1c), (.func (.func 39) ⟨[]⟩ ⟨[]⟩)] => callP1 (slices_IndexFunc_Lstring_string_word_Words_c1 a1 a1l a1c h) fun r6 h' => K (.int .i64 r6) h'
  | _, _ => False
noncomputable def slices_ContainsFunc_Lstring_string_word_Words_c1.ctx : Ctx := { P := Tryd.prog, call := slices_ContainsFunc_Lstring_string_word_Words_c1.call, qcall := fun _ _ _ _ => False, quiet := fun f => Nat.beq f 2000073, loop := fun _ _ _ _ => False }
theorem slices_ContainsFunc_Lstring_string_word_Words_c1.ok : slices_ContainsFunc_Lstring_string_word_Words_c1.ctx.OK where
  mixed := by kernel_rfl
  mono := by
    intro f args h K K' hh hk
    change slices_ContainsFunc_Lstring_string_word_Words_c1.call f args h K at hh
    change slices_ContainsFunc_Lstring_string_word_Words_c1.call f args h K'
    unfold slices_ContainsFunc_Lstring_string_word_Words_c1.call at hh ⊢
    split at hh
    · obtain ⟨R, h1, h2⟩ := hh
      exact ⟨R, h1, fun _ x hr => hk _ _ (h2 _ x hr)⟩
    · exact hh.elim
  call := by
    intro f args h K hh w hw
    change slices_ContainsFunc_Lstring_string_word_Words_c1.call f args h K at hh
    unfold slices_ContainsFunc_Lstring_string_word_Words_c1.call at hh
    split at hh
    · obtain ⟨R, h1, h2⟩ := hh
      obtain ⟨g1, g2⟩ := slices_IndexFunc_Lstring_string_word_Words_c1.calls h1 w hw
      exact ⟨g1, g2.mono fun e w' ⟨v, he, ho, hr⟩ => ⟨v, he, ho, slices_IndexFunc_Lstring_string_word_Words_c1.ret_elim h2 hr⟩⟩
    · exact hh.elim
  qmono := fun hh _ => hh.elim
  qval := fun hh => hh.elim
  qcall := fun hh => hh.elim
noncomputable def slices_ContainsFunc_Lstring_string_word_Words_c1.code : Code := (Tryd.f41.body).getD .skip
def slices_ContainsFunc_Lstring_string_word_Words_c1.ann : Ann := .auto
set_option maxRecDepth 100000 in
theorem slices_ContainsFunc_Lstring_string_word_Words_c1.eq (a1 : Option Addr) (a1l : Nat) (a1c : Nat) (h : Heap) (K : Bool → Heap → Prop) : evF slices_ContainsFunc_Lstring_string_word_Words_c1.ctx Tryd.f41 slices_ContainsFunc_Lstring_string_word_Words_c1.ann [(.slice a1 a1l a1c), (.func (.func 39) #[] #[])] h (slices_ContainsFunc_Lstring_string_word_Words_c1.ret K) = slices_ContainsFunc_Lstring_string_word_Words_c1 a1 a1l a1c h K := by kernel_rfl
set_option maxRecDepth 100000 in
theorem slices_ContainsFunc_Lstring_string_word_Words_c1.calls {a1 : Option Addr} {a1l : Nat} {a1c : Nat} {h : Heap} {K : Bool → Heap → Prop} (hh : slices_ContainsFunc_Lstring_string_word_Words_c1 a1 a1l a1c h K) (w : World) (hw : w.heap = h) :
    (callFunc 41 #[(.slice a1 a1l a1c), (.func (.func 39) #[] #[])]).run Tryd.prog w = .ok (.enter 41 #[(.slice a1 a1l a1c), (.func (.func 39) #[] #[])]) w ∧ Calls Tryd.prog 41 #[(.slice a1 a1l a1c), (.func (.func 39) #[] #[])] w fun e w' => ∃ v, e = .returned v ∧ Out w w' ∧ slices_ContainsFunc_Lstring_string_word_Words_c1.ret K v w'.heap := by
  rw [← slices_ContainsFunc_Lstring_string_word_Words_c1.eq] at hh
  exact fn_calls (args := [(.slice a1 a1l a1c), (.func (.func 39) #[] #[])]) (c := slices_ContainsFunc_Lstring_string_word_Words_c1.code) slices_ContainsFunc_Lstring_string_word_Words_c1.ok Tryd.func41 (by kernel_rfl) (by kernel_rfl) (by kernel_rfl) (by kernel_rfl) (loops_ok (l := []) (by kernel_rfl) trivial) hh w hw
end

/-! ### strait/word.Words: function 11 -/
section
variable [DKc]
def word_Words (a1 : ByteArray) (h : Heap) (K : (Option Addr) → Nat → Nat → Bool → Heap → Prop) : Prop :=
  ((iteB (a1.toList == (⟨#[]⟩ : ByteArray).toList) (K none 0 0 true h) ((callP3 (strings_Split a1 (⟨#[32]⟩ : ByteArray) h) fun x2 x2l x2c h3 => ((callP1 (slices_ContainsFunc_Lstring_string_word_Words_c1 x2 x2l x2c h3) fun x4 h5 => (iteB x4 (K none 0 0 false h5) (K x2 x2l x2c true h5))))))))
def word_Words.ret (K : (Option Addr) → Nat → Nat → Bool → Heap → Prop) (v : Value) (h : Heap) : Prop := match v with
  | (.tuple ⟨[(.slice r6 r6l r6c), (.bool r7)]⟩) => K r6 r6l r6c r7 h
  | _ => False
theorem word_Words.ret_elim {K : (Option Addr) → Nat → Nat → Bool → Heap → Prop} {K' : Value → Heap → Prop} {v : Value} {h : Heap} (hk : ∀ r6 r6l r6c r7 h, K r6 r6l r6c r7 h → K' (.tuple #[(.slice r6 r6l r6c), (.bool r7)]) h) (hh : word_Words.ret K v h) : K' v h := by
  unfold word_Words.ret at hh
  split at hh
  · exact hk _ _ _ _ _ hh
  · exact hh.elim
def word_Words.call (f : FuncId) (vs : List Value) (h : Heap) (K : Value → Heap → Prop) : Prop := match f, vs with
  | 38, [(.string a1), (.string a2)] => callP3 (strings_Split a1 a2 h) fun r3 r3l r3c h' => K (.slice r3 r3l r3c) h'
  | 41, [(.slice a1 a1l a1c), (.func (.func 39) ⟨[]⟩ ⟨[]⟩)] => callP1 (slices_ContainsFunc_Lstring_string_word_Words_c1 a1 a1l a1c h) fun r4 h' => K (.bool r4) h'
  | _, _ => False
noncomputable def word_Words.ctx : Ctx := { P := Tryd.prog, call := word_Words.call, qcall := fun _ _ _ _ => False, quiet := fun f => Nat.beq f 2000073, loop := fun _ _ _ _ => False }
theorem word_Words.ok : word_Words.ctx.OK where
  mixed := by kernel_rfl
  mono := by
    intro f args h K K' hh hk
    change word_Words.call f args h K at hh
    change word_Words.call f args h K'
    unfold word_Words.call at hh ⊢
    split at hh
    · obtain ⟨R, h1, h2⟩ := hh
      exact ⟨R, h1, fun _ _ _ x hr => hk _ _ (h2 _ _ _ x hr)⟩
    · obtain ⟨R, h1, h2⟩ := hh
      exact ⟨R, h1, fun _ x hr => hk _ _ (h2 _ x hr)⟩
    · exact hh.elim
  call := by
    intro f args h K hh w hw
    change word_Words.call f args h K at hh
    unfold word_Words.call at hh
    split at hh
    · obtain ⟨R, h1, h2⟩ := hh
      obtain ⟨g1, g2⟩ := strings_Split.calls h1 w hw
      exact ⟨g1, g2.mono fun e w' ⟨v, he, ho, hr⟩ => ⟨v, he, ho, strings_Split.ret_elim h2 hr⟩⟩
    · obtain ⟨R, h1, h2⟩ := hh
      obtain ⟨g1, g2⟩ := slices_ContainsFunc_Lstring_string_word_Words_c1.calls h1 w hw
      exact ⟨g1, g2.mono fun e w' ⟨v, he, ho, hr⟩ => ⟨v, he, ho, slices_ContainsFunc_Lstring_string_word_Words_c1.ret_elim h2 hr⟩⟩
    · exact hh.elim
  qmono := fun hh _ => hh.elim
  qval := fun hh => hh.elim
  qcall := fun hh => hh.elim
noncomputable def word_Words.code : Code := (Tryd.f11.body).getD .skip
def word_Words.ann : Ann := .auto
set_option maxRecDepth 100000 in
theorem word_Words.eq (a1 : ByteArray) (h : Heap) (K : (Option Addr) → Nat → Nat → Bool → Heap → Prop) : evF word_Words.ctx Tryd.f11 word_Words.ann [(.string a1)] h (word_Words.ret K) = word_Words a1 h K := by kernel_rfl
set_option maxRecDepth 100000 in
theorem word_Words.calls {a1 : ByteArray} {h : Heap} {K : (Option Addr) → Nat → Nat → Bool → Heap → Prop} (hh : word_Words a1 h K) (w : World) (hw : w.heap = h) :
    (callFunc 11 #[(.string a1)]).run Tryd.prog w = .ok (.enter 11 #[(.string a1)]) w ∧ Calls Tryd.prog 11 #[(.string a1)] w fun e w' => ∃ v, e = .returned v ∧ Out w w' ∧ word_Words.ret K v w'.heap := by
  rw [← word_Words.eq] at hh
  exact fn_calls (args := [(.string a1)]) (c := word_Words.code) word_Words.ok Tryd.func11 (by kernel_rfl) (by kernel_rfl) (by kernel_rfl) (by kernel_rfl) (loops_ok (l := []) (by kernel_rfl) trivial) hh w hw
end

/-! ### strings.IndexFunc: function 43, by its contract -/
def strings_IndexFunc_word_Plain_c1.ret (K : Int → Heap → Prop) (v : Value) (h : Heap) : Prop := match v with
  | (.int .i64 r2) => K r2 h
  | _ => False
theorem strings_IndexFunc_word_Plain_c1.ret_elim {K : Int → Heap → Prop} {K' : Value → Heap → Prop} {v : Value} {h : Heap} (hk : ∀ r2 h, K r2 h → K' (.int .i64 r2) h) (hh : strings_IndexFunc_word_Plain_c1.ret K v h) : K' v h := by
  unfold strings_IndexFunc_word_Plain_c1.ret at hh
  split at hh
  · exact hk _ _ hh
  · exact hh.elim
def strings_IndexFunc_word_Plain_c1 [DKc] (a1 : ByteArray) (h : Heap) (K : Int → Heap → Prop) : Prop := ∀ w : World, w.heap = h → (callFunc 43 #[(.string a1), (.func (.func 44) #[] #[])]).run Tryd.prog w = .ok (.enter 43 #[(.string a1), (.func (.func 44) #[] #[])]) w ∧ Calls Tryd.prog 43 #[(.string a1), (.func (.func 44) #[] #[])] w fun e w' => ∃ v, e = .returned v ∧ Out w w' ∧ strings_IndexFunc_word_Plain_c1.ret K v w'.heap
theorem strings_IndexFunc_word_Plain_c1.calls [DKc] {a1 : ByteArray} {h : Heap} {K : Int → Heap → Prop} (hh : strings_IndexFunc_word_Plain_c1 a1 h K) (w : World) (hw : w.heap = h) : (callFunc 43 #[(.string a1), (.func (.func 44) #[] #[])]).run Tryd.prog w = .ok (.enter 43 #[(.string a1), (.func (.func 44) #[] #[])]) w ∧ Calls Tryd.prog 43 #[(.string a1), (.func (.func 44) #[] #[])] w fun e w' => ∃ v, e = .returned v ∧ Out w w' ∧ strings_IndexFunc_word_Plain_c1.ret K v w'.heap := hh w hw

/-! ### strait/word.Plain: function 15 -/
section
variable [DKc]
def word_Plain (a1 : ByteArray) (h : Heap) (K : Bool → Heap → Prop) : Prop :=
  (callP1 (strings_IndexFunc_word_Plain_c1 a1 h) fun x2 h3 => (K (decide (x2 < (0 : Int))) h3))
def word_Plain.ret (K : Bool → Heap → Prop) (v : Value) (h : Heap) : Prop := match v with
  | (.bool r4) => K r4 h
  | _ => False
theorem word_Plain.ret_elim {K : Bool → Heap → Prop} {K' : Value → Heap → Prop} {v : Value} {h : Heap} (hk : ∀ r4 h, K r4 h → K' (.bool r4) h) (hh : word_Plain.ret K v h) : K' v h := by
  unfold word_Plain.ret at hh
  split at hh
  · exact hk _ _ hh
  · exact hh.elim
def word_Plain.call (f : FuncId) (vs : List Value) (h : Heap) (K : Value → Heap → Prop) : Prop := match f, vs with
  | 43, [(.string a1), (.func (.func 44) ⟨[]⟩ ⟨[]⟩)] => callP1 (strings_IndexFunc_word_Plain_c1 a1 h) fun r2 h' => K (.int .i64 r2) h'
  | _, _ => False
noncomputable def word_Plain.ctx : Ctx := { P := Tryd.prog, call := word_Plain.call, qcall := fun _ _ _ _ => False, quiet := fun f => Nat.beq f 2000073, loop := fun _ _ _ _ => False }
theorem word_Plain.ok : word_Plain.ctx.OK where
  mixed := by kernel_rfl
  mono := by
    intro f args h K K' hh hk
    change word_Plain.call f args h K at hh
    change word_Plain.call f args h K'
    unfold word_Plain.call at hh ⊢
    split at hh
    · obtain ⟨R, h1, h2⟩ := hh
      exact ⟨R, h1, fun _ x hr => hk _ _ (h2 _ x hr)⟩
    · exact hh.elim
  call := by
    intro f args h K hh w hw
    change word_Plain.call f args h K at hh
    unfold word_Plain.call at hh
    split at hh
    · obtain ⟨R, h1, h2⟩ := hh
      obtain ⟨g1, g2⟩ := strings_IndexFunc_word_Plain_c1.calls h1 w hw
      exact ⟨g1, g2.mono fun e w' ⟨v, he, ho, hr⟩ => ⟨v, he, ho, strings_IndexFunc_word_Plain_c1.ret_elim h2 hr⟩⟩
    · exact hh.elim
  qmono := fun hh _ => hh.elim
  qval := fun hh => hh.elim
  qcall := fun hh => hh.elim
noncomputable def word_Plain.code : Code := (Tryd.f15.body).getD .skip
def word_Plain.ann : Ann := .auto
set_option maxRecDepth 100000 in
theorem word_Plain.eq (a1 : ByteArray) (h : Heap) (K : Bool → Heap → Prop) : evF word_Plain.ctx Tryd.f15 word_Plain.ann [(.string a1)] h (word_Plain.ret K) = word_Plain a1 h K := by kernel_rfl
set_option maxRecDepth 100000 in
theorem word_Plain.calls {a1 : ByteArray} {h : Heap} {K : Bool → Heap → Prop} (hh : word_Plain a1 h K) (w : World) (hw : w.heap = h) :
    (callFunc 15 #[(.string a1)]).run Tryd.prog w = .ok (.enter 15 #[(.string a1)]) w ∧ Calls Tryd.prog 15 #[(.string a1)] w fun e w' => ∃ v, e = .returned v ∧ Out w w' ∧ word_Plain.ret K v w'.heap := by
  rw [← word_Plain.eq] at hh
  exact fn_calls (args := [(.string a1)]) (c := word_Plain.code) word_Plain.ok Tryd.func15 (by kernel_rfl) (by kernel_rfl) (by kernel_rfl) (by kernel_rfl) (loops_ok (l := []) (by kernel_rfl) trivial) hh w hw
end

/-! ### slices.Index[[]string,string]: function 45 -/
def slices_Index_Lstring_string.b0 (K0 : Int → Heap → Prop) (K2 : Heap → Prop) (cont : (Option Addr) → Nat → Nat → ByteArray → Int → Int → Heap → Prop) (c0_1001 : Option Addr) (c0_1002 : Nat) (c0_1003 : Nat) (c1_1004 : ByteArray) (c7_1005 : Int) (v8_1006 : Int) (h1007 : Heap) : Prop :=
  (iteB (decide (v8_1006 < c7_1005)) (((chkP c0_1001 fun a1008 => (0 ≤ v8_1006 ∧ v8_1006 < (c0_1002 : Int)) ∧ ∃ (x1009 : ByteArray), cell h1007 (a1008.add (v8_1006.toNat * 1)) = some (.string x1009) ∧ (iteB (c1_1004.toList == x1009.toList) (K0 v8_1006 h1007) (((cont c0_1001 c0_1002 c0_1003 c1_1004 c7_1005 (IntKind.i64.wrap (v8_1006 + 1)) h1007))))))) (K2 h1007))
def slices_Index_Lstring_string.l0 (K0 : Int → Heap → Prop) (K2 : Heap → Prop) : Nat → (Option Addr) → Nat → Nat → ByteArray → Int → Int → Heap → Prop
  | 0, _, _, _, _, _, _, _ => False
  | m + 1, c0_1001, c0_1002, c0_1003, c1_1004, c7_1005, v8_1006, h => slices_Index_Lstring_string.b0 K0 K2 (slices_Index_Lstring_string.l0 K0 K2 m) c0_1001 c0_1002 c0_1003 c1_1004 c7_1005 v8_1006 h
def slices_Index_Lstring_string (a1 : Option Addr) (a1l : Nat) (a1c : Nat) (a2 : ByteArray) (h : Heap) (K : Int → Heap → Prop) : Prop :=
  ((∃ m6, slices_Index_Lstring_string.l0 (fun z3 h4 => K z3 h4) (fun h5 => (((K (-1) h5)))) m6 a1 a1l a1c a2 (a1l : Int) 0 h))
def slices_Index_Lstring_string.ret (K : Int → Heap → Prop) (v : Value) (h : Heap) : Prop := match v with
  | (.int .i64 r7) => K r7 h
  | _ => False
theorem slices_Index_Lstring_string.ret_elim {K : Int → Heap → Prop} {K' : Value → Heap → Prop} {v : Value} {h : Heap} (hk : ∀ r7 h, K r7 h → K' (.int .i64 r7) h) (hh : slices_Index_Lstring_string.ret K v h) : K' v h := by
  unfold slices_Index_Lstring_string.ret at hh
  split at hh
  · exact hk _ _ hh
  · exact hh.elim
def slices_Index_Lstring_string.r0 (K : Nat → List Value → Heap → Prop) (m : Nat) (vs : List Value) (h : Heap) : Prop := match vs with
  | [(.slice c0_1001 c0_1002 c0_1003), (.string c1_1004), (.int .i64 c7_1005), (.int .i64 v8_1006)] => slices_Index_Lstring_string.l0 (fun z8 h' => K 0 [(.int .i64 z8)] h') (fun h' => K 2 [] h') m c0_1001 c0_1002 c0_1003 c1_1004 c7_1005 v8_1006 h
  | _ => False
def slices_Index_Lstring_string.loop (i : Nat) (vs : List Value) (h : Heap) (K : Nat → List Value → Heap → Prop) : Prop := match i with
  | 0 => ∃ m, slices_Index_Lstring_string.r0 K m vs h
  | _ => False
noncomputable def slices_Index_Lstring_string.ctx : Ctx := { P := Tryd.prog, call := fun _ _ _ _ => False, qcall := fun _ _ _ _ => False, quiet := fun f => Nat.beq f 2000073, loop := slices_Index_Lstring_string.loop }
theorem slices_Index_Lstring_string.ok [DKc] : slices_Index_Lstring_string.ctx.OK where
  mixed := by kernel_rfl
  mono := fun hh _ => hh.elim
  call := fun hh => hh.elim
  qmono := fun hh _ => hh.elim
  qval := fun hh => hh.elim
  qcall := fun hh => hh.elim
noncomputable def slices_Index_Lstring_string.code : Code := (Tryd.f45.body).getD .skip
def slices_Index_Lstring_string.ann : Ann := (.two .auto (.two (.two .auto (.two (.loop 0 [0, 1, 7, 8] [(2, []), (0, [4])] .auto) .auto)) .auto))
noncomputable def slices_Index_Lstring_string.c0 : Code := sub slices_Index_Lstring_string.code [1, 0, 1, 0, 0]
def slices_Index_Lstring_string.a0 : Ann := .auto
def slices_Index_Lstring_string.keep0 : List Nat := [0, 1, 7, 8]
def slices_Index_Lstring_string.outs0 : List (Nat × List Nat) := [(2, []), (0, [4])]
set_option maxRecDepth 100000 in
theorem slices_Index_Lstring_string.L0 [DKc] : LoopOK slices_Index_Lstring_string.ctx 19 slices_Index_Lstring_string.c0 0 slices_Index_Lstring_string.keep0 slices_Index_Lstring_string.outs0 := by
  refine loop_ok (n := slices_Index_Lstring_string.a0) slices_Index_Lstring_string.ok (by kernel_rfl) (loops_ok (l := []) (by kernel_rfl) ?_) slices_Index_Lstring_string.r0 ?_ ?_ (fun vs h K hh => hh)
  · exact trivial
  · intro K vs h hh
    unfold slices_Index_Lstring_string.r0 at hh
    split at hh
    · exact hh
    · exact hh
  · intro K m vs h hh
    unfold slices_Index_Lstring_string.r0 at hh
    split at hh
    · exact cast (by kernel_rfl) hh
    · exact hh.elim
set_option maxRecDepth 100000 in
theorem slices_Index_Lstring_string.eq (a1 : Option Addr) (a1l : Nat) (a1c : Nat) (a2 : ByteArray) (h : Heap) (K : Int → Heap → Prop) : evF slices_Index_Lstring_string.ctx Tryd.f45 slices_Index_Lstring_string.ann [(.slice a1 a1l a1c), (.string a2)] h (slices_Index_Lstring_string.ret K) = slices_Index_Lstring_string a1 a1l a1c a2 h K := by kernel_rfl
set_option maxRecDepth 100000 in
theorem slices_Index_Lstring_string.calls [DKc] {a1 : Option Addr} {a1l : Nat} {a1c : Nat} {a2 : ByteArray} {h : Heap} {K : Int → Heap → Prop} (hh : slices_Index_Lstring_string a1 a1l a1c a2 h K) (w : World) (hw : w.heap = h) :
    (callFunc 45 #[(.slice a1 a1l a1c), (.string a2)]).run Tryd.prog w = .ok (.enter 45 #[(.slice a1 a1l a1c), (.string a2)]) w ∧ Calls Tryd.prog 45 #[(.slice a1 a1l a1c), (.string a2)] w fun e w' => ∃ v, e = .returned v ∧ Out w w' ∧ slices_Index_Lstring_string.ret K v w'.heap := by
  rw [← slices_Index_Lstring_string.eq] at hh
  exact fn_calls (args := [(.slice a1 a1l a1c), (.string a2)]) (c := slices_Index_Lstring_string.code) slices_Index_Lstring_string.ok Tryd.func45 (by kernel_rfl) (by kernel_rfl) (by kernel_rfl) (by kernel_rfl) (loops_ok (l := [(slices_Index_Lstring_string.c0, none, 0, slices_Index_Lstring_string.keep0, slices_Index_Lstring_string.outs0)]) (by kernel_rfl) ⟨slices_Index_Lstring_string.L0, trivial⟩) hh w hw

/-! ### strait/word.Key: function 17 -/
def word_Key (a1 : ByteArray) (a2 : Option Addr) (a2l : Nat) (a2c : Nat) (h : Heap) (K : Int → Heap → Prop) : Prop :=
  (qcallP1 h (slices_Index_Lstring_string a2 a2l a2c a1 h) fun x3 => K x3 h)
def word_Key.ret (K : Int → Heap → Prop) (v : Value) (h : Heap) : Prop := match v with
  | (.int .i64 r4) => K r4 h
  | _ => False
theorem word_Key.ret_elim {K : Int → Heap → Prop} {K' : Value → Heap → Prop} {v : Value} {h : Heap} (hk : ∀ r4 h, K r4 h → K' (.int .i64 r4) h) (hh : word_Key.ret K v h) : K' v h := by
  unfold word_Key.ret at hh
  split at hh
  · exact hk _ _ hh
  · exact hh.elim
def word_Key.qcall (f : FuncId) (vs : List Value) (h : Heap) (K : Value → Prop) : Prop := match f, vs with
  | 45, [(.slice a1 a1l a1c), (.string a2)] => qcallP1 h (slices_Index_Lstring_string a1 a1l a1c a2 h) fun r7 => K (.int .i64 r7)
  | _, _ => False
noncomputable def word_Key.ctx : Ctx := { P := Tryd.prog, call := fun _ _ _ _ => False, qcall := word_Key.qcall, quiet := fun f => Nat.beq f 45 || Nat.beq f 2000073, loop := fun _ _ _ _ => False }
theorem word_Key.ok [DKc] : word_Key.ctx.OK where
  mixed := by kernel_rfl
  mono := fun hh _ => hh.elim
  call := fun hh => hh.elim
  qmono := by
    intro f args h K K' hh hk
    change word_Key.qcall f args h K at hh
    change word_Key.qcall f args h K'
    unfold word_Key.qcall at hh ⊢
    split at hh
    · obtain ⟨x0, h1, h2⟩ := hh
      exact ⟨x0, h1, hk _ h2⟩
    · exact hh.elim
  qval := by
    intro f args h K hh
    change word_Key.qcall f args h K at hh
    suffices H : ∃ v, K v ∧ word_Key.qcall f args h (· = v) from H
    unfold word_Key.qcall at hh ⊢
    split at hh
    · obtain ⟨x0, h1, h2⟩ := hh
      exact ⟨_, h2, x0, h1, rfl⟩
    · exact hh.elim
  qcall := by
    intro f args h v hh w hw
    change word_Key.qcall f args h (· = v) at hh
    unfold word_Key.qcall at hh
    split at hh
    · obtain ⟨x0, h1, h2⟩ := hh
      obtain ⟨g1, g2⟩ := slices_Index_Lstring_string.calls h1 w hw
      refine .inl ⟨g1, g2.mono fun e w' ⟨u, he, ho, hr⟩ => ?_⟩
      have hq := slices_Index_Lstring_string.ret_elim (K' := fun u h' => u = v ∧ h' = h) (fun _ h' hr => by obtain ⟨rfl, rfl⟩ := hr; exact ⟨h2, rfl⟩) hr
      exact ⟨hq.1 ▸ he, ho, hq.2⟩
    · exact hh.elim
noncomputable def word_Key.code : Code := (Tryd.f17.body).getD .skip
def word_Key.ann : Ann := .auto
set_option maxRecDepth 100000 in
theorem word_Key.eq (a1 : ByteArray) (a2 : Option Addr) (a2l : Nat) (a2c : Nat) (h : Heap) (K : Int → Heap → Prop) : evF word_Key.ctx Tryd.f17 word_Key.ann [(.string a1), (.slice a2 a2l a2c)] h (word_Key.ret K) = word_Key a1 a2 a2l a2c h K := by kernel_rfl
set_option maxRecDepth 100000 in
theorem word_Key.calls [DKc] {a1 : ByteArray} {a2 : Option Addr} {a2l : Nat} {a2c : Nat} {h : Heap} {K : Int → Heap → Prop} (hh : word_Key a1 a2 a2l a2c h K) (w : World) (hw : w.heap = h) :
    (callFunc 17 #[(.string a1), (.slice a2 a2l a2c)]).run Tryd.prog w = .ok (.enter 17 #[(.string a1), (.slice a2 a2l a2c)]) w ∧ Calls Tryd.prog 17 #[(.string a1), (.slice a2 a2l a2c)] w fun e w' => ∃ v, e = .returned v ∧ Out w w' ∧ word_Key.ret K v w'.heap := by
  rw [← word_Key.eq] at hh
  exact fn_calls (args := [(.string a1), (.slice a2 a2l a2c)]) (c := word_Key.code) word_Key.ok Tryd.func17 (by kernel_rfl) (by kernel_rfl) (by kernel_rfl) (by kernel_rfl) (loops_ok (l := []) (by kernel_rfl) trivial) hh w hw

/-! ### strait/straitlaw07.awake: function 9 -/
section
variable [DKc]
def straitlaw07_awake (h : Heap) (K : Bool → Heap → Prop) : Prop :=
  (callP4 (word_Lines (⟨#[97, 32, 98, 10, 10]⟩ : ByteArray) h) fun x1 x1l x1c x2 h3 => (callP4 (word_Words (⟨#[97, 32, 98]⟩ : ByteArray) h3) fun x4 x4l x4c x5 h6 => (callP4 (word_Words (⟨#[97, 32, 32, 98]⟩ : ByteArray) h6) fun x7 x7l x7c x8 h9 => (iteB x2 (iteB x5 (iteB (!x8) (iteB ((x1l : Int) == (2 : Int)) (iteB ((x4l : Int) == (2 : Int)) (callP1 (word_Plain (⟨#[97, 126]⟩ : ByteArray) h9) fun x10 h11 => iteB x10 (qcallP1 h11 (word_Key (⟨#[98]⟩ : ByteArray) x4 x4l x4c h11) fun x12 => (K (x12 == (1 : Int)) h11)) (K false h11)) (K false h9)) (K false h9)) (K false h9)) (K false h9)) (K false h9)))))
def straitlaw07_awake.ret (K : Bool → Heap → Prop) (v : Value) (h : Heap) : Prop := match v with
  | (.bool r15) => K r15 h
  | _ => False
theorem straitlaw07_awake.ret_elim {K : Bool → Heap → Prop} {K' : Value → Heap → Prop} {v : Value} {h : Heap} (hk : ∀ r15 h, K r15 h → K' (.bool r15) h) (hh : straitlaw07_awake.ret K v h) : K' v h := by
  unfold straitlaw07_awake.ret at hh
  split at hh
  · exact hk _ _ hh
  · exact hh.elim
def straitlaw07_awake.call (f : FuncId) (vs : List Value) (h : Heap) (K : Value → Heap → Prop) : Prop := match f, vs with
  | 10, [(.string a1)] => callP4 (word_Lines a1 h) fun r10 r10l r10c r11 h' => K (.tuple #[(.slice r10 r10l r10c), (.bool r11)]) h'
  | 11, [(.string a1)] => callP4 (word_Words a1 h) fun r6 r6l r6c r7 h' => K (.tuple #[(.slice r6 r6l r6c), (.bool r7)]) h'
  | 15, [(.string a1)] => callP1 (word_Plain a1 h) fun r4 h' => K (.bool r4) h'
  | _, _ => False
def straitlaw07_awake.qcall (f : FuncId) (vs : List Value) (h : Heap) (K : Value → Prop) : Prop := match f, vs with
  | 17, [(.string a1), (.slice a2 a2l a2c)] => qcallP1 h (word_Key a1 a2 a2l a2c h) fun r4 => K (.int .i64 r4)
  | _, _ => False
noncomputable def straitlaw07_awake.ctx : Ctx := { P := Tryd.prog, call := straitlaw07_awake.call, qcall := straitlaw07_awake.qcall, quiet := fun f => Nat.beq f 17 || Nat.beq f 2000073, loop := fun _ _ _ _ => False }
theorem straitlaw07_awake.ok : straitlaw07_awake.ctx.OK where
  mixed := by kernel_rfl
  mono := by
    intro f args h K K' hh hk
    change straitlaw07_awake.call f args h K at hh
    change straitlaw07_awake.call f args h K'
    unfold straitlaw07_awake.call at hh ⊢
    split at hh
    · obtain ⟨R, h1, h2⟩ := hh
      exact ⟨R, h1, fun _ _ _ _ x hr => hk _ _ (h2 _ _ _ _ x hr)⟩
    · obtain ⟨R, h1, h2⟩ := hh
      exact ⟨R, h1, fun _ _ _ _ x hr => hk _ _ (h2 _ _ _ _ x hr)⟩
    · obtain ⟨R, h1, h2⟩ := hh
      exact ⟨R, h1, fun _ x hr => hk _ _ (h2 _ x hr)⟩
    · exact hh.elim
  call := by
    intro f args h K hh w hw
    change straitlaw07_awake.call f args h K at hh
    unfold straitlaw07_awake.call at hh
    split at hh
    · obtain ⟨R, h1, h2⟩ := hh
      obtain ⟨g1, g2⟩ := word_Lines.calls h1 w hw
      exact ⟨g1, g2.mono fun e w' ⟨v, he, ho, hr⟩ => ⟨v, he, ho, word_Lines.ret_elim h2 hr⟩⟩
    · obtain ⟨R, h1, h2⟩ := hh
      obtain ⟨g1, g2⟩ := word_Words.calls h1 w hw
      exact ⟨g1, g2.mono fun e w' ⟨v, he, ho, hr⟩ => ⟨v, he, ho, word_Words.ret_elim h2 hr⟩⟩
    · obtain ⟨R, h1, h2⟩ := hh
      obtain ⟨g1, g2⟩ := word_Plain.calls h1 w hw
      exact ⟨g1, g2.mono fun e w' ⟨v, he, ho, hr⟩ => ⟨v, he, ho, word_Plain.ret_elim h2 hr⟩⟩
    · exact hh.elim
  qmono := by
    intro f args h K K' hh hk
    change straitlaw07_awake.qcall f args h K at hh
    change straitlaw07_awake.qcall f args h K'
    unfold straitlaw07_awake.qcall at hh ⊢
    split at hh
    · obtain ⟨x0, h1, h2⟩ := hh
      exact ⟨x0, h1, hk _ h2⟩
    · exact hh.elim
  qval := by
    intro f args h K hh
    change straitlaw07_awake.qcall f args h K at hh
    suffices H : ∃ v, K v ∧ straitlaw07_awake.qcall f args h (· = v) from H
    unfold straitlaw07_awake.qcall at hh ⊢
    split at hh
    · obtain ⟨x0, h1, h2⟩ := hh
      exact ⟨_, h2, x0, h1, rfl⟩
    · exact hh.elim
  qcall := by
    intro f args h v hh w hw
    change straitlaw07_awake.qcall f args h (· = v) at hh
    unfold straitlaw07_awake.qcall at hh
    split at hh
    · obtain ⟨x0, h1, h2⟩ := hh
      obtain ⟨g1, g2⟩ := word_Key.calls h1 w hw
      refine .inl ⟨g1, g2.mono fun e w' ⟨u, he, ho, hr⟩ => ?_⟩
      have hq := word_Key.ret_elim (K' := fun u h' => u = v ∧ h' = h) (fun _ h' hr => by obtain ⟨rfl, rfl⟩ := hr; exact ⟨h2, rfl⟩) hr
      exact ⟨hq.1 ▸ he, ho, hq.2⟩
    · exact hh.elim
noncomputable def straitlaw07_awake.code : Code := (Tryd.f9.body).getD .skip
def straitlaw07_awake.ann : Ann := .auto
set_option maxRecDepth 100000 in
theorem straitlaw07_awake.eq (h : Heap) (K : Bool → Heap → Prop) : evF straitlaw07_awake.ctx Tryd.f9 straitlaw07_awake.ann [] h (straitlaw07_awake.ret K) = straitlaw07_awake h K := by kernel_rfl
set_option maxRecDepth 100000 in
theorem straitlaw07_awake.calls {h : Heap} {K : Bool → Heap → Prop} (hh : straitlaw07_awake h K) (w : World) (hw : w.heap = h) :
    (callFunc 9 #[]).run Tryd.prog w = .ok (.enter 9 #[]) w ∧ Calls Tryd.prog 9 #[] w fun e w' => ∃ v, e = .returned v ∧ Out w w' ∧ straitlaw07_awake.ret K v w'.heap := by
  rw [← straitlaw07_awake.eq] at hh
  exact fn_calls (args := []) (c := straitlaw07_awake.code) straitlaw07_awake.ok Tryd.func9 (by kernel_rfl) (by kernel_rfl) (by kernel_rfl) (by kernel_rfl) (loops_ok (l := []) (by kernel_rfl) trivial) hh w hw
end

/-! ### strait/straitref07.Lines: function 13 -/
def straitref07_Lines.b0 (K2 : (Option Addr) → Nat → Nat → Int → Heap → Prop) (cont : ByteArray → Addr → (Option Addr) → Nat → Nat → Int → Int → Heap → Prop) (c0_1001 : ByteArray) (c2_1002 : Addr) (v3_1003 : Option Addr) (v3_1003l : Nat) (v3_1003c : Nat) (v4_1004 : Int) (v5_1005 : Int) (h1006 : Heap) : Prop :=
  (iteB (decide (v5_1005 < (c0_1001.size : Int))) ((0 ≤ v5_1005 ∧ ∃ b1007 : UInt8, c0_1001[v5_1005.toNat]? = some b1007 ∧ (iteB ((b1007.toNat : Int) == (10 : Int)) ((0 ≤ v5_1005 ∧ v5_1005 ≤ (c0_1001.size : Int)) ∧ (0 ≤ v4_1004 ∧ v4_1004 ≤ (v5_1005.toNat : Int)) ∧ newP h1006 (.cells #[(.string (c0_1001.extract v4_1004.toNat v5_1005.toNat))] 9) fun a1008 h1009 => ∃ n1014, cellsAt h1009 (some a1008) (1 * 1) n1014 ∧ appP 9 1 16 [(.string (⟨#[]⟩ : ByteArray))] v3_1003 v3_1003l v3_1003c 1 n1014 h1009 fun q1010 l1011 c1012 h1013 => (((cont c0_1001 c2_1002 q1010 l1011 c1012 (IntKind.i64.wrap (v5_1005 + 1)) (IntKind.i64.wrap (v5_1005 + 1)) h1013)))) (((cont c0_1001 c2_1002 v3_1003 v3_1003l v3_1003c v4_1004 (IntKind.i64.wrap (v5_1005 + 1)) h1006)))))) (K2 v3_1003 v3_1003l v3_1003c v4_1004 h1006))
def straitref07_Lines.l0 (K2 : (Option Addr) → Nat → Nat → Int → Heap → Prop) : Nat → ByteArray → Addr → (Option Addr) → Nat → Nat → Int → Int → Heap → Prop
  | 0, _, _, _, _, _, _, _, _ => False
  | m + 1, c0_1001, c2_1002, v3_1003, v3_1003l, v3_1003c, v4_1004, v5_1005, h => straitref07_Lines.b0 K2 (straitref07_Lines.l0 K2 m) c0_1001 c2_1002 v3_1003 v3_1003l v3_1003c v4_1004 v5_1005 h
def straitref07_Lines (a1 : ByteArray) (h : Heap) (K : (Option Addr) → Nat → Nat → Bool → Heap → Prop) : Prop :=
  newP h (.cells #[(.slice none 0 0), (.bool false)] 28) fun a2 h3 => ((((∃ m7, straitref07_Lines.l0 (fun z4 z4l z4c z5 h6 => (((iteB (decide (z5 < (a1.size : Int))) (stC h6 a2 (.slice none 0 0) fun h8 => stC h8 (a2.add 1) (.bool false) fun h9 => (∃ (x10 : Option Addr) (x10l : Nat) (x10c : Nat), cell h9 a2 = some (.slice x10 x10l x10c) ∧ ∃ (x11 : Bool), cell h9 (a2.add 1) = some (.bool x11) ∧ K x10 x10l x10c x11 h9)) ((stC h6 a2 (.slice z4 z4l z4c) fun h12 => stC h12 (a2.add 1) (.bool true) fun h13 => (∃ (x14 : Option Addr) (x14l : Nat) (x14c : Nat), cell h13 a2 = some (.slice x14 x14l x14c) ∧ ∃ (x15 : Bool), cell h13 (a2.add 1) = some (.bool x15) ∧ K x14 x14l x14c x15 h13))))))) m7 a1 a2 none 0 0 0 0 h3))))
def straitref07_Lines.ret (K : (Option Addr) → Nat → Nat → Bool → Heap → Prop) (v : Value) (h : Heap) : Prop := match v with
  | (.agg ⟨[(.slice r16 r16l r16c), (.bool r17)]⟩) => K r16 r16l r16c r17 h
  | _ => False
theorem straitref07_Lines.ret_elim {K : (Option Addr) → Nat → Nat → Bool → Heap → Prop} {K' : Value → Heap → Prop} {v : Value} {h : Heap} (hk : ∀ r16 r16l r16c r17 h, K r16 r16l r16c r17 h → K' (.agg #[(.slice r16 r16l r16c), (.bool r17)]) h) (hh : straitref07_Lines.ret K v h) : K' v h := by
  unfold straitref07_Lines.ret at hh
  split at hh
  · exact hk _ _ _ _ _ hh
  · exact hh.elim
def straitref07_Lines.r0 (K : Nat → List Value → Heap → Prop) (m : Nat) (vs : List Value) (h : Heap) : Prop := match vs with
  | [(.string c0_1001), (.pointer (some c2_1002)), (.slice v3_1003 v3_1003l v3_1003c), (.int .i64 v4_1004), (.int .i64 v5_1005)] => straitref07_Lines.l0 (fun z18 z18l z18c z19 h' => K 2 [(.string c0_1001), (.pointer (some c2_1002)), (.slice z18 z18l z18c), (.int .i64 z19)] h') m c0_1001 c2_1002 v3_1003 v3_1003l v3_1003c v4_1004 v5_1005 h
  | _ => False
def straitref07_Lines.loop (i : Nat) (vs : List Value) (h : Heap) (K : Nat → List Value → Heap → Prop) : Prop := match i with
  | 0 => ∃ m, straitref07_Lines.r0 K m vs h
  | _ => False
noncomputable def straitref07_Lines.ctx : Ctx := { P := Tryd.prog, call := fun _ _ _ _ => False, qcall := fun _ _ _ _ => False, quiet := fun f => Nat.beq f 2000073, loop := straitref07_Lines.loop }
theorem straitref07_Lines.ok [DKc] : straitref07_Lines.ctx.OK where
  mixed := by kernel_rfl
  mono := fun hh _ => hh.elim
  call := fun hh => hh.elim
  qmono := fun hh _ => hh.elim
  qval := fun hh => hh.elim
  qcall := fun hh => hh.elim
noncomputable def straitref07_Lines.code : Code := (Tryd.f13.body).getD .skip
def straitref07_Lines.ann : Ann := (.two .auto (.two .auto (.two .auto (.two (.two .auto (.two (.loop 0 [0, 2, 3, 4, 5] [(2, [0, 2, 3, 4])] .auto) .auto)) .auto))))
noncomputable def straitref07_Lines.c0 : Code := sub straitref07_Lines.code [1, 1, 1, 0, 1, 0, 0]
def straitref07_Lines.a0 : Ann := .auto
def straitref07_Lines.keep0 : List Nat := [0, 2, 3, 4, 5]
def straitref07_Lines.outs0 : List (Nat × List Nat) := [(2, [0, 2, 3, 4])]
set_option maxRecDepth 100000 in
theorem straitref07_Lines.L0 [DKc] : LoopOK straitref07_Lines.ctx 32 straitref07_Lines.c0 0 straitref07_Lines.keep0 straitref07_Lines.outs0 := by
  refine loop_ok (n := straitref07_Lines.a0) straitref07_Lines.ok (by kernel_rfl) (loops_ok (l := []) (by kernel_rfl) ?_) straitref07_Lines.r0 ?_ ?_ (fun vs h K hh => hh)
  · exact trivial
  · intro K vs h hh
    unfold straitref07_Lines.r0 at hh
    split at hh
    · exact hh
    · exact hh
  · intro K m vs h hh
    unfold straitref07_Lines.r0 at hh
    split at hh
    · exact cast (by kernel_rfl) hh
    · exact hh.elim
set_option maxRecDepth 100000 in
theorem straitref07_Lines.eq (a1 : ByteArray) (h : Heap) (K : (Option Addr) → Nat → Nat → Bool → Heap → Prop) : evF straitref07_Lines.ctx Tryd.f13 straitref07_Lines.ann [(.string a1)] h (straitref07_Lines.ret K) = straitref07_Lines a1 h K := by kernel_rfl
set_option maxRecDepth 100000 in
theorem straitref07_Lines.calls [DKc] {a1 : ByteArray} {h : Heap} {K : (Option Addr) → Nat → Nat → Bool → Heap → Prop} (hh : straitref07_Lines a1 h K) (w : World) (hw : w.heap = h) :
    (callFunc 13 #[(.string a1)]).run Tryd.prog w = .ok (.enter 13 #[(.string a1)]) w ∧ Calls Tryd.prog 13 #[(.string a1)] w fun e w' => ∃ v, e = .returned v ∧ Out w w' ∧ straitref07_Lines.ret K v w'.heap := by
  rw [← straitref07_Lines.eq] at hh
  exact fn_calls (args := [(.string a1)]) (c := straitref07_Lines.code) straitref07_Lines.ok Tryd.func13 (by kernel_rfl) (by kernel_rfl) (by kernel_rfl) (by kernel_rfl) (loops_ok (l := [(straitref07_Lines.c0, none, 0, straitref07_Lines.keep0, straitref07_Lines.outs0)]) (by kernel_rfl) ⟨straitref07_Lines.L0, trivial⟩) hh w hw

/-! ### strait/straitref07.Same: function 20 -/
def straitref07_Same.b0 (K0 : Bool → Heap → Prop) (K2 : Heap → Prop) (cont : (Option Addr) → Nat → Nat → (Option Addr) → Nat → Nat → Int → Heap → Prop) (c0_1001 : Option Addr) (c0_1002 : Nat) (c0_1003 : Nat) (c1_1004 : Option Addr) (c1_1005 : Nat) (c1_1006 : Nat) (v5_1007 : Int) (h1008 : Heap) : Prop :=
  (iteB (decide (v5_1007 < (c0_1002 : Int))) ((chkP c0_1001 fun a1009 => (0 ≤ v5_1007 ∧ v5_1007 < (c0_1002 : Int)) ∧ ∃ (x1010 : ByteArray), cell h1008 (a1009.add (v5_1007.toNat * 1)) = some (.string x1010) ∧ chkP c1_1004 fun a1011 => (0 ≤ v5_1007 ∧ v5_1007 < (c1_1005 : Int)) ∧ ∃ (x1012 : ByteArray), cell h1008 (a1011.add (v5_1007.toNat * 1)) = some (.string x1012) ∧ (iteB (!(x1010.toList == x1012.toList)) (K0 false h1008) (((cont c0_1001 c0_1002 c0_1003 c1_1004 c1_1005 c1_1006 (IntKind.i64.wrap (v5_1007 + 1)) h1008)))))) (K2 h1008))
def straitref07_Same.l0 (K0 : Bool → Heap → Prop) (K2 : Heap → Prop) : Nat → (Option Addr) → Nat → Nat → (Option Addr) → Nat → Nat → Int → Heap → Prop
  | 0, _, _, _, _, _, _, _, _ => False
  | m + 1, c0_1001, c0_1002, c0_1003, c1_1004, c1_1005, c1_1006, v5_1007, h => straitref07_Same.b0 K0 K2 (straitref07_Same.l0 K0 K2 m) c0_1001 c0_1002 c0_1003 c1_1004 c1_1005 c1_1006 v5_1007 h
def straitref07_Same (a1 : Option Addr) (a1l : Nat) (a1c : Nat) (a2 : Option Addr) (a2l : Nat) (a2c : Nat) (h : Heap) (K : Bool → Heap → Prop) : Prop :=
  ((iteB ((a1l : Int) != (a2l : Int)) (K false h) (((∃ m6, straitref07_Same.l0 (fun z3 h4 => K z3 h4) (fun h5 => (K true h5)) m6 a1 a1l a1c a2 a2l a2c 0 h)))))
def straitref07_Same.ret (K : Bool → Heap → Prop) (v : Value) (h : Heap) : Prop := match v with
  | (.bool r7) => K r7 h
  | _ => False
theorem straitref07_Same.ret_elim {K : Bool → Heap → Prop} {K' : Value → Heap → Prop} {v : Value} {h : Heap} (hk : ∀ r7 h, K r7 h → K' (.bool r7) h) (hh : straitref07_Same.ret K v h) : K' v h := by
  unfold straitref07_Same.ret at hh
  split at hh
  · exact hk _ _ hh
  · exact hh.elim
def straitref07_Same.r0 (K : Nat → List Value → Heap → Prop) (m : Nat) (vs : List Value) (h : Heap) : Prop := match vs with
  | [(.slice c0_1001 c0_1002 c0_1003), (.slice c1_1004 c1_1005 c1_1006), (.int .i64 v5_1007)] => straitref07_Same.l0 (fun z8 h' => K 0 [(.bool z8)] h') (fun h' => K 2 [] h') m c0_1001 c0_1002 c0_1003 c1_1004 c1_1005 c1_1006 v5_1007 h
  | _ => False
def straitref07_Same.loop (i : Nat) (vs : List Value) (h : Heap) (K : Nat → List Value → Heap → Prop) : Prop := match i with
  | 0 => ∃ m, straitref07_Same.r0 K m vs h
  | _ => False
noncomputable def straitref07_Same.ctx : Ctx := { P := Tryd.prog, call := fun _ _ _ _ => False, qcall := fun _ _ _ _ => False, quiet := fun f => Nat.beq f 2000073, loop := straitref07_Same.loop }
theorem straitref07_Same.ok [DKc] : straitref07_Same.ctx.OK where
  mixed := by kernel_rfl
  mono := fun hh _ => hh.elim
  call := fun hh => hh.elim
  qmono := fun hh _ => hh.elim
  qval := fun hh => hh.elim
  qcall := fun hh => hh.elim
noncomputable def straitref07_Same.code : Code := (Tryd.f20.body).getD .skip
def straitref07_Same.ann : Ann := (.two .auto (.two .auto (.two (.two .auto (.two (.loop 0 [0, 1, 5] [(2, []), (0, [4])] (.two .auto (.two (.two (.two (.reg [0, 0, 3, 7, 0, 0, 48, 112, 255] (.take 0 (.take 1 (.take 2 (.take 3 (.take 4 (.take 5 (.take 6 (.take 7 (.take 8 .done)))))))))) .auto) .auto) .auto))) .auto)) .auto)))
noncomputable def straitref07_Same.c0 : Code := sub straitref07_Same.code [1, 1, 0, 1, 0, 0]
def straitref07_Same.a0 : Ann := (.two .auto (.two (.two (.two (.reg [0, 0, 3, 7, 0, 0, 48, 112, 255] (.take 0 (.take 1 (.take 2 (.take 3 (.take 4 (.take 5 (.take 6 (.take 7 (.take 8 .done)))))))))) .auto) .auto) .auto))
def straitref07_Same.keep0 : List Nat := [0, 1, 5]
def straitref07_Same.outs0 : List (Nat × List Nat) := [(2, []), (0, [4])]
set_option maxRecDepth 100000 in
theorem straitref07_Same.L0 [DKc] : LoopOK straitref07_Same.ctx 26 straitref07_Same.c0 0 straitref07_Same.keep0 straitref07_Same.outs0 := by
  refine loop_ok (n := straitref07_Same.a0) straitref07_Same.ok (by kernel_rfl) (loops_ok (l := []) (by kernel_rfl) ?_) straitref07_Same.r0 ?_ ?_ (fun vs h K hh => hh)
  · exact trivial
  · intro K vs h hh
    unfold straitref07_Same.r0 at hh
    split at hh
    · exact hh
    · exact hh
  · intro K m vs h hh
    unfold straitref07_Same.r0 at hh
    split at hh
    · exact cast (by kernel_rfl) hh
    · exact hh.elim
set_option maxRecDepth 100000 in
theorem straitref07_Same.eq (a1 : Option Addr) (a1l : Nat) (a1c : Nat) (a2 : Option Addr) (a2l : Nat) (a2c : Nat) (h : Heap) (K : Bool → Heap → Prop) : evF straitref07_Same.ctx Tryd.f20 straitref07_Same.ann [(.slice a1 a1l a1c), (.slice a2 a2l a2c)] h (straitref07_Same.ret K) = straitref07_Same a1 a1l a1c a2 a2l a2c h K := by kernel_rfl
set_option maxRecDepth 100000 in
theorem straitref07_Same.calls [DKc] {a1 : Option Addr} {a1l : Nat} {a1c : Nat} {a2 : Option Addr} {a2l : Nat} {a2c : Nat} {h : Heap} {K : Bool → Heap → Prop} (hh : straitref07_Same a1 a1l a1c a2 a2l a2c h K) (w : World) (hw : w.heap = h) :
    (callFunc 20 #[(.slice a1 a1l a1c), (.slice a2 a2l a2c)]).run Tryd.prog w = .ok (.enter 20 #[(.slice a1 a1l a1c), (.slice a2 a2l a2c)]) w ∧ Calls Tryd.prog 20 #[(.slice a1 a1l a1c), (.slice a2 a2l a2c)] w fun e w' => ∃ v, e = .returned v ∧ Out w w' ∧ straitref07_Same.ret K v w'.heap := by
  rw [← straitref07_Same.eq] at hh
  exact fn_calls (args := [(.slice a1 a1l a1c), (.slice a2 a2l a2c)]) (c := straitref07_Same.code) straitref07_Same.ok Tryd.func20 (by kernel_rfl) (by kernel_rfl) (by kernel_rfl) (by kernel_rfl) (loops_ok (l := [(straitref07_Same.c0, none, 0, straitref07_Same.keep0, straitref07_Same.outs0)]) (by kernel_rfl) ⟨straitref07_Same.L0, trivial⟩) hh w hw

/-! ### strait/straitlaw07.same: function 12 -/
def straitlaw07_same (a1 : Option Addr) (a1l : Nat) (a1c : Nat) (a2 : Bool) (a3 : Option Addr) (a3l : Nat) (a3c : Nat) (a4 : Bool) (h : Heap) (K : Bool → Heap → Prop) : Prop :=
  newP h (.cells #[(.slice a3 a3l a3c), (.bool a4)] 28) fun a5 h6 => (∃ (x7 : Bool), cell h6 (a5.add 1) = some (.bool x7) ∧ iteB (a2 == x7) (∃ (x8 : Option Addr) (x8l : Nat) (x8c : Nat), cell h6 a5 = some (.slice x8 x8l x8c) ∧ qcallP1 h6 (straitref07_Same a1 a1l a1c x8 x8l x8c h6) fun x9 => K x9 h6) (K false h6))
def straitlaw07_same.ret (K : Bool → Heap → Prop) (v : Value) (h : Heap) : Prop := match v with
  | (.bool r11) => K r11 h
  | _ => False
theorem straitlaw07_same.ret_elim {K : Bool → Heap → Prop} {K' : Value → Heap → Prop} {v : Value} {h : Heap} (hk : ∀ r11 h, K r11 h → K' (.bool r11) h) (hh : straitlaw07_same.ret K v h) : K' v h := by
  unfold straitlaw07_same.ret at hh
  split at hh
  · exact hk _ _ hh
  · exact hh.elim
def straitlaw07_same.qcall (f : FuncId) (vs : List Value) (h : Heap) (K : Value → Prop) : Prop := match f, vs with
  | 20, [(.slice a1 a1l a1c), (.slice a2 a2l a2c)] => qcallP1 h (straitref07_Same a1 a1l a1c a2 a2l a2c h) fun r7 => K (.bool r7)
  | _, _ => False
noncomputable def straitlaw07_same.ctx : Ctx := { P := Tryd.prog, call := fun _ _ _ _ => False, qcall := straitlaw07_same.qcall, quiet := fun f => Nat.beq f 20 || Nat.beq f 2000073, loop := fun _ _ _ _ => False }
theorem straitlaw07_same.ok [DKc] : straitlaw07_same.ctx.OK where
  mixed := by kernel_rfl
  mono := fun hh _ => hh.elim
  call := fun hh => hh.elim
  qmono := by
    intro f args h K K' hh hk
    change straitlaw07_same.qcall f args h K at hh
    change straitlaw07_same.qcall f args h K'
    unfold straitlaw07_same.qcall at hh ⊢
    split at hh
    · obtain ⟨x0, h1, h2⟩ := hh
      exact ⟨x0, h1, hk _ h2⟩
    · exact hh.elim
  qval := by
    intro f args h K hh
    change straitlaw07_same.qcall f args h K at hh
    suffices H : ∃ v, K v ∧ straitlaw07_same.qcall f args h (· = v) from H
    unfold straitlaw07_same.qcall at hh ⊢
    split at hh
    · obtain ⟨x0, h1, h2⟩ := hh
      exact ⟨_, h2, x0, h1, rfl⟩
    · exact hh.elim
  qcall := by
    intro f args h v hh w hw
    change straitlaw07_same.qcall f args h (· = v) at hh
    unfold straitlaw07_same.qcall at hh
    split at hh
    · obtain ⟨x0, h1, h2⟩ := hh
      obtain ⟨g1, g2⟩ := straitref07_Same.calls h1 w hw
      refine .inl ⟨g1, g2.mono fun e w' ⟨u, he, ho, hr⟩ => ?_⟩
      have hq := straitref07_Same.ret_elim (K' := fun u h' => u = v ∧ h' = h) (fun _ h' hr => by obtain ⟨rfl, rfl⟩ := hr; exact ⟨h2, rfl⟩) hr
      exact ⟨hq.1 ▸ he, ho, hq.2⟩
    · exact hh.elim
noncomputable def straitlaw07_same.code : Code := (Tryd.f12.body).getD .skip
def straitlaw07_same.ann : Ann := .auto
set_option maxRecDepth 100000 in
theorem straitlaw07_same.eq (a1 : Option Addr) (a1l : Nat) (a1c : Nat) (a2 : Bool) (a3 : Option Addr) (a3l : Nat) (a3c : Nat) (a4 : Bool) (h : Heap) (K : Bool → Heap → Prop) : evF straitlaw07_same.ctx Tryd.f12 straitlaw07_same.ann [(.slice a1 a1l a1c), (.bool a2), (.agg #[(.slice a3 a3l a3c), (.bool a4)])] h (straitlaw07_same.ret K) = straitlaw07_same a1 a1l a1c a2 a3 a3l a3c a4 h K := by kernel_rfl
set_option maxRecDepth 100000 in
theorem straitlaw07_same.calls [DKc] {a1 : Option Addr} {a1l : Nat} {a1c : Nat} {a2 : Bool} {a3 : Option Addr} {a3l : Nat} {a3c : Nat} {a4 : Bool} {h : Heap} {K : Bool → Heap → Prop} (hh : straitlaw07_same a1 a1l a1c a2 a3 a3l a3c a4 h K) (w : World) (hw : w.heap = h) :
    (callFunc 12 #[(.slice a1 a1l a1c), (.bool a2), (.agg #[(.slice a3 a3l a3c), (.bool a4)])]).run Tryd.prog w = .ok (.enter 12 #[(.slice a1 a1l a1c), (.bool a2), (.agg #[(.slice a3 a3l a3c), (.bool a4)])]) w ∧ Calls Tryd.prog 12 #[(.slice a1 a1l a1c), (.bool a2), (.agg #[(.slice a3 a3l a3c), (.bool a4)])] w fun e w' => ∃ v, e = .returned v ∧ Out w w' ∧ straitlaw07_same.ret K v w'.heap := by
  rw [← straitlaw07_same.eq] at hh
  exact fn_calls (args := [(.slice a1 a1l a1c), (.bool a2), (.agg #[(.slice a3 a3l a3c), (.bool a4)])]) (c := straitlaw07_same.code) straitlaw07_same.ok Tryd.func12 (by kernel_rfl) (by kernel_rfl) (by kernel_rfl) (by kernel_rfl) (loops_ok (l := []) (by kernel_rfl) trivial) hh w hw

/-! ### strait/straitref07.word: function 42 -/
def straitref07_word.b0 (K0 : Bool → Heap → Prop) (K2 : Heap → Prop) (cont : ByteArray → Int → Heap → Prop) (c0_1001 : ByteArray) (v3_1002 : Int) (h1003 : Heap) : Prop :=
  (iteB (decide (v3_1002 < (c0_1001.size : Int))) ((0 ≤ v3_1002 ∧ ∃ b1004 : UInt8, c0_1001[v3_1002.toNat]? = some b1004 ∧ iteB ((b1004.toNat : Int) == (10 : Int)) (K0 false h1003) (0 ≤ v3_1002 ∧ ∃ b1005 : UInt8, c0_1001[v3_1002.toNat]? = some b1005 ∧ (iteB ((b1005.toNat : Int) == (32 : Int)) (K0 false h1003) (((cont c0_1001 (IntKind.i64.wrap (v3_1002 + 1)) h1003))))))) (K2 h1003))
def straitref07_word.l0 (K0 : Bool → Heap → Prop) (K2 : Heap → Prop) : Nat → ByteArray → Int → Heap → Prop
  | 0, _, _, _ => False
  | m + 1, c0_1001, v3_1002, h => straitref07_word.b0 K0 K2 (straitref07_word.l0 K0 K2 m) c0_1001 v3_1002 h
def straitref07_word (a1 : ByteArray) (h : Heap) (K : Bool → Heap → Prop) : Prop :=
  ((∃ m5, straitref07_word.l0 (fun z2 h3 => K z2 h3) (fun h4 => (((K (decide ((a1.size : Int) > (0 : Int))) h4)))) m5 a1 0 h))
def straitref07_word.ret (K : Bool → Heap → Prop) (v : Value) (h : Heap) : Prop := match v with
  | (.bool r6) => K r6 h
  | _ => False
theorem straitref07_word.ret_elim {K : Bool → Heap → Prop} {K' : Value → Heap → Prop} {v : Value} {h : Heap} (hk : ∀ r6 h, K r6 h → K' (.bool r6) h) (hh : straitref07_word.ret K v h) : K' v h := by
  unfold straitref07_word.ret at hh
  split at hh
  · exact hk _ _ hh
  · exact hh.elim
def straitref07_word.r0 (K : Nat → List Value → Heap → Prop) (m : Nat) (vs : List Value) (h : Heap) : Prop := match vs with
  | [(.string c0_1001), (.int .i64 v3_1002)] => straitref07_word.l0 (fun z7 h' => K 0 [(.bool z7)] h') (fun h' => K 2 [(.string c0_1001)] h') m c0_1001 v3_1002 h
  | _ => False
def straitref07_word.loop (i : Nat) (vs : List Value) (h : Heap) (K : Nat → List Value → Heap → Prop) : Prop := match i with
  | 0 => ∃ m, straitref07_word.r0 K m vs h
  | _ => False
noncomputable def straitref07_word.ctx : Ctx := { P := Tryd.prog, call := fun _ _ _ _ => False, qcall := fun _ _ _ _ => False, quiet := fun f => Nat.beq f 2000073, loop := straitref07_word.loop }
theorem straitref07_word.ok [DKc] : straitref07_word.ctx.OK where
  mixed := by kernel_rfl
  mono := fun hh _ => hh.elim
  call := fun hh => hh.elim
  qmono := fun hh _ => hh.elim
  qval := fun hh => hh.elim
  qcall := fun hh => hh.elim
noncomputable def straitref07_word.code : Code := (Tryd.f42.body).getD .skip
def straitref07_word.ann : Ann := (.two .auto (.two (.two .auto (.two (.loop 0 [0, 3] [(2, [0]), (0, [2])] .auto) .auto)) .auto))
noncomputable def straitref07_word.c0 : Code := sub straitref07_word.code [1, 0, 1, 0, 0]
def straitref07_word.a0 : Ann := .auto
def straitref07_word.keep0 : List Nat := [0, 3]
def straitref07_word.outs0 : List (Nat × List Nat) := [(2, [0]), (0, [2])]
set_option maxRecDepth 100000 in
theorem straitref07_word.L0 [DKc] : LoopOK straitref07_word.ctx 23 straitref07_word.c0 0 straitref07_word.keep0 straitref07_word.outs0 := by
  refine loop_ok (n := straitref07_word.a0) straitref07_word.ok (by kernel_rfl) (loops_ok (l := []) (by kernel_rfl) ?_) straitref07_word.r0 ?_ ?_ (fun vs h K hh => hh)
  · exact trivial
  · intro K vs h hh
    unfold straitref07_word.r0 at hh
    split at hh
    · exact hh
    · exact hh
  · intro K m vs h hh
    unfold straitref07_word.r0 at hh
    split at hh
    · exact cast (by kernel_rfl) hh
    · exact hh.elim
set_option maxRecDepth 100000 in
theorem straitref07_word.eq (a1 : ByteArray) (h : Heap) (K : Bool → Heap → Prop) : evF straitref07_word.ctx Tryd.f42 straitref07_word.ann [(.string a1)] h (straitref07_word.ret K) = straitref07_word a1 h K := by kernel_rfl
set_option maxRecDepth 100000 in
theorem straitref07_word.calls [DKc] {a1 : ByteArray} {h : Heap} {K : Bool → Heap → Prop} (hh : straitref07_word a1 h K) (w : World) (hw : w.heap = h) :
    (callFunc 42 #[(.string a1)]).run Tryd.prog w = .ok (.enter 42 #[(.string a1)]) w ∧ Calls Tryd.prog 42 #[(.string a1)] w fun e w' => ∃ v, e = .returned v ∧ Out w w' ∧ straitref07_word.ret K v w'.heap := by
  rw [← straitref07_word.eq] at hh
  exact fn_calls (args := [(.string a1)]) (c := straitref07_word.code) straitref07_word.ok Tryd.func42 (by kernel_rfl) (by kernel_rfl) (by kernel_rfl) (by kernel_rfl) (loops_ok (l := [(straitref07_word.c0, none, 0, straitref07_word.keep0, straitref07_word.outs0)]) (by kernel_rfl) ⟨straitref07_word.L0, trivial⟩) hh w hw

/-! ### strait/straitref07.Words: function 14 -/
def straitref07_Words.b0 (K0 : Heap → Prop) (K2 : (Option Addr) → Nat → Nat → Heap → Prop) (cont : ByteArray → Addr → (Option Addr) → Nat → Nat → Int → Int → Heap → Prop) (c0_1001 : ByteArray) (c2_1002 : Addr) (v3_1003 : Option Addr) (v3_1003l : Nat) (v3_1003c : Nat) (v4_1004 : Int) (v5_1005 : Int) (h1006 : Heap) : Prop :=
  let j1024 : Prop := (let j1020 := (fun (y1009 : Bool) => iteB y1009 ((0 ≤ v5_1005 ∧ v5_1005 ≤ (c0_1001.size : Int)) ∧ (0 ≤ v4_1004 ∧ v4_1004 ≤ (v5_1005.toNat : Int)) ∧ qcallP1 h1006 (straitref07_word (c0_1001.extract v4_1004.toNat v5_1005.toNat) h1006) fun x1010 => (iteB (!x1010) (stC h1006 c2_1002 (.slice none 0 0) fun h1011 => stC h1011 (c2_1002.add 1) (.bool false) fun h1012 => K0 h1012) (((0 ≤ v5_1005 ∧ v5_1005 ≤ (c0_1001.size : Int)) ∧ (0 ≤ v4_1004 ∧ v4_1004 ≤ (v5_1005.toNat : Int)) ∧ newP h1006 (.cells #[(.string (c0_1001.extract v4_1004.toNat v5_1005.toNat))] 9) fun a1013 h1014 => ∃ n1019, cellsAt h1014 (some a1013) (1 * 1) n1019 ∧ appP 9 1 16 [(.string (⟨#[]⟩ : ByteArray))] v3_1003 v3_1003l v3_1003c 1 n1019 h1014 fun q1015 l1016 c1017 h1018 => (((cont c0_1001 c2_1002 q1015 l1016 c1017 (IntKind.i64.wrap (v5_1005 + 1)) (IntKind.i64.wrap (v5_1005 + 1)) h1018))))))) (((cont c0_1001 c2_1002 v3_1003 v3_1003l v3_1003c v4_1004 (IntKind.i64.wrap (v5_1005 + 1)) h1006))));
  iteB (v5_1005 == (c0_1001.size : Int)) ((j1020 true)) (0 ≤ v5_1005 ∧ ∃ b1008 : UInt8, c0_1001[v5_1005.toNat]? = some b1008 ∧ (j1020 ((b1008.toNat : Int) == (32 : Int)))));
  iteB (decide (v5_1005 ≤ (c0_1001.size : Int))) ((iteB (decide ((c0_1001.size : Int) > (0 : Int))) ((j1024)) (K2 v3_1003 v3_1003l v3_1003c h1006))) (K2 v3_1003 v3_1003l v3_1003c h1006)
def straitref07_Words.l0 (K0 : Heap → Prop) (K2 : (Option Addr) → Nat → Nat → Heap → Prop) : Nat → ByteArray → Addr → (Option Addr) → Nat → Nat → Int → Int → Heap → Prop
  | 0, _, _, _, _, _, _, _, _ => False
  | m + 1, c0_1001, c2_1002, v3_1003, v3_1003l, v3_1003c, v4_1004, v5_1005, h => straitref07_Words.b0 K0 K2 (straitref07_Words.l0 K0 K2 m) c0_1001 c2_1002 v3_1003 v3_1003l v3_1003c v4_1004 v5_1005 h
def straitref07_Words (a1 : ByteArray) (h : Heap) (K : (Option Addr) → Nat → Nat → Bool → Heap → Prop) : Prop :=
  newP h (.cells #[(.slice none 0 0), (.bool false)] 28) fun a2 h3 => ((((∃ m9, straitref07_Words.l0 (fun h4 => ∃ (x5 : Option Addr) (x5l : Nat) (x5c : Nat), cell h4 a2 = some (.slice x5 x5l x5c) ∧ ∃ (x6 : Bool), cell h4 (a2.add 1) = some (.bool x6) ∧ K x5 x5l x5c x6 h4) (fun z7 z7l z7c h8 => ((stC h8 a2 (.slice z7 z7l z7c) fun h10 => stC h10 (a2.add 1) (.bool true) fun h11 => (∃ (x12 : Option Addr) (x12l : Nat) (x12c : Nat), cell h11 a2 = some (.slice x12 x12l x12c) ∧ ∃ (x13 : Bool), cell h11 (a2.add 1) = some (.bool x13) ∧ K x12 x12l x12c x13 h11)))) m9 a1 a2 none 0 0 0 0 h3))))
def straitref07_Words.ret (K : (Option Addr) → Nat → Nat → Bool → Heap → Prop) (v : Value) (h : Heap) : Prop := match v with
  | (.agg ⟨[(.slice r14 r14l r14c), (.bool r15)]⟩) => K r14 r14l r14c r15 h
  | _ => False
theorem straitref07_Words.ret_elim {K : (Option Addr) → Nat → Nat → Bool → Heap → Prop} {K' : Value → Heap → Prop} {v : Value} {h : Heap} (hk : ∀ r14 r14l r14c r15 h, K r14 r14l r14c r15 h → K' (.agg #[(.slice r14 r14l r14c), (.bool r15)]) h) (hh : straitref07_Words.ret K v h) : K' v h := by
  unfold straitref07_Words.ret at hh
  split at hh
  · exact hk _ _ _ _ _ hh
  · exact hh.elim
def straitref07_Words.qcall (f : FuncId) (vs : List Value) (h : Heap) (K : Value → Prop) : Prop := match f, vs with
  | 42, [(.string a1)] => qcallP1 h (straitref07_word a1 h) fun r6 => K (.bool r6)
  | _, _ => False
def straitref07_Words.r0 (K : Nat → List Value → Heap → Prop) (m : Nat) (vs : List Value) (h : Heap) : Prop := match vs with
  | [(.string c0_1001), (.pointer (some c2_1002)), (.slice v3_1003 v3_1003l v3_1003c), (.int .i64 v4_1004), (.int .i64 v5_1005)] => straitref07_Words.l0 (fun h' => K 0 [(.pointer (some c2_1002))] h') (fun z16 z16l z16c h' => K 2 [(.pointer (some c2_1002)), (.slice z16 z16l z16c)] h') m c0_1001 c2_1002 v3_1003 v3_1003l v3_1003c v4_1004 v5_1005 h
  | _ => False
def straitref07_Words.loop (i : Nat) (vs : List Value) (h : Heap) (K : Nat → List Value → Heap → Prop) : Prop := match i with
  | 0 => ∃ m, straitref07_Words.r0 K m vs h
  | _ => False
noncomputable def straitref07_Words.ctx : Ctx := { P := Tryd.prog, call := fun _ _ _ _ => False, qcall := straitref07_Words.qcall, quiet := fun f => Nat.beq f 42 || Nat.beq f 2000073, loop := straitref07_Words.loop }
theorem straitref07_Words.ok [DKc] : straitref07_Words.ctx.OK where
  mixed := by kernel_rfl
  mono := fun hh _ => hh.elim
  call := fun hh => hh.elim
  qmono := by
    intro f args h K K' hh hk
    change straitref07_Words.qcall f args h K at hh
    change straitref07_Words.qcall f args h K'
    unfold straitref07_Words.qcall at hh ⊢
    split at hh
    · obtain ⟨x0, h1, h2⟩ := hh
      exact ⟨x0, h1, hk _ h2⟩
    · exact hh.elim
  qval := by
    intro f args h K hh
    change straitref07_Words.qcall f args h K at hh
    suffices H : ∃ v, K v ∧ straitref07_Words.qcall f args h (· = v) from H
    unfold straitref07_Words.qcall at hh ⊢
    split at hh
    · obtain ⟨x0, h1, h2⟩ := hh
      exact ⟨_, h2, x0, h1, rfl⟩
    · exact hh.elim
  qcall := by
    intro f args h v hh w hw
    change straitref07_Words.qcall f args h (· = v) at hh
    unfold straitref07_Words.qcall at hh
    split at hh
    · obtain ⟨x0, h1, h2⟩ := hh
      obtain ⟨g1, g2⟩ := straitref07_word.calls h1 w hw
      refine .inl ⟨g1, g2.mono fun e w' ⟨u, he, ho, hr⟩ => ?_⟩
      have hq := straitref07_word.ret_elim (K' := fun u h' => u = v ∧ h' = h) (fun _ h' hr => by obtain ⟨rfl, rfl⟩ := hr; exact ⟨h2, rfl⟩) hr
      exact ⟨hq.1 ▸ he, ho, hq.2⟩
    · exact hh.elim
noncomputable def straitref07_Words.code : Code := (Tryd.f14.body).getD .skip
def straitref07_Words.ann : Ann := (.two .auto (.two .auto (.two .auto (.two (.two .auto (.two (.loop 0 [0, 2, 3, 4, 5] [(2, [2, 3]), (0, [2])] .auto) .auto)) .auto))))
noncomputable def straitref07_Words.c0 : Code := sub straitref07_Words.code [1, 1, 1, 0, 1, 0, 0]
def straitref07_Words.a0 : Ann := .auto
def straitref07_Words.keep0 : List Nat := [0, 2, 3, 4, 5]
def straitref07_Words.outs0 : List (Nat × List Nat) := [(2, [2, 3]), (0, [2])]
set_option maxRecDepth 100000 in
theorem straitref07_Words.L0 [DKc] : LoopOK straitref07_Words.ctx 45 straitref07_Words.c0 0 straitref07_Words.keep0 straitref07_Words.outs0 := by
  refine loop_ok (n := straitref07_Words.a0) straitref07_Words.ok (by kernel_rfl) (loops_ok (l := []) (by kernel_rfl) ?_) straitref07_Words.r0 ?_ ?_ (fun vs h K hh => hh)
  · exact trivial
  · intro K vs h hh
    unfold straitref07_Words.r0 at hh
    split at hh
    · exact hh
    · exact hh
  · intro K m vs h hh
    unfold straitref07_Words.r0 at hh
    split at hh
    · exact cast (by kernel_rfl) hh
    · exact hh.elim
set_option maxRecDepth 100000 in
theorem straitref07_Words.eq (a1 : ByteArray) (h : Heap) (K : (Option Addr) → Nat → Nat → Bool → Heap → Prop) : evF straitref07_Words.ctx Tryd.f14 straitref07_Words.ann [(.string a1)] h (straitref07_Words.ret K) = straitref07_Words a1 h K := by kernel_rfl
set_option maxRecDepth 100000 in
theorem straitref07_Words.calls [DKc] {a1 : ByteArray} {h : Heap} {K : (Option Addr) → Nat → Nat → Bool → Heap → Prop} (hh : straitref07_Words a1 h K) (w : World) (hw : w.heap = h) :
    (callFunc 14 #[(.string a1)]).run Tryd.prog w = .ok (.enter 14 #[(.string a1)]) w ∧ Calls Tryd.prog 14 #[(.string a1)] w fun e w' => ∃ v, e = .returned v ∧ Out w w' ∧ straitref07_Words.ret K v w'.heap := by
  rw [← straitref07_Words.eq] at hh
  exact fn_calls (args := [(.string a1)]) (c := straitref07_Words.code) straitref07_Words.ok Tryd.func14 (by kernel_rfl) (by kernel_rfl) (by kernel_rfl) (by kernel_rfl) (loops_ok (l := [(straitref07_Words.c0, none, 0, straitref07_Words.keep0, straitref07_Words.outs0)]) (by kernel_rfl) ⟨straitref07_Words.L0, trivial⟩) hh w hw

/-! ### strait/straitref07.Plain: function 16 -/
def straitref07_Plain.b0 (K0 : Bool → Heap → Prop) (K2 : Heap → Prop) (cont : ByteArray → Int → Heap → Prop) (c0_1001 : ByteArray) (v3_1002 : Int) (h1003 : Heap) : Prop :=
  (iteB (decide (v3_1002 < (c0_1001.size : Int))) ((0 ≤ v3_1002 ∧ ∃ b1004 : UInt8, c0_1001[v3_1002.toNat]? = some b1004 ∧ iteB (decide ((b1004.toNat : Int) < (33 : Int))) (K0 false h1003) (0 ≤ v3_1002 ∧ ∃ b1005 : UInt8, c0_1001[v3_1002.toNat]? = some b1005 ∧ (iteB (decide ((b1005.toNat : Int) > (126 : Int))) (K0 false h1003) (((cont c0_1001 (IntKind.i64.wrap (v3_1002 + 1)) h1003))))))) (K2 h1003))
def straitref07_Plain.l0 (K0 : Bool → Heap → Prop) (K2 : Heap → Prop) : Nat → ByteArray → Int → Heap → Prop
  | 0, _, _, _ => False
  | m + 1, c0_1001, v3_1002, h => straitref07_Plain.b0 K0 K2 (straitref07_Plain.l0 K0 K2 m) c0_1001 v3_1002 h
def straitref07_Plain (a1 : ByteArray) (h : Heap) (K : Bool → Heap → Prop) : Prop :=
  ((∃ m5, straitref07_Plain.l0 (fun z2 h3 => K z2 h3) (fun h4 => (K true h4)) m5 a1 0 h))
def straitref07_Plain.ret (K : Bool → Heap → Prop) (v : Value) (h : Heap) : Prop := match v with
  | (.bool r6) => K r6 h
  | _ => False
theorem straitref07_Plain.ret_elim {K : Bool → Heap → Prop} {K' : Value → Heap → Prop} {v : Value} {h : Heap} (hk : ∀ r6 h, K r6 h → K' (.bool r6) h) (hh : straitref07_Plain.ret K v h) : K' v h := by
  unfold straitref07_Plain.ret at hh
  split at hh
  · exact hk _ _ hh
  · exact hh.elim
def straitref07_Plain.r0 (K : Nat → List Value → Heap → Prop) (m : Nat) (vs : List Value) (h : Heap) : Prop := match vs with
  | [(.string c0_1001), (.int .i64 v3_1002)] => straitref07_Plain.l0 (fun z7 h' => K 0 [(.bool z7)] h') (fun h' => K 2 [] h') m c0_1001 v3_1002 h
  | _ => False
def straitref07_Plain.loop (i : Nat) (vs : List Value) (h : Heap) (K : Nat → List Value → Heap → Prop) : Prop := match i with
  | 0 => ∃ m, straitref07_Plain.r0 K m vs h
  | _ => False
noncomputable def straitref07_Plain.ctx : Ctx := { P := Tryd.prog, call := fun _ _ _ _ => False, qcall := fun _ _ _ _ => False, quiet := fun f => Nat.beq f 2000073, loop := straitref07_Plain.loop }
theorem straitref07_Plain.ok [DKc] : straitref07_Plain.ctx.OK where
  mixed := by kernel_rfl
  mono := fun hh _ => hh.elim
  call := fun hh => hh.elim
  qmono := fun hh _ => hh.elim
  qval := fun hh => hh.elim
  qcall := fun hh => hh.elim
noncomputable def straitref07_Plain.code : Code := (Tryd.f16.body).getD .skip
def straitref07_Plain.ann : Ann := (.two .auto (.two (.two .auto (.two (.loop 0 [0, 3] [(2, []), (0, [2])] .auto) .auto)) .auto))
noncomputable def straitref07_Plain.c0 : Code := sub straitref07_Plain.code [1, 0, 1, 0, 0]
def straitref07_Plain.a0 : Ann := .auto
def straitref07_Plain.keep0 : List Nat := [0, 3]
def straitref07_Plain.outs0 : List (Nat × List Nat) := [(2, []), (0, [2])]
set_option maxRecDepth 100000 in
theorem straitref07_Plain.L0 [DKc] : LoopOK straitref07_Plain.ctx 20 straitref07_Plain.c0 0 straitref07_Plain.keep0 straitref07_Plain.outs0 := by
  refine loop_ok (n := straitref07_Plain.a0) straitref07_Plain.ok (by kernel_rfl) (loops_ok (l := []) (by kernel_rfl) ?_) straitref07_Plain.r0 ?_ ?_ (fun vs h K hh => hh)
  · exact trivial
  · intro K vs h hh
    unfold straitref07_Plain.r0 at hh
    split at hh
    · exact hh
    · exact hh
  · intro K m vs h hh
    unfold straitref07_Plain.r0 at hh
    split at hh
    · exact cast (by kernel_rfl) hh
    · exact hh.elim
set_option maxRecDepth 100000 in
theorem straitref07_Plain.eq (a1 : ByteArray) (h : Heap) (K : Bool → Heap → Prop) : evF straitref07_Plain.ctx Tryd.f16 straitref07_Plain.ann [(.string a1)] h (straitref07_Plain.ret K) = straitref07_Plain a1 h K := by kernel_rfl
set_option maxRecDepth 100000 in
theorem straitref07_Plain.calls [DKc] {a1 : ByteArray} {h : Heap} {K : Bool → Heap → Prop} (hh : straitref07_Plain a1 h K) (w : World) (hw : w.heap = h) :
    (callFunc 16 #[(.string a1)]).run Tryd.prog w = .ok (.enter 16 #[(.string a1)]) w ∧ Calls Tryd.prog 16 #[(.string a1)] w fun e w' => ∃ v, e = .returned v ∧ Out w w' ∧ straitref07_Plain.ret K v w'.heap := by
  rw [← straitref07_Plain.eq] at hh
  exact fn_calls (args := [(.string a1)]) (c := straitref07_Plain.code) straitref07_Plain.ok Tryd.func16 (by kernel_rfl) (by kernel_rfl) (by kernel_rfl) (by kernel_rfl) (loops_ok (l := [(straitref07_Plain.c0, none, 0, straitref07_Plain.keep0, straitref07_Plain.outs0)]) (by kernel_rfl) ⟨straitref07_Plain.L0, trivial⟩) hh w hw

end Go.Proofs.YtnepdopakngpfaaDoor
