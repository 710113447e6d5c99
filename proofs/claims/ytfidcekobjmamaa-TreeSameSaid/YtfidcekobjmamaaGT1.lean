/- WRITTEN BY A PROGRAM OF THIS SESSION (gen.py): what each function asks of memory, and that the model's run comes to it. -/
import Derived.Test.YtfidcekobjmamaaProg
import Derived.Test.YtfidcekobjmamaaFw8
import Derived.Test.YtfidcekobjmamaaGT0
namespace Go.Proofs.Ytfidcekobjmamaa
open Go.Hp
set_option linter.unusedVariables false
set_option linter.unusedSimpArgs false

/-! ### strait/tree.Check: function 14 -/
def tree_Check (a1 : Option Addr) (a1l : Nat) (a1c : Nat) (a2 : Option Addr) (a2l : Nat) (a2c : Nat) (h : Heap) (K : Int → Heap → Prop) : Prop :=
  newP h (.cells #[(.slice a1 a1l a1c), (.slice a2 a2l a2c)] 25) fun a3 h4 => (∃ (x5 : Option Addr) (x5l : Nat) (x5c : Nat), cell h4 a3 = some (.slice x5 x5l x5c) ∧ ∃ (x6 : Option Addr) (x6l : Nat) (x6c : Nat), cell h4 (a3.add 1) = some (.slice x6 x6l x6c) ∧ callP4 (tree_depths x5 x5l x5c x6 x6l x6c h4) fun x7 x7l x7c x8 h9 => ((iteB (!x8) (K 15 h9) (K 0 h9))))
def tree_Check.ret (K : Int → Heap → Prop) (v : Value) (h : Heap) : Prop := match v with
  | (.int .i64 r10) => K r10 h
  | _ => False
theorem tree_Check.ret_elim {K : Int → Heap → Prop} {K' : Value → Heap → Prop} {v : Value} {h : Heap} (hk : ∀ r10 h, K r10 h → K' (.int .i64 r10) h) (hh : tree_Check.ret K v h) : K' v h := by
  unfold tree_Check.ret at hh
  split at hh
  · exact hk _ _ hh
  · exact hh.elim
def tree_Check.call (f : FuncId) (vs : List Value) (h : Heap) (K : Value → Heap → Prop) : Prop := match f, vs with
  | 47, [(.agg ⟨[(.slice a1 a1l a1c), (.slice a2 a2l a2c)]⟩)] => callP4 (tree_depths a1 a1l a1c a2 a2l a2c h) fun r23 r23l r23c r24 h' => K (.tuple #[(.slice r23 r23l r23c), (.bool r24)]) h'
  | _, _ => False
noncomputable def tree_Check.ctx : Ctx := { P := Try.prog, call := tree_Check.call, qcall := fun _ _ _ _ => False, quiet := fun f => false, loop := fun _ _ _ _ => False }
theorem tree_Check.ok : tree_Check.ctx.OK where
  mixed := by kernel_rfl
  mono := by
    intro f args h K K' hh hk
    change tree_Check.call f args h K at hh
    change tree_Check.call f args h K'
    unfold tree_Check.call at hh ⊢
    split at hh
    · obtain ⟨R, h1, h2⟩ := hh
      exact ⟨R, h1, fun _ _ _ _ x hr => hk _ _ (h2 _ _ _ _ x hr)⟩
    · exact hh.elim
  call := by
    intro f args h K hh w hw
    change tree_Check.call f args h K at hh
    unfold tree_Check.call at hh
    split at hh
    · obtain ⟨R, h1, h2⟩ := hh
      obtain ⟨g1, g2⟩ := tree_depths.calls h1 w hw
      exact ⟨g1, g2.mono fun e w' ⟨v, he, ho, hr⟩ => ⟨v, he, ho, tree_depths.ret_elim h2 hr⟩⟩
    · exact hh.elim
  qmono := fun hh _ => hh.elim
  qval := fun hh => hh.elim
  qcall := fun hh => hh.elim
noncomputable def tree_Check.code : Code := (Try.f14.body).getD .skip
def tree_Check.ann : Ann := .auto
set_option maxRecDepth 100000 in
theorem tree_Check.eq (a1 : Option Addr) (a1l : Nat) (a1c : Nat) (a2 : Option Addr) (a2l : Nat) (a2c : Nat) (h : Heap) (K : Int → Heap → Prop) : evF tree_Check.ctx Try.f14 tree_Check.ann [(.agg #[(.slice a1 a1l a1c), (.slice a2 a2l a2c)])] h (tree_Check.ret K) = tree_Check a1 a1l a1c a2 a2l a2c h K := by kernel_rfl
set_option maxRecDepth 100000 in
theorem tree_Check.calls {a1 : Option Addr} {a1l : Nat} {a1c : Nat} {a2 : Option Addr} {a2l : Nat} {a2c : Nat} {h : Heap} {K : Int → Heap → Prop} (hh : tree_Check a1 a1l a1c a2 a2l a2c h K) (w : World) (hw : w.heap = h) :
    (callFunc 14 #[(.agg #[(.slice a1 a1l a1c), (.slice a2 a2l a2c)])]).run Try.prog w = .ok (.enter 14 #[(.agg #[(.slice a1 a1l a1c), (.slice a2 a2l a2c)])]) w ∧ Calls Try.prog 14 #[(.agg #[(.slice a1 a1l a1c), (.slice a2 a2l a2c)])] w fun e w' => ∃ v, e = .returned v ∧ Out w w' ∧ tree_Check.ret K v w'.heap := by
  rw [← tree_Check.eq] at hh
  exact fn_calls (args := [(.agg #[(.slice a1 a1l a1c), (.slice a2 a2l a2c)])]) (c := tree_Check.code) tree_Check.ok Try.func14 (by kernel_rfl) (by kernel_rfl) (by kernel_rfl) (by kernel_rfl) (loops_ok (l := []) (by kernel_rfl) trivial) hh w hw

/-! ### strait/straitlaw29.awake: function 13 -/
def straitlaw29_awake (h : Heap) (K : Bool → Heap → Prop) : Prop :=
  (newP h (.cells #[(.int .i64 (-1)), (.int .i64 0), (.int .i64 0), (.int .i64 1)] 3) fun a1 h2 => newP h2 (.cells #[(.int .i64 0), (.int .i64 3), (.int .i64 2), (.int .i64 2)] 2) fun a3 h4 => newP h4 (.cells #[(.slice none 0 0), (.slice none 0 0)] 25) fun a5 h6 => stC h6 a5 (.slice (some a1) 4 4) fun h7 => stC h7 (a5.add 1) (.slice (some a3) 4 4) fun h8 => (∃ (x9 : Option Addr) (x9l : Nat) (x9c : Nat), cell h8 a5 = some (.slice x9 x9l x9c) ∧ ∃ (x10 : Option Addr) (x10l : Nat) (x10c : Nat), cell h8 (a5.add 1) = some (.slice x10 x10l x10c) ∧ callP2 (tree_Least x9 x9l x9c x10 x10l x10c 3 2 h8) fun x11 x12 h13 => (∃ (x14 : Option Addr) (x14l : Nat) (x14c : Nat), cell h13 a5 = some (.slice x14 x14l x14c) ∧ ∃ (x15 : Option Addr) (x15l : Nat) (x15c : Nat), cell h13 (a5.add 1) = some (.slice x15 x15l x15c) ∧ callP1 (tree_Check x14 x14l x14c x15 x15l x15c h13) fun x16 h17 => iteB (x16 == (0 : Int)) (∃ (x18 : Option Addr) (x18l : Nat) (x18c : Nat), cell h17 a5 = some (.slice x18 x18l x18c) ∧ ∃ (x19 : Option Addr) (x19l : Nat) (x19c : Nat), cell h17 (a5.add 1) = some (.slice x19 x19l x19c) ∧ callP3 (tree_Path x18 x18l x18c x19 x19l x19c 3 2 h17) fun x20 x20l x20c h21 => newP h21 (.cells #[(.int .i64 3), (.int .i64 1), (.int .i64 0), (.int .i64 2)] 3) fun a22 h23 => qcallP1 h23 (straitref09_Ints x20 x20l x20c (some a22) 4 4 h23) fun x24 => iteB x24 (iteB (x11 == (2 : Int)) (iteB x12 (newP h23 (.cells #[(.int .i64 0)] 3) fun a25 h26 => newP h26 (.cells #[(.int .i64 0)] 2) fun a27 h28 => callP1 (tree_Check (some a25) 1 1 (some a27) 1 1 h28) fun x29 h30 => (K (x29 == (15 : Int)) h30)) (K false h23)) (K false h23)) (K false h23)) (K false h17))))
def straitlaw29_awake.ret (K : Bool → Heap → Prop) (v : Value) (h : Heap) : Prop := match v with
  | (.bool r33) => K r33 h
  | _ => False
theorem straitlaw29_awake.ret_elim {K : Bool → Heap → Prop} {K' : Value → Heap → Prop} {v : Value} {h : Heap} (hk : ∀ r33 h, K r33 h → K' (.bool r33) h) (hh : straitlaw29_awake.ret K v h) : K' v h := by
  unfold straitlaw29_awake.ret at hh
  split at hh
  · exact hk _ _ hh
  · exact hh.elim
def straitlaw29_awake.call (f : FuncId) (vs : List Value) (h : Heap) (K : Value → Heap → Prop) : Prop := match f, vs with
  | 14, [(.agg ⟨[(.slice a1 a1l a1c), (.slice a2 a2l a2c)]⟩)] => callP1 (tree_Check a1 a1l a1c a2 a2l a2c h) fun r10 h' => K (.int .i64 r10) h'
  | 23, [(.agg ⟨[(.slice a1 a1l a1c), (.slice a2 a2l a2c)]⟩), (.int .i64 a3), (.int .i64 a4)] => callP2 (tree_Least a1 a1l a1c a2 a2l a2c a3 a4 h) fun r15 r16 h' => K (.tuple #[(.int .i64 r15), (.bool r16)]) h'
  | 26, [(.agg ⟨[(.slice a1 a1l a1c), (.slice a2 a2l a2c)]⟩), (.int .i64 a3), (.int .i64 a4)] => callP3 (tree_Path a1 a1l a1c a2 a2l a2c a3 a4 h) fun r32 r32l r32c h' => K (.slice r32 r32l r32c) h'
  | _, _ => False
def straitlaw29_awake.qcall (f : FuncId) (vs : List Value) (h : Heap) (K : Value → Prop) : Prop := match f, vs with
  | 18, [(.slice a1 a1l a1c), (.slice a2 a2l a2c)] => qcallP1 h (straitref09_Ints a1 a1l a1c a2 a2l a2c h) fun r7 => K (.bool r7)
  | _, _ => False
noncomputable def straitlaw29_awake.ctx : Ctx := { P := Try.prog, call := straitlaw29_awake.call, qcall := straitlaw29_awake.qcall, quiet := fun f => Nat.beq f 18, loop := fun _ _ _ _ => False }
theorem straitlaw29_awake.ok : straitlaw29_awake.ctx.OK where
  mixed := by kernel_rfl
  mono := by
    intro f args h K K' hh hk
    change straitlaw29_awake.call f args h K at hh
    change straitlaw29_awake.call f args h K'
    unfold straitlaw29_awake.call at hh ⊢
    split at hh
    · obtain ⟨R, h1, h2⟩ := hh
      exact ⟨R, h1, fun _ x hr => hk _ _ (h2 _ x hr)⟩
    · obtain ⟨R, h1, h2⟩ := hh
      exact ⟨R, h1, fun _ _ x hr => hk _ _ (h2 _ _ x hr)⟩
    · obtain ⟨R, h1, h2⟩ := hh
      exact ⟨R, h1, fun _ _ _ x hr => hk _ _ (h2 _ _ _ x hr)⟩
    · exact hh.elim
  call := by
    intro f args h K hh w hw
    change straitlaw29_awake.call f args h K at hh
    unfold straitlaw29_awake.call at hh
    split at hh
    · obtain ⟨R, h1, h2⟩ := hh
      obtain ⟨g1, g2⟩ := tree_Check.calls h1 w hw
      exact ⟨g1, g2.mono fun e w' ⟨v, he, ho, hr⟩ => ⟨v, he, ho, tree_Check.ret_elim h2 hr⟩⟩
    · obtain ⟨R, h1, h2⟩ := hh
      obtain ⟨g1, g2⟩ := tree_Least.calls h1 w hw
      exact ⟨g1, g2.mono fun e w' ⟨v, he, ho, hr⟩ => ⟨v, he, ho, tree_Least.ret_elim h2 hr⟩⟩
    · obtain ⟨R, h1, h2⟩ := hh
      obtain ⟨g1, g2⟩ := tree_Path.calls h1 w hw
      exact ⟨g1, g2.mono fun e w' ⟨v, he, ho, hr⟩ => ⟨v, he, ho, tree_Path.ret_elim h2 hr⟩⟩
    · exact hh.elim
  qmono := by
    intro f args h K K' hh hk
    change straitlaw29_awake.qcall f args h K at hh
    change straitlaw29_awake.qcall f args h K'
    unfold straitlaw29_awake.qcall at hh ⊢
    split at hh
    · obtain ⟨x0, h1, h2⟩ := hh
      exact ⟨x0, h1, hk _ h2⟩
    · exact hh.elim
  qval := by
    intro f args h K hh
    change straitlaw29_awake.qcall f args h K at hh
    suffices H : ∃ v, K v ∧ straitlaw29_awake.qcall f args h (· = v) from H
    unfold straitlaw29_awake.qcall at hh ⊢
    split at hh
    · obtain ⟨x0, h1, h2⟩ := hh
      exact ⟨_, h2, x0, h1, rfl⟩
    · exact hh.elim
  qcall := by
    intro f args h v hh w hw
    change straitlaw29_awake.qcall f args h (· = v) at hh
    unfold straitlaw29_awake.qcall at hh
    split at hh
    · obtain ⟨x0, h1, h2⟩ := hh
      obtain ⟨g1, g2⟩ := straitref09_Ints.calls h1 w hw
      refine .inl ⟨g1, g2.mono fun e w' ⟨u, he, ho, hr⟩ => ?_⟩
      have hq := straitref09_Ints.ret_elim (K' := fun u h' => u = v ∧ h' = h) (fun _ h' hr => by obtain ⟨rfl, rfl⟩ := hr; exact ⟨h2, rfl⟩) hr
      exact ⟨hq.1 ▸ he, ho, hq.2⟩
    · exact hh.elim
noncomputable def straitlaw29_awake.code : Code := (Try.f13.body).getD .skip
def straitlaw29_awake.ann : Ann := .auto
set_option maxRecDepth 100000 in
theorem straitlaw29_awake.eq (h : Heap) (K : Bool → Heap → Prop) : evF straitlaw29_awake.ctx Try.f13 straitlaw29_awake.ann [] h (straitlaw29_awake.ret K) = straitlaw29_awake h K := by kernel_rfl
set_option maxRecDepth 100000 in
theorem straitlaw29_awake.calls {h : Heap} {K : Bool → Heap → Prop} (hh : straitlaw29_awake h K) (w : World) (hw : w.heap = h) :
    (callFunc 13 #[]).run Try.prog w = .ok (.enter 13 #[]) w ∧ Calls Try.prog 13 #[] w fun e w' => ∃ v, e = .returned v ∧ Out w w' ∧ straitlaw29_awake.ret K v w'.heap := by
  rw [← straitlaw29_awake.eq] at hh
  exact fn_calls (args := []) (c := straitlaw29_awake.code) straitlaw29_awake.ok Try.func13 (by kernel_rfl) (by kernel_rfl) (by kernel_rfl) (by kernel_rfl) (loops_ok (l := []) (by kernel_rfl) trivial) hh w hw

/-! ### strait/straitlaw29.TreeSame: function 3 -/
def straitlaw29_TreeSame (a1 : Option Addr) (a1l : Nat) (a1c : Nat) (a2 : Option Addr) (a2l : Nat) (a2c : Nat) (a3 : Option Addr) (a3l : Nat) (a3c : Nat) (a4 : Option Addr) (a4l : Nat) (a4c : Nat) (h : Heap) (K : Bool → Heap → Prop) : Prop :=
  newP h (.cells #[(.slice a1 a1l a1c), (.slice a2 a2l a2c)] 25) fun a5 h6 => newP h6 (.cells #[(.slice a3 a3l a3c), (.slice a4 a4l a4c)] 25) fun a7 h8 => (∃ (x9 : Option Addr) (x9l : Nat) (x9c : Nat), cell h8 a5 = some (.slice x9 x9l x9c) ∧ ∃ (x10 : Option Addr) (x10l : Nat) (x10c : Nat), cell h8 (a5.add 1) = some (.slice x10 x10l x10c) ∧ ∃ (x11 : Option Addr) (x11l : Nat) (x11c : Nat), cell h8 a7 = some (.slice x11 x11l x11c) ∧ ∃ (x12 : Option Addr) (x12l : Nat) (x12c : Nat), cell h8 (a7.add 1) = some (.slice x12 x12l x12c) ∧ ∃ (x13 : Option Addr) (x13l : Nat) (x13c : Nat), cell h8 a5 = some (.slice x13 x13l x13c) ∧ ∃ (x14 : Option Addr) (x14l : Nat) (x14c : Nat), cell h8 (a5.add 1) = some (.slice x14 x14l x14c) ∧ ∃ (x15 : Option Addr) (x15l : Nat) (x15c : Nat), cell h8 a7 = some (.slice x15 x15l x15c) ∧ ∃ (x16 : Option Addr) (x16l : Nat) (x16c : Nat), cell h8 (a7.add 1) = some (.slice x16 x16l x16c) ∧ callP1 (tree_Same x9 x9l x9c x10 x10l x10c x11 x11l x11c x12 x12l x12c h8) fun x17 h18 => (∃ (x19 : Option Addr) (x19l : Nat) (x19c : Nat), cell h18 a7 = some (.slice x19 x19l x19c) ∧ ∃ (x20 : Option Addr) (x20l : Nat) (x20c : Nat), cell h18 (a7.add 1) = some (.slice x20 x20l x20c) ∧ ((.agg #[(.slice x19 x19l x19c), (.slice x20 x20l x20c)]) : Value) = (.agg #[(.slice x15 x15l x15c), (.slice x16 x16l x16c)])) ∧ (∃ (x21 : Option Addr) (x21l : Nat) (x21c : Nat), cell h18 a5 = some (.slice x21 x21l x21c) ∧ ∃ (x22 : Option Addr) (x22l : Nat) (x22c : Nat), cell h18 (a5.add 1) = some (.slice x22 x22l x22c) ∧ ((.agg #[(.slice x21 x21l x21c), (.slice x22 x22l x22c)]) : Value) = (.agg #[(.slice x13 x13l x13c), (.slice x14 x14l x14c)])) ∧ callP1 (straitref29_Same x13 x13l x13c x14 x14l x14c x15 x15l x15c x16 x16l x16c h18) fun x23 h24 => iteB (x17 == x23) (∃ (x25 : Option Addr) (x25l : Nat) (x25c : Nat), cell h24 a5 = some (.slice x25 x25l x25c) ∧ ∃ (x26 : Option Addr) (x26l : Nat) (x26c : Nat), cell h24 (a5.add 1) = some (.slice x26 x26l x26c) ∧ ∃ (x27 : Option Addr) (x27l : Nat) (x27c : Nat), cell h24 a7 = some (.slice x27 x27l x27c) ∧ ∃ (x28 : Option Addr) (x28l : Nat) (x28c : Nat), cell h24 (a7.add 1) = some (.slice x28 x28l x28c) ∧ ∃ (x29 : Option Addr) (x29l : Nat) (x29c : Nat), cell h24 a7 = some (.slice x29 x29l x29c) ∧ ∃ (x30 : Option Addr) (x30l : Nat) (x30c : Nat), cell h24 (a7.add 1) = some (.slice x30 x30l x30c) ∧ ∃ (x31 : Option Addr) (x31l : Nat) (x31c : Nat), cell h24 a5 = some (.slice x31 x31l x31c) ∧ ∃ (x32 : Option Addr) (x32l : Nat) (x32c : Nat), cell h24 (a5.add 1) = some (.slice x32 x32l x32c) ∧ callP1 (tree_Same x25 x25l x25c x26 x26l x26c x27 x27l x27c x28 x28l x28c h24) fun x33 h34 => (∃ (x35 : Option Addr) (x35l : Nat) (x35c : Nat), cell h34 a5 = some (.slice x35 x35l x35c) ∧ ∃ (x36 : Option Addr) (x36l : Nat) (x36c : Nat), cell h34 (a5.add 1) = some (.slice x36 x36l x36c) ∧ ((.agg #[(.slice x35 x35l x35c), (.slice x36 x36l x36c)]) : Value) = (.agg #[(.slice x31 x31l x31c), (.slice x32 x32l x32c)])) ∧ (∃ (x37 : Option Addr) (x37l : Nat) (x37c : Nat), cell h34 a7 = some (.slice x37 x37l x37c) ∧ ∃ (x38 : Option Addr) (x38l : Nat) (x38c : Nat), cell h34 (a7.add 1) = some (.slice x38 x38l x38c) ∧ ((.agg #[(.slice x37 x37l x37c), (.slice x38 x38l x38c)]) : Value) = (.agg #[(.slice x29 x29l x29c), (.slice x30 x30l x30c)])) ∧ callP1 (tree_Same x29 x29l x29c x30 x30l x30c x31 x31l x31c x32 x32l x32c h34) fun x39 h40 => iteB (x33 == x39) (callP1 (straitlaw29_awake h40) fun x41 h42 => K x41 h42) (K false h40)) (True ∧ True ∧ K false h24))
def straitlaw29_TreeSame.ret (K : Bool → Heap → Prop) (v : Value) (h : Heap) : Prop := match v with
  | (.bool r45) => K r45 h
  | _ => False
theorem straitlaw29_TreeSame.ret_elim {K : Bool → Heap → Prop} {K' : Value → Heap → Prop} {v : Value} {h : Heap} (hk : ∀ r45 h, K r45 h → K' (.bool r45) h) (hh : straitlaw29_TreeSame.ret K v h) : K' v h := by
  unfold straitlaw29_TreeSame.ret at hh
  split at hh
  · exact hk _ _ hh
  · exact hh.elim
def straitlaw29_TreeSame.call (f : FuncId) (vs : List Value) (h : Heap) (K : Value → Heap → Prop) : Prop := match f, vs with
  | 11, [(.agg ⟨[(.slice a1 a1l a1c), (.slice a2 a2l a2c)]⟩), (.agg ⟨[(.slice a3 a3l a3c), (.slice a4 a4l a4c)]⟩)] => callP1 (tree_Same a1 a1l a1c a2 a2l a2c a3 a3l a3c a4 a4l a4c h) fun r16 h' => K (.bool r16) h'
  | 12, [(.agg ⟨[(.slice a1 a1l a1c), (.slice a2 a2l a2c)]⟩), (.agg ⟨[(.slice a3 a3l a3c), (.slice a4 a4l a4c)]⟩)] => callP1 (straitref29_Same a1 a1l a1c a2 a2l a2c a3 a3l a3c a4 a4l a4c h) fun r16 h' => K (.bool r16) h'
  | 13, [] => callP1 (straitlaw29_awake h) fun r33 h' => K (.bool r33) h'
  | _, _ => False
noncomputable def straitlaw29_TreeSame.ctx : Ctx := { P := Try.prog, call := straitlaw29_TreeSame.call, qcall := fun _ _ _ _ => False, quiet := fun f => false, loop := fun _ _ _ _ => False }
theorem straitlaw29_TreeSame.ok : straitlaw29_TreeSame.ctx.OK where
  mixed := by kernel_rfl
  mono := by
    intro f args h K K' hh hk
    change straitlaw29_TreeSame.call f args h K at hh
    change straitlaw29_TreeSame.call f args h K'
    unfold straitlaw29_TreeSame.call at hh ⊢
    split at hh
    · obtain ⟨R, h1, h2⟩ := hh
      exact ⟨R, h1, fun _ x hr => hk _ _ (h2 _ x hr)⟩
    · obtain ⟨R, h1, h2⟩ := hh
      exact ⟨R, h1, fun _ x hr => hk _ _ (h2 _ x hr)⟩
    · obtain ⟨R, h1, h2⟩ := hh
      exact ⟨R, h1, fun _ x hr => hk _ _ (h2 _ x hr)⟩
    · exact hh.elim
  call := by
    intro f args h K hh w hw
    change straitlaw29_TreeSame.call f args h K at hh
    unfold straitlaw29_TreeSame.call at hh
    split at hh
    · obtain ⟨R, h1, h2⟩ := hh
      obtain ⟨g1, g2⟩ := tree_Same.calls h1 w hw
      exact ⟨g1, g2.mono fun e w' ⟨v, he, ho, hr⟩ => ⟨v, he, ho, tree_Same.ret_elim h2 hr⟩⟩
    · obtain ⟨R, h1, h2⟩ := hh
      obtain ⟨g1, g2⟩ := straitref29_Same.calls h1 w hw
      exact ⟨g1, g2.mono fun e w' ⟨v, he, ho, hr⟩ => ⟨v, he, ho, straitref29_Same.ret_elim h2 hr⟩⟩
    · obtain ⟨R, h1, h2⟩ := hh
      obtain ⟨g1, g2⟩ := straitlaw29_awake.calls h1 w hw
      exact ⟨g1, g2.mono fun e w' ⟨v, he, ho, hr⟩ => ⟨v, he, ho, straitlaw29_awake.ret_elim h2 hr⟩⟩
    · exact hh.elim
  qmono := fun hh _ => hh.elim
  qval := fun hh => hh.elim
  qcall := fun hh => hh.elim
noncomputable def straitlaw29_TreeSame.code : Code := (Try.f3.body).getD .skip
def straitlaw29_TreeSame.ann : Ann := (.two .auto (.two (.reg [0, 0, 3, 0, 0, 31, 63, 127, 255, 255, 1023, 255, 255, 8191, 16383, 32767, 65535, 131071, 262143, 524287] (.take 0 (.take 1 (.early 3 (.early 4 (.alt 2 (.alt 5 (.take 6 (.take 7 (.take 8 (.take 9 (.early 11 (.early 12 (.alt 10 (.alt 13 (.take 14 (.take 15 (.take 16 (.alt 17 (.take 18 (.take 19 .done)) .noalt)))) .noalt) .noalt))))))) .noalt) .noalt)))))) .auto))
set_option maxRecDepth 100000 in
theorem straitlaw29_TreeSame.eq (a1 : Option Addr) (a1l : Nat) (a1c : Nat) (a2 : Option Addr) (a2l : Nat) (a2c : Nat) (a3 : Option Addr) (a3l : Nat) (a3c : Nat) (a4 : Option Addr) (a4l : Nat) (a4c : Nat) (h : Heap) (K : Bool → Heap → Prop) : evF straitlaw29_TreeSame.ctx Try.f3 straitlaw29_TreeSame.ann [(.agg #[(.slice a1 a1l a1c), (.slice a2 a2l a2c)]), (.agg #[(.slice a3 a3l a3c), (.slice a4 a4l a4c)])] h (straitlaw29_TreeSame.ret K) = straitlaw29_TreeSame a1 a1l a1c a2 a2l a2c a3 a3l a3c a4 a4l a4c h K := by kernel_rfl
set_option maxRecDepth 100000 in
theorem straitlaw29_TreeSame.calls {a1 : Option Addr} {a1l : Nat} {a1c : Nat} {a2 : Option Addr} {a2l : Nat} {a2c : Nat} {a3 : Option Addr} {a3l : Nat} {a3c : Nat} {a4 : Option Addr} {a4l : Nat} {a4c : Nat} {h : Heap} {K : Bool → Heap → Prop} (hh : straitlaw29_TreeSame a1 a1l a1c a2 a2l a2c a3 a3l a3c a4 a4l a4c h K) (w : World) (hw : w.heap = h) :
    (callFunc 3 #[(.agg #[(.slice a1 a1l a1c), (.slice a2 a2l a2c)]), (.agg #[(.slice a3 a3l a3c), (.slice a4 a4l a4c)])]).run Try.prog w = .ok (.enter 3 #[(.agg #[(.slice a1 a1l a1c), (.slice a2 a2l a2c)]), (.agg #[(.slice a3 a3l a3c), (.slice a4 a4l a4c)])]) w ∧ Calls Try.prog 3 #[(.agg #[(.slice a1 a1l a1c), (.slice a2 a2l a2c)]), (.agg #[(.slice a3 a3l a3c), (.slice a4 a4l a4c)])] w fun e w' => ∃ v, e = .returned v ∧ Out w w' ∧ straitlaw29_TreeSame.ret K v w'.heap := by
  rw [← straitlaw29_TreeSame.eq] at hh
  exact fn_calls (args := [(.agg #[(.slice a1 a1l a1c), (.slice a2 a2l a2c)]), (.agg #[(.slice a3 a3l a3c), (.slice a4 a4l a4c)])]) (c := straitlaw29_TreeSame.code) straitlaw29_TreeSame.ok Try.func3 (by kernel_rfl) (by kernel_rfl) (by kernel_rfl) (by kernel_rfl) (loops_ok (l := []) (by kernel_rfl) trivial) hh w hw

end Go.Proofs.Ytfidcekobjmamaa
