/- WRITTEN BY A PROGRAM OF THIS SESSION (gen.py): what each function asks of memory, and that the model's run comes to it. -/
import Derived.Test.YtfidcekobjmamaaProg
import Derived.Test.YtfidcekobjmamaaFw8
import Derived.Test.YtfidcekobjmamaaGT2
namespace Go.Proofs.Ytfidcekobjmamaa
open Go.Hp
set_option linter.unusedVariables false
set_option linter.unusedSimpArgs false

/-! ### strait/straitlaw29.TreeTells: function 4 -/
def straitlaw29_TreeTells (a1 : Option Addr) (a1l : Nat) (a1c : Nat) (a2 : Option Addr) (a2l : Nat) (a2c : Nat) (h : Heap) (K : Bool → Heap → Prop) : Prop :=
  newP h (.cells #[(.slice a1 a1l a1c), (.slice a2 a2l a2c)] 25) fun a3 h4 => (let j112 : Prop := (∃ (x14 : Option Addr) (x14l : Nat) (x14c : Nat), cell h4 a3 = some (.slice x14 x14l x14c) ∧ ∃ (x15 : Option Addr) (x15l : Nat) (x15c : Nat), cell h4 (a3.add 1) = some (.slice x15 x15l x15c) ∧ callP1 (tree_Check x14 x14l x14c x15 x15l x15c h4) fun x16 h17 => (iteB (x16 == (0 : Int)) (∃ (x18 : Option Addr) (x18l : Nat) (x18c : Nat), cell h17 a3 = some (.slice x18 x18l x18c) ∧ ∃ (x19 : Option Addr) (x19l : Nat) (x19c : Nat), cell h17 (a3.add 1) = some (.slice x19 x19l x19c) ∧ callP1 (straitref29_Right x18 x18l x18c x19 x19l x19c h17) fun x20 h21 => iteB ((x16 == (0 : Int)) == x20) (∃ (x22 : Option Addr) (x22l : Nat) (x22c : Nat), cell h21 a3 = some (.slice x22 x22l x22c) ∧ ∃ (x23 : Option Addr) (x23l : Nat) (x23c : Nat), cell h21 (a3.add 1) = some (.slice x23 x23l x23c) ∧ ∃ (x24 : Option Addr) (x24l : Nat) (x24c : Nat), cell h21 a3 = some (.slice x24 x24l x24c) ∧ ∃ (x25 : Option Addr) (x25l : Nat) (x25c : Nat), cell h21 (a3.add 1) = some (.slice x25 x25l x25c) ∧ callP1 (tree_Root x22 x22l x22c x23 x23l x23c h21) fun x26 h27 => (∃ (x28 : Option Addr) (x28l : Nat) (x28c : Nat), cell h27 a3 = some (.slice x28 x28l x28c) ∧ ∃ (x29 : Option Addr) (x29l : Nat) (x29c : Nat), cell h27 (a3.add 1) = some (.slice x29 x29l x29c) ∧ ((.agg #[(.slice x28 x28l x28c), (.slice x29 x29l x29c)]) : Value) = (.agg #[(.slice x24 x24l x24c), (.slice x25 x25l x25c)])) ∧ callP1 (straitref29_Root x24 x24l x24c x25 x25l x25c h27) fun x30 h31 => iteB (x26 == x30) (∃ (x32 : Option Addr) (x32l : Nat) (x32c : Nat), cell h31 a3 = some (.slice x32 x32l x32c) ∧ ∃ (x33 : Option Addr) (x33l : Nat) (x33c : Nat), cell h31 (a3.add 1) = some (.slice x33 x33l x33c) ∧ ∃ (x34 : Option Addr) (x34l : Nat) (x34c : Nat), cell h31 a3 = some (.slice x34 x34l x34c) ∧ ∃ (x35 : Option Addr) (x35l : Nat) (x35c : Nat), cell h31 (a3.add 1) = some (.slice x35 x35l x35c) ∧ callP3 (tree_Depths x32 x32l x32c x33 x33l x33c h31) fun x36 x36l x36c h37 => (∃ (x38 : Option Addr) (x38l : Nat) (x38c : Nat), cell h37 a3 = some (.slice x38 x38l x38c) ∧ ∃ (x39 : Option Addr) (x39l : Nat) (x39c : Nat), cell h37 (a3.add 1) = some (.slice x39 x39l x39c) ∧ ((.agg #[(.slice x38 x38l x38c), (.slice x39 x39l x39c)]) : Value) = (.agg #[(.slice x34 x34l x34c), (.slice x35 x35l x35c)])) ∧ callP3 (straitref29_Depths x34 x34l x34c x35 x35l x35c h37) fun x40 x40l x40c h41 => qcallP1 h41 (straitref09_Ints x36 x36l x36c x40 x40l x40c h41) fun x42 => iteB x42 (∃ (x43 : Option Addr) (x43l : Nat) (x43c : Nat), cell h41 a3 = some (.slice x43 x43l x43c) ∧ ∃ (x44 : Option Addr) (x44l : Nat) (x44c : Nat), cell h41 (a3.add 1) = some (.slice x44 x44l x44c) ∧ ∃ (x45 : Option Addr) (x45l : Nat) (x45c : Nat), cell h41 a3 = some (.slice x45 x45l x45c) ∧ ∃ (x46 : Option Addr) (x46l : Nat) (x46c : Nat), cell h41 (a3.add 1) = some (.slice x46 x46l x46c) ∧ callP3 (tree_Order x43 x43l x43c x44 x44l x44c h41) fun x47 x47l x47c h48 => (∃ (x49 : Option Addr) (x49l : Nat) (x49c : Nat), cell h48 a3 = some (.slice x49 x49l x49c) ∧ ∃ (x50 : Option Addr) (x50l : Nat) (x50c : Nat), cell h48 (a3.add 1) = some (.slice x50 x50l x50c) ∧ ((.agg #[(.slice x49 x49l x49c), (.slice x50 x50l x50c)]) : Value) = (.agg #[(.slice x45 x45l x45c), (.slice x46 x46l x46c)])) ∧ callP3 (straitref29_Order x45 x45l x45c x46 x46l x46c h48) fun x51 x51l x51c h52 => qcallP1 h52 (straitref09_Ints x47 x47l x47c x51 x51l x51c h52) fun x53 => iteB x53 (∃ (x54 : Option Addr) (x54l : Nat) (x54c : Nat), cell h52 a3 = some (.slice x54 x54l x54c) ∧ ∃ (x55 : Option Addr) (x55l : Nat) (x55c : Nat), cell h52 (a3.add 1) = some (.slice x55 x55l x55c) ∧ ∃ (x56 : Option Addr) (x56l : Nat) (x56c : Nat), cell h52 a3 = some (.slice x56 x56l x56c) ∧ ∃ (x57 : Option Addr) (x57l : Nat) (x57c : Nat), cell h52 (a3.add 1) = some (.slice x57 x57l x57c) ∧ callP1 (tree_Same x54 x54l x54c x55 x55l x55c x56 x56l x56c x57 x57l x57c h52) fun x58 h59 => iteB x58 (callP1 (straitlaw29_awake h59) fun x60 h61 => K x60 h61) (K false h59)) (K false h52)) (True ∧ K false h41)) (True ∧ True ∧ K false h31)) (True ∧ True ∧ True ∧ K false h21)) (∃ (x62 : Option Addr) (x62l : Nat) (x62c : Nat), cell h17 a3 = some (.slice x62 x62l x62c) ∧ ∃ (x63 : Option Addr) (x63l : Nat) (x63c : Nat), cell h17 (a3.add 1) = some (.slice x63 x63l x63c) ∧ callP1 (tree_Check x62 x62l x62c x63 x63l x63c h17) fun x64 h65 => iteB (x64 == (15 : Int)) (∃ (x66 : Option Addr) (x66l : Nat) (x66c : Nat), cell h65 a3 = some (.slice x66 x66l x66c) ∧ ∃ (x67 : Option Addr) (x67l : Nat) (x67c : Nat), cell h65 (a3.add 1) = some (.slice x67 x67l x67c) ∧ callP1 (straitref29_Right x66 x66l x66c x67 x67l x67c h65) fun x68 h69 => iteB ((x16 == (0 : Int)) == x68) (∃ (x70 : Option Addr) (x70l : Nat) (x70c : Nat), cell h69 a3 = some (.slice x70 x70l x70c) ∧ ∃ (x71 : Option Addr) (x71l : Nat) (x71c : Nat), cell h69 (a3.add 1) = some (.slice x71 x71l x71c) ∧ ∃ (x72 : Option Addr) (x72l : Nat) (x72c : Nat), cell h69 a3 = some (.slice x72 x72l x72c) ∧ ∃ (x73 : Option Addr) (x73l : Nat) (x73c : Nat), cell h69 (a3.add 1) = some (.slice x73 x73l x73c) ∧ callP1 (tree_Root x70 x70l x70c x71 x71l x71c h69) fun x74 h75 => (∃ (x76 : Option Addr) (x76l : Nat) (x76c : Nat), cell h75 a3 = some (.slice x76 x76l x76c) ∧ ∃ (x77 : Option Addr) (x77l : Nat) (x77c : Nat), cell h75 (a3.add 1) = some (.slice x77 x77l x77c) ∧ ((.agg #[(.slice x76 x76l x76c), (.slice x77 x77l x77c)]) : Value) = (.agg #[(.slice x72 x72l x72c), (.slice x73 x73l x73c)])) ∧ callP1 (straitref29_Root x72 x72l x72c x73 x73l x73c h75) fun x78 h79 => iteB (x74 == x78) (∃ (x80 : Option Addr) (x80l : Nat) (x80c : Nat), cell h79 a3 = some (.slice x80 x80l x80c) ∧ ∃ (x81 : Option Addr) (x81l : Nat) (x81c : Nat), cell h79 (a3.add 1) = some (.slice x81 x81l x81c) ∧ ∃ (x82 : Option Addr) (x82l : Nat) (x82c : Nat), cell h79 a3 = some (.slice x82 x82l x82c) ∧ ∃ (x83 : Option Addr) (x83l : Nat) (x83c : Nat), cell h79 (a3.add 1) = some (.slice x83 x83l x83c) ∧ callP3 (tree_Depths x80 x80l x80c x81 x81l x81c h79) fun x84 x84l x84c h85 => (∃ (x86 : Option Addr) (x86l : Nat) (x86c : Nat), cell h85 a3 = some (.slice x86 x86l x86c) ∧ ∃ (x87 : Option Addr) (x87l : Nat) (x87c : Nat), cell h85 (a3.add 1) = some (.slice x87 x87l x87c) ∧ ((.agg #[(.slice x86 x86l x86c), (.slice x87 x87l x87c)]) : Value) = (.agg #[(.slice x82 x82l x82c), (.slice x83 x83l x83c)])) ∧ callP3 (straitref29_Depths x82 x82l x82c x83 x83l x83c h85) fun x88 x88l x88c h89 => qcallP1 h89 (straitref09_Ints x84 x84l x84c x88 x88l x88c h89) fun x90 => iteB x90 (∃ (x91 : Option Addr) (x91l : Nat) (x91c : Nat), cell h89 a3 = some (.slice x91 x91l x91c) ∧ ∃ (x92 : Option Addr) (x92l : Nat) (x92c : Nat), cell h89 (a3.add 1) = some (.slice x92 x92l x92c) ∧ ∃ (x93 : Option Addr) (x93l : Nat) (x93c : Nat), cell h89 a3 = some (.slice x93 x93l x93c) ∧ ∃ (x94 : Option Addr) (x94l : Nat) (x94c : Nat), cell h89 (a3.add 1) = some (.slice x94 x94l x94c) ∧ callP3 (tree_Order x91 x91l x91c x92 x92l x92c h89) fun x95 x95l x95c h96 => (∃ (x97 : Option Addr) (x97l : Nat) (x97c : Nat), cell h96 a3 = some (.slice x97 x97l x97c) ∧ ∃ (x98 : Option Addr) (x98l : Nat) (x98c : Nat), cell h96 (a3.add 1) = some (.slice x98 x98l x98c) ∧ ((.agg #[(.slice x97 x97l x97c), (.slice x98 x98l x98c)]) : Value) = (.agg #[(.slice x93 x93l x93c), (.slice x94 x94l x94c)])) ∧ callP3 (straitref29_Order x93 x93l x93c x94 x94l x94c h96) fun x99 x99l x99c h100 => qcallP1 h100 (straitref09_Ints x95 x95l x95c x99 x99l x99c h100) fun x101 => iteB x101 (∃ (x102 : Option Addr) (x102l : Nat) (x102c : Nat), cell h100 a3 = some (.slice x102 x102l x102c) ∧ ∃ (x103 : Option Addr) (x103l : Nat) (x103c : Nat), cell h100 (a3.add 1) = some (.slice x103 x103l x103c) ∧ ∃ (x104 : Option Addr) (x104l : Nat) (x104c : Nat), cell h100 a3 = some (.slice x104 x104l x104c) ∧ ∃ (x105 : Option Addr) (x105l : Nat) (x105c : Nat), cell h100 (a3.add 1) = some (.slice x105 x105l x105c) ∧ callP1 (tree_Same x102 x102l x102c x103 x103l x103c x104 x104l x104c x105 x105l x105c h100) fun x106 h107 => iteB x106 (callP1 (straitlaw29_awake h107) fun x108 h109 => K x108 h109) (K false h107)) (K false h100)) (True ∧ K false h89)) (True ∧ True ∧ K false h79)) (True ∧ True ∧ True ∧ K false h69)) (True ∧ True ∧ True ∧ K false h65))));
  ∃ (x5 : Option Addr) (x5l : Nat) (x5c : Nat), cell h4 a3 = some (.slice x5 x5l x5c) ∧ iteB (decide ((x5l : Int) > (40 : Int))) ((callP1 (straitlaw29_awake h4) fun x10 h11 => K x10 h11)) (∃ (x6 : Option Addr) (x6l : Nat) (x6c : Nat), cell h4 (a3.add 1) = some (.slice x6 x6l x6c) ∧ (iteB (decide ((x6l : Int) > (5000 : Int))) (callP1 (straitlaw29_awake h4) fun x12 h13 => K x12 h13) ((j112)))))
def straitlaw29_TreeTells.ret (K : Bool → Heap → Prop) (v : Value) (h : Heap) : Prop := match v with
  | (.bool r113) => K r113 h
  | _ => False
theorem straitlaw29_TreeTells.ret_elim {K : Bool → Heap → Prop} {K' : Value → Heap → Prop} {v : Value} {h : Heap} (hk : ∀ r113 h, K r113 h → K' (.bool r113) h) (hh : straitlaw29_TreeTells.ret K v h) : K' v h := by
  unfold straitlaw29_TreeTells.ret at hh
  split at hh
  · exact hk _ _ hh
  · exact hh.elim
def straitlaw29_TreeTells.call (f : FuncId) (vs : List Value) (h : Heap) (K : Value → Heap → Prop) : Prop := match f, vs with
  | 11, [(.agg ⟨[(.slice a1 a1l a1c), (.slice a2 a2l a2c)]⟩), (.agg ⟨[(.slice a3 a3l a3c), (.slice a4 a4l a4c)]⟩)] => callP1 (tree_Same a1 a1l a1c a2 a2l a2c a3 a3l a3c a4 a4l a4c h) fun r16 h' => K (.bool r16) h'
  | 13, [] => callP1 (straitlaw29_awake h) fun r33 h' => K (.bool r33) h'
  | 14, [(.agg ⟨[(.slice a1 a1l a1c), (.slice a2 a2l a2c)]⟩)] => callP1 (tree_Check a1 a1l a1c a2 a2l a2c h) fun r10 h' => K (.int .i64 r10) h'
  | 15, [(.agg ⟨[(.slice a1 a1l a1c), (.slice a2 a2l a2c)]⟩)] => callP1 (straitref29_Right a1 a1l a1c a2 a2l a2c h) fun r33 h' => K (.bool r33) h'
  | 16, [(.agg ⟨[(.slice a1 a1l a1c), (.slice a2 a2l a2c)]⟩)] => callP1 (tree_Root a1 a1l a1c a2 a2l a2c h) fun r11 h' => K (.int .i64 r11) h'
  | 17, [(.agg ⟨[(.slice a1 a1l a1c), (.slice a2 a2l a2c)]⟩)] => callP1 (straitref29_Root a1 a1l a1c a2 a2l a2c h) fun r15 h' => K (.int .i64 r15) h'
  | 19, [(.agg ⟨[(.slice a1 a1l a1c), (.slice a2 a2l a2c)]⟩)] => callP3 (tree_Depths a1 a1l a1c a2 a2l a2c h) fun r10 r10l r10c h' => K (.slice r10 r10l r10c) h'
  | 20, [(.agg ⟨[(.slice a1 a1l a1c), (.slice a2 a2l a2c)]⟩)] => callP3 (straitref29_Depths a1 a1l a1c a2 a2l a2c h) fun r8 r8l r8c h' => K (.slice r8 r8l r8c) h'
  | 21, [(.agg ⟨[(.slice a1 a1l a1c), (.slice a2 a2l a2c)]⟩)] => callP3 (tree_Order a1 a1l a1c a2 a2l a2c h) fun r19 r19l r19c h' => K (.slice r19 r19l r19c) h'
  | 22, [(.agg ⟨[(.slice a1 a1l a1c), (.slice a2 a2l a2c)]⟩)] => callP3 (straitref29_Order a1 a1l a1c a2 a2l a2c h) fun r12 r12l r12c h' => K (.slice r12 r12l r12c) h'
  | _, _ => False
def straitlaw29_TreeTells.qcall (f : FuncId) (vs : List Value) (h : Heap) (K : Value → Prop) : Prop := match f, vs with
  | 18, [(.slice a1 a1l a1c), (.slice a2 a2l a2c)] => qcallP1 h (straitref09_Ints a1 a1l a1c a2 a2l a2c h) fun r7 => K (.bool r7)
  | _, _ => False
noncomputable def straitlaw29_TreeTells.ctx : Ctx := { P := Try.prog, call := straitlaw29_TreeTells.call, qcall := straitlaw29_TreeTells.qcall, quiet := fun f => Nat.beq f 18, loop := fun _ _ _ _ => False }
theorem straitlaw29_TreeTells.ok : straitlaw29_TreeTells.ctx.OK where
  mixed := by kernel_rfl
  mono := by
    intro f args h K K' hh hk
    change straitlaw29_TreeTells.call f args h K at hh
    change straitlaw29_TreeTells.call f args h K'
    unfold straitlaw29_TreeTells.call at hh ⊢
    split at hh
    · obtain ⟨R, h1, h2⟩ := hh
      exact ⟨R, h1, fun _ x hr => hk _ _ (h2 _ x hr)⟩
    · obtain ⟨R, h1, h2⟩ := hh
      exact ⟨R, h1, fun _ x hr => hk _ _ (h2 _ x hr)⟩
    · obtain ⟨R, h1, h2⟩ := hh
      exact ⟨R, h1, fun _ x hr => hk _ _ (h2 _ x hr)⟩
    · obtain ⟨R, h1, h2⟩ := hh
      exact ⟨R, h1, fun _ x hr => hk _ _ (h2 _ x hr)⟩
    · obtain ⟨R, h1, h2⟩ := hh
      exact ⟨R, h1, fun _ x hr => hk _ _ (h2 _ x hr)⟩
    · obtain ⟨R, h1, h2⟩ := hh
      exact ⟨R, h1, fun _ x hr => hk _ _ (h2 _ x hr)⟩
    · obtain ⟨R, h1, h2⟩ := hh
      exact ⟨R, h1, fun _ _ _ x hr => hk _ _ (h2 _ _ _ x hr)⟩
    · obtain ⟨R, h1, h2⟩ := hh
      exact ⟨R, h1, fun _ _ _ x hr => hk _ _ (h2 _ _ _ x hr)⟩
    · obtain ⟨R, h1, h2⟩ := hh
      exact ⟨R, h1, fun _ _ _ x hr => hk _ _ (h2 _ _ _ x hr)⟩
    · obtain ⟨R, h1, h2⟩ := hh
      exact ⟨R, h1, fun _ _ _ x hr => hk _ _ (h2 _ _ _ x hr)⟩
    · exact hh.elim
  call := by
    intro f args h K hh w hw
    change straitlaw29_TreeTells.call f args h K at hh
    unfold straitlaw29_TreeTells.call at hh
    split at hh
    · obtain ⟨R, h1, h2⟩ := hh
      obtain ⟨g1, g2⟩ := tree_Same.calls h1 w hw
      exact ⟨g1, g2.mono fun e w' ⟨v, he, ho, hr⟩ => ⟨v, he, ho, tree_Same.ret_elim h2 hr⟩⟩
    · obtain ⟨R, h1, h2⟩ := hh
      obtain ⟨g1, g2⟩ := straitlaw29_awake.calls h1 w hw
      exact ⟨g1, g2.mono fun e w' ⟨v, he, ho, hr⟩ => ⟨v, he, ho, straitlaw29_awake.ret_elim h2 hr⟩⟩
    · obtain ⟨R, h1, h2⟩ := hh
      obtain ⟨g1, g2⟩ := tree_Check.calls h1 w hw
      exact ⟨g1, g2.mono fun e w' ⟨v, he, ho, hr⟩ => ⟨v, he, ho, tree_Check.ret_elim h2 hr⟩⟩
    · obtain ⟨R, h1, h2⟩ := hh
      obtain ⟨g1, g2⟩ := straitref29_Right.calls h1 w hw
      exact ⟨g1, g2.mono fun e w' ⟨v, he, ho, hr⟩ => ⟨v, he, ho, straitref29_Right.ret_elim h2 hr⟩⟩
    · obtain ⟨R, h1, h2⟩ := hh
      obtain ⟨g1, g2⟩ := tree_Root.calls h1 w hw
      exact ⟨g1, g2.mono fun e w' ⟨v, he, ho, hr⟩ => ⟨v, he, ho, tree_Root.ret_elim h2 hr⟩⟩
    · obtain ⟨R, h1, h2⟩ := hh
      obtain ⟨g1, g2⟩ := straitref29_Root.calls h1 w hw
      exact ⟨g1, g2.mono fun e w' ⟨v, he, ho, hr⟩ => ⟨v, he, ho, straitref29_Root.ret_elim h2 hr⟩⟩
    · obtain ⟨R, h1, h2⟩ := hh
      obtain ⟨g1, g2⟩ := tree_Depths.calls h1 w hw
      exact ⟨g1, g2.mono fun e w' ⟨v, he, ho, hr⟩ => ⟨v, he, ho, tree_Depths.ret_elim h2 hr⟩⟩
    · obtain ⟨R, h1, h2⟩ := hh
      obtain ⟨g1, g2⟩ := straitref29_Depths.calls h1 w hw
      exact ⟨g1, g2.mono fun e w' ⟨v, he, ho, hr⟩ => ⟨v, he, ho, straitref29_Depths.ret_elim h2 hr⟩⟩
    · obtain ⟨R, h1, h2⟩ := hh
      obtain ⟨g1, g2⟩ := tree_Order.calls h1 w hw
      exact ⟨g1, g2.mono fun e w' ⟨v, he, ho, hr⟩ => ⟨v, he, ho, tree_Order.ret_elim h2 hr⟩⟩
    · obtain ⟨R, h1, h2⟩ := hh
      obtain ⟨g1, g2⟩ := straitref29_Order.calls h1 w hw
      exact ⟨g1, g2.mono fun e w' ⟨v, he, ho, hr⟩ => ⟨v, he, ho, straitref29_Order.ret_elim h2 hr⟩⟩
    · exact hh.elim
  qmono := by
    intro f args h K K' hh hk
    change straitlaw29_TreeTells.qcall f args h K at hh
    change straitlaw29_TreeTells.qcall f args h K'
    unfold straitlaw29_TreeTells.qcall at hh ⊢
    split at hh
    · obtain ⟨x0, h1, h2⟩ := hh
      exact ⟨x0, h1, hk _ h2⟩
    · exact hh.elim
  qval := by
    intro f args h K hh
    change straitlaw29_TreeTells.qcall f args h K at hh
    suffices H : ∃ v, K v ∧ straitlaw29_TreeTells.qcall f args h (· = v) from H
    unfold straitlaw29_TreeTells.qcall at hh ⊢
    split at hh
    · obtain ⟨x0, h1, h2⟩ := hh
      exact ⟨_, h2, x0, h1, rfl⟩
    · exact hh.elim
  qcall := by
    intro f args h v hh w hw
    change straitlaw29_TreeTells.qcall f args h (· = v) at hh
    unfold straitlaw29_TreeTells.qcall at hh
    split at hh
    · obtain ⟨x0, h1, h2⟩ := hh
      obtain ⟨g1, g2⟩ := straitref09_Ints.calls h1 w hw
      refine .inl ⟨g1, g2.mono fun e w' ⟨u, he, ho, hr⟩ => ?_⟩
      have hq := straitref09_Ints.ret_elim (K' := fun u h' => u = v ∧ h' = h) (fun _ h' hr => by obtain ⟨rfl, rfl⟩ := hr; exact ⟨h2, rfl⟩) hr
      exact ⟨hq.1 ▸ he, ho, hq.2⟩
    · exact hh.elim
noncomputable def straitlaw29_TreeTells.code : Code := (Try.f4.body).getD .skip
def straitlaw29_TreeTells.ann : Ann := (.two .auto (.two .auto (.two .auto (.two (.reg [0, 1, 3, 7, 15, 31, 63, 127, 127, 383, 1023, 2047, 4095, 8191, 16383, 8191, 65535, 131071, 262143, 524287, 1048575, 2097151, 1048575, 8388607, 16777215, 33554431, 67108863, 134217727, 268435455, 134217727, 1073741823, 2147483647, 4294967295, 8589934591, 17179869183, 17179869183, 68719476735, 137438953471, 274877906943, 549755813887, 1099511627775, 2199023255551] (.take 0 (.take 1 (.take 2 (.alt 3 (.take 4 (.take 5 (.take 6 (.take 7 (.take 8 (.alt 9 (.take 10 (.take 11 (.take 12 (.take 13 (.early 15 (.alt 14 (.alt 16 (.take 17 (.take 18 (.take 19 (.take 20 (.early 22 (.alt 21 (.alt 23 (.take 24 (.take 25 (.take 26 (.take 27 (.early 29 (.alt 28 (.alt 30 (.take 31 (.take 32 (.take 33 (.take 34 (.take 35 (.alt 36 (.take 37 (.take 38 (.alt 39 (.take 40 (.take 41 .done)) .noalt))) .noalt)))))) .noalt) .noalt)))))) .noalt) .noalt)))))) .noalt) .noalt)))))) .noalt)))))) .noalt))))) .auto))))
set_option maxRecDepth 100000 in
theorem straitlaw29_TreeTells.eq (a1 : Option Addr) (a1l : Nat) (a1c : Nat) (a2 : Option Addr) (a2l : Nat) (a2c : Nat) (h : Heap) (K : Bool → Heap → Prop) : evF straitlaw29_TreeTells.ctx Try.f4 straitlaw29_TreeTells.ann [(.agg #[(.slice a1 a1l a1c), (.slice a2 a2l a2c)])] h (straitlaw29_TreeTells.ret K) = straitlaw29_TreeTells a1 a1l a1c a2 a2l a2c h K := by kernel_rfl
set_option maxRecDepth 100000 in
theorem straitlaw29_TreeTells.calls {a1 : Option Addr} {a1l : Nat} {a1c : Nat} {a2 : Option Addr} {a2l : Nat} {a2c : Nat} {h : Heap} {K : Bool → Heap → Prop} (hh : straitlaw29_TreeTells a1 a1l a1c a2 a2l a2c h K) (w : World) (hw : w.heap = h) :
    (callFunc 4 #[(.agg #[(.slice a1 a1l a1c), (.slice a2 a2l a2c)])]).run Try.prog w = .ok (.enter 4 #[(.agg #[(.slice a1 a1l a1c), (.slice a2 a2l a2c)])]) w ∧ Calls Try.prog 4 #[(.agg #[(.slice a1 a1l a1c), (.slice a2 a2l a2c)])] w fun e w' => ∃ v, e = .returned v ∧ Out w w' ∧ straitlaw29_TreeTells.ret K v w'.heap := by
  rw [← straitlaw29_TreeTells.eq] at hh
  exact fn_calls (args := [(.agg #[(.slice a1 a1l a1c), (.slice a2 a2l a2c)])]) (c := straitlaw29_TreeTells.code) straitlaw29_TreeTells.ok Try.func4 (by kernel_rfl) (by kernel_rfl) (by kernel_rfl) (by kernel_rfl) (loops_ok (l := []) (by kernel_rfl) trivial) hh w hw

/-! ### slices.Sort[[]int,int]: function 54, by its contract -/
def slices_Sort_Lint_int.ret (K : Heap → Prop) (v : Value) (h : Heap) : Prop := match v with
  | (.tuple ⟨[]⟩) => K h
  | _ => False
theorem slices_Sort_Lint_int.ret_elim {K : Heap → Prop} {K' : Value → Heap → Prop} {v : Value} {h : Heap} (hk : ∀  h, K h → K' (.tuple #[]) h) (hh : slices_Sort_Lint_int.ret K v h) : K' v h := by
  unfold slices_Sort_Lint_int.ret at hh
  split at hh
  · exact hk _ hh
  · exact hh.elim
def slices_Sort_Lint_int (a1 : Option Addr) (a1l : Nat) (a1c : Nat) (h : Heap) (K : Heap → Prop) : Prop := ∀ w : World, w.heap = h → (callFunc 54 #[(.slice a1 a1l a1c)]).run Try.prog w = .ok (.enter 54 #[(.slice a1 a1l a1c)]) w ∧ Calls Try.prog 54 #[(.slice a1 a1l a1c)] w fun e w' => ∃ v, e = .returned v ∧ Out w w' ∧ slices_Sort_Lint_int.ret K v w'.heap
theorem slices_Sort_Lint_int.calls {a1 : Option Addr} {a1l : Nat} {a1c : Nat} {h : Heap} {K : Heap → Prop} (hh : slices_Sort_Lint_int a1 a1l a1c h K) (w : World) (hw : w.heap = h) : (callFunc 54 #[(.slice a1 a1l a1c)]).run Try.prog w = .ok (.enter 54 #[(.slice a1 a1l a1c)]) w ∧ Calls Try.prog 54 #[(.slice a1 a1l a1c)] w fun e w' => ∃ v, e = .returned v ∧ Out w w' ∧ slices_Sort_Lint_int.ret K v w'.heap := hh w hw

/-! ### strait/tree.Below: function 24 -/
def tree_Below.b0 (K2 : (Option Addr) → Nat → Nat → Heap → Prop) (cont : Int → Addr → Addr → Nat → Nat → (Option Addr) → Nat → Nat → (Option Addr) → Nat → Nat → Int → Int → Heap → Prop) (c1_1001 : Int) (c2_1002 : Addr) (c5_1003 : Addr) (c5_1004 : Nat) (c5_1005 : Nat) (v6_1006 : Option Addr) (v6_1006l : Nat) (v6_1006c : Nat) (c23_1007 : Option Addr) (c23_1008 : Nat) (c23_1009 : Nat) (c24_1010 : Int) (v25_1011 : Int) (h1012 : Heap) : Prop :=
  (iteB (decide (v25_1011 < c24_1010)) ((chkP c23_1007 fun a1013 => (0 ≤ v25_1011 ∧ v25_1011 < (c23_1008 : Int)) ∧ ∃ (x1014 : Int), cell h1012 (a1013.add (v25_1011.toNat * 1)) = some (.int .i64 x1014) ∧ (let j1031 := (fun (y1022 : Bool) => iteB y1022 ((0 ≤ x1014 ∧ x1014 < (c5_1004 : Int)) ∧ stC h1012 (c5_1003.add (x1014.toNat * 1)) (.bool true) fun h1023 => (newP h1023 (.cells #[(.int .i64 x1014)] 3) fun a1024 h1025 => ∃ n1030, cellsAt h1025 (some a1024) (1 * 1) n1030 ∧ appP 3 1 8 [(.int .i64 0)] v6_1006 v6_1006l v6_1006c 1 n1030 h1025 fun q1026 l1027 c1028 h1029 => ((cont c1_1001 c2_1002 c5_1003 c5_1004 c5_1005 q1026 l1027 c1028 c23_1007 c23_1008 c23_1009 c24_1010 (IntKind.i64.wrap (v25_1011 + 1)) h1029)))) (((cont c1_1001 c2_1002 c5_1003 c5_1004 c5_1005 v6_1006 v6_1006l v6_1006c c23_1007 c23_1008 c23_1009 c24_1010 (IntKind.i64.wrap (v25_1011 + 1)) h1012))));
  iteB (x1014 == c1_1001) ((j1031 true)) (∃ (x1015 : Option Addr) (x1015l : Nat) (x1015c : Nat), cell h1012 c2_1002 = some (.slice x1015 x1015l x1015c) ∧ chkP x1015 fun a1016 => (0 ≤ x1014 ∧ x1014 < (x1015l : Int)) ∧ ∃ (x1017 : Int), cell h1012 (a1016.add (x1014.toNat * 1)) = some (.int .i64 x1017) ∧ iteB (decide (x1017 ≥ (0 : Int))) (∃ (x1018 : Option Addr) (x1018l : Nat) (x1018c : Nat), cell h1012 c2_1002 = some (.slice x1018 x1018l x1018c) ∧ chkP x1018 fun a1019 => (0 ≤ x1014 ∧ x1014 < (x1018l : Int)) ∧ ∃ (x1020 : Int), cell h1012 (a1019.add (x1014.toNat * 1)) = some (.int .i64 x1020) ∧ (0 ≤ x1020 ∧ x1020 < (c5_1004 : Int)) ∧ ∃ (x1021 : Bool), cell h1012 (c5_1003.add (x1020.toNat * 1)) = some (.bool x1021) ∧ (j1031 x1021)) ((j1031 false)))))) (K2 v6_1006 v6_1006l v6_1006c h1012))
def tree_Below.l0 (K2 : (Option Addr) → Nat → Nat → Heap → Prop) : Nat → Int → Addr → Addr → Nat → Nat → (Option Addr) → Nat → Nat → (Option Addr) → Nat → Nat → Int → Int → Heap → Prop
  | 0, _, _, _, _, _, _, _, _, _, _, _, _, _, _ => False
  | m + 1, c1_1001, c2_1002, c5_1003, c5_1004, c5_1005, v6_1006, v6_1006l, v6_1006c, c23_1007, c23_1008, c23_1009, c24_1010, v25_1011, h => tree_Below.b0 K2 (tree_Below.l0 K2 m) c1_1001 c2_1002 c5_1003 c5_1004 c5_1005 v6_1006 v6_1006l v6_1006c c23_1007 c23_1008 c23_1009 c24_1010 v25_1011 h
def tree_Below (a1 : Option Addr) (a1l : Nat) (a1c : Nat) (a2 : Option Addr) (a2l : Nat) (a2c : Nat) (a3 : Int) (h : Heap) (K : (Option Addr) → Nat → Nat → Heap → Prop) : Prop :=
  newP h (.cells #[(.slice a1 a1l a1c), (.slice a2 a2l a2c)] 25) fun a4 h5 => (let j19 : Prop := (∃ (x8 : Option Addr) (x8l : Nat) (x8c : Nat), cell h5 a4 = some (.slice x8 x8l x8c) ∧ (0 ≤ (x8l : Int) ∧ (x8l : Int) ≤ (x8l : Int) ∧ (x8l : Int) * (1 : Nat) ≤ 2 ^ 47 ∧ (x8l : Int) ≤ 2 ^ 47) ∧ newP h5 (.cells (zeroRow [(.bool false)] (x8l : Int).toNat).toArray 4) fun a9 h10 => ((∃ (x11 : Option Addr) (x11l : Nat) (x11c : Nat), cell h10 a4 = some (.slice x11 x11l x11c) ∧ ∃ (x12 : Option Addr) (x12l : Nat) (x12c : Nat), cell h10 (a4.add 1) = some (.slice x12 x12l x12c) ∧ callP3 (tree_Order x11 x11l x11c x12 x12l x12c h10) fun x13 x13l x13c h14 => (∃ m17, tree_Below.l0 (fun z15 z15l z15c h16 => ((callP0 (slices_Sort_Lint_int z15 z15l z15c h16) fun h18 => K z15 z15l z15c h18))) m17 a3 a4 a9 ((x8l : Int).toNat) ((x8l : Int).toNat) none 0 0 x13 x13l x13c (x13l : Int) 0 h14))));
  iteB (decide (a3 < (0 : Int))) (K none 0 0 h5) (∃ (x6 : Option Addr) (x6l : Nat) (x6c : Nat), cell h5 a4 = some (.slice x6 x6l x6c) ∧ (iteB (decide (a3 ≥ (x6l : Int))) (K none 0 0 h5) ((j19)))))
def tree_Below.ret (K : (Option Addr) → Nat → Nat → Heap → Prop) (v : Value) (h : Heap) : Prop := match v with
  | (.slice r20 r20l r20c) => K r20 r20l r20c h
  | _ => False
theorem tree_Below.ret_elim {K : (Option Addr) → Nat → Nat → Heap → Prop} {K' : Value → Heap → Prop} {v : Value} {h : Heap} (hk : ∀ r20 r20l r20c h, K r20 r20l r20c h → K' (.slice r20 r20l r20c) h) (hh : tree_Below.ret K v h) : K' v h := by
  unfold tree_Below.ret at hh
  split at hh
  · exact hk _ _ _ _ hh
  · exact hh.elim
def tree_Below.call (f : FuncId) (vs : List Value) (h : Heap) (K : Value → Heap → Prop) : Prop := match f, vs with
  | 21, [(.agg ⟨[(.slice a1 a1l a1c), (.slice a2 a2l a2c)]⟩)] => callP3 (tree_Order a1 a1l a1c a2 a2l a2c h) fun r19 r19l r19c h' => K (.slice r19 r19l r19c) h'
  | 54, [(.slice a1 a1l a1c)] => callP0 (slices_Sort_Lint_int a1 a1l a1c h) fun h' => K (.tuple #[]) h'
  | _, _ => False
def tree_Below.r0 (K : Nat → List Value → Heap → Prop) (m : Nat) (vs : List Value) (h : Heap) : Prop := match vs with
  | [(.int .i64 c1_1001), (.pointer (some c2_1002)), (.slice (some c5_1003) c5_1004 c5_1005), (.slice v6_1006 v6_1006l v6_1006c), (.slice c23_1007 c23_1008 c23_1009), (.int .i64 c24_1010), (.int .i64 v25_1011)] => tree_Below.l0 (fun z21 z21l z21c h' => K 2 [(.slice z21 z21l z21c)] h') m c1_1001 c2_1002 c5_1003 c5_1004 c5_1005 v6_1006 v6_1006l v6_1006c c23_1007 c23_1008 c23_1009 c24_1010 v25_1011 h
  | _ => False
def tree_Below.loop (i : Nat) (vs : List Value) (h : Heap) (K : Nat → List Value → Heap → Prop) : Prop := match i with
  | 0 => ∃ m, tree_Below.r0 K m vs h
  | _ => False
noncomputable def tree_Below.ctx : Ctx := { P := Try.prog, call := tree_Below.call, qcall := fun _ _ _ _ => False, quiet := fun f => false, loop := tree_Below.loop }
theorem tree_Below.ok : tree_Below.ctx.OK where
  mixed := by kernel_rfl
  mono := by
    intro f args h K K' hh hk
    change tree_Below.call f args h K at hh
    change tree_Below.call f args h K'
    unfold tree_Below.call at hh ⊢
    split at hh
    · obtain ⟨R, h1, h2⟩ := hh
      exact ⟨R, h1, fun _ _ _ x hr => hk _ _ (h2 _ _ _ x hr)⟩
    · obtain ⟨R, h1, h2⟩ := hh
      exact ⟨R, h1, fun x hr => hk _ _ (h2 x hr)⟩
    · exact hh.elim
  call := by
    intro f args h K hh w hw
    change tree_Below.call f args h K at hh
    unfold tree_Below.call at hh
    split at hh
    · obtain ⟨R, h1, h2⟩ := hh
      obtain ⟨g1, g2⟩ := tree_Order.calls h1 w hw
      exact ⟨g1, g2.mono fun e w' ⟨v, he, ho, hr⟩ => ⟨v, he, ho, tree_Order.ret_elim h2 hr⟩⟩
    · obtain ⟨R, h1, h2⟩ := hh
      obtain ⟨g1, g2⟩ := slices_Sort_Lint_int.calls h1 w hw
      exact ⟨g1, g2.mono fun e w' ⟨v, he, ho, hr⟩ => ⟨v, he, ho, slices_Sort_Lint_int.ret_elim h2 hr⟩⟩
    · exact hh.elim
  qmono := fun hh _ => hh.elim
  qval := fun hh => hh.elim
  qcall := fun hh => hh.elim
noncomputable def tree_Below.code : Code := (Try.f24.body).getD .skip
def tree_Below.ann : Ann := (.two .auto (.two .auto (.two .auto (.two .auto (.two (.two .auto (.two (.loop 0 [1, 2, 5, 6, 23, 24, 25] [(2, [6])] .auto) .auto)) .auto)))))
noncomputable def tree_Below.c0 : Code := sub tree_Below.code [1, 1, 1, 1, 0, 1, 0, 0]
def tree_Below.a0 : Ann := .auto
def tree_Below.keep0 : List Nat := [1, 2, 5, 6, 23, 24, 25]
def tree_Below.outs0 : List (Nat × List Nat) := [(2, [6])]
set_option maxRecDepth 100000 in
theorem tree_Below.L0 : LoopOK tree_Below.ctx 61 tree_Below.c0 0 tree_Below.keep0 tree_Below.outs0 := by
  refine loop_ok (n := tree_Below.a0) tree_Below.ok (by kernel_rfl) (loops_ok (l := []) (by kernel_rfl) ?_) tree_Below.r0 ?_ ?_ (fun vs h K hh => hh)
  · exact trivial
  · intro K vs h hh
    unfold tree_Below.r0 at hh
    split at hh
    · exact hh
    · exact hh
  · intro K m vs h hh
    unfold tree_Below.r0 at hh
    split at hh
    · exact cast (by kernel_rfl) hh
    · exact hh.elim
set_option maxRecDepth 100000 in
theorem tree_Below.eq (a1 : Option Addr) (a1l : Nat) (a1c : Nat) (a2 : Option Addr) (a2l : Nat) (a2c : Nat) (a3 : Int) (h : Heap) (K : (Option Addr) → Nat → Nat → Heap → Prop) : evF tree_Below.ctx Try.f24 tree_Below.ann [(.agg #[(.slice a1 a1l a1c), (.slice a2 a2l a2c)]), (.int .i64 a3)] h (tree_Below.ret K) = tree_Below a1 a1l a1c a2 a2l a2c a3 h K := by kernel_rfl
set_option maxRecDepth 100000 in
theorem tree_Below.calls {a1 : Option Addr} {a1l : Nat} {a1c : Nat} {a2 : Option Addr} {a2l : Nat} {a2c : Nat} {a3 : Int} {h : Heap} {K : (Option Addr) → Nat → Nat → Heap → Prop} (hh : tree_Below a1 a1l a1c a2 a2l a2c a3 h K) (w : World) (hw : w.heap = h) :
    (callFunc 24 #[(.agg #[(.slice a1 a1l a1c), (.slice a2 a2l a2c)]), (.int .i64 a3)]).run Try.prog w = .ok (.enter 24 #[(.agg #[(.slice a1 a1l a1c), (.slice a2 a2l a2c)]), (.int .i64 a3)]) w ∧ Calls Try.prog 24 #[(.agg #[(.slice a1 a1l a1c), (.slice a2 a2l a2c)]), (.int .i64 a3)] w fun e w' => ∃ v, e = .returned v ∧ Out w w' ∧ tree_Below.ret K v w'.heap := by
  rw [← tree_Below.eq] at hh
  exact fn_calls (args := [(.agg #[(.slice a1 a1l a1c), (.slice a2 a2l a2c)]), (.int .i64 a3)]) (c := tree_Below.code) tree_Below.ok Try.func24 (by kernel_rfl) (by kernel_rfl) (by kernel_rfl) (by kernel_rfl) (loops_ok (l := [(tree_Below.c0, none, 0, tree_Below.keep0, tree_Below.outs0)]) (by kernel_rfl) ⟨tree_Below.L0, trivial⟩) hh w hw

/-! ### strait/straitref21.In: function 29 -/
def straitref21_In.b0 (K0 : Bool → Heap → Prop) (K2 : Heap → Prop) (cont : (Option Addr) → Nat → Nat → Int → Int → Heap → Prop) (c0_1001 : Option Addr) (c0_1002 : Nat) (c0_1003 : Nat) (c1_1004 : Int) (v5_1005 : Int) (h1006 : Heap) : Prop :=
  (iteB (decide (v5_1005 < (c0_1002 : Int))) ((chkP c0_1001 fun a1007 => (0 ≤ v5_1005 ∧ v5_1005 < (c0_1002 : Int)) ∧ ∃ (x1008 : Int), cell h1006 (a1007.add (v5_1005.toNat * 1)) = some (.int .i64 x1008) ∧ (iteB (x1008 == c1_1004) (K0 true h1006) (((cont c0_1001 c0_1002 c0_1003 c1_1004 (IntKind.i64.wrap (v5_1005 + 1)) h1006)))))) (K2 h1006))
def straitref21_In.l0 (K0 : Bool → Heap → Prop) (K2 : Heap → Prop) : Nat → (Option Addr) → Nat → Nat → Int → Int → Heap → Prop
  | 0, _, _, _, _, _, _ => False
  | m + 1, c0_1001, c0_1002, c0_1003, c1_1004, v5_1005, h => straitref21_In.b0 K0 K2 (straitref21_In.l0 K0 K2 m) c0_1001 c0_1002 c0_1003 c1_1004 v5_1005 h
def straitref21_In (a1 : Option Addr) (a1l : Nat) (a1c : Nat) (a2 : Int) (h : Heap) (K : Bool → Heap → Prop) : Prop :=
  ((∃ m6, straitref21_In.l0 (fun z3 h4 => K z3 h4) (fun h5 => (K false h5)) m6 a1 a1l a1c a2 0 h))
def straitref21_In.ret (K : Bool → Heap → Prop) (v : Value) (h : Heap) : Prop := match v with
  | (.bool r7) => K r7 h
  | _ => False
theorem straitref21_In.ret_elim {K : Bool → Heap → Prop} {K' : Value → Heap → Prop} {v : Value} {h : Heap} (hk : ∀ r7 h, K r7 h → K' (.bool r7) h) (hh : straitref21_In.ret K v h) : K' v h := by
  unfold straitref21_In.ret at hh
  split at hh
  · exact hk _ _ hh
  · exact hh.elim
def straitref21_In.r0 (K : Nat → List Value → Heap → Prop) (m : Nat) (vs : List Value) (h : Heap) : Prop := match vs with
  | [(.slice c0_1001 c0_1002 c0_1003), (.int .i64 c1_1004), (.int .i64 v5_1005)] => straitref21_In.l0 (fun z8 h' => K 0 [(.bool z8)] h') (fun h' => K 2 [] h') m c0_1001 c0_1002 c0_1003 c1_1004 v5_1005 h
  | _ => False
def straitref21_In.loop (i : Nat) (vs : List Value) (h : Heap) (K : Nat → List Value → Heap → Prop) : Prop := match i with
  | 0 => ∃ m, straitref21_In.r0 K m vs h
  | _ => False
noncomputable def straitref21_In.ctx : Ctx := { P := Try.prog, call := fun _ _ _ _ => False, qcall := fun _ _ _ _ => False, quiet := fun f => false, loop := straitref21_In.loop }
theorem straitref21_In.ok : straitref21_In.ctx.OK where
  mixed := by kernel_rfl
  mono := fun hh _ => hh.elim
  call := fun hh => hh.elim
  qmono := fun hh _ => hh.elim
  qval := fun hh => hh.elim
  qcall := fun hh => hh.elim
noncomputable def straitref21_In.code : Code := (Try.f29.body).getD .skip
def straitref21_In.ann : Ann := (.two .auto (.two (.two .auto (.two (.loop 0 [0, 1, 5] [(2, []), (0, [4])] .auto) .auto)) .auto))
noncomputable def straitref21_In.c0 : Code := sub straitref21_In.code [1, 0, 1, 0, 0]
def straitref21_In.a0 : Ann := .auto
def straitref21_In.keep0 : List Nat := [0, 1, 5]
def straitref21_In.outs0 : List (Nat × List Nat) := [(2, []), (0, [4])]
set_option maxRecDepth 100000 in
theorem straitref21_In.L0 : LoopOK straitref21_In.ctx 18 straitref21_In.c0 0 straitref21_In.keep0 straitref21_In.outs0 := by
  refine loop_ok (n := straitref21_In.a0) straitref21_In.ok (by kernel_rfl) (loops_ok (l := []) (by kernel_rfl) ?_) straitref21_In.r0 ?_ ?_ (fun vs h K hh => hh)
  · exact trivial
  · intro K vs h hh
    unfold straitref21_In.r0 at hh
    split at hh
    · exact hh
    · exact hh
  · intro K m vs h hh
    unfold straitref21_In.r0 at hh
    split at hh
    · exact cast (by kernel_rfl) hh
    · exact hh.elim
set_option maxRecDepth 100000 in
theorem straitref21_In.eq (a1 : Option Addr) (a1l : Nat) (a1c : Nat) (a2 : Int) (h : Heap) (K : Bool → Heap → Prop) : evF straitref21_In.ctx Try.f29 straitref21_In.ann [(.slice a1 a1l a1c), (.int .i64 a2)] h (straitref21_In.ret K) = straitref21_In a1 a1l a1c a2 h K := by kernel_rfl
set_option maxRecDepth 100000 in
theorem straitref21_In.calls {a1 : Option Addr} {a1l : Nat} {a1c : Nat} {a2 : Int} {h : Heap} {K : Bool → Heap → Prop} (hh : straitref21_In a1 a1l a1c a2 h K) (w : World) (hw : w.heap = h) :
    (callFunc 29 #[(.slice a1 a1l a1c), (.int .i64 a2)]).run Try.prog w = .ok (.enter 29 #[(.slice a1 a1l a1c), (.int .i64 a2)]) w ∧ Calls Try.prog 29 #[(.slice a1 a1l a1c), (.int .i64 a2)] w fun e w' => ∃ v, e = .returned v ∧ Out w w' ∧ straitref21_In.ret K v w'.heap := by
  rw [← straitref21_In.eq] at hh
  exact fn_calls (args := [(.slice a1 a1l a1c), (.int .i64 a2)]) (c := straitref21_In.code) straitref21_In.ok Try.func29 (by kernel_rfl) (by kernel_rfl) (by kernel_rfl) (by kernel_rfl) (loops_ok (l := [(straitref21_In.c0, none, 0, straitref21_In.keep0, straitref21_In.outs0)]) (by kernel_rfl) ⟨straitref21_In.L0, trivial⟩) hh w hw

/-! ### strait/straitref29.Below: function 25 -/
def straitref29_Below.b0 (K2 : (Option Addr) → Nat → Nat → Heap → Prop) (cont : Int → Addr → (Option Addr) → Nat → Nat → Int → Heap → Prop) (c1_1001 : Int) (c2_1002 : Addr) (v5_1003 : Option Addr) (v5_1003l : Nat) (v5_1003c : Nat) (v6_1004 : Int) (h1005 : Heap) : Prop :=
  ∃ (x1006 : Option Addr) (x1006l : Nat) (x1006c : Nat), cell h1005 c2_1002 = some (.slice x1006 x1006l x1006c) ∧ (iteB (decide (v6_1004 < (x1006l : Int))) ((∃ (x1007 : Option Addr) (x1007l : Nat) (x1007c : Nat), cell h1005 c2_1002 = some (.slice x1007 x1007l x1007c) ∧ ∃ (x1008 : Option Addr) (x1008l : Nat) (x1008c : Nat), cell h1005 (c2_1002.add 1) = some (.slice x1008 x1008l x1008c) ∧ callP3 (straitref29_Up x1007 x1007l x1007c x1008 x1008l x1008c v6_1004 h1005) fun x1009 x1009l x1009c h1010 => qcallP1 h1010 (straitref21_In x1009 x1009l x1009c c1_1001 h1010) fun x1011 => (iteB x1011 (newP h1010 (.cells #[(.int .i64 v6_1004)] 3) fun a1012 h1013 => ∃ n1018, cellsAt h1013 (some a1012) (1 * 1) n1018 ∧ appP 3 1 8 [(.int .i64 0)] v5_1003 v5_1003l v5_1003c 1 n1018 h1013 fun q1014 l1015 c1016 h1017 => ((cont c1_1001 c2_1002 q1014 l1015 c1016 (IntKind.i64.wrap (v6_1004 + 1)) h1017))) (((cont c1_1001 c2_1002 v5_1003 v5_1003l v5_1003c (IntKind.i64.wrap (v6_1004 + 1)) h1010)))))) (K2 v5_1003 v5_1003l v5_1003c h1005))
def straitref29_Below.l0 (K2 : (Option Addr) → Nat → Nat → Heap → Prop) : Nat → Int → Addr → (Option Addr) → Nat → Nat → Int → Heap → Prop
  | 0, _, _, _, _, _, _, _ => False
  | m + 1, c1_1001, c2_1002, v5_1003, v5_1003l, v5_1003c, v6_1004, h => straitref29_Below.b0 K2 (straitref29_Below.l0 K2 m) c1_1001 c2_1002 v5_1003 v5_1003l v5_1003c v6_1004 h
def straitref29_Below (a1 : Option Addr) (a1l : Nat) (a1c : Nat) (a2 : Option Addr) (a2l : Nat) (a2c : Nat) (a3 : Int) (h : Heap) (K : (Option Addr) → Nat → Nat → Heap → Prop) : Prop :=
  newP h (.cells #[(.slice a1 a1l a1c), (.slice a2 a2l a2c)] 25) fun a4 h5 => ((∃ (x6 : Option Addr) (x6l : Nat) (x6c : Nat), cell h5 a4 = some (.slice x6 x6l x6c) ∧ ∃ (x7 : Option Addr) (x7l : Nat) (x7c : Nat), cell h5 (a4.add 1) = some (.slice x7 x7l x7c) ∧ callP1 (straitref29_in x6 x6l x6c x7 x7l x7c a3 h5) fun x8 h9 => (iteB (!x8) (K none 0 0 h9) (((∃ m12, straitref29_Below.l0 (fun z10 z10l z10c h11 => (K z10 z10l z10c h11)) m12 a3 a4 none 0 0 0 h9))))))
def straitref29_Below.ret (K : (Option Addr) → Nat → Nat → Heap → Prop) (v : Value) (h : Heap) : Prop := match v with
  | (.slice r13 r13l r13c) => K r13 r13l r13c h
  | _ => False
theorem straitref29_Below.ret_elim {K : (Option Addr) → Nat → Nat → Heap → Prop} {K' : Value → Heap → Prop} {v : Value} {h : Heap} (hk : ∀ r13 r13l r13c h, K r13 r13l r13c h → K' (.slice r13 r13l r13c) h) (hh : straitref29_Below.ret K v h) : K' v h := by
  unfold straitref29_Below.ret at hh
  split at hh
  · exact hk _ _ _ _ hh
  · exact hh.elim
def straitref29_Below.call (f : FuncId) (vs : List Value) (h : Heap) (K : Value → Heap → Prop) : Prop := match f, vs with
  | 48, [(.agg ⟨[(.slice a1 a1l a1c), (.slice a2 a2l a2c)]⟩), (.int .i64 a3)] => callP3 (straitref29_Up a1 a1l a1c a2 a2l a2c a3 h) fun r9 r9l r9c h' => K (.slice r9 r9l r9c) h'
  | 50, [(.agg ⟨[(.slice a1 a1l a1c), (.slice a2 a2l a2c)]⟩), (.int .i64 a3)] => callP1 (straitref29_in a1 a1l a1c a2 a2l a2c a3 h) fun r13 h' => K (.bool r13) h'
  | _, _ => False
def straitref29_Below.qcall (f : FuncId) (vs : List Value) (h : Heap) (K : Value → Prop) : Prop := match f, vs with
  | 29, [(.slice a1 a1l a1c), (.int .i64 a2)] => qcallP1 h (straitref21_In a1 a1l a1c a2 h) fun r7 => K (.bool r7)
  | _, _ => False
def straitref29_Below.r0 (K : Nat → List Value → Heap → Prop) (m : Nat) (vs : List Value) (h : Heap) : Prop := match vs with
  | [(.int .i64 c1_1001), (.pointer (some c2_1002)), (.slice v5_1003 v5_1003l v5_1003c), (.int .i64 v6_1004)] => straitref29_Below.l0 (fun z14 z14l z14c h' => K 2 [(.slice z14 z14l z14c)] h') m c1_1001 c2_1002 v5_1003 v5_1003l v5_1003c v6_1004 h
  | _ => False
def straitref29_Below.loop (i : Nat) (vs : List Value) (h : Heap) (K : Nat → List Value → Heap → Prop) : Prop := match i with
  | 0 => ∃ m, straitref29_Below.r0 K m vs h
  | _ => False
noncomputable def straitref29_Below.ctx : Ctx := { P := Try.prog, call := straitref29_Below.call, qcall := straitref29_Below.qcall, quiet := fun f => Nat.beq f 29, loop := straitref29_Below.loop }
theorem straitref29_Below.ok : straitref29_Below.ctx.OK where
  mixed := by kernel_rfl
  mono := by
    intro f args h K K' hh hk
    change straitref29_Below.call f args h K at hh
    change straitref29_Below.call f args h K'
    unfold straitref29_Below.call at hh ⊢
    split at hh
    · obtain ⟨R, h1, h2⟩ := hh
      exact ⟨R, h1, fun _ _ _ x hr => hk _ _ (h2 _ _ _ x hr)⟩
    · obtain ⟨R, h1, h2⟩ := hh
      exact ⟨R, h1, fun _ x hr => hk _ _ (h2 _ x hr)⟩
    · exact hh.elim
  call := by
    intro f args h K hh w hw
    change straitref29_Below.call f args h K at hh
    unfold straitref29_Below.call at hh
    split at hh
    · obtain ⟨R, h1, h2⟩ := hh
      obtain ⟨g1, g2⟩ := straitref29_Up.calls h1 w hw
      exact ⟨g1, g2.mono fun e w' ⟨v, he, ho, hr⟩ => ⟨v, he, ho, straitref29_Up.ret_elim h2 hr⟩⟩
    · obtain ⟨R, h1, h2⟩ := hh
      obtain ⟨g1, g2⟩ := straitref29_in.calls h1 w hw
      exact ⟨g1, g2.mono fun e w' ⟨v, he, ho, hr⟩ => ⟨v, he, ho, straitref29_in.ret_elim h2 hr⟩⟩
    · exact hh.elim
  qmono := by
    intro f args h K K' hh hk
    change straitref29_Below.qcall f args h K at hh
    change straitref29_Below.qcall f args h K'
    unfold straitref29_Below.qcall at hh ⊢
    split at hh
    · obtain ⟨x0, h1, h2⟩ := hh
      exact ⟨x0, h1, hk _ h2⟩
    · exact hh.elim
  qval := by
    intro f args h K hh
    change straitref29_Below.qcall f args h K at hh
    suffices H : ∃ v, K v ∧ straitref29_Below.qcall f args h (· = v) from H
    unfold straitref29_Below.qcall at hh ⊢
    split at hh
    · obtain ⟨x0, h1, h2⟩ := hh
      exact ⟨_, h2, x0, h1, rfl⟩
    · exact hh.elim
  qcall := by
    intro f args h v hh w hw
    change straitref29_Below.qcall f args h (· = v) at hh
    unfold straitref29_Below.qcall at hh
    split at hh
    · obtain ⟨x0, h1, h2⟩ := hh
      obtain ⟨g1, g2⟩ := straitref21_In.calls h1 w hw
      refine .inl ⟨g1, g2.mono fun e w' ⟨u, he, ho, hr⟩ => ?_⟩
      have hq := straitref21_In.ret_elim (K' := fun u h' => u = v ∧ h' = h) (fun _ h' hr => by obtain ⟨rfl, rfl⟩ := hr; exact ⟨h2, rfl⟩) hr
      exact ⟨hq.1 ▸ he, ho, hq.2⟩
    · exact hh.elim
noncomputable def straitref29_Below.code : Code := (Try.f25.body).getD .skip
def straitref29_Below.ann : Ann := (.two .auto (.two .auto (.two .auto (.two (.two .auto (.two (.loop 0 [1, 2, 5, 6] [(2, [5])] .auto) .auto)) .auto))))
noncomputable def straitref29_Below.c0 : Code := sub straitref29_Below.code [1, 1, 1, 0, 1, 0, 0]
def straitref29_Below.a0 : Ann := .auto
def straitref29_Below.keep0 : List Nat := [1, 2, 5, 6]
def straitref29_Below.outs0 : List (Nat × List Nat) := [(2, [5])]
set_option maxRecDepth 100000 in
theorem straitref29_Below.L0 : LoopOK straitref29_Below.ctx 29 straitref29_Below.c0 0 straitref29_Below.keep0 straitref29_Below.outs0 := by
  refine loop_ok (n := straitref29_Below.a0) straitref29_Below.ok (by kernel_rfl) (loops_ok (l := []) (by kernel_rfl) ?_) straitref29_Below.r0 ?_ ?_ (fun vs h K hh => hh)
  · exact trivial
  · intro K vs h hh
    unfold straitref29_Below.r0 at hh
    split at hh
    · exact hh
    · exact hh
  · intro K m vs h hh
    unfold straitref29_Below.r0 at hh
    split at hh
    · exact cast (by kernel_rfl) hh
    · exact hh.elim
set_option maxRecDepth 100000 in
theorem straitref29_Below.eq (a1 : Option Addr) (a1l : Nat) (a1c : Nat) (a2 : Option Addr) (a2l : Nat) (a2c : Nat) (a3 : Int) (h : Heap) (K : (Option Addr) → Nat → Nat → Heap → Prop) : evF straitref29_Below.ctx Try.f25 straitref29_Below.ann [(.agg #[(.slice a1 a1l a1c), (.slice a2 a2l a2c)]), (.int .i64 a3)] h (straitref29_Below.ret K) = straitref29_Below a1 a1l a1c a2 a2l a2c a3 h K := by kernel_rfl
set_option maxRecDepth 100000 in
theorem straitref29_Below.calls {a1 : Option Addr} {a1l : Nat} {a1c : Nat} {a2 : Option Addr} {a2l : Nat} {a2c : Nat} {a3 : Int} {h : Heap} {K : (Option Addr) → Nat → Nat → Heap → Prop} (hh : straitref29_Below a1 a1l a1c a2 a2l a2c a3 h K) (w : World) (hw : w.heap = h) :
    (callFunc 25 #[(.agg #[(.slice a1 a1l a1c), (.slice a2 a2l a2c)]), (.int .i64 a3)]).run Try.prog w = .ok (.enter 25 #[(.agg #[(.slice a1 a1l a1c), (.slice a2 a2l a2c)]), (.int .i64 a3)]) w ∧ Calls Try.prog 25 #[(.agg #[(.slice a1 a1l a1c), (.slice a2 a2l a2c)]), (.int .i64 a3)] w fun e w' => ∃ v, e = .returned v ∧ Out w w' ∧ straitref29_Below.ret K v w'.heap := by
  rw [← straitref29_Below.eq] at hh
  exact fn_calls (args := [(.agg #[(.slice a1 a1l a1c), (.slice a2 a2l a2c)]), (.int .i64 a3)]) (c := straitref29_Below.code) straitref29_Below.ok Try.func25 (by kernel_rfl) (by kernel_rfl) (by kernel_rfl) (by kernel_rfl) (loops_ok (l := [(straitref29_Below.c0, none, 0, straitref29_Below.keep0, straitref29_Below.outs0)]) (by kernel_rfl) ⟨straitref29_Below.L0, trivial⟩) hh w hw

/-! ### strait/straitref29.Path: function 27 -/
def straitref29_Path.b1 (K4 : (Option Addr) → Nat → Nat → Heap → Prop) (cont : (Option Addr) → Nat → Nat → (Option Addr) → Nat → Nat → (Option Addr) → Nat → Nat → Int → Heap → Prop) (v7_2001 : Option Addr) (v7_2001l : Nat) (v7_2001c : Nat) (c8_2002 : Option Addr) (c8_2003 : Nat) (c8_2004 : Nat) (c9_2005 : Option Addr) (c9_2006 : Nat) (c9_2007 : Nat) (v11_2008 : Int) (h2009 : Heap) : Prop :=
  (iteB (decide (v11_2008 ≥ (0 : Int))) ((chkP c9_2005 fun a2010 => (0 ≤ v11_2008 ∧ v11_2008 < (c9_2006 : Int)) ∧ ∃ (x2011 : Int), cell h2009 (a2010.add (v11_2008.toNat * 1)) = some (.int .i64 x2011) ∧ qcallP1 h2009 (straitref21_In c8_2002 c8_2003 c8_2004 x2011 h2009) fun x2012 => (iteB (!x2012) (chkP c9_2005 fun a2013 => (0 ≤ v11_2008 ∧ v11_2008 < (c9_2006 : Int)) ∧ ∃ (x2014 : Int), cell h2009 (a2013.add (v11_2008.toNat * 1)) = some (.int .i64 x2014) ∧ newP h2009 (.cells #[(.int .i64 x2014)] 3) fun a2015 h2016 => ∃ n2021, cellsAt h2016 (some a2015) (1 * 1) n2021 ∧ appP 3 1 8 [(.int .i64 0)] v7_2001 v7_2001l v7_2001c 1 n2021 h2016 fun q2017 l2018 c2019 h2020 => ((cont q2017 l2018 c2019 c8_2002 c8_2003 c8_2004 c9_2005 c9_2006 c9_2007 (IntKind.i64.wrap (v11_2008 - 1)) h2020))) (((cont v7_2001 v7_2001l v7_2001c c8_2002 c8_2003 c8_2004 c9_2005 c9_2006 c9_2007 (IntKind.i64.wrap (v11_2008 - 1)) h2009)))))) (K4 v7_2001 v7_2001l v7_2001c h2009))
def straitref29_Path.l1 (K4 : (Option Addr) → Nat → Nat → Heap → Prop) : Nat → (Option Addr) → Nat → Nat → (Option Addr) → Nat → Nat → (Option Addr) → Nat → Nat → Int → Heap → Prop
  | 0, _, _, _, _, _, _, _, _, _, _, _ => False
  | m + 1, v7_2001, v7_2001l, v7_2001c, c8_2002, c8_2003, c8_2004, c9_2005, c9_2006, c9_2007, v11_2008, h => straitref29_Path.b1 K4 (straitref29_Path.l1 K4 m) v7_2001 v7_2001l v7_2001c c8_2002 c8_2003 c8_2004 c9_2005 c9_2006 c9_2007 v11_2008 h
def straitref29_Path.b0 (K0 : (Option Addr) → Nat → Nat → Heap → Prop) (K2 : (Option Addr) → Nat → Nat → Heap → Prop) (cont : (Option Addr) → Nat → Nat → (Option Addr) → Nat → Nat → (Option Addr) → Nat → Nat → Int → Heap → Prop) (v7_1001 : Option Addr) (v7_1001l : Nat) (v7_1001c : Nat) (c8_1002 : Option Addr) (c8_1003 : Nat) (c8_1004 : Nat) (c9_1005 : Option Addr) (c9_1006 : Nat) (c9_1007 : Nat) (v10_1008 : Int) (h1009 : Heap) : Prop :=
  (iteB (decide (v10_1008 < (c8_1003 : Int))) ((chkP c8_1002 fun a1010 => (0 ≤ v10_1008 ∧ v10_1008 < (c8_1003 : Int)) ∧ ∃ (x1011 : Int), cell h1009 (a1010.add (v10_1008.toNat * 1)) = some (.int .i64 x1011) ∧ newP h1009 (.cells #[(.int .i64 x1011)] 3) fun a1012 h1013 => ∃ n1018, cellsAt h1013 (some a1012) (1 * 1) n1018 ∧ appP 3 1 8 [(.int .i64 0)] v7_1001 v7_1001l v7_1001c 1 n1018 h1013 fun q1014 l1015 c1016 h1017 => (chkP c8_1002 fun a1019 => (0 ≤ v10_1008 ∧ v10_1008 < (c8_1003 : Int)) ∧ ∃ (x1020 : Int), cell h1017 (a1019.add (v10_1008.toNat * 1)) = some (.int .i64 x1020) ∧ qcallP1 h1017 (straitref21_In c9_1005 c9_1006 c9_1007 x1020 h1017) fun x1021 => (iteB x1021 ((∃ m1024, straitref29_Path.l1 (fun z1022 z1022l z1022c h1023 => (K0 z1022 z1022l z1022c h1023)) m1024 q1014 l1015 c1016 c8_1002 c8_1003 c8_1004 c9_1005 c9_1006 c9_1007 (IntKind.i64.wrap ((c9_1006 : Int) - 1)) h1017)) (((cont q1014 l1015 c1016 c8_1002 c8_1003 c8_1004 c9_1005 c9_1006 c9_1007 (IntKind.i64.wrap (v10_1008 + 1)) h1017))))))) (K2 v7_1001 v7_1001l v7_1001c h1009))
def straitref29_Path.l0 (K0 : (Option Addr) → Nat → Nat → Heap → Prop) (K2 : (Option Addr) → Nat → Nat → Heap → Prop) : Nat → (Option Addr) → Nat → Nat → (Option Addr) → Nat → Nat → (Option Addr) → Nat → Nat → Int → Heap → Prop
  | 0, _, _, _, _, _, _, _, _, _, _, _ => False
  | m + 1, v7_1001, v7_1001l, v7_1001c, c8_1002, c8_1003, c8_1004, c9_1005, c9_1006, c9_1007, v10_1008, h => straitref29_Path.b0 K0 K2 (straitref29_Path.l0 K0 K2 m) v7_1001 v7_1001l v7_1001c c8_1002 c8_1003 c8_1004 c9_1005 c9_1006 c9_1007 v10_1008 h
def straitref29_Path (a1 : Option Addr) (a1l : Nat) (a1c : Nat) (a2 : Option Addr) (a2l : Nat) (a2c : Nat) (a3 : Int) (a4 : Int) (h : Heap) (K : (Option Addr) → Nat → Nat → Heap → Prop) : Prop :=
  newP h (.cells #[(.slice a1 a1l a1c), (.slice a2 a2l a2c)] 25) fun a5 h6 => ((let j33 := (fun (h17 : Heap) => ∃ (x18 : Option Addr) (x18l : Nat) (x18c : Nat), cell h17 a5 = some (.slice x18 x18l x18c) ∧ ∃ (x19 : Option Addr) (x19l : Nat) (x19c : Nat), cell h17 (a5.add 1) = some (.slice x19 x19l x19c) ∧ ∃ (x20 : Option Addr) (x20l : Nat) (x20c : Nat), cell h17 a5 = some (.slice x20 x20l x20c) ∧ ∃ (x21 : Option Addr) (x21l : Nat) (x21c : Nat), cell h17 (a5.add 1) = some (.slice x21 x21l x21c) ∧ callP3 (straitref29_Up x18 x18l x18c x19 x19l x19c a3 h17) fun x22 x22l x22c h23 => (∃ (x24 : Option Addr) (x24l : Nat) (x24c : Nat), cell h23 a5 = some (.slice x24 x24l x24c) ∧ ∃ (x25 : Option Addr) (x25l : Nat) (x25c : Nat), cell h23 (a5.add 1) = some (.slice x25 x25l x25c) ∧ ((.agg #[(.slice x24 x24l x24c), (.slice x25 x25l x25c)]) : Value) = (.agg #[(.slice x20 x20l x20c), (.slice x21 x21l x21c)])) ∧ callP3 (straitref29_Up x20 x20l x20c x21 x21l x21c a4 h23) fun x26 x26l x26c h27 => ((∃ m32, straitref29_Path.l0 (fun z28 z28l z28c h29 => K z28 z28l z28c h29) (fun z30 z30l z30c h31 => (K z30 z30l z30c h31)) m32 none 0 0 x22 x22l x22c x26 x26l x26c 0 h27)));
  ∃ (x7 : Option Addr) (x7l : Nat) (x7c : Nat), cell h6 a5 = some (.slice x7 x7l x7c) ∧ ∃ (x8 : Option Addr) (x8l : Nat) (x8c : Nat), cell h6 (a5.add 1) = some (.slice x8 x8l x8c) ∧ callP1 (straitref29_in x7 x7l x7c x8 x8l x8c a3 h6) fun x9 h10 => iteB (!x9) (K none 0 0 h10) (∃ (x11 : Option Addr) (x11l : Nat) (x11c : Nat), cell h10 a5 = some (.slice x11 x11l x11c) ∧ ∃ (x12 : Option Addr) (x12l : Nat) (x12c : Nat), cell h10 (a5.add 1) = some (.slice x12 x12l x12c) ∧ callP1 (straitref29_in x11 x11l x11c x12 x12l x12c a4 h10) fun x13 h14 => (iteB (!x13) (K none 0 0 h14) ((j33 h14))))))
def straitref29_Path.ret (K : (Option Addr) → Nat → Nat → Heap → Prop) (v : Value) (h : Heap) : Prop := match v with
  | (.slice r34 r34l r34c) => K r34 r34l r34c h
  | _ => False
theorem straitref29_Path.ret_elim {K : (Option Addr) → Nat → Nat → Heap → Prop} {K' : Value → Heap → Prop} {v : Value} {h : Heap} (hk : ∀ r34 r34l r34c h, K r34 r34l r34c h → K' (.slice r34 r34l r34c) h) (hh : straitref29_Path.ret K v h) : K' v h := by
  unfold straitref29_Path.ret at hh
  split at hh
  · exact hk _ _ _ _ hh
  · exact hh.elim
def straitref29_Path.call (f : FuncId) (vs : List Value) (h : Heap) (K : Value → Heap → Prop) : Prop := match f, vs with
  | 48, [(.agg ⟨[(.slice a1 a1l a1c), (.slice a2 a2l a2c)]⟩), (.int .i64 a3)] => callP3 (straitref29_Up a1 a1l a1c a2 a2l a2c a3 h) fun r9 r9l r9c h' => K (.slice r9 r9l r9c) h'
  | 50, [(.agg ⟨[(.slice a1 a1l a1c), (.slice a2 a2l a2c)]⟩), (.int .i64 a3)] => callP1 (straitref29_in a1 a1l a1c a2 a2l a2c a3 h) fun r13 h' => K (.bool r13) h'
  | _, _ => False
def straitref29_Path.qcall (f : FuncId) (vs : List Value) (h : Heap) (K : Value → Prop) : Prop := match f, vs with
  | 29, [(.slice a1 a1l a1c), (.int .i64 a2)] => qcallP1 h (straitref21_In a1 a1l a1c a2 h) fun r7 => K (.bool r7)
  | _, _ => False
def straitref29_Path.r0 (K : Nat → List Value → Heap → Prop) (m : Nat) (vs : List Value) (h : Heap) : Prop := match vs with
  | [(.slice v7_1001 v7_1001l v7_1001c), (.slice c8_1002 c8_1003 c8_1004), (.slice c9_1005 c9_1006 c9_1007), (.int .i64 v10_1008)] => straitref29_Path.l0 (fun z35 z35l z35c h' => K 0 [(.slice z35 z35l z35c)] h') (fun z36 z36l z36c h' => K 2 [(.slice z36 z36l z36c)] h') m v7_1001 v7_1001l v7_1001c c8_1002 c8_1003 c8_1004 c9_1005 c9_1006 c9_1007 v10_1008 h
  | _ => False
def straitref29_Path.r1 (K : Nat → List Value → Heap → Prop) (m : Nat) (vs : List Value) (h : Heap) : Prop := match vs with
  | [(.slice v7_2001 v7_2001l v7_2001c), (.slice c8_2002 c8_2003 c8_2004), (.slice c9_2005 c9_2006 c9_2007), (.int .i64 v11_2008)] => straitref29_Path.l1 (fun z37 z37l z37c h' => K 4 [(.slice z37 z37l z37c)] h') m v7_2001 v7_2001l v7_2001c c8_2002 c8_2003 c8_2004 c9_2005 c9_2006 c9_2007 v11_2008 h
  | _ => False
def straitref29_Path.loop (i : Nat) (vs : List Value) (h : Heap) (K : Nat → List Value → Heap → Prop) : Prop := match i with
  | 0 => ∃ m, straitref29_Path.r0 K m vs h
  | 1 => ∃ m, straitref29_Path.r1 K m vs h
  | _ => False
noncomputable def straitref29_Path.ctx : Ctx := { P := Try.prog, call := straitref29_Path.call, qcall := straitref29_Path.qcall, quiet := fun f => Nat.beq f 29, loop := straitref29_Path.loop }
theorem straitref29_Path.ok : straitref29_Path.ctx.OK where
  mixed := by kernel_rfl
  mono := by
    intro f args h K K' hh hk
    change straitref29_Path.call f args h K at hh
    change straitref29_Path.call f args h K'
    unfold straitref29_Path.call at hh ⊢
    split at hh
    · obtain ⟨R, h1, h2⟩ := hh
      exact ⟨R, h1, fun _ _ _ x hr => hk _ _ (h2 _ _ _ x hr)⟩
    · obtain ⟨R, h1, h2⟩ := hh
      exact ⟨R, h1, fun _ x hr => hk _ _ (h2 _ x hr)⟩
    · exact hh.elim
  call := by
    intro f args h K hh w hw
    change straitref29_Path.call f args h K at hh
    unfold straitref29_Path.call at hh
    split at hh
    · obtain ⟨R, h1, h2⟩ := hh
      obtain ⟨g1, g2⟩ := straitref29_Up.calls h1 w hw
      exact ⟨g1, g2.mono fun e w' ⟨v, he, ho, hr⟩ => ⟨v, he, ho, straitref29_Up.ret_elim h2 hr⟩⟩
    · obtain ⟨R, h1, h2⟩ := hh
      obtain ⟨g1, g2⟩ := straitref29_in.calls h1 w hw
      exact ⟨g1, g2.mono fun e w' ⟨v, he, ho, hr⟩ => ⟨v, he, ho, straitref29_in.ret_elim h2 hr⟩⟩
    · exact hh.elim
  qmono := by
    intro f args h K K' hh hk
    change straitref29_Path.qcall f args h K at hh
    change straitref29_Path.qcall f args h K'
    unfold straitref29_Path.qcall at hh ⊢
    split at hh
    · obtain ⟨x0, h1, h2⟩ := hh
      exact ⟨x0, h1, hk _ h2⟩
    · exact hh.elim
  qval := by
    intro f args h K hh
    change straitref29_Path.qcall f args h K at hh
    suffices H : ∃ v, K v ∧ straitref29_Path.qcall f args h (· = v) from H
    unfold straitref29_Path.qcall at hh ⊢
    split at hh
    · obtain ⟨x0, h1, h2⟩ := hh
      exact ⟨_, h2, x0, h1, rfl⟩
    · exact hh.elim
  qcall := by
    intro f args h v hh w hw
    change straitref29_Path.qcall f args h (· = v) at hh
    unfold straitref29_Path.qcall at hh
    split at hh
    · obtain ⟨x0, h1, h2⟩ := hh
      obtain ⟨g1, g2⟩ := straitref21_In.calls h1 w hw
      refine .inl ⟨g1, g2.mono fun e w' ⟨u, he, ho, hr⟩ => ?_⟩
      have hq := straitref21_In.ret_elim (K' := fun u h' => u = v ∧ h' = h) (fun _ h' hr => by obtain ⟨rfl, rfl⟩ := hr; exact ⟨h2, rfl⟩) hr
      exact ⟨hq.1 ▸ he, ho, hq.2⟩
    · exact hh.elim
noncomputable def straitref29_Path.code : Code := (Try.f27.body).getD .skip
def straitref29_Path.ann : Ann := (.two .auto (.two .auto (.two .auto (.two (.reg [0, 0, 3, 0, 0, 31, 63, 127] (.take 0 (.take 1 (.take 4 (.early 3 (.alt 2 (.alt 5 (.take 6 (.take 7 .done)) .noalt) .noalt)))))) (.two (.two .auto (.two (.loop 0 [7, 8, 9, 10] [(2, [7]), (0, [6])] (.two .auto (.two (.two (.two .auto (.two .auto (.two (.two (.two .auto (.two (.loop 1 [7, 8, 9, 11] [(4, [7])] .auto) .auto)) .auto) .auto))) .auto) .auto))) .auto)) .auto)))))
noncomputable def straitref29_Path.c1 : Code := sub straitref29_Path.code [1, 1, 1, 1, 0, 1, 0, 0, 1, 0, 0, 1, 1, 0, 0, 1, 0, 0]
def straitref29_Path.a1 : Ann := .auto
def straitref29_Path.keep1 : List Nat := [7, 8, 9, 11]
def straitref29_Path.outs1 : List (Nat × List Nat) := [(4, [7])]
noncomputable def straitref29_Path.c0 : Code := sub straitref29_Path.code [1, 1, 1, 1, 0, 1, 0, 0]
def straitref29_Path.a0 : Ann := (.two .auto (.two (.two (.two .auto (.two .auto (.two (.two (.two .auto (.two (.loop 1 [7, 8, 9, 11] [(4, [7])] .auto) .auto)) .auto) .auto))) .auto) .auto))
def straitref29_Path.keep0 : List Nat := [7, 8, 9, 10]
def straitref29_Path.outs0 : List (Nat × List Nat) := [(2, [7]), (0, [6])]
set_option maxRecDepth 100000 in
theorem straitref29_Path.L1 : LoopOK straitref29_Path.ctx 71 straitref29_Path.c1 1 straitref29_Path.keep1 straitref29_Path.outs1 := by
  refine loop_ok (n := straitref29_Path.a1) straitref29_Path.ok (by kernel_rfl) (loops_ok (l := []) (by kernel_rfl) ?_) straitref29_Path.r1 ?_ ?_ (fun vs h K hh => hh)
  · exact trivial
  · intro K vs h hh
    unfold straitref29_Path.r1 at hh
    split at hh
    · exact hh
    · exact hh
  · intro K m vs h hh
    unfold straitref29_Path.r1 at hh
    split at hh
    · exact cast (by kernel_rfl) hh
    · exact hh.elim
set_option maxRecDepth 100000 in
theorem straitref29_Path.L0 : LoopOK straitref29_Path.ctx 71 straitref29_Path.c0 0 straitref29_Path.keep0 straitref29_Path.outs0 := by
  refine loop_ok (n := straitref29_Path.a0) straitref29_Path.ok (by kernel_rfl) (loops_ok (l := [(straitref29_Path.c1, none, 1, straitref29_Path.keep1, straitref29_Path.outs1)]) (by kernel_rfl) ?_) straitref29_Path.r0 ?_ ?_ (fun vs h K hh => hh)
  · exact ⟨straitref29_Path.L1, trivial⟩
  · intro K vs h hh
    unfold straitref29_Path.r0 at hh
    split at hh
    · exact hh
    · exact hh
  · intro K m vs h hh
    unfold straitref29_Path.r0 at hh
    split at hh
    · exact cast (by kernel_rfl) hh
    · exact hh.elim
set_option maxRecDepth 100000 in
theorem straitref29_Path.eq (a1 : Option Addr) (a1l : Nat) (a1c : Nat) (a2 : Option Addr) (a2l : Nat) (a2c : Nat) (a3 : Int) (a4 : Int) (h : Heap) (K : (Option Addr) → Nat → Nat → Heap → Prop) : evF straitref29_Path.ctx Try.f27 straitref29_Path.ann [(.agg #[(.slice a1 a1l a1c), (.slice a2 a2l a2c)]), (.int .i64 a3), (.int .i64 a4)] h (straitref29_Path.ret K) = straitref29_Path a1 a1l a1c a2 a2l a2c a3 a4 h K := by kernel_rfl
set_option maxRecDepth 100000 in
theorem straitref29_Path.calls {a1 : Option Addr} {a1l : Nat} {a1c : Nat} {a2 : Option Addr} {a2l : Nat} {a2c : Nat} {a3 : Int} {a4 : Int} {h : Heap} {K : (Option Addr) → Nat → Nat → Heap → Prop} (hh : straitref29_Path a1 a1l a1c a2 a2l a2c a3 a4 h K) (w : World) (hw : w.heap = h) :
    (callFunc 27 #[(.agg #[(.slice a1 a1l a1c), (.slice a2 a2l a2c)]), (.int .i64 a3), (.int .i64 a4)]).run Try.prog w = .ok (.enter 27 #[(.agg #[(.slice a1 a1l a1c), (.slice a2 a2l a2c)]), (.int .i64 a3), (.int .i64 a4)]) w ∧ Calls Try.prog 27 #[(.agg #[(.slice a1 a1l a1c), (.slice a2 a2l a2c)]), (.int .i64 a3), (.int .i64 a4)] w fun e w' => ∃ v, e = .returned v ∧ Out w w' ∧ straitref29_Path.ret K v w'.heap := by
  rw [← straitref29_Path.eq] at hh
  exact fn_calls (args := [(.agg #[(.slice a1 a1l a1c), (.slice a2 a2l a2c)]), (.int .i64 a3), (.int .i64 a4)]) (c := straitref29_Path.code) straitref29_Path.ok Try.func27 (by kernel_rfl) (by kernel_rfl) (by kernel_rfl) (by kernel_rfl) (loops_ok (l := [(straitref29_Path.c0, none, 0, straitref29_Path.keep0, straitref29_Path.outs0)]) (by kernel_rfl) ⟨straitref29_Path.L0, trivial⟩) hh w hw

/-! ### strait/straitref29.Least: function 28 -/
def straitref29_Least.b0 (K2 : Heap → Prop) (cont : Int → Int → Addr → Addr → Addr → Int → Heap → Prop) (c1_1001 : Int) (c2_1002 : Int) (c3_1003 : Addr) (c6_1004 : Addr) (c7_1005 : Addr) (v8_1006 : Int) (h1007 : Heap) : Prop :=
  ∃ (x1008 : Option Addr) (x1008l : Nat) (x1008c : Nat), cell h1007 c3_1003 = some (.slice x1008 x1008l x1008c) ∧ (iteB (decide (v8_1006 < (x1008l : Int))) ((let j1031 := (fun (h1030 : Heap) => cont c1_1001 c2_1002 c3_1003 c6_1004 c7_1005 (IntKind.i64.wrap (v8_1006 + 1)) h1030);
  ∃ (x1009 : Option Addr) (x1009l : Nat) (x1009c : Nat), cell h1007 c3_1003 = some (.slice x1009 x1009l x1009c) ∧ ∃ (x1010 : Option Addr) (x1010l : Nat) (x1010c : Nat), cell h1007 (c3_1003.add 1) = some (.slice x1010 x1010l x1010c) ∧ callP3 (straitref29_Below x1009 x1009l x1009c x1010 x1010l x1010c v8_1006 h1007) fun x1011 x1011l x1011c h1012 => (qcallP1 h1012 (straitref21_In x1011 x1011l x1011c c1_1001 h1012) fun x1013 => qcallP1 h1012 (straitref21_In x1011 x1011l x1011c c2_1002 h1012) fun x1014 => iteB (!(x1013 == x1014)) (∃ (x1015 : Bool), cell h1012 (c7_1005.add 1) = some (.bool x1015) ∧ iteB (!x1015) ((stC h1012 c7_1005 (.int .i64 v8_1006) fun h1026 => stC h1026 (c7_1005.add 1) (.bool true) fun h1027 => ((j1031 h1027)))) (∃ (x1016 : Option Addr) (x1016l : Nat) (x1016c : Nat), cell h1012 (c3_1003.add 1) = some (.slice x1016 x1016l x1016c) ∧ chkP x1016 fun a1017 => (0 ≤ v8_1006 ∧ v8_1006 < (x1016l : Int)) ∧ ∃ (x1018 : Int), cell h1012 (a1017.add (v8_1006.toNat * 1)) = some (.int .i64 x1018) ∧ ∃ (x1019 : Option Addr) (x1019l : Nat) (x1019c : Nat), cell h1012 (c3_1003.add 1) = some (.slice x1019 x1019l x1019c) ∧ ∃ (x1020 : Int), cell h1012 c7_1005 = some (.int .i64 x1020) ∧ chkP x1019 fun a1021 => (0 ≤ x1020 ∧ x1020 < (x1019l : Int)) ∧ ∃ (x1022 : Int), cell h1012 (a1021.add (x1020.toNat * 1)) = some (.int .i64 x1022) ∧ (iteB (decide (x1018 < x1022)) (stC h1012 c7_1005 (.int .i64 v8_1006) fun h1028 => stC h1028 (c7_1005.add 1) (.bool true) fun h1029 => ((j1031 h1029))) (((j1031 h1012)))))) ((((j1031 h1012))))))) (K2 h1007))
def straitref29_Least.l0 (K2 : Heap → Prop) : Nat → Int → Int → Addr → Addr → Addr → Int → Heap → Prop
  | 0, _, _, _, _, _, _, _ => False
  | m + 1, c1_1001, c2_1002, c3_1003, c6_1004, c7_1005, v8_1006, h => straitref29_Least.b0 K2 (straitref29_Least.l0 K2 m) c1_1001 c2_1002 c3_1003 c6_1004 c7_1005 v8_1006 h
def straitref29_Least (a1 : Option Addr) (a1l : Nat) (a1c : Nat) (a2 : Option Addr) (a2l : Nat) (a2c : Nat) (a3 : Int) (a4 : Int) (h : Heap) (K : Int → Bool → Heap → Prop) : Prop :=
  newP h (.cells #[(.slice a1 a1l a1c), (.slice a2 a2l a2c)] 25) fun a5 h6 => newP h6 (.cells #[(.int .i64 0), (.bool false)] 40) fun a7 h8 => (newP h8 (.cells #[(.int .i64 0), (.bool false)] 40) fun a9 h10 => (let j27 := (fun (y19 : Bool) (h20 : Heap) => iteB y19 (∃ (x21 : Int), cell h20 a9 = some (.int .i64 x21) ∧ ∃ (x22 : Bool), cell h20 (a9.add 1) = some (.bool x22) ∧ stC h20 a7 (.int .i64 x21) fun h23 => stC h23 (a7.add 1) (.bool x22) fun h24 => (∃ (x25 : Int), cell h24 a7 = some (.int .i64 x25) ∧ ∃ (x26 : Bool), cell h24 (a7.add 1) = some (.bool x26) ∧ K x25 x26 h24)) (((∃ m29, straitref29_Least.l0 (fun h28 => ((∃ (x30 : Int), cell h28 a9 = some (.int .i64 x30) ∧ ∃ (x31 : Bool), cell h28 (a9.add 1) = some (.bool x31) ∧ stC h28 a7 (.int .i64 x30) fun h32 => stC h32 (a7.add 1) (.bool x31) fun h33 => (∃ (x34 : Int), cell h33 a7 = some (.int .i64 x34) ∧ ∃ (x35 : Bool), cell h33 (a7.add 1) = some (.bool x35) ∧ K x34 x35 h33)))) m29 a3 a4 a5 a7 a9 0 h20))));
  ∃ (x11 : Option Addr) (x11l : Nat) (x11c : Nat), cell h10 a5 = some (.slice x11 x11l x11c) ∧ ∃ (x12 : Option Addr) (x12l : Nat) (x12c : Nat), cell h10 (a5.add 1) = some (.slice x12 x12l x12c) ∧ callP1 (straitref29_in x11 x11l x11c x12 x12l x12c a3 h10) fun x13 h14 => iteB (!x13) ((j27 true h14)) (∃ (x15 : Option Addr) (x15l : Nat) (x15c : Nat), cell h14 a5 = some (.slice x15 x15l x15c) ∧ ∃ (x16 : Option Addr) (x16l : Nat) (x16c : Nat), cell h14 (a5.add 1) = some (.slice x16 x16l x16c) ∧ callP1 (straitref29_in x15 x15l x15c x16 x16l x16c a4 h14) fun x17 h18 => (j27 (!x17) h18))))
def straitref29_Least.ret (K : Int → Bool → Heap → Prop) (v : Value) (h : Heap) : Prop := match v with
  | (.agg ⟨[(.int .i64 r36), (.bool r37)]⟩) => K r36 r37 h
  | _ => False
theorem straitref29_Least.ret_elim {K : Int → Bool → Heap → Prop} {K' : Value → Heap → Prop} {v : Value} {h : Heap} (hk : ∀ r36 r37 h, K r36 r37 h → K' (.agg #[(.int .i64 r36), (.bool r37)]) h) (hh : straitref29_Least.ret K v h) : K' v h := by
  unfold straitref29_Least.ret at hh
  split at hh
  · exact hk _ _ _ hh
  · exact hh.elim
def straitref29_Least.call (f : FuncId) (vs : List Value) (h : Heap) (K : Value → Heap → Prop) : Prop := match f, vs with
  | 25, [(.agg ⟨[(.slice a1 a1l a1c), (.slice a2 a2l a2c)]⟩), (.int .i64 a3)] => callP3 (straitref29_Below a1 a1l a1c a2 a2l a2c a3 h) fun r13 r13l r13c h' => K (.slice r13 r13l r13c) h'
  | 50, [(.agg ⟨[(.slice a1 a1l a1c), (.slice a2 a2l a2c)]⟩), (.int .i64 a3)] => callP1 (straitref29_in a1 a1l a1c a2 a2l a2c a3 h) fun r13 h' => K (.bool r13) h'
  | _, _ => False
def straitref29_Least.qcall (f : FuncId) (vs : List Value) (h : Heap) (K : Value → Prop) : Prop := match f, vs with
  | 29, [(.slice a1 a1l a1c), (.int .i64 a2)] => qcallP1 h (straitref21_In a1 a1l a1c a2 h) fun r7 => K (.bool r7)
  | _, _ => False
def straitref29_Least.r0 (K : Nat → List Value → Heap → Prop) (m : Nat) (vs : List Value) (h : Heap) : Prop := match vs with
  | [(.int .i64 c1_1001), (.int .i64 c2_1002), (.pointer (some c3_1003)), (.pointer (some c6_1004)), (.pointer (some c7_1005)), (.int .i64 v8_1006)] => straitref29_Least.l0 (fun h' => K 2 [(.pointer (some c6_1004)), (.pointer (some c7_1005))] h') m c1_1001 c2_1002 c3_1003 c6_1004 c7_1005 v8_1006 h
  | _ => False
def straitref29_Least.loop (i : Nat) (vs : List Value) (h : Heap) (K : Nat → List Value → Heap → Prop) : Prop := match i with
  | 0 => ∃ m, straitref29_Least.r0 K m vs h
  | _ => False
noncomputable def straitref29_Least.ctx : Ctx := { P := Try.prog, call := straitref29_Least.call, qcall := straitref29_Least.qcall, quiet := fun f => Nat.beq f 29, loop := straitref29_Least.loop }
theorem straitref29_Least.ok : straitref29_Least.ctx.OK where
  mixed := by kernel_rfl
  mono := by
    intro f args h K K' hh hk
    change straitref29_Least.call f args h K at hh
    change straitref29_Least.call f args h K'
    unfold straitref29_Least.call at hh ⊢
    split at hh
    · obtain ⟨R, h1, h2⟩ := hh
      exact ⟨R, h1, fun _ _ _ x hr => hk _ _ (h2 _ _ _ x hr)⟩
    · obtain ⟨R, h1, h2⟩ := hh
      exact ⟨R, h1, fun _ x hr => hk _ _ (h2 _ x hr)⟩
    · exact hh.elim
  call := by
    intro f args h K hh w hw
    change straitref29_Least.call f args h K at hh
    unfold straitref29_Least.call at hh
    split at hh
    · obtain ⟨R, h1, h2⟩ := hh
      obtain ⟨g1, g2⟩ := straitref29_Below.calls h1 w hw
      exact ⟨g1, g2.mono fun e w' ⟨v, he, ho, hr⟩ => ⟨v, he, ho, straitref29_Below.ret_elim h2 hr⟩⟩
    · obtain ⟨R, h1, h2⟩ := hh
      obtain ⟨g1, g2⟩ := straitref29_in.calls h1 w hw
      exact ⟨g1, g2.mono fun e w' ⟨v, he, ho, hr⟩ => ⟨v, he, ho, straitref29_in.ret_elim h2 hr⟩⟩
    · exact hh.elim
  qmono := by
    intro f args h K K' hh hk
    change straitref29_Least.qcall f args h K at hh
    change straitref29_Least.qcall f args h K'
    unfold straitref29_Least.qcall at hh ⊢
    split at hh
    · obtain ⟨x0, h1, h2⟩ := hh
      exact ⟨x0, h1, hk _ h2⟩
    · exact hh.elim
  qval := by
    intro f args h K hh
    change straitref29_Least.qcall f args h K at hh
    suffices H : ∃ v, K v ∧ straitref29_Least.qcall f args h (· = v) from H
    unfold straitref29_Least.qcall at hh ⊢
    split at hh
    · obtain ⟨x0, h1, h2⟩ := hh
      exact ⟨_, h2, x0, h1, rfl⟩
    · exact hh.elim
  qcall := by
    intro f args h v hh w hw
    change straitref29_Least.qcall f args h (· = v) at hh
    unfold straitref29_Least.qcall at hh
    split at hh
    · obtain ⟨x0, h1, h2⟩ := hh
      obtain ⟨g1, g2⟩ := straitref21_In.calls h1 w hw
      refine .inl ⟨g1, g2.mono fun e w' ⟨u, he, ho, hr⟩ => ?_⟩
      have hq := straitref21_In.ret_elim (K' := fun u h' => u = v ∧ h' = h) (fun _ h' hr => by obtain ⟨rfl, rfl⟩ := hr; exact ⟨h2, rfl⟩) hr
      exact ⟨hq.1 ▸ he, ho, hq.2⟩
    · exact hh.elim
noncomputable def straitref29_Least.code : Code := (Try.f28.body).getD .skip
def straitref29_Least.ann : Ann := (.two .auto (.two .auto (.two .auto (.two (.two .auto (.two (.loop 0 [1, 2, 3, 6, 7, 8] [(2, [6, 7])] (.two .auto (.two (.two (.two .auto (.two (.reg [0, 0, 3, 0, 0, 31, 63, 127, 255, 511, 1023, 2047, 4095, 8191, 4095, 32767, 65535, 4095, 135167, 4095, 528383, 1970175, 4067327, 8388607, 16777215, 33554431] (.take 0 (.take 1 (.take 2 (.take 3 (.take 4 (.take 5 (.take 6 (.take 7 (.take 8 (.take 9 (.take 10 (.take 11 (.take 12 (.take 13 (.take 14 (.take 15 (.take 16 (.take 17 (.take 18 (.take 19 (.take 20 (.take 21 (.take 22 (.take 23 (.take 24 (.take 25 .done))))))))))))))))))))))))))) .auto)) .auto) .auto))) .auto)) .auto))))
noncomputable def straitref29_Least.c0 : Code := sub straitref29_Least.code [1, 1, 1, 0, 1, 0, 0]
def straitref29_Least.a0 : Ann := (.two .auto (.two (.two (.two .auto (.two (.reg [0, 0, 3, 0, 0, 31, 63, 127, 255, 511, 1023, 2047, 4095, 8191, 4095, 32767, 65535, 4095, 135167, 4095, 528383, 1970175, 4067327, 8388607, 16777215, 33554431] (.take 0 (.take 1 (.take 2 (.take 3 (.take 4 (.take 5 (.take 6 (.take 7 (.take 8 (.take 9 (.take 10 (.take 11 (.take 12 (.take 13 (.take 14 (.take 15 (.take 16 (.take 17 (.take 18 (.take 19 (.take 20 (.take 21 (.take 22 (.take 23 (.take 24 (.take 25 .done))))))))))))))))))))))))))) .auto)) .auto) .auto))
def straitref29_Least.keep0 : List Nat := [1, 2, 3, 6, 7, 8]
def straitref29_Least.outs0 : List (Nat × List Nat) := [(2, [6, 7])]
set_option maxRecDepth 100000 in
theorem straitref29_Least.L0 : LoopOK straitref29_Least.ctx 60 straitref29_Least.c0 0 straitref29_Least.keep0 straitref29_Least.outs0 := by
  refine loop_ok (n := straitref29_Least.a0) straitref29_Least.ok (by kernel_rfl) (loops_ok (l := []) (by kernel_rfl) ?_) straitref29_Least.r0 ?_ ?_ (fun vs h K hh => hh)
  · exact trivial
  · intro K vs h hh
    unfold straitref29_Least.r0 at hh
    split at hh
    · exact hh
    · exact hh
  · intro K m vs h hh
    unfold straitref29_Least.r0 at hh
    split at hh
    · exact cast (by kernel_rfl) hh
    · exact hh.elim
set_option maxRecDepth 100000 in
theorem straitref29_Least.eq (a1 : Option Addr) (a1l : Nat) (a1c : Nat) (a2 : Option Addr) (a2l : Nat) (a2c : Nat) (a3 : Int) (a4 : Int) (h : Heap) (K : Int → Bool → Heap → Prop) : evF straitref29_Least.ctx Try.f28 straitref29_Least.ann [(.agg #[(.slice a1 a1l a1c), (.slice a2 a2l a2c)]), (.int .i64 a3), (.int .i64 a4)] h (straitref29_Least.ret K) = straitref29_Least a1 a1l a1c a2 a2l a2c a3 a4 h K := by kernel_rfl
set_option maxRecDepth 100000 in
theorem straitref29_Least.calls {a1 : Option Addr} {a1l : Nat} {a1c : Nat} {a2 : Option Addr} {a2l : Nat} {a2c : Nat} {a3 : Int} {a4 : Int} {h : Heap} {K : Int → Bool → Heap → Prop} (hh : straitref29_Least a1 a1l a1c a2 a2l a2c a3 a4 h K) (w : World) (hw : w.heap = h) :
    (callFunc 28 #[(.agg #[(.slice a1 a1l a1c), (.slice a2 a2l a2c)]), (.int .i64 a3), (.int .i64 a4)]).run Try.prog w = .ok (.enter 28 #[(.agg #[(.slice a1 a1l a1c), (.slice a2 a2l a2c)]), (.int .i64 a3), (.int .i64 a4)]) w ∧ Calls Try.prog 28 #[(.agg #[(.slice a1 a1l a1c), (.slice a2 a2l a2c)]), (.int .i64 a3), (.int .i64 a4)] w fun e w' => ∃ v, e = .returned v ∧ Out w w' ∧ straitref29_Least.ret K v w'.heap := by
  rw [← straitref29_Least.eq] at hh
  exact fn_calls (args := [(.agg #[(.slice a1 a1l a1c), (.slice a2 a2l a2c)]), (.int .i64 a3), (.int .i64 a4)]) (c := straitref29_Least.code) straitref29_Least.ok Try.func28 (by kernel_rfl) (by kernel_rfl) (by kernel_rfl) (by kernel_rfl) (loops_ok (l := [(straitref29_Least.c0, none, 0, straitref29_Least.keep0, straitref29_Least.outs0)]) (by kernel_rfl) ⟨straitref29_Least.L0, trivial⟩) hh w hw

/-! ### strait/straitlaw29.TreeWays: function 5 -/
def straitlaw29_TreeWays (a1 : Option Addr) (a1l : Nat) (a1c : Nat) (a2 : Option Addr) (a2l : Nat) (a2c : Nat) (a3 : Int) (a4 : Int) (h : Heap) (K : Bool → Heap → Prop) : Prop :=
  newP h (.cells #[(.slice a1 a1l a1c), (.slice a2 a2l a2c)] 25) fun a5 h6 => newP h6 (.cells #[(.int .i64 a3), (.int .i64 a4)] 34) fun a7 h8 => (let j67 : Prop := (∃ (x18 : Option Addr) (x18l : Nat) (x18c : Nat), cell h8 a5 = some (.slice x18 x18l x18c) ∧ ∃ (x19 : Option Addr) (x19l : Nat) (x19c : Nat), cell h8 (a5.add 1) = some (.slice x19 x19l x19c) ∧ (0 ≤ (0 : Int) ∧ (0 : Int) < (2 : Int)) ∧ ∃ (x20 : Int), cell h8 (a7.add ((0 : Int).toNat * 1)) = some (.int .i64 x20) ∧ (0 ≤ (1 : Int) ∧ (1 : Int) < (2 : Int)) ∧ ∃ (x21 : Int), cell h8 (a7.add ((1 : Int).toNat * 1)) = some (.int .i64 x21) ∧ callP2 (tree_Least x18 x18l x18c x19 x19l x19c x20 x21 h8) fun x22 x23 h24 => (∃ (x25 : Option Addr) (x25l : Nat) (x25c : Nat), cell h24 a5 = some (.slice x25 x25l x25c) ∧ ∃ (x26 : Option Addr) (x26l : Nat) (x26c : Nat), cell h24 (a5.add 1) = some (.slice x26 x26l x26c) ∧ (0 ≤ (0 : Int) ∧ (0 : Int) < (2 : Int)) ∧ ∃ (x27 : Int), cell h24 (a7.add ((0 : Int).toNat * 1)) = some (.int .i64 x27) ∧ (0 ≤ (0 : Int) ∧ (0 : Int) < (2 : Int)) ∧ ∃ (x28 : Option Addr) (x28l : Nat) (x28c : Nat), cell h24 a5 = some (.slice x28 x28l x28c) ∧ ∃ (x29 : Option Addr) (x29l : Nat) (x29c : Nat), cell h24 (a5.add 1) = some (.slice x29 x29l x29c) ∧ ∃ (x30 : Int), cell h24 (a7.add ((0 : Int).toNat * 1)) = some (.int .i64 x30) ∧ callP3 (tree_Below x25 x25l x25c x26 x26l x26c x27 h24) fun x31 x31l x31c h32 => (∃ (x33 : Int), cell h32 (a7.add ((0 : Int).toNat * 1)) = some (.int .i64 x33) ∧ ((.int .i64 x33) : Value) = (.int .i64 x30)) ∧ (∃ (x34 : Option Addr) (x34l : Nat) (x34c : Nat), cell h32 a5 = some (.slice x34 x34l x34c) ∧ ∃ (x35 : Option Addr) (x35l : Nat) (x35c : Nat), cell h32 (a5.add 1) = some (.slice x35 x35l x35c) ∧ ((.agg #[(.slice x34 x34l x34c), (.slice x35 x35l x35c)]) : Value) = (.agg #[(.slice x28 x28l x28c), (.slice x29 x29l x29c)])) ∧ callP3 (straitref29_Below x28 x28l x28c x29 x29l x29c x30 h32) fun x36 x36l x36c h37 => qcallP1 h37 (straitref09_Ints x31 x31l x31c x36 x36l x36c h37) fun x38 => iteB x38 (∃ (x39 : Option Addr) (x39l : Nat) (x39c : Nat), cell h37 a5 = some (.slice x39 x39l x39c) ∧ ∃ (x40 : Option Addr) (x40l : Nat) (x40c : Nat), cell h37 (a5.add 1) = some (.slice x40 x40l x40c) ∧ (0 ≤ (0 : Int) ∧ (0 : Int) < (2 : Int)) ∧ ∃ (x41 : Int), cell h37 (a7.add ((0 : Int).toNat * 1)) = some (.int .i64 x41) ∧ (0 ≤ (1 : Int) ∧ (1 : Int) < (2 : Int)) ∧ ∃ (x42 : Int), cell h37 (a7.add ((1 : Int).toNat * 1)) = some (.int .i64 x42) ∧ (0 ≤ (0 : Int) ∧ (0 : Int) < (2 : Int)) ∧ (0 ≤ (1 : Int) ∧ (1 : Int) < (2 : Int)) ∧ ∃ (x43 : Option Addr) (x43l : Nat) (x43c : Nat), cell h37 a5 = some (.slice x43 x43l x43c) ∧ ∃ (x44 : Option Addr) (x44l : Nat) (x44c : Nat), cell h37 (a5.add 1) = some (.slice x44 x44l x44c) ∧ ∃ (x45 : Int), cell h37 (a7.add ((0 : Int).toNat * 1)) = some (.int .i64 x45) ∧ ∃ (x46 : Int), cell h37 (a7.add ((1 : Int).toNat * 1)) = some (.int .i64 x46) ∧ callP3 (tree_Path x39 x39l x39c x40 x40l x40c x41 x42 h37) fun x47 x47l x47c h48 => (∃ (x49 : Int), cell h48 (a7.add ((1 : Int).toNat * 1)) = some (.int .i64 x49) ∧ ((.int .i64 x49) : Value) = (.int .i64 x46)) ∧ (∃ (x50 : Int), cell h48 (a7.add ((0 : Int).toNat * 1)) = some (.int .i64 x50) ∧ ((.int .i64 x50) : Value) = (.int .i64 x45)) ∧ (∃ (x51 : Option Addr) (x51l : Nat) (x51c : Nat), cell h48 a5 = some (.slice x51 x51l x51c) ∧ ∃ (x52 : Option Addr) (x52l : Nat) (x52c : Nat), cell h48 (a5.add 1) = some (.slice x52 x52l x52c) ∧ ((.agg #[(.slice x51 x51l x51c), (.slice x52 x52l x52c)]) : Value) = (.agg #[(.slice x43 x43l x43c), (.slice x44 x44l x44c)])) ∧ callP3 (straitref29_Path x43 x43l x43c x44 x44l x44c x45 x46 h48) fun x53 x53l x53c h54 => qcallP1 h54 (straitref09_Ints x47 x47l x47c x53 x53l x53c h54) fun x55 => iteB x55 (∃ (x56 : Option Addr) (x56l : Nat) (x56c : Nat), cell h54 a5 = some (.slice x56 x56l x56c) ∧ ∃ (x57 : Option Addr) (x57l : Nat) (x57c : Nat), cell h54 (a5.add 1) = some (.slice x57 x57l x57c) ∧ (0 ≤ (0 : Int) ∧ (0 : Int) < (2 : Int)) ∧ ∃ (x58 : Int), cell h54 (a7.add ((0 : Int).toNat * 1)) = some (.int .i64 x58) ∧ (0 ≤ (1 : Int) ∧ (1 : Int) < (2 : Int)) ∧ ∃ (x59 : Int), cell h54 (a7.add ((1 : Int).toNat * 1)) = some (.int .i64 x59) ∧ callP2 (straitref29_Least x56 x56l x56c x57 x57l x57c x58 x59 h54) fun x60 x61 h62 => iteB (eqAll [(x60 == x22), (x61 == x23)]) (callP1 (straitlaw29_awake h62) fun x63 h64 => K x63 h64) (K false h62)) (K false h54)) (True ∧ True ∧ True ∧ K false h37)));
  ∃ (x9 : Option Addr) (x9l : Nat) (x9c : Nat), cell h8 a5 = some (.slice x9 x9l x9c) ∧ iteB (decide ((x9l : Int) > (40 : Int))) ((callP1 (straitlaw29_awake h8) fun x14 h15 => K x14 h15)) (∃ (x10 : Option Addr) (x10l : Nat) (x10c : Nat), cell h8 (a5.add 1) = some (.slice x10 x10l x10c) ∧ (iteB (decide ((x10l : Int) > (5000 : Int))) (callP1 (straitlaw29_awake h8) fun x16 h17 => K x16 h17) ((j67)))))
def straitlaw29_TreeWays.ret (K : Bool → Heap → Prop) (v : Value) (h : Heap) : Prop := match v with
  | (.bool r68) => K r68 h
  | _ => False
theorem straitlaw29_TreeWays.ret_elim {K : Bool → Heap → Prop} {K' : Value → Heap → Prop} {v : Value} {h : Heap} (hk : ∀ r68 h, K r68 h → K' (.bool r68) h) (hh : straitlaw29_TreeWays.ret K v h) : K' v h := by
  unfold straitlaw29_TreeWays.ret at hh
  split at hh
  · exact hk _ _ hh
  · exact hh.elim
def straitlaw29_TreeWays.call (f : FuncId) (vs : List Value) (h : Heap) (K : Value → Heap → Prop) : Prop := match f, vs with
  | 13, [] => callP1 (straitlaw29_awake h) fun r33 h' => K (.bool r33) h'
  | 23, [(.agg ⟨[(.slice a1 a1l a1c), (.slice a2 a2l a2c)]⟩), (.int .i64 a3), (.int .i64 a4)] => callP2 (tree_Least a1 a1l a1c a2 a2l a2c a3 a4 h) fun r15 r16 h' => K (.tuple #[(.int .i64 r15), (.bool r16)]) h'
  | 24, [(.agg ⟨[(.slice a1 a1l a1c), (.slice a2 a2l a2c)]⟩), (.int .i64 a3)] => callP3 (tree_Below a1 a1l a1c a2 a2l a2c a3 h) fun r20 r20l r20c h' => K (.slice r20 r20l r20c) h'
  | 25, [(.agg ⟨[(.slice a1 a1l a1c), (.slice a2 a2l a2c)]⟩), (.int .i64 a3)] => callP3 (straitref29_Below a1 a1l a1c a2 a2l a2c a3 h) fun r13 r13l r13c h' => K (.slice r13 r13l r13c) h'
  | 26, [(.agg ⟨[(.slice a1 a1l a1c), (.slice a2 a2l a2c)]⟩), (.int .i64 a3), (.int .i64 a4)] => callP3 (tree_Path a1 a1l a1c a2 a2l a2c a3 a4 h) fun r32 r32l r32c h' => K (.slice r32 r32l r32c) h'
  | 27, [(.agg ⟨[(.slice a1 a1l a1c), (.slice a2 a2l a2c)]⟩), (.int .i64 a3), (.int .i64 a4)] => callP3 (straitref29_Path a1 a1l a1c a2 a2l a2c a3 a4 h) fun r34 r34l r34c h' => K (.slice r34 r34l r34c) h'
  | 28, [(.agg ⟨[(.slice a1 a1l a1c), (.slice a2 a2l a2c)]⟩), (.int .i64 a3), (.int .i64 a4)] => callP2 (straitref29_Least a1 a1l a1c a2 a2l a2c a3 a4 h) fun r36 r37 h' => K (.agg #[(.int .i64 r36), (.bool r37)]) h'
  | _, _ => False
def straitlaw29_TreeWays.qcall (f : FuncId) (vs : List Value) (h : Heap) (K : Value → Prop) : Prop := match f, vs with
  | 18, [(.slice a1 a1l a1c), (.slice a2 a2l a2c)] => qcallP1 h (straitref09_Ints a1 a1l a1c a2 a2l a2c h) fun r7 => K (.bool r7)
  | _, _ => False
noncomputable def straitlaw29_TreeWays.ctx : Ctx := { P := Try.prog, call := straitlaw29_TreeWays.call, qcall := straitlaw29_TreeWays.qcall, quiet := fun f => Nat.beq f 18, loop := fun _ _ _ _ => False }
theorem straitlaw29_TreeWays.ok : straitlaw29_TreeWays.ctx.OK where
  mixed := by kernel_rfl
  mono := by
    intro f args h K K' hh hk
    change straitlaw29_TreeWays.call f args h K at hh
    change straitlaw29_TreeWays.call f args h K'
    unfold straitlaw29_TreeWays.call at hh ⊢
    split at hh
    · obtain ⟨R, h1, h2⟩ := hh
      exact ⟨R, h1, fun _ x hr => hk _ _ (h2 _ x hr)⟩
    · obtain ⟨R, h1, h2⟩ := hh
      exact ⟨R, h1, fun _ _ x hr => hk _ _ (h2 _ _ x hr)⟩
    · obtain ⟨R, h1, h2⟩ := hh
      exact ⟨R, h1, fun _ _ _ x hr => hk _ _ (h2 _ _ _ x hr)⟩
    · obtain ⟨R, h1, h2⟩ := hh
      exact ⟨R, h1, fun _ _ _ x hr => hk _ _ (h2 _ _ _ x hr)⟩
    · obtain ⟨R, h1, h2⟩ := hh
      exact ⟨R, h1, fun _ _ _ x hr => hk _ _ (h2 _ _ _ x hr)⟩
    · obtain ⟨R, h1, h2⟩ := hh
      exact ⟨R, h1, fun _ _ _ x hr => hk _ _ (h2 _ _ _ x hr)⟩
    · obtain ⟨R, h1, h2⟩ := hh
      exact ⟨R, h1, fun _ _ x hr => hk _ _ (h2 _ _ x hr)⟩
    · exact hh.elim
  call := by
    intro f args h K hh w hw
    change straitlaw29_TreeWays.call f args h K at hh
    unfold straitlaw29_TreeWays.call at hh
    split at hh
    · obtain ⟨R, h1, h2⟩ := hh
      obtain ⟨g1, g2⟩ := straitlaw29_awake.calls h1 w hw
      exact ⟨g1, g2.mono fun e w' ⟨v, he, ho, hr⟩ => ⟨v, he, ho, straitlaw29_awake.ret_elim h2 hr⟩⟩
    · obtain ⟨R, h1, h2⟩ := hh
      obtain ⟨g1, g2⟩ := tree_Least.calls h1 w hw
      exact ⟨g1, g2.mono fun e w' ⟨v, he, ho, hr⟩ => ⟨v, he, ho, tree_Least.ret_elim h2 hr⟩⟩
    · obtain ⟨R, h1, h2⟩ := hh
      obtain ⟨g1, g2⟩ := tree_Below.calls h1 w hw
      exact ⟨g1, g2.mono fun e w' ⟨v, he, ho, hr⟩ => ⟨v, he, ho, tree_Below.ret_elim h2 hr⟩⟩
    · obtain ⟨R, h1, h2⟩ := hh
      obtain ⟨g1, g2⟩ := straitref29_Below.calls h1 w hw
      exact ⟨g1, g2.mono fun e w' ⟨v, he, ho, hr⟩ => ⟨v, he, ho, straitref29_Below.ret_elim h2 hr⟩⟩
    · obtain ⟨R, h1, h2⟩ := hh
      obtain ⟨g1, g2⟩ := tree_Path.calls h1 w hw
      exact ⟨g1, g2.mono fun e w' ⟨v, he, ho, hr⟩ => ⟨v, he, ho, tree_Path.ret_elim h2 hr⟩⟩
    · obtain ⟨R, h1, h2⟩ := hh
      obtain ⟨g1, g2⟩ := straitref29_Path.calls h1 w hw
      exact ⟨g1, g2.mono fun e w' ⟨v, he, ho, hr⟩ => ⟨v, he, ho, straitref29_Path.ret_elim h2 hr⟩⟩
    · obtain ⟨R, h1, h2⟩ := hh
      obtain ⟨g1, g2⟩ := straitref29_Least.calls h1 w hw
      exact ⟨g1, g2.mono fun e w' ⟨v, he, ho, hr⟩ => ⟨v, he, ho, straitref29_Least.ret_elim h2 hr⟩⟩
    · exact hh.elim
  qmono := by
    intro f args h K K' hh hk
    change straitlaw29_TreeWays.qcall f args h K at hh
    change straitlaw29_TreeWays.qcall f args h K'
    unfold straitlaw29_TreeWays.qcall at hh ⊢
    split at hh
    · obtain ⟨x0, h1, h2⟩ := hh
      exact ⟨x0, h1, hk _ h2⟩
    · exact hh.elim
  qval := by
    intro f args h K hh
    change straitlaw29_TreeWays.qcall f args h K at hh
    suffices H : ∃ v, K v ∧ straitlaw29_TreeWays.qcall f args h (· = v) from H
    unfold straitlaw29_TreeWays.qcall at hh ⊢
    split at hh
    · obtain ⟨x0, h1, h2⟩ := hh
      exact ⟨_, h2, x0, h1, rfl⟩
    · exact hh.elim
  qcall := by
    intro f args h v hh w hw
    change straitlaw29_TreeWays.qcall f args h (· = v) at hh
    unfold straitlaw29_TreeWays.qcall at hh
    split at hh
    · obtain ⟨x0, h1, h2⟩ := hh
      obtain ⟨g1, g2⟩ := straitref09_Ints.calls h1 w hw
      refine .inl ⟨g1, g2.mono fun e w' ⟨u, he, ho, hr⟩ => ?_⟩
      have hq := straitref09_Ints.ret_elim (K' := fun u h' => u = v ∧ h' = h) (fun _ h' hr => by obtain ⟨rfl, rfl⟩ := hr; exact ⟨h2, rfl⟩) hr
      exact ⟨hq.1 ▸ he, ho, hq.2⟩
    · exact hh.elim
noncomputable def straitlaw29_TreeWays.code : Code := (Try.f5.body).getD .skip
def straitlaw29_TreeWays.ann : Ann := (.two .auto (.two .auto (.two .auto (.two (.reg [0, 0, 2, 7, 0, 0, 32, 127, 255, 511, 1023, 1023, 3071, 1023, 9215, 32767, 1023, 1023, 132095, 1023, 525311, 2097151, 4194303, 8388607, 16777215, 33554431, 33554431, 100663295, 33554431, 301989887, 1073741823, 33554431, 33554431, 6476005375, 17179869183, 34359738367, 68719476735, 137438953471, 274877906943, 549755813887] (.take 0 (.take 1 (.take 2 (.take 5 (.early 4 (.early 6 (.alt 3 (.alt 7 (.take 8 (.take 9 (.take 10 (.take 11 (.take 12 (.take 13 (.take 14 (.take 17 (.take 19 (.early 16 (.early 18 (.early 20 (.alt 15 (.alt 21 (.take 22 (.take 23 (.take 24 (.take 25 (.take 26 (.take 27 (.take 28 (.take 29 (.take 31 (.take 32 (.take 33 (.alt 30 (.take 34 (.take 35 (.take 36 (.alt 37 (.take 38 (.take 39 .done)) .noalt)))) .noalt)))))))))))) .noalt) .noalt))))))))))))) .noalt) .noalt)))))))) .auto))))
set_option maxRecDepth 100000 in
theorem straitlaw29_TreeWays.eq (a1 : Option Addr) (a1l : Nat) (a1c : Nat) (a2 : Option Addr) (a2l : Nat) (a2c : Nat) (a3 : Int) (a4 : Int) (h : Heap) (K : Bool → Heap → Prop) : evF straitlaw29_TreeWays.ctx Try.f5 straitlaw29_TreeWays.ann [(.agg #[(.slice a1 a1l a1c), (.slice a2 a2l a2c)]), (.agg #[(.int .i64 a3), (.int .i64 a4)])] h (straitlaw29_TreeWays.ret K) = straitlaw29_TreeWays a1 a1l a1c a2 a2l a2c a3 a4 h K := by kernel_rfl
set_option maxRecDepth 100000 in
theorem straitlaw29_TreeWays.calls {a1 : Option Addr} {a1l : Nat} {a1c : Nat} {a2 : Option Addr} {a2l : Nat} {a2c : Nat} {a3 : Int} {a4 : Int} {h : Heap} {K : Bool → Heap → Prop} (hh : straitlaw29_TreeWays a1 a1l a1c a2 a2l a2c a3 a4 h K) (w : World) (hw : w.heap = h) :
    (callFunc 5 #[(.agg #[(.slice a1 a1l a1c), (.slice a2 a2l a2c)]), (.agg #[(.int .i64 a3), (.int .i64 a4)])]).run Try.prog w = .ok (.enter 5 #[(.agg #[(.slice a1 a1l a1c), (.slice a2 a2l a2c)]), (.agg #[(.int .i64 a3), (.int .i64 a4)])]) w ∧ Calls Try.prog 5 #[(.agg #[(.slice a1 a1l a1c), (.slice a2 a2l a2c)]), (.agg #[(.int .i64 a3), (.int .i64 a4)])] w fun e w' => ∃ v, e = .returned v ∧ Out w w' ∧ straitlaw29_TreeWays.ret K v w'.heap := by
  rw [← straitlaw29_TreeWays.eq] at hh
  exact fn_calls (args := [(.agg #[(.slice a1 a1l a1c), (.slice a2 a2l a2c)]), (.agg #[(.int .i64 a3), (.int .i64 a4)])]) (c := straitlaw29_TreeWays.code) straitlaw29_TreeWays.ok Try.func5 (by kernel_rfl) (by kernel_rfl) (by kernel_rfl) (by kernel_rfl) (loops_ok (l := []) (by kernel_rfl) trivial) hh w hw

end Go.Proofs.Ytfidcekobjmamaa
