/- WRITTEN BY A PROGRAM OF THIS SESSION (gen.py): what each function asks of memory, and that the model's run comes to it. -/
import Derived.Test.YtfidcekobjmamaaProg
import Derived.Test.YtfidcekobjmamaaFw8
import Derived.Test.YtfidcekobjmamaaGT3
namespace Go.Proofs.Ytfidcekobjmamaa
open Go.Hp
set_option linter.unusedVariables false
set_option linter.unusedSimpArgs false

/-! ### strait/straitlaw29.TreeParts: function 6 -/
def straitlaw29_TreeParts.b1 (K0 : Bool → Heap → Prop) (K4 : Heap → Prop) (cont : (Option Addr) → Nat → Nat → (Option Addr) → Nat → Nat → Int → Int → Heap → Prop) (c5_2001 : Option Addr) (c5_2002 : Nat) (c5_2003 : Nat) (c6_2004 : Option Addr) (c6_2005 : Nat) (c6_2006 : Nat) (c7_2007 : Int) (v10_2008 : Int) (h2009 : Heap) : Prop :=
  (iteB (decide (v10_2008 < (c5_2002 : Int))) ((iteB ((c5_2002 : Int) != (c6_2005 : Int)) (K0 false h2009) (chkP c5_2001 fun a2010 => (0 ≤ v10_2008 ∧ v10_2008 < (c5_2002 : Int)) ∧ ∃ (x2011 : Int), cell h2009 (a2010.add (v10_2008.toNat * 1)) = some (.int .i64 x2011) ∧ bindV (IntKind.i64.wrap ((IntKind.i64.wrap ((c6_2005 : Int) - 1)) - v10_2008)) fun n2012 => chkP c6_2004 fun a2013 => (0 ≤ n2012 ∧ n2012 < (c6_2005 : Int)) ∧ ∃ (x2014 : Int), cell h2009 (a2013.add (n2012.toNat * 1)) = some (.int .i64 x2014) ∧ (iteB (x2011 != x2014) (K0 false h2009) (((cont c5_2001 c5_2002 c5_2003 c6_2004 c6_2005 c6_2006 c7_2007 (IntKind.i64.wrap (v10_2008 + 1)) h2009))))))) (K4 h2009))
def straitlaw29_TreeParts.l1 (K0 : Bool → Heap → Prop) (K4 : Heap → Prop) : Nat → (Option Addr) → Nat → Nat → (Option Addr) → Nat → Nat → Int → Int → Heap → Prop
  | 0, _, _, _, _, _, _, _, _, _ => False
  | m + 1, c5_2001, c5_2002, c5_2003, c6_2004, c6_2005, c6_2006, c7_2007, v10_2008, h => straitlaw29_TreeParts.b1 K0 K4 (straitlaw29_TreeParts.l1 K0 K4 m) c5_2001 c5_2002 c5_2003 c6_2004 c6_2005 c6_2006 c7_2007 v10_2008 h
def straitlaw29_TreeParts.b0 (K0 : Bool → Heap → Prop) (K2 : Int → Heap → Prop) (cont : Addr → Addr → (Option Addr) → Nat → Nat → (Option Addr) → Nat → Nat → Int → Int → Heap → Prop) (c2_1001 : Addr) (c3_1002 : Addr) (c5_1003 : Option Addr) (c5_1004 : Nat) (c5_1005 : Nat) (c6_1006 : Option Addr) (c6_1007 : Nat) (c6_1008 : Nat) (v7_1009 : Int) (v8_1010 : Int) (h1011 : Heap) : Prop :=
  ∃ (x1012 : Option Addr) (x1012l : Nat) (x1012c : Nat), cell h1011 c2_1001 = some (.slice x1012 x1012l x1012c) ∧ (iteB (decide (v8_1010 < (x1012l : Int))) ((let j1029 := (fun (y1027 : Int) (h1028 : Heap) => cont c2_1001 c3_1002 c5_1003 c5_1004 c5_1005 c6_1006 c6_1007 c6_1008 y1027 (IntKind.i64.wrap (v8_1010 + 1)) h1028);
  ∃ (x1013 : Option Addr) (x1013l : Nat) (x1013c : Nat), cell h1011 c2_1001 = some (.slice x1013 x1013l x1013c) ∧ ∃ (x1014 : Option Addr) (x1014l : Nat) (x1014c : Nat), cell h1011 (c2_1001.add 1) = some (.slice x1014 x1014l x1014c) ∧ callP3 (tree_Below x1013 x1013l x1013c x1014 x1014l x1014c v8_1010 h1011) fun x1015 x1015l x1015c h1016 => ((0 ≤ (0 : Int) ∧ (0 : Int) < (2 : Int)) ∧ ∃ (x1017 : Int), cell h1016 (c3_1002.add ((0 : Int).toNat * 1)) = some (.int .i64 x1017) ∧ qcallP1 h1016 (straitref21_In x1015 x1015l x1015c x1017 h1016) fun x1018 => (0 ≤ (1 : Int) ∧ (1 : Int) < (2 : Int)) ∧ ∃ (x1019 : Int), cell h1016 (c3_1002.add ((1 : Int).toNat * 1)) = some (.int .i64 x1019) ∧ qcallP1 h1016 (straitref21_In x1015 x1015l x1015c x1019 h1016) fun x1020 => (iteB (!(x1018 == x1020)) (qcallP1 h1016 (straitref21_In c5_1003 c5_1004 c5_1005 v8_1010 h1016) fun x1021 => iteB (!x1021) (K0 false h1016) (∃ (x1022 : Option Addr) (x1022l : Nat) (x1022c : Nat), cell h1016 c2_1001 = some (.slice x1022 x1022l x1022c) ∧ chkP x1022 fun a1023 => (0 ≤ v8_1010 ∧ v8_1010 < (x1022l : Int)) ∧ ∃ (x1024 : Int), cell h1016 (a1023.add (v8_1010.toNat * 1)) = some (.int .i64 x1024) ∧ qcallP1 h1016 (straitref21_In c5_1003 c5_1004 c5_1005 x1024 h1016) fun x1025 => (iteB (!x1025) (K0 false h1016) ((((j1029 (IntKind.i64.wrap (v7_1009 + 1)) h1016))))))) (((j1029 v7_1009 h1016))))))) (K2 v7_1009 h1011))
def straitlaw29_TreeParts.l0 (K0 : Bool → Heap → Prop) (K2 : Int → Heap → Prop) : Nat → Addr → Addr → (Option Addr) → Nat → Nat → (Option Addr) → Nat → Nat → Int → Int → Heap → Prop
  | 0, _, _, _, _, _, _, _, _, _, _, _ => False
  | m + 1, c2_1001, c3_1002, c5_1003, c5_1004, c5_1005, c6_1006, c6_1007, c6_1008, v7_1009, v8_1010, h => straitlaw29_TreeParts.b0 K0 K2 (straitlaw29_TreeParts.l0 K0 K2 m) c2_1001 c3_1002 c5_1003 c5_1004 c5_1005 c6_1006 c6_1007 c6_1008 v7_1009 v8_1010 h
def straitlaw29_TreeParts (a1 : Option Addr) (a1l : Nat) (a1c : Nat) (a2 : Option Addr) (a2l : Nat) (a2c : Nat) (a3 : Int) (a4 : Int) (h : Heap) (K : Bool → Heap → Prop) : Prop :=
  newP h (.cells #[(.slice a1 a1l a1c), (.slice a2 a2l a2c)] 25) fun a5 h6 => newP h6 (.cells #[(.int .i64 a3), (.int .i64 a4)] 34) fun a7 h8 => (let j25 := (fun (y21 : Bool) (h22 : Heap) => iteB y21 (callP1 (straitlaw29_awake h22) fun x23 h24 => K x23 h24) ((∃ (x26 : Option Addr) (x26l : Nat) (x26c : Nat), cell h22 a5 = some (.slice x26 x26l x26c) ∧ ∃ (x27 : Option Addr) (x27l : Nat) (x27c : Nat), cell h22 (a5.add 1) = some (.slice x27 x27l x27c) ∧ (0 ≤ (0 : Int) ∧ (0 : Int) < (2 : Int)) ∧ ∃ (x28 : Int), cell h22 (a7.add ((0 : Int).toNat * 1)) = some (.int .i64 x28) ∧ (0 ≤ (1 : Int) ∧ (1 : Int) < (2 : Int)) ∧ ∃ (x29 : Int), cell h22 (a7.add ((1 : Int).toNat * 1)) = some (.int .i64 x29) ∧ (0 ≤ (1 : Int) ∧ (1 : Int) < (2 : Int)) ∧ (0 ≤ (0 : Int) ∧ (0 : Int) < (2 : Int)) ∧ ∃ (x30 : Option Addr) (x30l : Nat) (x30c : Nat), cell h22 a5 = some (.slice x30 x30l x30c) ∧ ∃ (x31 : Option Addr) (x31l : Nat) (x31c : Nat), cell h22 (a5.add 1) = some (.slice x31 x31l x31c) ∧ ∃ (x32 : Int), cell h22 (a7.add ((1 : Int).toNat * 1)) = some (.int .i64 x32) ∧ ∃ (x33 : Int), cell h22 (a7.add ((0 : Int).toNat * 1)) = some (.int .i64 x33) ∧ callP3 (tree_Path x26 x26l x26c x27 x27l x27c x28 x29 h22) fun x34 x34l x34c h35 => (∃ (x36 : Int), cell h35 (a7.add ((0 : Int).toNat * 1)) = some (.int .i64 x36) ∧ ((.int .i64 x36) : Value) = (.int .i64 x33)) ∧ (∃ (x37 : Int), cell h35 (a7.add ((1 : Int).toNat * 1)) = some (.int .i64 x37) ∧ ((.int .i64 x37) : Value) = (.int .i64 x32)) ∧ (∃ (x38 : Option Addr) (x38l : Nat) (x38c : Nat), cell h35 a5 = some (.slice x38 x38l x38c) ∧ ∃ (x39 : Option Addr) (x39l : Nat) (x39c : Nat), cell h35 (a5.add 1) = some (.slice x39 x39l x39c) ∧ ((.agg #[(.slice x38 x38l x38c), (.slice x39 x39l x39c)]) : Value) = (.agg #[(.slice x30 x30l x30c), (.slice x31 x31l x31c)])) ∧ callP3 (tree_Path x30 x30l x30c x31 x31l x31c x32 x33 h35) fun x40 x40l x40c h41 => (((∃ m46, straitlaw29_TreeParts.l0 (fun z42 h43 => K z42 h43) (fun z44 h45 => (((∃ m50, straitlaw29_TreeParts.l1 (fun z47 h48 => K z47 h48) (fun h49 => ((iteB ((x34l : Int) == (IntKind.i64.wrap (z44 + 1))) (callP1 (straitlaw29_awake h49) fun x51 h52 => K x51 h52) (K false h49)))) m50 x34 x34l x34c x40 x40l x40c z44 0 h45)))) m46 a5 a7 x34 x34l x34c x40 x40l x40c 0 0 h41))))));
  ∃ (x9 : Option Addr) (x9l : Nat) (x9c : Nat), cell h8 a5 = some (.slice x9 x9l x9c) ∧ iteB (decide ((x9l : Int) > (40 : Int))) ((j25 true h8)) (∃ (x10 : Option Addr) (x10l : Nat) (x10c : Nat), cell h8 (a5.add 1) = some (.slice x10 x10l x10c) ∧ iteB (decide ((x10l : Int) > (5000 : Int))) ((j25 true h8)) (∃ (x11 : Option Addr) (x11l : Nat) (x11c : Nat), cell h8 a5 = some (.slice x11 x11l x11c) ∧ ∃ (x12 : Option Addr) (x12l : Nat) (x12c : Nat), cell h8 (a5.add 1) = some (.slice x12 x12l x12c) ∧ callP1 (tree_Check x11 x11l x11c x12 x12l x12c h8) fun x13 h14 => iteB (x13 != (0 : Int)) ((j25 true h14)) ((0 ≤ (0 : Int) ∧ (0 : Int) < (2 : Int)) ∧ ∃ (x15 : Int), cell h14 (a7.add ((0 : Int).toNat * 1)) = some (.int .i64 x15) ∧ iteB (decide (x15 < (0 : Int))) ((j25 true h14)) ((0 ≤ (1 : Int) ∧ (1 : Int) < (2 : Int)) ∧ ∃ (x16 : Int), cell h14 (a7.add ((1 : Int).toNat * 1)) = some (.int .i64 x16) ∧ iteB (decide (x16 < (0 : Int))) ((j25 true h14)) ((0 ≤ (0 : Int) ∧ (0 : Int) < (2 : Int)) ∧ ∃ (x17 : Int), cell h14 (a7.add ((0 : Int).toNat * 1)) = some (.int .i64 x17) ∧ ∃ (x18 : Option Addr) (x18l : Nat) (x18c : Nat), cell h14 a5 = some (.slice x18 x18l x18c) ∧ iteB (decide (x17 ≥ (x18l : Int))) ((j25 true h14)) ((0 ≤ (1 : Int) ∧ (1 : Int) < (2 : Int)) ∧ ∃ (x19 : Int), cell h14 (a7.add ((1 : Int).toNat * 1)) = some (.int .i64 x19) ∧ ∃ (x20 : Option Addr) (x20l : Nat) (x20c : Nat), cell h14 a5 = some (.slice x20 x20l x20c) ∧ (j25 (decide (x19 ≥ (x20l : Int))) h14))))))))
def straitlaw29_TreeParts.ret (K : Bool → Heap → Prop) (v : Value) (h : Heap) : Prop := match v with
  | (.bool r55) => K r55 h
  | _ => False
theorem straitlaw29_TreeParts.ret_elim {K : Bool → Heap → Prop} {K' : Value → Heap → Prop} {v : Value} {h : Heap} (hk : ∀ r55 h, K r55 h → K' (.bool r55) h) (hh : straitlaw29_TreeParts.ret K v h) : K' v h := by
  unfold straitlaw29_TreeParts.ret at hh
  split at hh
  · exact hk _ _ hh
  · exact hh.elim
def straitlaw29_TreeParts.call (f : FuncId) (vs : List Value) (h : Heap) (K : Value → Heap → Prop) : Prop := match f, vs with
  | 13, [] => callP1 (straitlaw29_awake h) fun r33 h' => K (.bool r33) h'
  | 14, [(.agg ⟨[(.slice a1 a1l a1c), (.slice a2 a2l a2c)]⟩)] => callP1 (tree_Check a1 a1l a1c a2 a2l a2c h) fun r10 h' => K (.int .i64 r10) h'
  | 24, [(.agg ⟨[(.slice a1 a1l a1c), (.slice a2 a2l a2c)]⟩), (.int .i64 a3)] => callP3 (tree_Below a1 a1l a1c a2 a2l a2c a3 h) fun r20 r20l r20c h' => K (.slice r20 r20l r20c) h'
  | 26, [(.agg ⟨[(.slice a1 a1l a1c), (.slice a2 a2l a2c)]⟩), (.int .i64 a3), (.int .i64 a4)] => callP3 (tree_Path a1 a1l a1c a2 a2l a2c a3 a4 h) fun r32 r32l r32c h' => K (.slice r32 r32l r32c) h'
  | _, _ => False
def straitlaw29_TreeParts.qcall (f : FuncId) (vs : List Value) (h : Heap) (K : Value → Prop) : Prop := match f, vs with
  | 29, [(.slice a1 a1l a1c), (.int .i64 a2)] => qcallP1 h (straitref21_In a1 a1l a1c a2 h) fun r7 => K (.bool r7)
  | _, _ => False
def straitlaw29_TreeParts.r0 (K : Nat → List Value → Heap → Prop) (m : Nat) (vs : List Value) (h : Heap) : Prop := match vs with
  | [(.pointer (some c2_1001)), (.pointer (some c3_1002)), (.slice c5_1003 c5_1004 c5_1005), (.slice c6_1006 c6_1007 c6_1008), (.int .i64 v7_1009), (.int .i64 v8_1010)] => straitlaw29_TreeParts.l0 (fun z56 h' => K 0 [(.bool z56)] h') (fun z57 h' => K 2 [(.slice c5_1003 c5_1004 c5_1005), (.slice c6_1006 c6_1007 c6_1008), (.int .i64 z57)] h') m c2_1001 c3_1002 c5_1003 c5_1004 c5_1005 c6_1006 c6_1007 c6_1008 v7_1009 v8_1010 h
  | _ => False
def straitlaw29_TreeParts.r1 (K : Nat → List Value → Heap → Prop) (m : Nat) (vs : List Value) (h : Heap) : Prop := match vs with
  | [(.slice c5_2001 c5_2002 c5_2003), (.slice c6_2004 c6_2005 c6_2006), (.int .i64 c7_2007), (.int .i64 v10_2008)] => straitlaw29_TreeParts.l1 (fun z58 h' => K 0 [(.bool z58)] h') (fun h' => K 4 [(.slice c5_2001 c5_2002 c5_2003), (.int .i64 c7_2007)] h') m c5_2001 c5_2002 c5_2003 c6_2004 c6_2005 c6_2006 c7_2007 v10_2008 h
  | _ => False
def straitlaw29_TreeParts.loop (i : Nat) (vs : List Value) (h : Heap) (K : Nat → List Value → Heap → Prop) : Prop := match i with
  | 0 => ∃ m, straitlaw29_TreeParts.r0 K m vs h
  | 1 => ∃ m, straitlaw29_TreeParts.r1 K m vs h
  | _ => False
noncomputable def straitlaw29_TreeParts.ctx : Ctx := { P := Try.prog, call := straitlaw29_TreeParts.call, qcall := straitlaw29_TreeParts.qcall, quiet := fun f => Nat.beq f 29, loop := straitlaw29_TreeParts.loop }
theorem straitlaw29_TreeParts.ok : straitlaw29_TreeParts.ctx.OK where
  mixed := by kernel_rfl
  mono := by
    intro f args h K K' hh hk
    change straitlaw29_TreeParts.call f args h K at hh
    change straitlaw29_TreeParts.call f args h K'
    unfold straitlaw29_TreeParts.call at hh ⊢
    split at hh
    · obtain ⟨R, h1, h2⟩ := hh
      exact ⟨R, h1, fun _ x hr => hk _ _ (h2 _ x hr)⟩
    · obtain ⟨R, h1, h2⟩ := hh
      exact ⟨R, h1, fun _ x hr => hk _ _ (h2 _ x hr)⟩
    · obtain ⟨R, h1, h2⟩ := hh
      exact ⟨R, h1, fun _ _ _ x hr => hk _ _ (h2 _ _ _ x hr)⟩
    · obtain ⟨R, h1, h2⟩ := hh
      exact ⟨R, h1, fun _ _ _ x hr => hk _ _ (h2 _ _ _ x hr)⟩
    · exact hh.elim
  call := by
    intro f args h K hh w hw
    change straitlaw29_TreeParts.call f args h K at hh
    unfold straitlaw29_TreeParts.call at hh
    split at hh
    · obtain ⟨R, h1, h2⟩ := hh
      obtain ⟨g1, g2⟩ := straitlaw29_awake.calls h1 w hw
      exact ⟨g1, g2.mono fun e w' ⟨v, he, ho, hr⟩ => ⟨v, he, ho, straitlaw29_awake.ret_elim h2 hr⟩⟩
    · obtain ⟨R, h1, h2⟩ := hh
      obtain ⟨g1, g2⟩ := tree_Check.calls h1 w hw
      exact ⟨g1, g2.mono fun e w' ⟨v, he, ho, hr⟩ => ⟨v, he, ho, tree_Check.ret_elim h2 hr⟩⟩
    · obtain ⟨R, h1, h2⟩ := hh
      obtain ⟨g1, g2⟩ := tree_Below.calls h1 w hw
      exact ⟨g1, g2.mono fun e w' ⟨v, he, ho, hr⟩ => ⟨v, he, ho, tree_Below.ret_elim h2 hr⟩⟩
    · obtain ⟨R, h1, h2⟩ := hh
      obtain ⟨g1, g2⟩ := tree_Path.calls h1 w hw
      exact ⟨g1, g2.mono fun e w' ⟨v, he, ho, hr⟩ => ⟨v, he, ho, tree_Path.ret_elim h2 hr⟩⟩
    · exact hh.elim
  qmono := by
    intro f args h K K' hh hk
    change straitlaw29_TreeParts.qcall f args h K at hh
    change straitlaw29_TreeParts.qcall f args h K'
    unfold straitlaw29_TreeParts.qcall at hh ⊢
    split at hh
    · obtain ⟨x0, h1, h2⟩ := hh
      exact ⟨x0, h1, hk _ h2⟩
    · exact hh.elim
  qval := by
    intro f args h K hh
    change straitlaw29_TreeParts.qcall f args h K at hh
    suffices H : ∃ v, K v ∧ straitlaw29_TreeParts.qcall f args h (· = v) from H
    unfold straitlaw29_TreeParts.qcall at hh ⊢
    split at hh
    · obtain ⟨x0, h1, h2⟩ := hh
      exact ⟨_, h2, x0, h1, rfl⟩
    · exact hh.elim
  qcall := by
    intro f args h v hh w hw
    change straitlaw29_TreeParts.qcall f args h (· = v) at hh
    unfold straitlaw29_TreeParts.qcall at hh
    split at hh
    · obtain ⟨x0, h1, h2⟩ := hh
      obtain ⟨g1, g2⟩ := straitref21_In.calls h1 w hw
      refine .inl ⟨g1, g2.mono fun e w' ⟨u, he, ho, hr⟩ => ?_⟩
      have hq := straitref21_In.ret_elim (K' := fun u h' => u = v ∧ h' = h) (fun _ h' hr => by obtain ⟨rfl, rfl⟩ := hr; exact ⟨h2, rfl⟩) hr
      exact ⟨hq.1 ▸ he, ho, hq.2⟩
    · exact hh.elim
noncomputable def straitlaw29_TreeParts.code : Code := (Try.f6.body).getD .skip
def straitlaw29_TreeParts.ann : Ann := (.two .auto (.two .auto (.two (.reg [0, 0, 2, 0, 8, 31, 0, 0, 128, 0, 512, 2047, 4095, 8191] (.take 0 (.take 1 (.take 2 (.take 3 (.take 4 (.take 7 (.take 9 (.early 6 (.early 8 (.early 10 (.alt 5 (.alt 11 (.take 12 (.take 13 .done)) .noalt) .noalt)))))))))))) (.two .auto (.two (.two .auto (.two (.loop 0 [2, 3, 5, 6, 7, 8] [(2, [5, 6, 7]), (0, [4])] (.two .auto (.two (.two (.two .auto (.two (.reg [0, 0, 2, 7, 0, 0, 32, 127, 255] (.take 0 (.take 1 (.take 2 (.take 3 (.take 4 (.take 5 (.take 6 (.take 7 (.take 8 .done)))))))))) .auto)) .auto) .auto))) .auto)) (.two (.two .auto (.two (.loop 1 [5, 6, 7, 10] [(4, [5, 7]), (0, [4])] (.two .auto (.two (.two (.two (.reg [0, 1, 0, 4, 15, 31, 63, 63, 255, 511, 63, 63, 2111, 6207, 63, 30783, 64575, 130111, 262143, 524287] (.take 0 (.take 1 (.take 2 (.take 3 (.take 4 (.take 5 (.take 6 (.take 7 (.take 8 (.take 9 (.take 10 (.take 11 (.take 12 (.take 13 (.take 14 (.take 15 (.take 16 (.take 17 (.take 18 (.take 19 .done))))))))))))))))))))) .auto) .auto) .auto))) .auto)) .auto))))))
noncomputable def straitlaw29_TreeParts.c1 : Code := sub straitlaw29_TreeParts.code [1, 1, 1, 1, 1, 0, 1, 0, 0]
def straitlaw29_TreeParts.a1 : Ann := (.two .auto (.two (.two (.two (.reg [0, 1, 0, 4, 15, 31, 63, 63, 255, 511, 63, 63, 2111, 6207, 63, 30783, 64575, 130111, 262143, 524287] (.take 0 (.take 1 (.take 2 (.take 3 (.take 4 (.take 5 (.take 6 (.take 7 (.take 8 (.take 9 (.take 10 (.take 11 (.take 12 (.take 13 (.take 14 (.take 15 (.take 16 (.take 17 (.take 18 (.take 19 .done))))))))))))))))))))) .auto) .auto) .auto))
def straitlaw29_TreeParts.keep1 : List Nat := [5, 6, 7, 10]
def straitlaw29_TreeParts.outs1 : List (Nat × List Nat) := [(4, [5, 7]), (0, [4])]
noncomputable def straitlaw29_TreeParts.c0 : Code := sub straitlaw29_TreeParts.code [1, 1, 1, 1, 0, 1, 0, 0]
def straitlaw29_TreeParts.a0 : Ann := (.two .auto (.two (.two (.two .auto (.two (.reg [0, 0, 2, 7, 0, 0, 32, 127, 255] (.take 0 (.take 1 (.take 2 (.take 3 (.take 4 (.take 5 (.take 6 (.take 7 (.take 8 .done)))))))))) .auto)) .auto) .auto))
def straitlaw29_TreeParts.keep0 : List Nat := [2, 3, 5, 6, 7, 8]
def straitlaw29_TreeParts.outs0 : List (Nat × List Nat) := [(2, [5, 6, 7]), (0, [4])]
set_option maxRecDepth 100000 in
theorem straitlaw29_TreeParts.L0 : LoopOK straitlaw29_TreeParts.ctx 134 straitlaw29_TreeParts.c0 0 straitlaw29_TreeParts.keep0 straitlaw29_TreeParts.outs0 := by
  refine loop_ok (n := straitlaw29_TreeParts.a0) straitlaw29_TreeParts.ok (by kernel_rfl) (loops_ok (l := []) (by kernel_rfl) ?_) straitlaw29_TreeParts.r0 ?_ ?_ (fun vs h K hh => hh)
  · exact trivial
  · intro K vs h hh
    unfold straitlaw29_TreeParts.r0 at hh
    split at hh
    · exact hh
    · exact hh
  · intro K m vs h hh
    unfold straitlaw29_TreeParts.r0 at hh
    split at hh
    · exact cast (by kernel_rfl) hh
    · exact hh.elim
set_option maxRecDepth 100000 in
theorem straitlaw29_TreeParts.L1 : LoopOK straitlaw29_TreeParts.ctx 134 straitlaw29_TreeParts.c1 1 straitlaw29_TreeParts.keep1 straitlaw29_TreeParts.outs1 := by
  refine loop_ok (n := straitlaw29_TreeParts.a1) straitlaw29_TreeParts.ok (by kernel_rfl) (loops_ok (l := []) (by kernel_rfl) ?_) straitlaw29_TreeParts.r1 ?_ ?_ (fun vs h K hh => hh)
  · exact trivial
  · intro K vs h hh
    unfold straitlaw29_TreeParts.r1 at hh
    split at hh
    · exact hh
    · exact hh
  · intro K m vs h hh
    unfold straitlaw29_TreeParts.r1 at hh
    split at hh
    · exact cast (by kernel_rfl) hh
    · exact hh.elim
set_option maxRecDepth 100000 in
theorem straitlaw29_TreeParts.eq (a1 : Option Addr) (a1l : Nat) (a1c : Nat) (a2 : Option Addr) (a2l : Nat) (a2c : Nat) (a3 : Int) (a4 : Int) (h : Heap) (K : Bool → Heap → Prop) : evF straitlaw29_TreeParts.ctx Try.f6 straitlaw29_TreeParts.ann [(.agg #[(.slice a1 a1l a1c), (.slice a2 a2l a2c)]), (.agg #[(.int .i64 a3), (.int .i64 a4)])] h (straitlaw29_TreeParts.ret K) = straitlaw29_TreeParts a1 a1l a1c a2 a2l a2c a3 a4 h K := by kernel_rfl
set_option maxRecDepth 100000 in
theorem straitlaw29_TreeParts.calls {a1 : Option Addr} {a1l : Nat} {a1c : Nat} {a2 : Option Addr} {a2l : Nat} {a2c : Nat} {a3 : Int} {a4 : Int} {h : Heap} {K : Bool → Heap → Prop} (hh : straitlaw29_TreeParts a1 a1l a1c a2 a2l a2c a3 a4 h K) (w : World) (hw : w.heap = h) :
    (callFunc 6 #[(.agg #[(.slice a1 a1l a1c), (.slice a2 a2l a2c)]), (.agg #[(.int .i64 a3), (.int .i64 a4)])]).run Try.prog w = .ok (.enter 6 #[(.agg #[(.slice a1 a1l a1c), (.slice a2 a2l a2c)]), (.agg #[(.int .i64 a3), (.int .i64 a4)])]) w ∧ Calls Try.prog 6 #[(.agg #[(.slice a1 a1l a1c), (.slice a2 a2l a2c)]), (.agg #[(.int .i64 a3), (.int .i64 a4)])] w fun e w' => ∃ v, e = .returned v ∧ Out w w' ∧ straitlaw29_TreeParts.ret K v w'.heap := by
  rw [← straitlaw29_TreeParts.eq] at hh
  exact fn_calls (args := [(.agg #[(.slice a1 a1l a1c), (.slice a2 a2l a2c)]), (.agg #[(.int .i64 a3), (.int .i64 a4)])]) (c := straitlaw29_TreeParts.code) straitlaw29_TreeParts.ok Try.func6 (by kernel_rfl) (by kernel_rfl) (by kernel_rfl) (by kernel_rfl) (loops_ok (l := [(straitlaw29_TreeParts.c0, none, 0, straitlaw29_TreeParts.keep0, straitlaw29_TreeParts.outs0), (straitlaw29_TreeParts.c1, none, 1, straitlaw29_TreeParts.keep1, straitlaw29_TreeParts.outs1)]) (by kernel_rfl) ⟨straitlaw29_TreeParts.L0, straitlaw29_TreeParts.L1, trivial⟩) hh w hw

end Go.Proofs.Ytfidcekobjmamaa
