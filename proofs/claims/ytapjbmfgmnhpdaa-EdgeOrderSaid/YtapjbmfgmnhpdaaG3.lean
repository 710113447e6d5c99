/- WRITTEN BY A PROGRAM OF THIS SESSION (gen.py): what each function asks of memory, and that the model's run comes to it. -/
import Derived.Test.YtapjbmfgmnhpdaaProg
import Derived.Test.YtapjbmfgmnhpdaaFw8
import Derived.Test.YtapjbmfgmnhpdaaG2
namespace Go.Proofs.Ytapjbmfgmnhpdaa
open Go.Hp
set_option linter.unusedVariables false
set_option linter.unusedSimpArgs false

/-! ### strait/straitlaw15.EdgeOrder: function 5 -/
def straitlaw15_EdgeOrder.b2 (K0 : Bool → Heap → Prop) (K6 : Heap → Prop) (cont : (Option Addr) → Nat → Nat → Bool → (Option Addr) → Nat → Nat → Bool → (Option Addr) → Nat → Nat → Bool → Bool → (Option Addr) → Nat → Nat → Bool → Int → Heap → Prop) (c8_3001 : Option Addr) (c8_3002 : Nat) (c8_3003 : Nat) (c9_3004 : Bool) (c10_3005 : Option Addr) (c10_3006 : Nat) (c10_3007 : Nat) (c11_3008 : Bool) (c12_3009 : Option Addr) (c12_3010 : Nat) (c12_3011 : Nat) (c13_3012 : Bool) (c15_3013 : Bool) (c16_3014 : Option Addr) (c16_3015 : Nat) (c16_3016 : Nat) (c17_3017 : Bool) (v18_3018 : Int) (h3019 : Heap) : Prop :=
  (iteB (decide (v18_3018 < (c8_3002 : Int))) ((let j3039 := (fun (h3038 : Heap) => cont c8_3001 c8_3002 c8_3003 c9_3004 c10_3005 c10_3006 c10_3007 c11_3008 c12_3009 c12_3010 c12_3011 c13_3012 c15_3013 c16_3014 c16_3015 c16_3016 c17_3017 (IntKind.i64.wrap (v18_3018 + 1)) h3038);
  chkP c8_3001 fun a3020 => (0 ≤ v18_3018 ∧ v18_3018 < (c8_3002 : Int)) ∧ ∃ (x3021 : Int), cell h3019 (a3020.add (v18_3018.toNat * 3)) = some (.int .i64 x3021) ∧ chkP c8_3001 fun a3022 => (0 ≤ v18_3018 ∧ v18_3018 < (c8_3002 : Int)) ∧ ∃ (x3023 : Int), cell h3019 ((a3022.add (v18_3018.toNat * 3)).add 1) = some (.int .i64 x3023) ∧ iteB (decide (x3021 ≥ x3023)) (K0 false h3019) (chkP c8_3001 fun a3024 => (0 ≤ v18_3018 ∧ v18_3018 < (c8_3002 : Int)) ∧ ∃ (x3025 : Int), cell h3019 ((a3024.add (v18_3018.toNat * 3)).add 2) = some (.int .i64 x3025) ∧ iteB (decide (x3025 ≤ (0 : Int))) (K0 false h3019) (iteB (decide (v18_3018 > (0 : Int))) (chkP c8_3001 fun a3026 => (0 ≤ (IntKind.i64.wrap (v18_3018 - 1)) ∧ (IntKind.i64.wrap (v18_3018 - 1)) < (c8_3002 : Int)) ∧ ∃ (x3027 : Int), cell h3019 (a3026.add ((IntKind.i64.wrap (v18_3018 - 1)).toNat * 3)) = some (.int .i64 x3027) ∧ ∃ (x3028 : Int), cell h3019 ((a3026.add ((IntKind.i64.wrap (v18_3018 - 1)).toNat * 3)).add 1) = some (.int .i64 x3028) ∧ ∃ (x3029 : Int), cell h3019 ((a3026.add ((IntKind.i64.wrap (v18_3018 - 1)).toNat * 3)).add 2) = some (.int .i64 x3029) ∧ chkP c8_3001 fun a3030 => (0 ≤ v18_3018 ∧ v18_3018 < (c8_3002 : Int)) ∧ ∃ (x3031 : Int), cell h3019 (a3030.add (v18_3018.toNat * 3)) = some (.int .i64 x3031) ∧ ∃ (x3032 : Int), cell h3019 ((a3030.add (v18_3018.toNat * 3)).add 1) = some (.int .i64 x3032) ∧ ∃ (x3033 : Int), cell h3019 ((a3030.add (v18_3018.toNat * 3)).add 2) = some (.int .i64 x3033) ∧ callP1 (edge_Cmp x3027 x3028 x3029 x3031 x3032 x3033 h3019) fun x3034 h3035 => (iteB (decide (x3034 ≥ (0 : Int))) (K0 false h3035) (((j3039 h3035))))) ((((j3039 h3019)))))))) (K6 h3019))
def straitlaw15_EdgeOrder.l2 (K0 : Bool → Heap → Prop) (K6 : Heap → Prop) : Nat → (Option Addr) → Nat → Nat → Bool → (Option Addr) → Nat → Nat → Bool → (Option Addr) → Nat → Nat → Bool → Bool → (Option Addr) → Nat → Nat → Bool → Int → Heap → Prop
  | 0, _, _, _, _, _, _, _, _, _, _, _, _, _, _, _, _, _, _, _ => False
  | m + 1, c8_3001, c8_3002, c8_3003, c9_3004, c10_3005, c10_3006, c10_3007, c11_3008, c12_3009, c12_3010, c12_3011, c13_3012, c15_3013, c16_3014, c16_3015, c16_3016, c17_3017, v18_3018, h => straitlaw15_EdgeOrder.b2 K0 K6 (straitlaw15_EdgeOrder.l2 K0 K6 m) c8_3001 c8_3002 c8_3003 c9_3004 c10_3005 c10_3006 c10_3007 c11_3008 c12_3009 c12_3010 c12_3011 c13_3012 c15_3013 c16_3014 c16_3015 c16_3016 c17_3017 v18_3018 h
def straitlaw15_EdgeOrder.b1 (K4 : (Option Addr) → Nat → Nat → Heap → Prop) (cont : (Option Addr) → Nat → Nat → (Option Addr) → Nat → Nat → Int → Heap → Prop) (c0_2001 : Option Addr) (c0_2002 : Nat) (c0_2003 : Nat) (v6_2004 : Option Addr) (v6_2004l : Nat) (v6_2004c : Nat) (v7_2005 : Int) (h2006 : Heap) : Prop :=
  (iteB (decide (v7_2005 ≥ (0 : Int))) ((chkP c0_2001 fun a2007 => (0 ≤ v7_2005 ∧ v7_2005 < (c0_2002 : Int)) ∧ ∃ (x2008 : Int), cell h2006 ((a2007.add (v7_2005.toNat * 3)).add 1) = some (.int .i64 x2008) ∧ chkP c0_2001 fun a2009 => (0 ≤ v7_2005 ∧ v7_2005 < (c0_2002 : Int)) ∧ ∃ (x2010 : Int), cell h2006 (a2009.add (v7_2005.toNat * 3)) = some (.int .i64 x2010) ∧ chkP c0_2001 fun a2011 => (0 ≤ v7_2005 ∧ v7_2005 < (c0_2002 : Int)) ∧ ∃ (x2012 : Int), cell h2006 ((a2011.add (v7_2005.toNat * 3)).add 2) = some (.int .i64 x2012) ∧ newP h2006 (.cells #[(.int .i64 x2008), (.int .i64 x2010), (.int .i64 x2012)] 24) fun a2013 h2014 => ∃ n2019, cellsAt h2014 (some a2013) (1 * 3) n2019 ∧ appP 24 3 24 [(.int .i64 0), (.int .i64 0), (.int .i64 0)] v6_2004 v6_2004l v6_2004c 1 n2019 h2014 fun q2015 l2016 c2017 h2018 => ((cont c0_2001 c0_2002 c0_2003 q2015 l2016 c2017 (IntKind.i64.wrap (v7_2005 - 1)) h2018)))) (K4 v6_2004 v6_2004l v6_2004c h2006))
def straitlaw15_EdgeOrder.l1 (K4 : (Option Addr) → Nat → Nat → Heap → Prop) : Nat → (Option Addr) → Nat → Nat → (Option Addr) → Nat → Nat → Int → Heap → Prop
  | 0, _, _, _, _, _, _, _, _ => False
  | m + 1, c0_2001, c0_2002, c0_2003, v6_2004, v6_2004l, v6_2004c, v7_2005, h => straitlaw15_EdgeOrder.b1 K4 (straitlaw15_EdgeOrder.l1 K4 m) c0_2001 c0_2002 c0_2003 v6_2004 v6_2004l v6_2004c v7_2005 h
def straitlaw15_EdgeOrder.b0 (K2 : Bool → Heap → Prop) (cont : (Option Addr) → Nat → Nat → Int → Bool → Int → Heap → Prop) (c0_1001 : Option Addr) (c0_1002 : Nat) (c0_1003 : Nat) (v3_1004 : Int) (v4_1005 : Bool) (v5_1006 : Int) (h1007 : Heap) : Prop :=
  (iteB (decide (v5_1006 < (c0_1002 : Int))) ((let j1023 := (fun (y1021 : Int) (y1022 : Bool) => cont c0_1001 c0_1002 c0_1003 y1021 y1022 (IntKind.i64.wrap (v5_1006 + 1)) h1007);
  chkP c0_1001 fun a1008 => (0 ≤ v5_1006 ∧ v5_1006 < (c0_1002 : Int)) ∧ ∃ (x1009 : Int), cell h1007 (a1008.add (v5_1006.toNat * 3)) = some (.int .i64 x1009) ∧ chkP c0_1001 fun a1010 => (0 ≤ v5_1006 ∧ v5_1006 < (c0_1002 : Int)) ∧ ∃ (x1011 : Int), cell h1007 ((a1010.add (v5_1006.toNat * 3)).add 1) = some (.int .i64 x1011) ∧ bindV (if x1011 > (if x1009 > v3_1004 then x1009 else v3_1004) then x1011 else (if x1009 > v3_1004 then x1009 else v3_1004)) fun n1012 => (iteB v4_1005 (chkP c0_1001 fun a1013 => (0 ≤ v5_1006 ∧ v5_1006 < (c0_1002 : Int)) ∧ ∃ (x1014 : Int), cell h1007 (a1013.add (v5_1006.toNat * 3)) = some (.int .i64 x1014) ∧ iteB (decide (x1014 ≥ (0 : Int))) (chkP c0_1001 fun a1015 => (0 ≤ v5_1006 ∧ v5_1006 < (c0_1002 : Int)) ∧ ∃ (x1016 : Int), cell h1007 ((a1015.add (v5_1006.toNat * 3)).add 1) = some (.int .i64 x1016) ∧ iteB (decide (x1016 ≥ (0 : Int))) (chkP c0_1001 fun a1017 => (0 ≤ v5_1006 ∧ v5_1006 < (c0_1002 : Int)) ∧ ∃ (x1018 : Int), cell h1007 ((a1017.add (v5_1006.toNat * 3)).add 2) = some (.int .i64 x1018) ∧ iteB (decide (x1018 ≥ (0 : Int))) (chkP c0_1001 fun a1019 => (0 ≤ v5_1006 ∧ v5_1006 < (c0_1002 : Int)) ∧ ∃ (x1020 : Int), cell h1007 ((a1019.add (v5_1006.toNat * 3)).add 2) = some (.int .i64 x1020) ∧ ((j1023 n1012 (decide (x1020 ≤ (2147483648 : Int)))))) (((j1023 n1012 false)))) (((j1023 n1012 false)))) (((j1023 n1012 false)))) (((j1023 n1012 false)))))) (K2 v4_1005 h1007))
def straitlaw15_EdgeOrder.l0 (K2 : Bool → Heap → Prop) : Nat → (Option Addr) → Nat → Nat → Int → Bool → Int → Heap → Prop
  | 0, _, _, _, _, _, _, _ => False
  | m + 1, c0_1001, c0_1002, c0_1003, v3_1004, v4_1005, v5_1006, h => straitlaw15_EdgeOrder.b0 K2 (straitlaw15_EdgeOrder.l0 K2 m) c0_1001 c0_1002 c0_1003 v3_1004 v4_1005 v5_1006 h
def straitlaw15_EdgeOrder (a1 : Option Addr) (a1l : Nat) (a1c : Nat) (h : Heap) (K : Bool → Heap → Prop) : Prop :=
  ((iteB (decide ((a1l : Int) > (100 : Int))) (callP1 (straitlaw15_awake h) fun x2 h3 => K x2 h3) ((((∃ m6, straitlaw15_EdgeOrder.l0 (fun z4 h5 => (((iteB (!z4) (callP1 (straitlaw15_awake h5) fun x7 h8 => K x7 h8) ((((∃ m11, straitlaw15_EdgeOrder.l1 (fun z9 z9l z9c h10 => ((callP4 (edge_Merge a1 a1l a1c h10) fun x12 x12l x12c x13 h14 => (callP4 (edge_Merge z9 z9l z9c h14) fun x15 x15l x15c x16 h17 => (callP4 (edge_Merge x12 x12l x12c h17) fun x18 x18l x18c x19 h20 => (callP4 (edge_Split x12 x12l x12c h20) fun x21 x21l x21c x22 h23 => (callP4 (edge_Merge x21 x21l x21c h23) fun x24 x24l x24c x25 h26 => ((∃ m30, straitlaw15_EdgeOrder.l2 (fun z27 h28 => K z27 h28) (fun h29 => ((iteB x13 (iteB x16 (iteB x19 (iteB x22 (iteB x25 (qcallP1 h29 (straitref15_Same x12 x12l x12c x15 x15l x15c h29) fun x31 => iteB x31 (qcallP1 h29 (straitref15_Same x12 x12l x12c x18 x18l x18c h29) fun x32 => iteB x32 (qcallP1 h29 (straitref15_Same x12 x12l x12c x24 x24l x24c h29) fun x33 => iteB x33 (callP1 (straitlaw15_awake h29) fun x34 h35 => K x34 h35) (K false h29)) (K false h29)) (K false h29)) (K false h29)) (K false h29)) (K false h29)) (K false h29)) (K false h29)))) m30 x12 x12l x12c x13 x15 x15l x15c x16 x18 x18l x18c x19 x22 x24 x24l x24c x25 0 h26))))))))) m11 a1 a1l a1c none 0 0 (IntKind.i64.wrap ((a1l : Int) - 1)) h5)))))))) m6 a1 a1l a1c 0 true 0 h))))))
def straitlaw15_EdgeOrder.ret (K : Bool → Heap → Prop) (v : Value) (h : Heap) : Prop := match v with
  | (.bool r38) => K r38 h
  | _ => False
theorem straitlaw15_EdgeOrder.ret_elim {K : Bool → Heap → Prop} {K' : Value → Heap → Prop} {v : Value} {h : Heap} (hk : ∀ r38 h, K r38 h → K' (.bool r38) h) (hh : straitlaw15_EdgeOrder.ret K v h) : K' v h := by
  unfold straitlaw15_EdgeOrder.ret at hh
  split at hh
  · exact hk _ _ hh
  · exact hh.elim
def straitlaw15_EdgeOrder.call (f : FuncId) (vs : List Value) (h : Heap) (K : Value → Heap → Prop) : Prop := match f, vs with
  | 6, [] => callP1 (straitlaw15_awake h) fun r26 h' => K (.bool r26) h'
  | 13, [(.agg ⟨[(.int .i64 a1), (.int .i64 a2), (.int .i64 a3)]⟩), (.agg ⟨[(.int .i64 a4), (.int .i64 a5), (.int .i64 a6)]⟩)] => callP1 (edge_Cmp a1 a2 a3 a4 a5 a6 h) fun r23 h' => K (.int .i64 r23) h'
  | 19, [(.slice a1 a1l a1c)] => callP4 (edge_Merge a1 a1l a1c h) fun r13 r13l r13c r14 h' => K (.tuple #[(.slice r13 r13l r13c), (.bool r14)]) h'
  | 21, [(.slice a1 a1l a1c)] => callP4 (edge_Split a1 a1l a1c h) fun r21 r21l r21c r22 h' => K (.tuple #[(.slice r21 r21l r21c), (.bool r22)]) h'
  | _, _ => False
def straitlaw15_EdgeOrder.qcall (f : FuncId) (vs : List Value) (h : Heap) (K : Value → Prop) : Prop := match f, vs with
  | 23, [(.slice a1 a1l a1c), (.slice a2 a2l a2c)] => qcallP1 h (straitref15_Same a1 a1l a1c a2 a2l a2c h) fun r7 => K (.bool r7)
  | _, _ => False
def straitlaw15_EdgeOrder.r0 (K : Nat → List Value → Heap → Prop) (m : Nat) (vs : List Value) (h : Heap) : Prop := match vs with
  | [(.slice c0_1001 c0_1002 c0_1003), (.int .i64 v3_1004), (.bool v4_1005), (.int .i64 v5_1006)] => straitlaw15_EdgeOrder.l0 (fun z39 h' => K 2 [(.slice c0_1001 c0_1002 c0_1003), (.bool z39)] h') m c0_1001 c0_1002 c0_1003 v3_1004 v4_1005 v5_1006 h
  | _ => False
def straitlaw15_EdgeOrder.r1 (K : Nat → List Value → Heap → Prop) (m : Nat) (vs : List Value) (h : Heap) : Prop := match vs with
  | [(.slice c0_2001 c0_2002 c0_2003), (.slice v6_2004 v6_2004l v6_2004c), (.int .i64 v7_2005)] => straitlaw15_EdgeOrder.l1 (fun z40 z40l z40c h' => K 4 [(.slice c0_2001 c0_2002 c0_2003), (.slice z40 z40l z40c)] h') m c0_2001 c0_2002 c0_2003 v6_2004 v6_2004l v6_2004c v7_2005 h
  | _ => False
def straitlaw15_EdgeOrder.r2 (K : Nat → List Value → Heap → Prop) (m : Nat) (vs : List Value) (h : Heap) : Prop := match vs with
  | [(.slice c8_3001 c8_3002 c8_3003), (.bool c9_3004), (.slice c10_3005 c10_3006 c10_3007), (.bool c11_3008), (.slice c12_3009 c12_3010 c12_3011), (.bool c13_3012), (.bool c15_3013), (.slice c16_3014 c16_3015 c16_3016), (.bool c17_3017), (.int .i64 v18_3018)] => straitlaw15_EdgeOrder.l2 (fun z41 h' => K 0 [(.bool z41)] h') (fun h' => K 6 [(.slice c8_3001 c8_3002 c8_3003), (.bool c9_3004), (.slice c10_3005 c10_3006 c10_3007), (.bool c11_3008), (.slice c12_3009 c12_3010 c12_3011), (.bool c13_3012), (.bool c15_3013), (.slice c16_3014 c16_3015 c16_3016), (.bool c17_3017)] h') m c8_3001 c8_3002 c8_3003 c9_3004 c10_3005 c10_3006 c10_3007 c11_3008 c12_3009 c12_3010 c12_3011 c13_3012 c15_3013 c16_3014 c16_3015 c16_3016 c17_3017 v18_3018 h
  | _ => False
def straitlaw15_EdgeOrder.loop (i : Nat) (vs : List Value) (h : Heap) (K : Nat → List Value → Heap → Prop) : Prop := match i with
  | 0 => ∃ m, straitlaw15_EdgeOrder.r0 K m vs h
  | 1 => ∃ m, straitlaw15_EdgeOrder.r1 K m vs h
  | 2 => ∃ m, straitlaw15_EdgeOrder.r2 K m vs h
  | _ => False
noncomputable def straitlaw15_EdgeOrder.ctx : Ctx := { P := Try.prog, call := straitlaw15_EdgeOrder.call, qcall := straitlaw15_EdgeOrder.qcall, quiet := fun f => Nat.beq f 23 || Nat.beq f 1000062, loop := straitlaw15_EdgeOrder.loop }
theorem straitlaw15_EdgeOrder.ok : straitlaw15_EdgeOrder.ctx.OK where
  mixed := by kernel_rfl
  mono := by
    intro f args h K K' hh hk
    change straitlaw15_EdgeOrder.call f args h K at hh
    change straitlaw15_EdgeOrder.call f args h K'
    unfold straitlaw15_EdgeOrder.call at hh ⊢
    split at hh
    · obtain ⟨R, h1, h2⟩ := hh
      exact ⟨R, h1, fun _ x hr => hk _ _ (h2 _ x hr)⟩
    · obtain ⟨R, h1, h2⟩ := hh
      exact ⟨R, h1, fun _ x hr => hk _ _ (h2 _ x hr)⟩
    · obtain ⟨R, h1, h2⟩ := hh
      exact ⟨R, h1, fun _ _ _ _ x hr => hk _ _ (h2 _ _ _ _ x hr)⟩
    · obtain ⟨R, h1, h2⟩ := hh
      exact ⟨R, h1, fun _ _ _ _ x hr => hk _ _ (h2 _ _ _ _ x hr)⟩
    · exact hh.elim
  call := by
    intro f args h K hh w hw
    change straitlaw15_EdgeOrder.call f args h K at hh
    unfold straitlaw15_EdgeOrder.call at hh
    split at hh
    · obtain ⟨R, h1, h2⟩ := hh
      obtain ⟨g1, g2⟩ := straitlaw15_awake.calls h1 w hw
      exact ⟨g1, g2.mono fun e w' ⟨v, he, ho, hr⟩ => ⟨v, he, ho, straitlaw15_awake.ret_elim h2 hr⟩⟩
    · obtain ⟨R, h1, h2⟩ := hh
      obtain ⟨g1, g2⟩ := edge_Cmp.calls h1 w hw
      exact ⟨g1, g2.mono fun e w' ⟨v, he, ho, hr⟩ => ⟨v, he, ho, edge_Cmp.ret_elim h2 hr⟩⟩
    · obtain ⟨R, h1, h2⟩ := hh
      obtain ⟨g1, g2⟩ := edge_Merge.calls h1 w hw
      exact ⟨g1, g2.mono fun e w' ⟨v, he, ho, hr⟩ => ⟨v, he, ho, edge_Merge.ret_elim h2 hr⟩⟩
    · obtain ⟨R, h1, h2⟩ := hh
      obtain ⟨g1, g2⟩ := edge_Split.calls h1 w hw
      exact ⟨g1, g2.mono fun e w' ⟨v, he, ho, hr⟩ => ⟨v, he, ho, edge_Split.ret_elim h2 hr⟩⟩
    · exact hh.elim
  qmono := by
    intro f args h K K' hh hk
    change straitlaw15_EdgeOrder.qcall f args h K at hh
    change straitlaw15_EdgeOrder.qcall f args h K'
    unfold straitlaw15_EdgeOrder.qcall at hh ⊢
    split at hh
    · obtain ⟨x0, h1, h2⟩ := hh
      exact ⟨x0, h1, hk _ h2⟩
    · exact hh.elim
  qval := by
    intro f args h K hh
    change straitlaw15_EdgeOrder.qcall f args h K at hh
    suffices H : ∃ v, K v ∧ straitlaw15_EdgeOrder.qcall f args h (· = v) from H
    unfold straitlaw15_EdgeOrder.qcall at hh ⊢
    split at hh
    · obtain ⟨x0, h1, h2⟩ := hh
      exact ⟨_, h2, x0, h1, rfl⟩
    · exact hh.elim
  qcall := by
    intro f args h v hh w hw
    change straitlaw15_EdgeOrder.qcall f args h (· = v) at hh
    unfold straitlaw15_EdgeOrder.qcall at hh
    split at hh
    · obtain ⟨x0, h1, h2⟩ := hh
      obtain ⟨g1, g2⟩ := straitref15_Same.calls h1 w hw
      refine .inl ⟨g1, g2.mono fun e w' ⟨u, he, ho, hr⟩ => ?_⟩
      have hq := straitref15_Same.ret_elim (K' := fun u h' => u = v ∧ h' = h) (fun _ h' hr => by obtain ⟨rfl, rfl⟩ := hr; exact ⟨h2, rfl⟩) hr
      exact ⟨hq.1 ▸ he, ho, hq.2⟩
    · exact hh.elim
noncomputable def straitlaw15_EdgeOrder.code : Code := (Try.f5.body).getD .skip
def straitlaw15_EdgeOrder.ann : Ann := (.two .auto (.two .auto (.two .auto (.two (.two .auto (.two (.loop 0 [0, 3, 4, 5] [(2, [0, 4])] (.two .auto (.two (.two (.two (.reg [0, 0, 0, 6, 14, 30, 0, 0, 192, 448, 960, 2047, 4095] (.take 0 (.take 1 (.take 2 (.take 3 (.take 4 (.take 5 (.take 6 (.take 7 (.take 8 (.take 9 (.take 10 (.take 11 (.take 12 .done)))))))))))))) .auto) .auto) .auto))) .auto)) (.two .auto (.two .auto (.two (.two .auto (.two (.loop 1 [0, 6, 7] [(4, [0, 6])] (.two .auto (.two (.two (.reg [0, 0, 0, 6, 14, 30, 0, 0, 192, 448, 960, 0, 0, 6144, 14336, 30720, 65534, 131070, 262143, 524287] (.take 0 (.take 1 (.take 2 (.take 3 (.take 4 (.take 5 (.take 6 (.take 7 (.take 8 (.take 9 (.take 10 (.take 11 (.take 12 (.take 13 (.take 14 (.take 15 (.take 16 (.alt 17 (.alt 18 (.take 19 .done) .noalt) .noalt))))))))))))))))))) .auto) .auto))) .auto)) (.two .auto (.two .auto (.two .auto (.two .auto (.two .auto (.two (.two .auto (.two (.loop 2 [8, 9, 10, 11, 12, 13, 15, 16, 17, 18] [(6, [8, 9, 10, 11, 12, 13, 15, 16, 17]), (0, [2])] (.two .auto (.two (.two (.two (.reg [0, 0, 3, 7, 15, 0, 0, 96, 224, 480, 1023, 2047, 4095, 4095, 16383, 32767, 65535, 131071, 262143, 524287, 1048575, 2097151, 4194303, 8388607, 8388607, 25165823, 67108863, 134217727, 8388607, 8388607, 813694975, 1887436799, 4294967295, 8589934591, 17179869183, 34359738367] (.take 0 (.take 1 (.take 2 (.take 3 (.take 4 (.take 5 (.take 6 (.take 7 (.take 8 (.take 9 (.take 10 (.take 11 (.take 12 (.take 13 (.take 14 (.take 15 (.take 16 (.take 17 (.take 18 (.take 19 (.take 20 (.take 21 (.take 22 (.take 23 (.take 24 (.take 25 (.take 26 (.take 27 (.take 28 (.take 29 (.take 30 (.take 31 (.alt 32 (.take 33 (.take 34 (.take 35 .done))) .noalt)))))))))))))))))))))))))))))))))) .auto) .auto) .auto))) .auto)) .auto)))))))))))))
noncomputable def straitlaw15_EdgeOrder.c2 : Code := sub straitlaw15_EdgeOrder.code [1, 1, 1, 1, 1, 1, 1, 1, 1, 1, 1, 1, 0, 1, 0, 0]
def straitlaw15_EdgeOrder.a2 : Ann := (.two .auto (.two (.two (.two (.reg [0, 0, 3, 7, 15, 0, 0, 96, 224, 480, 1023, 2047, 4095, 4095, 16383, 32767, 65535, 131071, 262143, 524287, 1048575, 2097151, 4194303, 8388607, 8388607, 25165823, 67108863, 134217727, 8388607, 8388607, 813694975, 1887436799, 4294967295, 8589934591, 17179869183, 34359738367] (.take 0 (.take 1 (.take 2 (.take 3 (.take 4 (.take 5 (.take 6 (.take 7 (.take 8 (.take 9 (.take 10 (.take 11 (.take 12 (.take 13 (.take 14 (.take 15 (.take 16 (.take 17 (.take 18 (.take 19 (.take 20 (.take 21 (.take 22 (.take 23 (.take 24 (.take 25 (.take 26 (.take 27 (.take 28 (.take 29 (.take 30 (.take 31 (.alt 32 (.take 33 (.take 34 (.take 35 .done))) .noalt)))))))))))))))))))))))))))))))))) .auto) .auto) .auto))
def straitlaw15_EdgeOrder.keep2 : List Nat := [8, 9, 10, 11, 12, 13, 15, 16, 17, 18]
def straitlaw15_EdgeOrder.outs2 : List (Nat × List Nat) := [(6, [8, 9, 10, 11, 12, 13, 15, 16, 17]), (0, [2])]
noncomputable def straitlaw15_EdgeOrder.c1 : Code := sub straitlaw15_EdgeOrder.code [1, 1, 1, 1, 1, 1, 0, 1, 0, 0]
def straitlaw15_EdgeOrder.a1 : Ann := (.two .auto (.two (.two (.reg [0, 0, 0, 6, 14, 30, 0, 0, 192, 448, 960, 0, 0, 6144, 14336, 30720, 65534, 131070, 262143, 524287] (.take 0 (.take 1 (.take 2 (.take 3 (.take 4 (.take 5 (.take 6 (.take 7 (.take 8 (.take 9 (.take 10 (.take 11 (.take 12 (.take 13 (.take 14 (.take 15 (.take 16 (.alt 17 (.alt 18 (.take 19 .done) .noalt) .noalt))))))))))))))))))) .auto) .auto))
def straitlaw15_EdgeOrder.keep1 : List Nat := [0, 6, 7]
def straitlaw15_EdgeOrder.outs1 : List (Nat × List Nat) := [(4, [0, 6])]
noncomputable def straitlaw15_EdgeOrder.c0 : Code := sub straitlaw15_EdgeOrder.code [1, 1, 1, 0, 1, 0, 0]
def straitlaw15_EdgeOrder.a0 : Ann := (.two .auto (.two (.two (.two (.reg [0, 0, 0, 6, 14, 30, 0, 0, 192, 448, 960, 2047, 4095] (.take 0 (.take 1 (.take 2 (.take 3 (.take 4 (.take 5 (.take 6 (.take 7 (.take 8 (.take 9 (.take 10 (.take 11 (.take 12 .done)))))))))))))) .auto) .auto) .auto))
def straitlaw15_EdgeOrder.keep0 : List Nat := [0, 3, 4, 5]
def straitlaw15_EdgeOrder.outs0 : List (Nat × List Nat) := [(2, [0, 4])]
set_option maxRecDepth 100000 in
theorem straitlaw15_EdgeOrder.L0 : LoopOK straitlaw15_EdgeOrder.ctx 201 straitlaw15_EdgeOrder.c0 0 straitlaw15_EdgeOrder.keep0 straitlaw15_EdgeOrder.outs0 := by
  refine loop_ok (n := straitlaw15_EdgeOrder.a0) straitlaw15_EdgeOrder.ok (by kernel_rfl) (loops_ok (l := []) (by kernel_rfl) ?_) straitlaw15_EdgeOrder.r0 ?_ ?_ (fun vs h K hh => hh)
  · exact trivial
  · intro K vs h hh
    unfold straitlaw15_EdgeOrder.r0 at hh
    split at hh
    · exact hh
    · exact hh
  · intro K m vs h hh
    unfold straitlaw15_EdgeOrder.r0 at hh
    split at hh
    · exact cast (by kernel_rfl) hh
    · exact hh.elim
set_option maxRecDepth 100000 in
theorem straitlaw15_EdgeOrder.L1 : LoopOK straitlaw15_EdgeOrder.ctx 201 straitlaw15_EdgeOrder.c1 1 straitlaw15_EdgeOrder.keep1 straitlaw15_EdgeOrder.outs1 := by
  refine loop_ok (n := straitlaw15_EdgeOrder.a1) straitlaw15_EdgeOrder.ok (by kernel_rfl) (loops_ok (l := []) (by kernel_rfl) ?_) straitlaw15_EdgeOrder.r1 ?_ ?_ (fun vs h K hh => hh)
  · exact trivial
  · intro K vs h hh
    unfold straitlaw15_EdgeOrder.r1 at hh
    split at hh
    · exact hh
    · exact hh
  · intro K m vs h hh
    unfold straitlaw15_EdgeOrder.r1 at hh
    split at hh
    · exact cast (by kernel_rfl) hh
    · exact hh.elim
set_option maxRecDepth 100000 in
theorem straitlaw15_EdgeOrder.L2 : LoopOK straitlaw15_EdgeOrder.ctx 201 straitlaw15_EdgeOrder.c2 2 straitlaw15_EdgeOrder.keep2 straitlaw15_EdgeOrder.outs2 := by
  refine loop_ok (n := straitlaw15_EdgeOrder.a2) straitlaw15_EdgeOrder.ok (by kernel_rfl) (loops_ok (l := []) (by kernel_rfl) ?_) straitlaw15_EdgeOrder.r2 ?_ ?_ (fun vs h K hh => hh)
  · exact trivial
  · intro K vs h hh
    unfold straitlaw15_EdgeOrder.r2 at hh
    split at hh
    · exact hh
    · exact hh
  · intro K m vs h hh
    unfold straitlaw15_EdgeOrder.r2 at hh
    split at hh
    · exact cast (by kernel_rfl) hh
    · exact hh.elim
set_option maxRecDepth 100000 in
theorem straitlaw15_EdgeOrder.eq (a1 : Option Addr) (a1l : Nat) (a1c : Nat) (h : Heap) (K : Bool → Heap → Prop) : evF straitlaw15_EdgeOrder.ctx Try.f5 straitlaw15_EdgeOrder.ann [(.slice a1 a1l a1c)] h (straitlaw15_EdgeOrder.ret K) = straitlaw15_EdgeOrder a1 a1l a1c h K := by kernel_rfl
set_option maxRecDepth 100000 in
theorem straitlaw15_EdgeOrder.calls {a1 : Option Addr} {a1l : Nat} {a1c : Nat} {h : Heap} {K : Bool → Heap → Prop} (hh : straitlaw15_EdgeOrder a1 a1l a1c h K) (w : World) (hw : w.heap = h) :
    (callFunc 5 #[(.slice a1 a1l a1c)]).run Try.prog w = .ok (.enter 5 #[(.slice a1 a1l a1c)]) w ∧ Calls Try.prog 5 #[(.slice a1 a1l a1c)] w fun e w' => ∃ v, e = .returned v ∧ Out w w' ∧ straitlaw15_EdgeOrder.ret K v w'.heap := by
  rw [← straitlaw15_EdgeOrder.eq] at hh
  exact fn_calls (args := [(.slice a1 a1l a1c)]) (c := straitlaw15_EdgeOrder.code) straitlaw15_EdgeOrder.ok Try.func5 (by kernel_rfl) (by kernel_rfl) (by kernel_rfl) (by kernel_rfl) (loops_ok (l := [(straitlaw15_EdgeOrder.c0, none, 0, straitlaw15_EdgeOrder.keep0, straitlaw15_EdgeOrder.outs0), (straitlaw15_EdgeOrder.c1, none, 1, straitlaw15_EdgeOrder.keep1, straitlaw15_EdgeOrder.outs1), (straitlaw15_EdgeOrder.c2, none, 2, straitlaw15_EdgeOrder.keep2, straitlaw15_EdgeOrder.outs2)]) (by kernel_rfl) ⟨straitlaw15_EdgeOrder.L0, straitlaw15_EdgeOrder.L1, straitlaw15_EdgeOrder.L2, trivial⟩) hh w hw

end Go.Proofs.Ytapjbmfgmnhpdaa
