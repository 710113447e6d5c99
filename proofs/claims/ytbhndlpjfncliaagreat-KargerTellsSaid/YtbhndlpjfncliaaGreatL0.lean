/- WRITTEN BY A PROGRAM OF THIS SESSION (gen.py): what each function asks of memory, and that the model's run comes to it. -/
import Derived.Test.YtbhndlpjfncliaaGreatProg
import Derived.Test.YtbhndlpjfncliaaGreatFw8
import Derived.Test.YtbhndlpjfncliaaGreatK1
namespace Go.Proofs.YtbhndlpjfncliaaGreat
open Go.Hp
set_option linter.unusedVariables false
set_option linter.unusedSimpArgs false
set_option linter.unusedSectionVars false

/-! ### strait/straitref41.between: function 64 -/
def straitref41_between.b0 (K0 : Bool → Heap → Prop) (K2 : Heap → Prop) (cont : Addr → Addr → Int → Heap → Prop) (c2_1001 : Addr) (c3_1002 : Addr) (v5_1003 : Int) (h1004 : Heap) : Prop :=
  ∃ (x1005 : Option Addr) (x1005l : Nat) (x1005c : Nat), cell h1004 (c2_1001.add 1) = some (.slice x1005 x1005l x1005c) ∧ (iteB (decide (v5_1003 < (x1005l : Int))) ((∃ (x1006 : Option Addr) (x1006l : Nat) (x1006c : Nat), cell h1004 c3_1002 = some (.slice x1006 x1006l x1006c) ∧ ∃ (x1007 : Option Addr) (x1007l : Nat) (x1007c : Nat), cell h1004 (c2_1001.add 1) = some (.slice x1007 x1007l x1007c) ∧ chkP x1007 fun a1008 => (0 ≤ v5_1003 ∧ v5_1003 < (x1007l : Int)) ∧ ∃ (x1009 : Int), cell h1004 (a1008.add (v5_1003.toNat * 3)) = some (.int .i64 x1009) ∧ ∃ (x1010 : Option Addr) (x1010l : Nat) (x1010c : Nat), cell h1004 (c2_1001.add 1) = some (.slice x1010 x1010l x1010c) ∧ chkP x1010 fun a1011 => (0 ≤ v5_1003 ∧ v5_1003 < (x1010l : Int)) ∧ ∃ (x1012 : Int), cell h1004 ((a1011.add (v5_1003.toNat * 3)).add 1) = some (.int .i64 x1012) ∧ callP1 (straitref10_Classes_Same x1006 x1006l x1006c x1009 x1012 h1004) fun x1013 h1014 => (iteB (!x1013) (K0 true h1014) (((cont c2_1001 c3_1002 (IntKind.i64.wrap (v5_1003 + 1)) h1014)))))) (K2 h1004))
def straitref41_between.l0 (K0 : Bool → Heap → Prop) (K2 : Heap → Prop) : Nat → Addr → Addr → Int → Heap → Prop
  | 0, _, _, _, _ => False
  | m + 1, c2_1001, c3_1002, v5_1003, h => straitref41_between.b0 K0 K2 (straitref41_between.l0 K0 K2 m) c2_1001 c3_1002 v5_1003 h
def straitref41_between (a1 : Int) (a2 : Option Addr) (a2l : Nat) (a2c : Nat) (a3 : Option Addr) (a3l : Nat) (a3c : Nat) (h : Heap) (K : Bool → Heap → Prop) : Prop :=
  newP h (.cells #[(.int .i64 a1), (.slice a2 a2l a2c)] 29) fun a4 h5 => newP h5 (.cells #[(.slice a3 a3l a3c)] 113) fun a6 h7 => ((∃ m11, straitref41_between.l0 (fun z8 h9 => K z8 h9) (fun h10 => (K false h10)) m11 a4 a6 0 h7))
def straitref41_between.ret (K : Bool → Heap → Prop) (v : Value) (h : Heap) : Prop := match v with
  | (.bool r12) => K r12 h
  | _ => False
theorem straitref41_between.ret_elim {K : Bool → Heap → Prop} {K' : Value → Heap → Prop} {v : Value} {h : Heap} (hk : ∀ r12 h, K r12 h → K' (.bool r12) h) (hh : straitref41_between.ret K v h) : K' v h := by
  unfold straitref41_between.ret at hh
  split at hh
  · exact hk _ _ hh
  · exact hh.elim
def straitref41_between.call (f : FuncId) (vs : List Value) (h : Heap) (K : Value → Heap → Prop) : Prop := match f, vs with
  | 95, [(.agg ⟨[(.slice a1 a1l a1c)]⟩), (.int .i64 a2), (.int .i64 a3)] => callP1 (straitref10_Classes_Same a1 a1l a1c a2 a3 h) fun r20 h' => K (.bool r20) h'
  | _, _ => False
def straitref41_between.r0 (K : Nat → List Value → Heap → Prop) (m : Nat) (vs : List Value) (h : Heap) : Prop := match vs with
  | [(.pointer (some c2_1001)), (.pointer (some c3_1002)), (.int .i64 v5_1003)] => straitref41_between.l0 (fun z13 h' => K 0 [(.bool z13)] h') (fun h' => K 2 [] h') m c2_1001 c3_1002 v5_1003 h
  | _ => False
def straitref41_between.loop (i : Nat) (vs : List Value) (h : Heap) (K : Nat → List Value → Heap → Prop) : Prop := match i with
  | 0 => ∃ m, straitref41_between.r0 K m vs h
  | _ => False
noncomputable def straitref41_between.ctx : Ctx := { P := Tryz.prog, call := straitref41_between.call, qcall := fun _ _ _ _ => False, quiet := fun f => Nat.beq f 1000131 || Nat.beq f 1000155, loop := straitref41_between.loop }
theorem straitref41_between.ok [DKc] : straitref41_between.ctx.OK where
  mixed := by kernel_rfl
  mono := by
    intro f args h K K' hh hk
    change straitref41_between.call f args h K at hh
    change straitref41_between.call f args h K'
    unfold straitref41_between.call at hh ⊢
    split at hh
    · obtain ⟨R, h1, h2⟩ := hh
      exact ⟨R, h1, fun _ x hr => hk _ _ (h2 _ x hr)⟩
    · exact hh.elim
  call := by
    intro f args h K hh w hw
    change straitref41_between.call f args h K at hh
    unfold straitref41_between.call at hh
    split at hh
    · obtain ⟨R, h1, h2⟩ := hh
      obtain ⟨g1, g2⟩ := straitref10_Classes_Same.calls h1 w hw
      exact ⟨g1, g2.mono fun e w' ⟨v, he, ho, hr⟩ => ⟨v, he, ho, straitref10_Classes_Same.ret_elim h2 hr⟩⟩
    · exact hh.elim
  qmono := fun hh _ => hh.elim
  qval := fun hh => hh.elim
  qcall := fun hh => hh.elim
noncomputable def straitref41_between.code : Code := (Tryz.f64.body).getD .skip
def straitref41_between.ann : Ann := (.two .auto (.two (.two .auto (.two (.loop 0 [2, 3, 5] [(2, []), (0, [4])] (.two .auto (.two (.two (.two (.reg [0, 0, 2, 0, 14, 30, 62, 0, 128, 0, 896, 1920, 3968, 8191, 16383] (.take 0 (.take 1 (.take 2 (.take 3 (.take 4 (.take 5 (.take 6 (.take 7 (.take 8 (.take 9 (.take 10 (.take 11 (.take 12 (.alt 13 (.take 14 .done) .noalt))))))))))))))) .auto) .auto) .auto))) .auto)) .auto))
noncomputable def straitref41_between.c0 : Code := sub straitref41_between.code [1, 0, 1, 0, 0]
def straitref41_between.a0 : Ann := (.two .auto (.two (.two (.two (.reg [0, 0, 2, 0, 14, 30, 62, 0, 128, 0, 896, 1920, 3968, 8191, 16383] (.take 0 (.take 1 (.take 2 (.take 3 (.take 4 (.take 5 (.take 6 (.take 7 (.take 8 (.take 9 (.take 10 (.take 11 (.take 12 (.alt 13 (.take 14 .done) .noalt))))))))))))))) .auto) .auto) .auto))
def straitref41_between.keep0 : List Nat := [2, 3, 5]
def straitref41_between.outs0 : List (Nat × List Nat) := [(2, []), (0, [4])]
set_option maxRecDepth 100000 in
theorem straitref41_between.L0 [DKc] : LoopOK straitref41_between.ctx 28 straitref41_between.c0 0 straitref41_between.keep0 straitref41_between.outs0 := by
  refine loop_ok (n := straitref41_between.a0) straitref41_between.ok (by kernel_rfl) (loops_ok (l := []) (by kernel_rfl) ?_) straitref41_between.r0 ?_ ?_ (fun vs h K hh => hh)
  · exact trivial
  · intro K vs h hh
    unfold straitref41_between.r0 at hh
    split at hh
    · exact hh
    · exact hh
  · intro K m vs h hh
    unfold straitref41_between.r0 at hh
    split at hh
    · exact cast (by kernel_rfl) hh
    · exact hh.elim
set_option maxRecDepth 100000 in
theorem straitref41_between.eq (a1 : Int) (a2 : Option Addr) (a2l : Nat) (a2c : Nat) (a3 : Option Addr) (a3l : Nat) (a3c : Nat) (h : Heap) (K : Bool → Heap → Prop) : evF straitref41_between.ctx Tryz.f64 straitref41_between.ann [(.agg #[(.int .i64 a1), (.slice a2 a2l a2c)]), (.agg #[(.slice a3 a3l a3c)])] h (straitref41_between.ret K) = straitref41_between a1 a2 a2l a2c a3 a3l a3c h K := by kernel_rfl
set_option maxRecDepth 100000 in
theorem straitref41_between.calls [DKc] {a1 : Int} {a2 : Option Addr} {a2l : Nat} {a2c : Nat} {a3 : Option Addr} {a3l : Nat} {a3c : Nat} {h : Heap} {K : Bool → Heap → Prop} (hh : straitref41_between a1 a2 a2l a2c a3 a3l a3c h K) (w : World) (hw : w.heap = h) :
    (callFunc 64 #[(.agg #[(.int .i64 a1), (.slice a2 a2l a2c)]), (.agg #[(.slice a3 a3l a3c)])]).run Tryz.prog w = .ok (.enter 64 #[(.agg #[(.int .i64 a1), (.slice a2 a2l a2c)]), (.agg #[(.slice a3 a3l a3c)])]) w ∧ Calls Tryz.prog 64 #[(.agg #[(.int .i64 a1), (.slice a2 a2l a2c)]), (.agg #[(.slice a3 a3l a3c)])] w fun e w' => ∃ v, e = .returned v ∧ Out w w' ∧ straitref41_between.ret K v w'.heap := by
  rw [← straitref41_between.eq] at hh
  exact fn_calls (args := [(.agg #[(.int .i64 a1), (.slice a2 a2l a2c)]), (.agg #[(.slice a3 a3l a3c)])]) (c := straitref41_between.code) straitref41_between.ok Tryz.func64 (by kernel_rfl) (by kernel_rfl) (by kernel_rfl) (by kernel_rfl) (loops_ok (l := [(straitref41_between.c0, none, 0, straitref41_between.keep0, straitref41_between.outs0)]) (by kernel_rfl) ⟨straitref41_between.L0, trivial⟩) hh w hw

/-! ### strait/straitref41.next: function 65 -/
def straitref41_next.b1 (K0 : Heap → Prop) (K4 : Heap → Prop) (cont : Addr → (Option Addr) → Nat → Nat → Int → Int → Heap → Prop) (c6_2001 : Addr) (c7_2002 : Option Addr) (c7_2003 : Nat) (c7_2004 : Nat) (v11_2005 : Int) (v12_2006 : Int) (h2007 : Heap) : Prop :=
  (iteB (decide (v12_2006 < (c7_2003 : Int))) ((chkP c7_2002 fun a2008 => (0 ≤ v12_2006 ∧ v12_2006 < (c7_2003 : Int)) ∧ ∃ (x2009 : Int), cell h2007 ((a2008.add (v12_2006.toNat * 3)).add 2) = some (.int .i64 x2009) ∧ (iteB (decide ((IntKind.u64.wrap x2009) > v11_2005)) (chkP c7_2002 fun a2010 => (0 ≤ v12_2006 ∧ v12_2006 < (c7_2003 : Int)) ∧ ∃ (x2011 : Int), cell h2007 (a2010.add (v12_2006.toNat * 3)) = some (.int .i64 x2011) ∧ chkP c7_2002 fun a2012 => (0 ≤ v12_2006 ∧ v12_2006 < (c7_2003 : Int)) ∧ ∃ (x2013 : Int), cell h2007 ((a2012.add (v12_2006.toNat * 3)).add 1) = some (.int .i64 x2013) ∧ stC h2007 c6_2001 (.int .i64 x2011) fun h2014 => stC h2014 (c6_2001.add 1) (.int .i64 x2013) fun h2015 => K0 h2015) ((chkP c7_2002 fun a2016 => (0 ≤ v12_2006 ∧ v12_2006 < (c7_2003 : Int)) ∧ ∃ (x2017 : Int), cell h2007 ((a2016.add (v12_2006.toNat * 3)).add 2) = some (.int .i64 x2017) ∧ bindV (IntKind.u64.wrap (v11_2005 - (IntKind.u64.wrap x2017))) fun n2018 => ((cont c6_2001 c7_2002 c7_2003 c7_2004 n2018 (IntKind.i64.wrap (v12_2006 + 1)) h2007))))))) (K4 h2007))
def straitref41_next.l1 (K0 : Heap → Prop) (K4 : Heap → Prop) : Nat → Addr → (Option Addr) → Nat → Nat → Int → Int → Heap → Prop
  | 0, _, _, _, _, _, _, _ => False
  | m + 1, c6_2001, c7_2002, c7_2003, c7_2004, v11_2005, v12_2006, h => straitref41_next.b1 K0 K4 (straitref41_next.l1 K0 K4 m) c6_2001 c7_2002 c7_2003 c7_2004 v11_2005 v12_2006 h
def straitref41_next.b0 (K2 : (Option Addr) → Nat → Nat → Int → Heap → Prop) (cont : Int → Addr → Addr → Addr → (Option Addr) → Nat → Nat → Int → Int → Heap → Prop) (c2_1001 : Int) (c3_1002 : Addr) (c4_1003 : Addr) (c6_1004 : Addr) (v7_1005 : Option Addr) (v7_1005l : Nat) (v7_1005c : Nat) (v8_1006 : Int) (v9_1007 : Int) (h1008 : Heap) : Prop :=
  ∃ (x1009 : Option Addr) (x1009l : Nat) (x1009c : Nat), cell h1008 (c3_1002.add 1) = some (.slice x1009 x1009l x1009c) ∧ (iteB (decide (v9_1007 < (x1009l : Int))) ((∃ (x1010 : Option Addr) (x1010l : Nat) (x1010c : Nat), cell h1008 c4_1003 = some (.slice x1010 x1010l x1010c) ∧ ∃ (x1011 : Option Addr) (x1011l : Nat) (x1011c : Nat), cell h1008 (c3_1002.add 1) = some (.slice x1011 x1011l x1011c) ∧ chkP x1011 fun a1012 => (0 ≤ v9_1007 ∧ v9_1007 < (x1011l : Int)) ∧ ∃ (x1013 : Int), cell h1008 (a1012.add (v9_1007.toNat * 3)) = some (.int .i64 x1013) ∧ ∃ (x1014 : Option Addr) (x1014l : Nat) (x1014c : Nat), cell h1008 (c3_1002.add 1) = some (.slice x1014 x1014l x1014c) ∧ chkP x1014 fun a1015 => (0 ≤ v9_1007 ∧ v9_1007 < (x1014l : Int)) ∧ ∃ (x1016 : Int), cell h1008 ((a1015.add (v9_1007.toNat * 3)).add 1) = some (.int .i64 x1016) ∧ callP1 (straitref10_Classes_Same x1010 x1010l x1010c x1013 x1016 h1008) fun x1017 h1018 => (iteB (!x1017) (∃ (x1019 : Option Addr) (x1019l : Nat) (x1019c : Nat), cell h1018 (c3_1002.add 1) = some (.slice x1019 x1019l x1019c) ∧ chkP x1019 fun a1020 => (0 ≤ v9_1007 ∧ v9_1007 < (x1019l : Int)) ∧ ∃ (x1021 : Int), cell h1018 (a1020.add (v9_1007.toNat * 3)) = some (.int .i64 x1021) ∧ ∃ (x1022 : Int), cell h1018 ((a1020.add (v9_1007.toNat * 3)).add 1) = some (.int .i64 x1022) ∧ ∃ (x1023 : Int), cell h1018 ((a1020.add (v9_1007.toNat * 3)).add 2) = some (.int .i64 x1023) ∧ newP h1018 (.cells #[(.int .i64 x1021), (.int .i64 x1022), (.int .i64 x1023)] 82) fun a1024 h1025 => ∃ n1030, cellsAt h1025 (some a1024) (1 * 3) n1030 ∧ appP 82 3 24 [(.int .i64 0), (.int .i64 0), (.int .i64 0)] v7_1005 v7_1005l v7_1005c 1 n1030 h1025 fun q1026 l1027 c1028 h1029 => (∃ (x1031 : Option Addr) (x1031l : Nat) (x1031c : Nat), cell h1029 (c3_1002.add 1) = some (.slice x1031 x1031l x1031c) ∧ chkP x1031 fun a1032 => (0 ≤ v9_1007 ∧ v9_1007 < (x1031l : Int)) ∧ ∃ (x1033 : Int), cell h1029 ((a1032.add (v9_1007.toNat * 3)).add 2) = some (.int .i64 x1033) ∧ bindV (IntKind.u64.wrap (v8_1006 + (IntKind.u64.wrap x1033))) fun n1034 => ((cont c2_1001 c3_1002 c4_1003 c6_1004 q1026 l1027 c1028 n1034 (IntKind.i64.wrap (v9_1007 + 1)) h1029)))) (((cont c2_1001 c3_1002 c4_1003 c6_1004 v7_1005 v7_1005l v7_1005c v8_1006 (IntKind.i64.wrap (v9_1007 + 1)) h1018)))))) (K2 v7_1005 v7_1005l v7_1005c v8_1006 h1008))
def straitref41_next.l0 (K2 : (Option Addr) → Nat → Nat → Int → Heap → Prop) : Nat → Int → Addr → Addr → Addr → (Option Addr) → Nat → Nat → Int → Int → Heap → Prop
  | 0, _, _, _, _, _, _, _, _, _, _ => False
  | m + 1, c2_1001, c3_1002, c4_1003, c6_1004, v7_1005, v7_1005l, v7_1005c, v8_1006, v9_1007, h => straitref41_next.b0 K2 (straitref41_next.l0 K2 m) c2_1001 c3_1002 c4_1003 c6_1004 v7_1005 v7_1005l v7_1005c v8_1006 v9_1007 h
def straitref41_next (a1 : Int) (a2 : Option Addr) (a2l : Nat) (a2c : Nat) (a3 : Option Addr) (a3l : Nat) (a3c : Nat) (a4 : Int) (h : Heap) (K : Int → Int → Heap → Prop) : Prop :=
  newP h (.cells #[(.int .i64 a1), (.slice a2 a2l a2c)] 29) fun a5 h6 => newP h6 (.cells #[(.slice a3 a3l a3c)] 113) fun a7 h8 => newP h8 (.cells #[(.int .i64 0), (.int .i64 0)] 43) fun a9 h10 => ((((∃ m14, straitref41_next.l0 (fun z11 z11l z11c z12 h13 => (((iteB (z12 == (0 : Int)) (∃ (x15 : Option Addr) (x15l : Nat) (x15c : Nat), cell h13 a7 = some (.slice x15 x15l x15c) ∧ callP3 (straitref10_Classes_List x15 x15l x15c h13) fun x16 x16l x16c h17 => (chkP x16 fun a18 => (0 ≤ (0 : Int) ∧ (0 : Int) < (x16l : Int)) ∧ ∃ (x19 : Option Addr) (x19l : Nat) (x19c : Nat), cell h17 (a18.add ((0 : Int).toNat * 1)) = some (.slice x19 x19l x19c) ∧ chkP x19 fun a20 => (0 ≤ (0 : Int) ∧ (0 : Int) < (x19l : Int)) ∧ ∃ (x21 : Int), cell h17 (a20.add ((0 : Int).toNat * 1)) = some (.int .i64 x21) ∧ chkP x16 fun a22 => (0 ≤ (1 : Int) ∧ (1 : Int) < (x16l : Int)) ∧ ∃ (x23 : Option Addr) (x23l : Nat) (x23c : Nat), cell h17 (a22.add ((1 : Int).toNat * 1)) = some (.slice x23 x23l x23c) ∧ chkP x23 fun a24 => (0 ≤ (0 : Int) ∧ (0 : Int) < (x23l : Int)) ∧ ∃ (x25 : Int), cell h17 (a24.add ((0 : Int).toNat * 1)) = some (.int .i64 x25) ∧ stC h17 a9 (.int .i64 x21) fun h26 => stC h26 (a9.add 1) (.int .i64 x25) fun h27 => (∃ (x28 : Int), cell h27 a9 = some (.int .i64 x28) ∧ ∃ (x29 : Int), cell h27 (a9.add 1) = some (.int .i64 x29) ∧ K x28 x29 h27))) ((z12 ≠ 0 ∧ ((∃ m34, straitref41_next.l1 (fun h30 => ∃ (x31 : Int), cell h30 a9 = some (.int .i64 x31) ∧ ∃ (x32 : Int), cell h30 (a9.add 1) = some (.int .i64 x32) ∧ K x31 x32 h30) (fun h33 => ((stC h33 a9 (.int .i64 0) fun h35 => stC h35 (a9.add 1) (.int .i64 0) fun h36 => (∃ (x37 : Int), cell h36 a9 = some (.int .i64 x37) ∧ ∃ (x38 : Int), cell h36 (a9.add 1) = some (.int .i64 x38) ∧ K x37 x38 h36)))) m34 a9 z11 z11l z11c (a4.tmod z12) 0 h13)))))))) m14 a4 a5 a7 a9 none 0 0 0 0 h10))))
def straitref41_next.ret (K : Int → Int → Heap → Prop) (v : Value) (h : Heap) : Prop := match v with
  | (.agg ⟨[(.int .i64 r39), (.int .i64 r40)]⟩) => K r39 r40 h
  | _ => False
theorem straitref41_next.ret_elim {K : Int → Int → Heap → Prop} {K' : Value → Heap → Prop} {v : Value} {h : Heap} (hk : ∀ r39 r40 h, K r39 r40 h → K' (.agg #[(.int .i64 r39), (.int .i64 r40)]) h) (hh : straitref41_next.ret K v h) : K' v h := by
  unfold straitref41_next.ret at hh
  split at hh
  · exact hk _ _ _ hh
  · exact hh.elim
def straitref41_next.call (f : FuncId) (vs : List Value) (h : Heap) (K : Value → Heap → Prop) : Prop := match f, vs with
  | 55, [(.agg ⟨[(.slice a1 a1l a1c)]⟩)] => callP3 (straitref10_Classes_List a1 a1l a1c h) fun r7 r7l r7c h' => K (.slice r7 r7l r7c) h'
  | 95, [(.agg ⟨[(.slice a1 a1l a1c)]⟩), (.int .i64 a2), (.int .i64 a3)] => callP1 (straitref10_Classes_Same a1 a1l a1c a2 a3 h) fun r20 h' => K (.bool r20) h'
  | _, _ => False
def straitref41_next.r0 (K : Nat → List Value → Heap → Prop) (m : Nat) (vs : List Value) (h : Heap) : Prop := match vs with
  | [(.int .u64 c2_1001), (.pointer (some c3_1002)), (.pointer (some c4_1003)), (.pointer (some c6_1004)), (.slice v7_1005 v7_1005l v7_1005c), (.int .u64 v8_1006), (.int .i64 v9_1007)] => straitref41_next.l0 (fun z41 z41l z41c z42 h' => K 2 [(.int .u64 c2_1001), (.pointer (some c4_1003)), (.pointer (some c6_1004)), (.slice z41 z41l z41c), (.int .u64 z42)] h') m c2_1001 c3_1002 c4_1003 c6_1004 v7_1005 v7_1005l v7_1005c v8_1006 v9_1007 h
  | _ => False
def straitref41_next.r1 (K : Nat → List Value → Heap → Prop) (m : Nat) (vs : List Value) (h : Heap) : Prop := match vs with
  | [(.pointer (some c6_2001)), (.slice c7_2002 c7_2003 c7_2004), (.int .u64 v11_2005), (.int .i64 v12_2006)] => straitref41_next.l1 (fun h' => K 0 [(.pointer (some c6_2001))] h') (fun h' => K 4 [(.pointer (some c6_2001))] h') m c6_2001 c7_2002 c7_2003 c7_2004 v11_2005 v12_2006 h
  | _ => False
def straitref41_next.loop (i : Nat) (vs : List Value) (h : Heap) (K : Nat → List Value → Heap → Prop) : Prop := match i with
  | 0 => ∃ m, straitref41_next.r0 K m vs h
  | 1 => ∃ m, straitref41_next.r1 K m vs h
  | _ => False
noncomputable def straitref41_next.ctx : Ctx := { P := Tryz.prog, call := straitref41_next.call, qcall := fun _ _ _ _ => False, quiet := fun f => Nat.beq f 1000131 || Nat.beq f 1000155, loop := straitref41_next.loop }
theorem straitref41_next.ok [DKc] : straitref41_next.ctx.OK where
  mixed := by kernel_rfl
  mono := by
    intro f args h K K' hh hk
    change straitref41_next.call f args h K at hh
    change straitref41_next.call f args h K'
    unfold straitref41_next.call at hh ⊢
    split at hh
    · obtain ⟨R, h1, h2⟩ := hh
      exact ⟨R, h1, fun _ _ _ x hr => hk _ _ (h2 _ _ _ x hr)⟩
    · obtain ⟨R, h1, h2⟩ := hh
      exact ⟨R, h1, fun _ x hr => hk _ _ (h2 _ x hr)⟩
    · exact hh.elim
  call := by
    intro f args h K hh w hw
    change straitref41_next.call f args h K at hh
    unfold straitref41_next.call at hh
    split at hh
    · obtain ⟨R, h1, h2⟩ := hh
      obtain ⟨g1, g2⟩ := straitref10_Classes_List.calls h1 w hw
      exact ⟨g1, g2.mono fun e w' ⟨v, he, ho, hr⟩ => ⟨v, he, ho, straitref10_Classes_List.ret_elim h2 hr⟩⟩
    · obtain ⟨R, h1, h2⟩ := hh
      obtain ⟨g1, g2⟩ := straitref10_Classes_Same.calls h1 w hw
      exact ⟨g1, g2.mono fun e w' ⟨v, he, ho, hr⟩ => ⟨v, he, ho, straitref10_Classes_Same.ret_elim h2 hr⟩⟩
    · exact hh.elim
  qmono := fun hh _ => hh.elim
  qval := fun hh => hh.elim
  qcall := fun hh => hh.elim
noncomputable def straitref41_next.code : Code := (Tryz.f65.body).getD .skip
def straitref41_next.ann : Ann := (.two .auto (.two .auto (.two .auto (.two (.two .auto (.two (.loop 0 [2, 3, 4, 6, 7, 8, 9] [(2, [2, 4, 6, 7, 8])] (.two .auto (.two (.two (.two (.reg [0, 0, 2, 0, 14, 30, 62, 0, 128, 0, 896, 1920, 3968, 8191, 16383] (.take 0 (.take 1 (.take 2 (.take 3 (.take 4 (.take 5 (.take 6 (.take 7 (.take 8 (.take 9 (.take 10 (.take 11 (.take 12 (.alt 13 (.take 14 .done) .noalt))))))))))))))) .auto) .auto) .auto))) .auto)) (.two (.two .auto (.two (.two .auto (.two (.reg [0, 1, 3, 7, 15, 0, 32, 96, 224, 480, 1023, 2047] (.take 0 (.take 1 (.take 2 (.take 3 (.take 4 (.take 5 (.take 6 (.take 7 (.take 8 (.take 9 (.take 10 (.alt 11 .done .noalt))))))))))))) .auto)) .auto)) (.two .auto (.two (.two .auto (.two (.loop 1 [6, 7, 11, 12] [(4, [6]), (0, [6])] (.two .auto (.two (.two (.two (.two .auto (.two (.two (.reg [0, 0, 3, 7, 15, 0, 0, 96, 224, 480, 1023, 2047] (.take 0 (.take 1 (.take 2 (.take 3 (.take 4 (.take 5 (.take 6 (.take 7 (.take 8 (.take 9 (.take 10 (.alt 11 .done .noalt))))))))))))) .auto) .auto)) .auto) .auto) .auto))) .auto)) .auto)))))))
noncomputable def straitref41_next.c1 : Code := sub straitref41_next.code [1, 1, 1, 1, 1, 1, 0, 1, 0, 0]
def straitref41_next.a1 : Ann := (.two .auto (.two (.two (.two (.two .auto (.two (.two (.reg [0, 0, 3, 7, 15, 0, 0, 96, 224, 480, 1023, 2047] (.take 0 (.take 1 (.take 2 (.take 3 (.take 4 (.take 5 (.take 6 (.take 7 (.take 8 (.take 9 (.take 10 (.alt 11 .done .noalt))))))))))))) .auto) .auto)) .auto) .auto) .auto))
def straitref41_next.keep1 : List Nat := [6, 7, 11, 12]
def straitref41_next.outs1 : List (Nat × List Nat) := [(4, [6]), (0, [6])]
noncomputable def straitref41_next.c0 : Code := sub straitref41_next.code [1, 1, 1, 0, 1, 0, 0]
def straitref41_next.a0 : Ann := (.two .auto (.two (.two (.two (.reg [0, 0, 2, 0, 14, 30, 62, 0, 128, 0, 896, 1920, 3968, 8191, 16383] (.take 0 (.take 1 (.take 2 (.take 3 (.take 4 (.take 5 (.take 6 (.take 7 (.take 8 (.take 9 (.take 10 (.take 11 (.take 12 (.alt 13 (.take 14 .done) .noalt))))))))))))))) .auto) .auto) .auto))
def straitref41_next.keep0 : List Nat := [2, 3, 4, 6, 7, 8, 9]
def straitref41_next.outs0 : List (Nat × List Nat) := [(2, [2, 4, 6, 7, 8])]
set_option maxRecDepth 100000 in
theorem straitref41_next.L0 [DKc] : LoopOK straitref41_next.ctx 104 straitref41_next.c0 0 straitref41_next.keep0 straitref41_next.outs0 := by
  refine loop_ok (n := straitref41_next.a0) straitref41_next.ok (by kernel_rfl) (loops_ok (l := []) (by kernel_rfl) ?_) straitref41_next.r0 ?_ ?_ (fun vs h K hh => hh)
  · exact trivial
  · intro K vs h hh
    unfold straitref41_next.r0 at hh
    split at hh
    · exact hh
    · exact hh
  · intro K m vs h hh
    unfold straitref41_next.r0 at hh
    split at hh
    · exact cast (by kernel_rfl) hh
    · exact hh.elim
set_option maxRecDepth 100000 in
theorem straitref41_next.L1 [DKc] : LoopOK straitref41_next.ctx 104 straitref41_next.c1 1 straitref41_next.keep1 straitref41_next.outs1 := by
  refine loop_ok (n := straitref41_next.a1) straitref41_next.ok (by kernel_rfl) (loops_ok (l := []) (by kernel_rfl) ?_) straitref41_next.r1 ?_ ?_ (fun vs h K hh => hh)
  · exact trivial
  · intro K vs h hh
    unfold straitref41_next.r1 at hh
    split at hh
    · exact hh
    · exact hh
  · intro K m vs h hh
    unfold straitref41_next.r1 at hh
    split at hh
    · exact cast (by kernel_rfl) hh
    · exact hh.elim
set_option maxRecDepth 100000 in
theorem straitref41_next.eq (a1 : Int) (a2 : Option Addr) (a2l : Nat) (a2c : Nat) (a3 : Option Addr) (a3l : Nat) (a3c : Nat) (a4 : Int) (h : Heap) (K : Int → Int → Heap → Prop) : evF straitref41_next.ctx Tryz.f65 straitref41_next.ann [(.agg #[(.int .i64 a1), (.slice a2 a2l a2c)]), (.agg #[(.slice a3 a3l a3c)]), (.int .u64 a4)] h (straitref41_next.ret K) = straitref41_next a1 a2 a2l a2c a3 a3l a3c a4 h K := by kernel_rfl
set_option maxRecDepth 100000 in
theorem straitref41_next.calls [DKc] {a1 : Int} {a2 : Option Addr} {a2l : Nat} {a2c : Nat} {a3 : Option Addr} {a3l : Nat} {a3c : Nat} {a4 : Int} {h : Heap} {K : Int → Int → Heap → Prop} (hh : straitref41_next a1 a2 a2l a2c a3 a3l a3c a4 h K) (w : World) (hw : w.heap = h) :
    (callFunc 65 #[(.agg #[(.int .i64 a1), (.slice a2 a2l a2c)]), (.agg #[(.slice a3 a3l a3c)]), (.int .u64 a4)]).run Tryz.prog w = .ok (.enter 65 #[(.agg #[(.int .i64 a1), (.slice a2 a2l a2c)]), (.agg #[(.slice a3 a3l a3c)]), (.int .u64 a4)]) w ∧ Calls Tryz.prog 65 #[(.agg #[(.int .i64 a1), (.slice a2 a2l a2c)]), (.agg #[(.slice a3 a3l a3c)]), (.int .u64 a4)] w fun e w' => ∃ v, e = .returned v ∧ Out w w' ∧ straitref41_next.ret K v w'.heap := by
  rw [← straitref41_next.eq] at hh
  exact fn_calls (args := [(.agg #[(.int .i64 a1), (.slice a2 a2l a2c)]), (.agg #[(.slice a3 a3l a3c)]), (.int .u64 a4)]) (c := straitref41_next.code) straitref41_next.ok Tryz.func65 (by kernel_rfl) (by kernel_rfl) (by kernel_rfl) (by kernel_rfl) (loops_ok (l := [(straitref41_next.c0, none, 0, straitref41_next.keep0, straitref41_next.outs0), (straitref41_next.c1, none, 1, straitref41_next.keep1, straitref41_next.outs1)]) (by kernel_rfl) ⟨straitref41_next.L0, straitref41_next.L1, trivial⟩) hh w hw

/-! ### strait/straitref41.Groups: function 32 -/
def straitref41_Groups.b0 (K2 : Int → Heap → Prop) (cont : Int → (Option Addr) → Nat → Nat → Addr → Addr → Addr → Int → Heap → Prop) (c1_1001 : Int) (c2_1002 : Option Addr) (c2_1003 : Nat) (c2_1004 : Nat) (c3_1005 : Addr) (c6_1006 : Addr) (c7_1007 : Addr) (v8_1008 : Int) (h1009 : Heap) : Prop :=
  ∃ (x1010 : Option Addr) (x1010l : Nat) (x1010c : Nat), cell h1009 c7_1007 = some (.slice x1010 x1010l x1010c) ∧ callP3 (straitref10_Classes_List x1010 x1010l x1010c h1009) fun x1011 x1011l x1011c h1012 => (iteB (decide ((x1011l : Int) > c1_1001)) (((let j1040 := (fun (y1021 : Int) (y1022 : Int) (h1023 : Heap) => ∃ (x1024 : Int), cell h1023 c3_1005 = some (.int .i64 x1024) ∧ ∃ (x1025 : Option Addr) (x1025l : Nat) (x1025c : Nat), cell h1023 (c3_1005.add 1) = some (.slice x1025 x1025l x1025c) ∧ ∃ (x1026 : Option Addr) (x1026l : Nat) (x1026c : Nat), cell h1023 c7_1007 = some (.slice x1026 x1026l x1026c) ∧ callP2 (straitref41_next x1024 x1025 x1025l x1025c x1026 x1026l x1026c y1022 h1023) fun x1027 x1028 h1029 => newP h1029 (.cells #[(.int .i64 0), (.int .i64 0)] 43) fun a1030 h1031 => stC h1031 a1030 (.int .i64 x1027) fun h1032 => stC h1032 (a1030.add 1) (.int .i64 x1028) fun h1033 => (∃ (x1034 : Option Addr) (x1034l : Nat) (x1034c : Nat), cell h1033 c7_1007 = some (.slice x1034 x1034l x1034c) ∧ (0 ≤ (0 : Int) ∧ (0 : Int) < (2 : Int)) ∧ ∃ (x1035 : Int), cell h1033 (a1030.add ((0 : Int).toNat * 1)) = some (.int .i64 x1035) ∧ (0 ≤ (1 : Int) ∧ (1 : Int) < (2 : Int)) ∧ ∃ (x1036 : Int), cell h1033 (a1030.add ((1 : Int).toNat * 1)) = some (.int .i64 x1036) ∧ callP3 (straitref10_Classes_Join x1034 x1034l x1034c x1035 x1036 h1033) fun x1037 x1037l x1037c h1038 => stC h1038 c7_1007 (.slice x1037 x1037l x1037c) fun h1039 => cont c1_1001 c2_1002 c2_1003 c2_1004 c3_1005 c6_1006 c7_1007 y1021 h1039));
  ∃ (x1013 : Int), cell h1012 c3_1005 = some (.int .i64 x1013) ∧ ∃ (x1014 : Option Addr) (x1014l : Nat) (x1014c : Nat), cell h1012 (c3_1005.add 1) = some (.slice x1014 x1014l x1014c) ∧ ∃ (x1015 : Option Addr) (x1015l : Nat) (x1015c : Nat), cell h1012 c7_1007 = some (.slice x1015 x1015l x1015c) ∧ callP1 (straitref41_between x1013 x1014 x1014l x1014c x1015 x1015l x1015c h1012) fun x1016 h1017 => (iteB x1016 ((iteB (decide (v8_1008 < (c2_1003 : Int))) (chkP c2_1002 fun a1018 => (0 ≤ v8_1008 ∧ v8_1008 < (c2_1003 : Int)) ∧ ∃ (x1019 : Int), cell h1017 (a1018.add (v8_1008.toNat * 1)) = some (.int .u64 x1019) ∧ ((j1040 (IntKind.i64.wrap (v8_1008 + 1)) x1019 h1017))) (((j1040 (IntKind.i64.wrap (v8_1008 + 1)) 0 h1017))))) ((j1040 v8_1008 0 h1017)))))) (K2 v8_1008 h1012))
def straitref41_Groups.l0 (K2 : Int → Heap → Prop) : Nat → Int → (Option Addr) → Nat → Nat → Addr → Addr → Addr → Int → Heap → Prop
  | 0, _, _, _, _, _, _, _, _, _ => False
  | m + 1, c1_1001, c2_1002, c2_1003, c2_1004, c3_1005, c6_1006, c7_1007, v8_1008, h => straitref41_Groups.b0 K2 (straitref41_Groups.l0 K2 m) c1_1001 c2_1002 c2_1003 c2_1004 c3_1005 c6_1006 c7_1007 v8_1008 h
def straitref41_Groups (a1 : Int) (a2 : Option Addr) (a2l : Nat) (a2c : Nat) (a3 : Int) (a4 : Option Addr) (a4l : Nat) (a4c : Nat) (h : Heap) (K : (Option Addr) → Nat → Nat → Int → Int → Heap → Prop) : Prop :=
  newP h (.cells #[(.int .i64 a1), (.slice a2 a2l a2c)] 29) fun a5 h6 => newP h6 (.cells #[(.slice none 0 0), (.int .i64 0), (.int .i64 0)] 71) fun a7 h8 => (let j17 := (fun (y10 : Bool) => iteB y10 (stC h8 a7 (.slice none 0 0) fun h11 => stC h11 (a7.add 1) (.int .i64 0) fun h12 => stC h12 (a7.add 2) (.int .i64 1) fun h13 => (∃ (x14 : Option Addr) (x14l : Nat) (x14c : Nat), cell h13 a7 = some (.slice x14 x14l x14c) ∧ ∃ (x15 : Int), cell h13 (a7.add 1) = some (.int .i64 x15) ∧ ∃ (x16 : Int), cell h13 (a7.add 2) = some (.int .i64 x16) ∧ K x14 x14l x14c x15 x16 h13)) ((∃ (x18 : Int), cell h8 a5 = some (.int .i64 x18) ∧ callP3 (straitref10_New x18 h8) fun x19 x19l x19c h20 => newP h20 (.cells #[(.slice none 0 0)] 113) fun a21 h22 => stC h22 a21 (.slice x19 x19l x19c) fun h23 => ((∃ m26, straitref41_Groups.l0 (fun z24 h25 => ((∃ (x27 : Option Addr) (x27l : Nat) (x27c : Nat), cell h25 a21 = some (.slice x27 x27l x27c) ∧ callP3 (straitref10_Classes_List x27 x27l x27c h25) fun x28 x28l x28c h29 => stC h29 a7 (.slice x28 x28l x28c) fun h30 => stC h30 (a7.add 1) (.int .i64 z24) fun h31 => stC h31 (a7.add 2) (.int .i64 0) fun h32 => (∃ (x33 : Option Addr) (x33l : Nat) (x33c : Nat), cell h32 a7 = some (.slice x33 x33l x33c) ∧ ∃ (x34 : Int), cell h32 (a7.add 1) = some (.int .i64 x34) ∧ ∃ (x35 : Int), cell h32 (a7.add 2) = some (.int .i64 x35) ∧ K x33 x33l x33c x34 x35 h32)))) m26 a3 a4 a4l a4c a5 a7 a21 0 h23)))));
  iteB (decide (a3 < (1 : Int))) ((j17 true)) (∃ (x9 : Int), cell h8 a5 = some (.int .i64 x9) ∧ (j17 (decide (a3 > x9)))))
def straitref41_Groups.ret (K : (Option Addr) → Nat → Nat → Int → Int → Heap → Prop) (v : Value) (h : Heap) : Prop := match v with
  | (.agg ⟨[(.slice r36 r36l r36c), (.int .i64 r37), (.int .i64 r38)]⟩) => K r36 r36l r36c r37 r38 h
  | _ => False
theorem straitref41_Groups.ret_elim {K : (Option Addr) → Nat → Nat → Int → Int → Heap → Prop} {K' : Value → Heap → Prop} {v : Value} {h : Heap} (hk : ∀ r36 r36l r36c r37 r38 h, K r36 r36l r36c r37 r38 h → K' (.agg #[(.slice r36 r36l r36c), (.int .i64 r37), (.int .i64 r38)]) h) (hh : straitref41_Groups.ret K v h) : K' v h := by
  unfold straitref41_Groups.ret at hh
  split at hh
  · exact hk _ _ _ _ _ _ hh
  · exact hh.elim
def straitref41_Groups.call (f : FuncId) (vs : List Value) (h : Heap) (K : Value → Heap → Prop) : Prop := match f, vs with
  | 53, [(.int .i64 a1)] => callP3 (straitref10_New a1 h) fun r11 r11l r11c h' => K (.agg #[(.slice r11 r11l r11c)]) h'
  | 54, [(.agg ⟨[(.slice a1 a1l a1c)]⟩), (.int .i64 a2), (.int .i64 a3)] => callP3 (straitref10_Classes_Join a1 a1l a1c a2 a3 h) fun r40 r40l r40c h' => K (.agg #[(.slice r40 r40l r40c)]) h'
  | 55, [(.agg ⟨[(.slice a1 a1l a1c)]⟩)] => callP3 (straitref10_Classes_List a1 a1l a1c h) fun r7 r7l r7c h' => K (.slice r7 r7l r7c) h'
  | 64, [(.agg ⟨[(.int .i64 a1), (.slice a2 a2l a2c)]⟩), (.agg ⟨[(.slice a3 a3l a3c)]⟩)] => callP1 (straitref41_between a1 a2 a2l a2c a3 a3l a3c h) fun r12 h' => K (.bool r12) h'
  | 65, [(.agg ⟨[(.int .i64 a1), (.slice a2 a2l a2c)]⟩), (.agg ⟨[(.slice a3 a3l a3c)]⟩), (.int .u64 a4)] => callP2 (straitref41_next a1 a2 a2l a2c a3 a3l a3c a4 h) fun r39 r40 h' => K (.agg #[(.int .i64 r39), (.int .i64 r40)]) h'
  | _, _ => False
def straitref41_Groups.r0 (K : Nat → List Value → Heap → Prop) (m : Nat) (vs : List Value) (h : Heap) : Prop := match vs with
  | [(.int .i64 c1_1001), (.slice c2_1002 c2_1003 c2_1004), (.pointer (some c3_1005)), (.pointer (some c6_1006)), (.pointer (some c7_1007)), (.int .i64 v8_1008)] => straitref41_Groups.l0 (fun z39 h' => K 2 [(.pointer (some c6_1006)), (.pointer (some c7_1007)), (.int .i64 z39)] h') m c1_1001 c2_1002 c2_1003 c2_1004 c3_1005 c6_1006 c7_1007 v8_1008 h
  | _ => False
def straitref41_Groups.loop (i : Nat) (vs : List Value) (h : Heap) (K : Nat → List Value → Heap → Prop) : Prop := match i with
  | 0 => ∃ m, straitref41_Groups.r0 K m vs h
  | _ => False
noncomputable def straitref41_Groups.ctx : Ctx := { P := Tryz.prog, call := straitref41_Groups.call, qcall := fun _ _ _ _ => False, quiet := fun f => Nat.beq f 1000131 || Nat.beq f 1000155, loop := straitref41_Groups.loop }
theorem straitref41_Groups.ok [DKc] : straitref41_Groups.ctx.OK where
  mixed := by kernel_rfl
  mono := by
    intro f args h K K' hh hk
    change straitref41_Groups.call f args h K at hh
    change straitref41_Groups.call f args h K'
    unfold straitref41_Groups.call at hh ⊢
    split at hh
    · obtain ⟨R, h1, h2⟩ := hh
      exact ⟨R, h1, fun _ _ _ x hr => hk _ _ (h2 _ _ _ x hr)⟩
    · obtain ⟨R, h1, h2⟩ := hh
      exact ⟨R, h1, fun _ _ _ x hr => hk _ _ (h2 _ _ _ x hr)⟩
    · obtain ⟨R, h1, h2⟩ := hh
      exact ⟨R, h1, fun _ _ _ x hr => hk _ _ (h2 _ _ _ x hr)⟩
    · obtain ⟨R, h1, h2⟩ := hh
      exact ⟨R, h1, fun _ x hr => hk _ _ (h2 _ x hr)⟩
    · obtain ⟨R, h1, h2⟩ := hh
      exact ⟨R, h1, fun _ _ x hr => hk _ _ (h2 _ _ x hr)⟩
    · exact hh.elim
  call := by
    intro f args h K hh w hw
    change straitref41_Groups.call f args h K at hh
    unfold straitref41_Groups.call at hh
    split at hh
    · obtain ⟨R, h1, h2⟩ := hh
      obtain ⟨g1, g2⟩ := straitref10_New.calls h1 w hw
      exact ⟨g1, g2.mono fun e w' ⟨v, he, ho, hr⟩ => ⟨v, he, ho, straitref10_New.ret_elim h2 hr⟩⟩
    · obtain ⟨R, h1, h2⟩ := hh
      obtain ⟨g1, g2⟩ := straitref10_Classes_Join.calls h1 w hw
      exact ⟨g1, g2.mono fun e w' ⟨v, he, ho, hr⟩ => ⟨v, he, ho, straitref10_Classes_Join.ret_elim h2 hr⟩⟩
    · obtain ⟨R, h1, h2⟩ := hh
      obtain ⟨g1, g2⟩ := straitref10_Classes_List.calls h1 w hw
      exact ⟨g1, g2.mono fun e w' ⟨v, he, ho, hr⟩ => ⟨v, he, ho, straitref10_Classes_List.ret_elim h2 hr⟩⟩
    · obtain ⟨R, h1, h2⟩ := hh
      obtain ⟨g1, g2⟩ := straitref41_between.calls h1 w hw
      exact ⟨g1, g2.mono fun e w' ⟨v, he, ho, hr⟩ => ⟨v, he, ho, straitref41_between.ret_elim h2 hr⟩⟩
    · obtain ⟨R, h1, h2⟩ := hh
      obtain ⟨g1, g2⟩ := straitref41_next.calls h1 w hw
      exact ⟨g1, g2.mono fun e w' ⟨v, he, ho, hr⟩ => ⟨v, he, ho, straitref41_next.ret_elim h2 hr⟩⟩
    · exact hh.elim
  qmono := fun hh _ => hh.elim
  qval := fun hh => hh.elim
  qcall := fun hh => hh.elim
noncomputable def straitref41_Groups.code : Code := (Tryz.f32.body).getD .skip
def straitref41_Groups.ann : Ann := (.two .auto (.two .auto (.two .auto (.two .auto (.two (.two (.loop 0 [1, 2, 3, 6, 7, 8] [(2, [6, 7, 8])] .auto) .auto) .auto)))))
noncomputable def straitref41_Groups.c0 : Code := sub straitref41_Groups.code [1, 1, 1, 1, 0, 0, 0]
def straitref41_Groups.a0 : Ann := .auto
def straitref41_Groups.keep0 : List Nat := [1, 2, 3, 6, 7, 8]
def straitref41_Groups.outs0 : List (Nat × List Nat) := [(2, [6, 7, 8])]
set_option maxRecDepth 100000 in
theorem straitref41_Groups.L0 [DKc] : LoopOK straitref41_Groups.ctx 55 straitref41_Groups.c0 0 straitref41_Groups.keep0 straitref41_Groups.outs0 := by
  refine loop_ok (n := straitref41_Groups.a0) straitref41_Groups.ok (by kernel_rfl) (loops_ok (l := []) (by kernel_rfl) ?_) straitref41_Groups.r0 ?_ ?_ (fun vs h K hh => hh)
  · exact trivial
  · intro K vs h hh
    unfold straitref41_Groups.r0 at hh
    split at hh
    · exact hh
    · exact hh
  · intro K m vs h hh
    unfold straitref41_Groups.r0 at hh
    split at hh
    · exact cast (by kernel_rfl) hh
    · exact hh.elim
set_option maxRecDepth 100000 in
theorem straitref41_Groups.eq (a1 : Int) (a2 : Option Addr) (a2l : Nat) (a2c : Nat) (a3 : Int) (a4 : Option Addr) (a4l : Nat) (a4c : Nat) (h : Heap) (K : (Option Addr) → Nat → Nat → Int → Int → Heap → Prop) : evF straitref41_Groups.ctx Tryz.f32 straitref41_Groups.ann [(.agg #[(.int .i64 a1), (.slice a2 a2l a2c)]), (.int .i64 a3), (.slice a4 a4l a4c)] h (straitref41_Groups.ret K) = straitref41_Groups a1 a2 a2l a2c a3 a4 a4l a4c h K := by kernel_rfl
set_option maxRecDepth 100000 in
theorem straitref41_Groups.calls [DKc] {a1 : Int} {a2 : Option Addr} {a2l : Nat} {a2c : Nat} {a3 : Int} {a4 : Option Addr} {a4l : Nat} {a4c : Nat} {h : Heap} {K : (Option Addr) → Nat → Nat → Int → Int → Heap → Prop} (hh : straitref41_Groups a1 a2 a2l a2c a3 a4 a4l a4c h K) (w : World) (hw : w.heap = h) :
    (callFunc 32 #[(.agg #[(.int .i64 a1), (.slice a2 a2l a2c)]), (.int .i64 a3), (.slice a4 a4l a4c)]).run Tryz.prog w = .ok (.enter 32 #[(.agg #[(.int .i64 a1), (.slice a2 a2l a2c)]), (.int .i64 a3), (.slice a4 a4l a4c)]) w ∧ Calls Tryz.prog 32 #[(.agg #[(.int .i64 a1), (.slice a2 a2l a2c)]), (.int .i64 a3), (.slice a4 a4l a4c)] w fun e w' => ∃ v, e = .returned v ∧ Out w w' ∧ straitref41_Groups.ret K v w'.heap := by
  rw [← straitref41_Groups.eq] at hh
  exact fn_calls (args := [(.agg #[(.int .i64 a1), (.slice a2 a2l a2c)]), (.int .i64 a3), (.slice a4 a4l a4c)]) (c := straitref41_Groups.code) straitref41_Groups.ok Tryz.func32 (by kernel_rfl) (by kernel_rfl) (by kernel_rfl) (by kernel_rfl) (loops_ok (l := [(straitref41_Groups.c0, none, 0, straitref41_Groups.keep0, straitref41_Groups.outs0)]) (by kernel_rfl) ⟨straitref41_Groups.L0, trivial⟩) hh w hw

/-! ### strait/straitref41.Run: function 33 -/
def straitref41_Run (a1 : Int) (a2 : Option Addr) (a2l : Nat) (a2c : Nat) (a3 : Option Addr) (a3l : Nat) (a3c : Nat) (h : Heap) (K : Int → (Option Addr) → Nat → Nat → Int → Int → Heap → Prop) : Prop :=
  newP h (.cells #[(.int .i64 a1), (.slice a2 a2l a2c)] 29) fun a4 h5 => newP h5 (.cells #[(.int .i64 0), (.slice none 0 0), (.int .i64 0), (.int .i64 0)] 74) fun a6 h7 => (∃ (x8 : Int), cell h7 a4 = some (.int .i64 x8) ∧ (iteB (decide (x8 < (2 : Int))) (stC h7 a6 (.int .i64 0) fun h9 => stC h9 (a6.add 1) (.slice none 0 0) fun h10 => stC h10 (a6.add 2) (.int .i64 0) fun h11 => stC h11 (a6.add 3) (.int .i64 9) fun h12 => (∃ (x13 : Int), cell h12 a6 = some (.int .i64 x13) ∧ ∃ (x14 : Option Addr) (x14l : Nat) (x14c : Nat), cell h12 (a6.add 1) = some (.slice x14 x14l x14c) ∧ ∃ (x15 : Int), cell h12 (a6.add 2) = some (.int .i64 x15) ∧ ∃ (x16 : Int), cell h12 (a6.add 3) = some (.int .i64 x16) ∧ K x13 x14 x14l x14c x15 x16 h12)) ((∃ (x17 : Int), cell h7 a4 = some (.int .i64 x17) ∧ ∃ (x18 : Option Addr) (x18l : Nat) (x18c : Nat), cell h7 (a4.add 1) = some (.slice x18 x18l x18c) ∧ callP5 (straitref41_Groups x17 x18 x18l x18c 2 a3 a3l a3c h7) fun x19 x19l x19c x20 x21 h22 => newP h22 (.cells #[(.slice none 0 0), (.int .i64 0), (.int .i64 0)] 71) fun a23 h24 => stC h24 a23 (.slice x19 x19l x19c) fun h25 => stC h25 (a23.add 1) (.int .i64 x20) fun h26 => stC h26 (a23.add 2) (.int .i64 x21) fun h27 => (∃ (x28 : Int), cell h27 a4 = some (.int .i64 x28) ∧ ∃ (x29 : Option Addr) (x29l : Nat) (x29c : Nat), cell h27 (a4.add 1) = some (.slice x29 x29l x29c) ∧ ∃ (x30 : Option Addr) (x30l : Nat) (x30c : Nat), cell h27 a23 = some (.slice x30 x30l x30c) ∧ chkP x30 fun a31 => (0 ≤ (1 : Int) ∧ (1 : Int) < (x30l : Int)) ∧ ∃ (x32 : Option Addr) (x32l : Nat) (x32c : Nat), cell h27 (a31.add ((1 : Int).toNat * 1)) = some (.slice x32 x32l x32c) ∧ ∃ (x33 : Option Addr) (x33l : Nat) (x33c : Nat), cell h27 a23 = some (.slice x33 x33l x33c) ∧ chkP x33 fun a34 => (0 ≤ (1 : Int) ∧ (1 : Int) < (x33l : Int)) ∧ ∃ (x35 : Option Addr) (x35l : Nat) (x35c : Nat), cell h27 (a34.add ((1 : Int).toNat * 1)) = some (.slice x35 x35l x35c) ∧ ∃ (x36 : Int), cell h27 (a23.add 1) = some (.int .i64 x36) ∧ callP1 (straitref21_Weight x28 x29 x29l x29c x32 x32l x32c h27) fun x37 h38 => (∃ (x39 : Int), cell h38 (a23.add 1) = some (.int .i64 x39) ∧ ((.int .i64 x39) : Value) = (.int .i64 x36)) ∧ (∃ (x40 : Option Addr) (x40l : Nat) (x40c : Nat), cell h38 (a34.add ((1 : Int).toNat * 1)) = some (.slice x40 x40l x40c) ∧ ((.slice x40 x40l x40c) : Value) = (.slice x35 x35l x35c)) ∧ (∃ (x41 : Option Addr) (x41l : Nat) (x41c : Nat), cell h38 a23 = some (.slice x41 x41l x41c) ∧ ((.slice x41 x41l x41c) : Value) = (.slice x33 x33l x33c)) ∧ stC h38 a6 (.int .i64 x37) fun h42 => stC h42 (a6.add 1) (.slice x35 x35l x35c) fun h43 => stC h43 (a6.add 2) (.int .i64 x36) fun h44 => stC h44 (a6.add 3) (.int .i64 0) fun h45 => (∃ (x46 : Int), cell h45 a6 = some (.int .i64 x46) ∧ ∃ (x47 : Option Addr) (x47l : Nat) (x47c : Nat), cell h45 (a6.add 1) = some (.slice x47 x47l x47c) ∧ ∃ (x48 : Int), cell h45 (a6.add 2) = some (.int .i64 x48) ∧ ∃ (x49 : Int), cell h45 (a6.add 3) = some (.int .i64 x49) ∧ K x46 x47 x47l x47c x48 x49 h45))))))
def straitref41_Run.ret (K : Int → (Option Addr) → Nat → Nat → Int → Int → Heap → Prop) (v : Value) (h : Heap) : Prop := match v with
  | (.agg ⟨[(.int .i64 r50), (.slice r51 r51l r51c), (.int .i64 r52), (.int .i64 r53)]⟩) => K r50 r51 r51l r51c r52 r53 h
  | _ => False
theorem straitref41_Run.ret_elim {K : Int → (Option Addr) → Nat → Nat → Int → Int → Heap → Prop} {K' : Value → Heap → Prop} {v : Value} {h : Heap} (hk : ∀ r50 r51 r51l r51c r52 r53 h, K r50 r51 r51l r51c r52 r53 h → K' (.agg #[(.int .i64 r50), (.slice r51 r51l r51c), (.int .i64 r52), (.int .i64 r53)]) h) (hh : straitref41_Run.ret K v h) : K' v h := by
  unfold straitref41_Run.ret at hh
  split at hh
  · exact hk _ _ _ _ _ _ _ hh
  · exact hh.elim
def straitref41_Run.call (f : FuncId) (vs : List Value) (h : Heap) (K : Value → Heap → Prop) : Prop := match f, vs with
  | 32, [(.agg ⟨[(.int .i64 a1), (.slice a2 a2l a2c)]⟩), (.int .i64 a3), (.slice a4 a4l a4c)] => callP5 (straitref41_Groups a1 a2 a2l a2c a3 a4 a4l a4c h) fun r36 r36l r36c r37 r38 h' => K (.agg #[(.slice r36 r36l r36c), (.int .i64 r37), (.int .i64 r38)]) h'
  | 61, [(.agg ⟨[(.int .i64 a1), (.slice a2 a2l a2c)]⟩), (.slice a3 a3l a3c)] => callP1 (straitref21_Weight a1 a2 a2l a2c a3 a3l a3c h) fun r13 h' => K (.int .i64 r13) h'
  | _, _ => False
noncomputable def straitref41_Run.ctx : Ctx := { P := Tryz.prog, call := straitref41_Run.call, qcall := fun _ _ _ _ => False, quiet := fun f => Nat.beq f 1000131 || Nat.beq f 1000155, loop := fun _ _ _ _ => False }
theorem straitref41_Run.ok [DKc] : straitref41_Run.ctx.OK where
  mixed := by kernel_rfl
  mono := by
    intro f args h K K' hh hk
    change straitref41_Run.call f args h K at hh
    change straitref41_Run.call f args h K'
    unfold straitref41_Run.call at hh ⊢
    split at hh
    · obtain ⟨R, h1, h2⟩ := hh
      exact ⟨R, h1, fun _ _ _ _ _ x hr => hk _ _ (h2 _ _ _ _ _ x hr)⟩
    · obtain ⟨R, h1, h2⟩ := hh
      exact ⟨R, h1, fun _ x hr => hk _ _ (h2 _ x hr)⟩
    · exact hh.elim
  call := by
    intro f args h K hh w hw
    change straitref41_Run.call f args h K at hh
    unfold straitref41_Run.call at hh
    split at hh
    · obtain ⟨R, h1, h2⟩ := hh
      obtain ⟨g1, g2⟩ := straitref41_Groups.calls h1 w hw
      exact ⟨g1, g2.mono fun e w' ⟨v, he, ho, hr⟩ => ⟨v, he, ho, straitref41_Groups.ret_elim h2 hr⟩⟩
    · obtain ⟨R, h1, h2⟩ := hh
      obtain ⟨g1, g2⟩ := straitref21_Weight.calls h1 w hw
      exact ⟨g1, g2.mono fun e w' ⟨v, he, ho, hr⟩ => ⟨v, he, ho, straitref21_Weight.ret_elim h2 hr⟩⟩
    · exact hh.elim
  qmono := fun hh _ => hh.elim
  qval := fun hh => hh.elim
  qcall := fun hh => hh.elim
noncomputable def straitref41_Run.code : Code := (Tryz.f33.body).getD .skip
def straitref41_Run.ann : Ann := (.two .auto (.two .auto (.two .auto (.two (.reg [0, 0, 2, 6, 14, 31, 0, 64, 192, 448, 1023, 0, 2048, 8191, 16383] (.take 0 (.take 1 (.take 2 (.take 3 (.take 4 (.take 6 (.take 11 (.early 7 (.take 8 (.early 9 (.early 12 (.alt 5 (.take 10 (.take 13 (.alt 14 .done .noalt))) .noalt))))))))))))) .auto))))
set_option maxRecDepth 100000 in
theorem straitref41_Run.eq (a1 : Int) (a2 : Option Addr) (a2l : Nat) (a2c : Nat) (a3 : Option Addr) (a3l : Nat) (a3c : Nat) (h : Heap) (K : Int → (Option Addr) → Nat → Nat → Int → Int → Heap → Prop) : evF straitref41_Run.ctx Tryz.f33 straitref41_Run.ann [(.agg #[(.int .i64 a1), (.slice a2 a2l a2c)]), (.slice a3 a3l a3c)] h (straitref41_Run.ret K) = straitref41_Run a1 a2 a2l a2c a3 a3l a3c h K := by kernel_rfl
set_option maxRecDepth 100000 in
theorem straitref41_Run.calls [DKc] {a1 : Int} {a2 : Option Addr} {a2l : Nat} {a2c : Nat} {a3 : Option Addr} {a3l : Nat} {a3c : Nat} {h : Heap} {K : Int → (Option Addr) → Nat → Nat → Int → Int → Heap → Prop} (hh : straitref41_Run a1 a2 a2l a2c a3 a3l a3c h K) (w : World) (hw : w.heap = h) :
    (callFunc 33 #[(.agg #[(.int .i64 a1), (.slice a2 a2l a2c)]), (.slice a3 a3l a3c)]).run Tryz.prog w = .ok (.enter 33 #[(.agg #[(.int .i64 a1), (.slice a2 a2l a2c)]), (.slice a3 a3l a3c)]) w ∧ Calls Tryz.prog 33 #[(.agg #[(.int .i64 a1), (.slice a2 a2l a2c)]), (.slice a3 a3l a3c)] w fun e w' => ∃ v, e = .returned v ∧ Out w w' ∧ straitref41_Run.ret K v w'.heap := by
  rw [← straitref41_Run.eq] at hh
  exact fn_calls (args := [(.agg #[(.int .i64 a1), (.slice a2 a2l a2c)]), (.slice a3 a3l a3c)]) (c := straitref41_Run.code) straitref41_Run.ok Tryz.func33 (by kernel_rfl) (by kernel_rfl) (by kernel_rfl) (by kernel_rfl) (loops_ok (l := []) (by kernel_rfl) trivial) hh w hw

/-! ### strait/straitref41.Spread: function 36 -/
def straitref41_Spread.b0 (K2 : (Option Addr) → Nat → Nat → Heap → Prop) (cont : Int → (Option Addr) → Nat → Nat → Int → Int → Heap → Prop) (c1_1001 : Int) (v5_1002 : Option Addr) (v5_1002l : Nat) (v5_1002c : Nat) (v6_1003 : Int) (v7_1004 : Int) (h1005 : Heap) : Prop :=
  bindV (if 1048576 < c1_1001 then 1048576 else c1_1001) fun n1006 => (iteB (decide (v7_1004 < n1006)) ((bindV (IntKind.u64.wrap (v6_1003 * 6364136223846793005)) fun n1007 => bindV (IntKind.u64.wrap (n1007 + 1442695040888963407)) fun n1008 => (0 ≤ (32 : Int) ∧ 0 ≤ (32 : Int) ∧ bindV (bits .or .u64 (n1008.fdiv (2 ^ 32)) (IntKind.u64.wrap (n1008 * 2 ^ 32))) fun n1009 => newP h1005 (.cells #[(.int .u64 n1009)] 53) fun a1010 h1011 => ∃ n1016, cellsAt h1011 (some a1010) (1 * 1) n1016 ∧ appP 53 1 8 [(.int .u64 0)] v5_1002 v5_1002l v5_1002c 1 n1016 h1011 fun q1012 l1013 c1014 h1015 => ((cont c1_1001 q1012 l1013 c1014 n1008 (IntKind.i64.wrap (v7_1004 + 1)) h1015))))) (K2 v5_1002 v5_1002l v5_1002c h1005))
def straitref41_Spread.l0 (K2 : (Option Addr) → Nat → Nat → Heap → Prop) : Nat → Int → (Option Addr) → Nat → Nat → Int → Int → Heap → Prop
  | 0, _, _, _, _, _, _, _ => False
  | m + 1, c1_1001, v5_1002, v5_1002l, v5_1002c, v6_1003, v7_1004, h => straitref41_Spread.b0 K2 (straitref41_Spread.l0 K2 m) c1_1001 v5_1002 v5_1002l v5_1002c v6_1003 v7_1004 h
def straitref41_Spread (a1 : Int) (a2 : Int) (h : Heap) (K : (Option Addr) → Nat → Nat → Heap → Prop) : Prop :=
  ((((∃ m5, straitref41_Spread.l0 (fun z3 z3l z3c h4 => (K z3 z3l z3c h4)) m5 a2 none 0 0 a1 0 h))))
def straitref41_Spread.ret (K : (Option Addr) → Nat → Nat → Heap → Prop) (v : Value) (h : Heap) : Prop := match v with
  | (.slice r6 r6l r6c) => K r6 r6l r6c h
  | _ => False
theorem straitref41_Spread.ret_elim {K : (Option Addr) → Nat → Nat → Heap → Prop} {K' : Value → Heap → Prop} {v : Value} {h : Heap} (hk : ∀ r6 r6l r6c h, K r6 r6l r6c h → K' (.slice r6 r6l r6c) h) (hh : straitref41_Spread.ret K v h) : K' v h := by
  unfold straitref41_Spread.ret at hh
  split at hh
  · exact hk _ _ _ _ hh
  · exact hh.elim
def straitref41_Spread.r0 (K : Nat → List Value → Heap → Prop) (m : Nat) (vs : List Value) (h : Heap) : Prop := match vs with
  | [(.int .i64 c1_1001), (.slice v5_1002 v5_1002l v5_1002c), (.int .u64 v6_1003), (.int .i64 v7_1004)] => straitref41_Spread.l0 (fun z7 z7l z7c h' => K 2 [(.slice z7 z7l z7c)] h') m c1_1001 v5_1002 v5_1002l v5_1002c v6_1003 v7_1004 h
  | _ => False
def straitref41_Spread.loop (i : Nat) (vs : List Value) (h : Heap) (K : Nat → List Value → Heap → Prop) : Prop := match i with
  | 0 => ∃ m, straitref41_Spread.r0 K m vs h
  | _ => False
noncomputable def straitref41_Spread.ctx : Ctx := { P := Tryz.prog, call := fun _ _ _ _ => False, qcall := fun _ _ _ _ => False, quiet := fun f => Nat.beq f 1000131 || Nat.beq f 1000155, loop := straitref41_Spread.loop }
theorem straitref41_Spread.ok [DKc] : straitref41_Spread.ctx.OK where
  mixed := by kernel_rfl
  mono := fun hh _ => hh.elim
  call := fun hh => hh.elim
  qmono := fun hh _ => hh.elim
  qval := fun hh => hh.elim
  qcall := fun hh => hh.elim
noncomputable def straitref41_Spread.code : Code := (Tryz.f36.body).getD .skip
def straitref41_Spread.ann : Ann := (.two .auto (.two .auto (.two .auto (.two (.two .auto (.two (.loop 0 [1, 5, 6, 7] [(2, [5])] .auto) .auto)) .auto))))
noncomputable def straitref41_Spread.c0 : Code := sub straitref41_Spread.code [1, 1, 1, 0, 1, 0, 0]
def straitref41_Spread.a0 : Ann := .auto
def straitref41_Spread.keep0 : List Nat := [1, 5, 6, 7]
def straitref41_Spread.outs0 : List (Nat × List Nat) := [(2, [5])]
set_option maxRecDepth 100000 in
theorem straitref41_Spread.L0 [DKc] : LoopOK straitref41_Spread.ctx 27 straitref41_Spread.c0 0 straitref41_Spread.keep0 straitref41_Spread.outs0 := by
  refine loop_ok (n := straitref41_Spread.a0) straitref41_Spread.ok (by kernel_rfl) (loops_ok (l := []) (by kernel_rfl) ?_) straitref41_Spread.r0 ?_ ?_ (fun vs h K hh => hh)
  · exact trivial
  · intro K vs h hh
    unfold straitref41_Spread.r0 at hh
    split at hh
    · exact hh
    · exact hh
  · intro K m vs h hh
    unfold straitref41_Spread.r0 at hh
    split at hh
    · exact cast (by kernel_rfl) hh
    · exact hh.elim
set_option maxRecDepth 100000 in
theorem straitref41_Spread.eq (a1 : Int) (a2 : Int) (h : Heap) (K : (Option Addr) → Nat → Nat → Heap → Prop) : evF straitref41_Spread.ctx Tryz.f36 straitref41_Spread.ann [(.int .u64 a1), (.int .i64 a2)] h (straitref41_Spread.ret K) = straitref41_Spread a1 a2 h K := by kernel_rfl
set_option maxRecDepth 100000 in
theorem straitref41_Spread.calls [DKc] {a1 : Int} {a2 : Int} {h : Heap} {K : (Option Addr) → Nat → Nat → Heap → Prop} (hh : straitref41_Spread a1 a2 h K) (w : World) (hw : w.heap = h) :
    (callFunc 36 #[(.int .u64 a1), (.int .i64 a2)]).run Tryz.prog w = .ok (.enter 36 #[(.int .u64 a1), (.int .i64 a2)]) w ∧ Calls Tryz.prog 36 #[(.int .u64 a1), (.int .i64 a2)] w fun e w' => ∃ v, e = .returned v ∧ Out w w' ∧ straitref41_Spread.ret K v w'.heap := by
  rw [← straitref41_Spread.eq] at hh
  exact fn_calls (args := [(.int .u64 a1), (.int .i64 a2)]) (c := straitref41_Spread.code) straitref41_Spread.ok Tryz.func36 (by kernel_rfl) (by kernel_rfl) (by kernel_rfl) (by kernel_rfl) (loops_ok (l := [(straitref41_Spread.c0, none, 0, straitref41_Spread.keep0, straitref41_Spread.outs0)]) (by kernel_rfl) ⟨straitref41_Spread.L0, trivial⟩) hh w hw

/-! ### strait/straitlaw41.words: function 35 -/
def straitlaw41_words.b0 (K0 : Bool → Heap → Prop) (K2 : Heap → Prop) (cont : (Option Addr) → Nat → Nat → (Option Addr) → Nat → Nat → Int → Heap → Prop) (c0_1001 : Option Addr) (c0_1002 : Nat) (c0_1003 : Nat) (c1_1004 : Option Addr) (c1_1005 : Nat) (c1_1006 : Nat) (v5_1007 : Int) (h1008 : Heap) : Prop :=
  (iteB (decide (v5_1007 < (c0_1002 : Int))) ((chkP c0_1001 fun a1009 => (0 ≤ v5_1007 ∧ v5_1007 < (c0_1002 : Int)) ∧ ∃ (x1010 : Int), cell h1008 (a1009.add (v5_1007.toNat * 1)) = some (.int .u64 x1010) ∧ chkP c1_1004 fun a1011 => (0 ≤ v5_1007 ∧ v5_1007 < (c1_1005 : Int)) ∧ ∃ (x1012 : Int), cell h1008 (a1011.add (v5_1007.toNat * 1)) = some (.int .u64 x1012) ∧ (iteB (x1010 != x1012) (K0 false h1008) (((cont c0_1001 c0_1002 c0_1003 c1_1004 c1_1005 c1_1006 (IntKind.i64.wrap (v5_1007 + 1)) h1008)))))) (K2 h1008))
def straitlaw41_words.l0 (K0 : Bool → Heap → Prop) (K2 : Heap → Prop) : Nat → (Option Addr) → Nat → Nat → (Option Addr) → Nat → Nat → Int → Heap → Prop
  | 0, _, _, _, _, _, _, _, _ => False
  | m + 1, c0_1001, c0_1002, c0_1003, c1_1004, c1_1005, c1_1006, v5_1007, h => straitlaw41_words.b0 K0 K2 (straitlaw41_words.l0 K0 K2 m) c0_1001 c0_1002 c0_1003 c1_1004 c1_1005 c1_1006 v5_1007 h
def straitlaw41_words (a1 : Option Addr) (a1l : Nat) (a1c : Nat) (a2 : Option Addr) (a2l : Nat) (a2c : Nat) (h : Heap) (K : Bool → Heap → Prop) : Prop :=
  ((iteB ((a1l : Int) != (a2l : Int)) (K false h) (((∃ m6, straitlaw41_words.l0 (fun z3 h4 => K z3 h4) (fun h5 => (K true h5)) m6 a1 a1l a1c a2 a2l a2c 0 h)))))
def straitlaw41_words.ret (K : Bool → Heap → Prop) (v : Value) (h : Heap) : Prop := match v with
  | (.bool r7) => K r7 h
  | _ => False
theorem straitlaw41_words.ret_elim {K : Bool → Heap → Prop} {K' : Value → Heap → Prop} {v : Value} {h : Heap} (hk : ∀ r7 h, K r7 h → K' (.bool r7) h) (hh : straitlaw41_words.ret K v h) : K' v h := by
  unfold straitlaw41_words.ret at hh
  split at hh
  · exact hk _ _ hh
  · exact hh.elim
def straitlaw41_words.r0 (K : Nat → List Value → Heap → Prop) (m : Nat) (vs : List Value) (h : Heap) : Prop := match vs with
  | [(.slice c0_1001 c0_1002 c0_1003), (.slice c1_1004 c1_1005 c1_1006), (.int .i64 v5_1007)] => straitlaw41_words.l0 (fun z8 h' => K 0 [(.bool z8)] h') (fun h' => K 2 [] h') m c0_1001 c0_1002 c0_1003 c1_1004 c1_1005 c1_1006 v5_1007 h
  | _ => False
def straitlaw41_words.loop (i : Nat) (vs : List Value) (h : Heap) (K : Nat → List Value → Heap → Prop) : Prop := match i with
  | 0 => ∃ m, straitlaw41_words.r0 K m vs h
  | _ => False
noncomputable def straitlaw41_words.ctx : Ctx := { P := Tryz.prog, call := fun _ _ _ _ => False, qcall := fun _ _ _ _ => False, quiet := fun f => Nat.beq f 1000131 || Nat.beq f 1000155, loop := straitlaw41_words.loop }
theorem straitlaw41_words.ok [DKc] : straitlaw41_words.ctx.OK where
  mixed := by kernel_rfl
  mono := fun hh _ => hh.elim
  call := fun hh => hh.elim
  qmono := fun hh _ => hh.elim
  qval := fun hh => hh.elim
  qcall := fun hh => hh.elim
noncomputable def straitlaw41_words.code : Code := (Tryz.f35.body).getD .skip
def straitlaw41_words.ann : Ann := (.two .auto (.two .auto (.two (.two .auto (.two (.loop 0 [0, 1, 5] [(2, []), (0, [4])] (.two .auto (.two (.two (.two (.reg [0, 0, 3, 7, 0, 0, 48, 112, 255] (.take 0 (.take 1 (.take 2 (.take 3 (.take 4 (.take 5 (.take 6 (.take 7 (.take 8 .done)))))))))) .auto) .auto) .auto))) .auto)) .auto)))
noncomputable def straitlaw41_words.c0 : Code := sub straitlaw41_words.code [1, 1, 0, 1, 0, 0]
def straitlaw41_words.a0 : Ann := (.two .auto (.two (.two (.two (.reg [0, 0, 3, 7, 0, 0, 48, 112, 255] (.take 0 (.take 1 (.take 2 (.take 3 (.take 4 (.take 5 (.take 6 (.take 7 (.take 8 .done)))))))))) .auto) .auto) .auto))
def straitlaw41_words.keep0 : List Nat := [0, 1, 5]
def straitlaw41_words.outs0 : List (Nat × List Nat) := [(2, []), (0, [4])]
set_option maxRecDepth 100000 in
theorem straitlaw41_words.L0 [DKc] : LoopOK straitlaw41_words.ctx 26 straitlaw41_words.c0 0 straitlaw41_words.keep0 straitlaw41_words.outs0 := by
  refine loop_ok (n := straitlaw41_words.a0) straitlaw41_words.ok (by kernel_rfl) (loops_ok (l := []) (by kernel_rfl) ?_) straitlaw41_words.r0 ?_ ?_ (fun vs h K hh => hh)
  · exact trivial
  · intro K vs h hh
    unfold straitlaw41_words.r0 at hh
    split at hh
    · exact hh
    · exact hh
  · intro K m vs h hh
    unfold straitlaw41_words.r0 at hh
    split at hh
    · exact cast (by kernel_rfl) hh
    · exact hh.elim
set_option maxRecDepth 100000 in
theorem straitlaw41_words.eq (a1 : Option Addr) (a1l : Nat) (a1c : Nat) (a2 : Option Addr) (a2l : Nat) (a2c : Nat) (h : Heap) (K : Bool → Heap → Prop) : evF straitlaw41_words.ctx Tryz.f35 straitlaw41_words.ann [(.slice a1 a1l a1c), (.slice a2 a2l a2c)] h (straitlaw41_words.ret K) = straitlaw41_words a1 a1l a1c a2 a2l a2c h K := by kernel_rfl
set_option maxRecDepth 100000 in
theorem straitlaw41_words.calls [DKc] {a1 : Option Addr} {a1l : Nat} {a1c : Nat} {a2 : Option Addr} {a2l : Nat} {a2c : Nat} {h : Heap} {K : Bool → Heap → Prop} (hh : straitlaw41_words a1 a1l a1c a2 a2l a2c h K) (w : World) (hw : w.heap = h) :
    (callFunc 35 #[(.slice a1 a1l a1c), (.slice a2 a2l a2c)]).run Tryz.prog w = .ok (.enter 35 #[(.slice a1 a1l a1c), (.slice a2 a2l a2c)]) w ∧ Calls Tryz.prog 35 #[(.slice a1 a1l a1c), (.slice a2 a2l a2c)] w fun e w' => ∃ v, e = .returned v ∧ Out w w' ∧ straitlaw41_words.ret K v w'.heap := by
  rw [← straitlaw41_words.eq] at hh
  exact fn_calls (args := [(.slice a1 a1l a1c), (.slice a2 a2l a2c)]) (c := straitlaw41_words.code) straitlaw41_words.ok Tryz.func35 (by kernel_rfl) (by kernel_rfl) (by kernel_rfl) (by kernel_rfl) (loops_ok (l := [(straitlaw41_words.c0, none, 0, straitlaw41_words.keep0, straitlaw41_words.outs0)]) (by kernel_rfl) ⟨straitlaw41_words.L0, trivial⟩) hh w hw

/-! ### strait/karger.Best: function 37 -/
section
variable [DKc]
def karger_Best.b0 (K3 : Int → Heap → Prop) (cont : (Option Addr) → Addr → Addr → Int → (Option Addr) → Nat → Nat → Int → Int → Heap → Prop) (c0_1001 : Option Addr) (c4_1002 : Addr) (c7_1003 : Addr) (v8_1004 : Int) (c24_1005 : Option Addr) (c24_1006 : Nat) (c24_1007 : Nat) (c25_1008 : Int) (v26_1009 : Int) (h1010 : Heap) : Prop :=
  (iteB (decide (v26_1009 < c25_1008)) ((chkP c24_1005 fun a1011 => (0 ≤ v26_1009 ∧ v26_1009 < (c24_1006 : Int)) ∧ ∃ (x1012 : Option Addr) (x1012l : Nat) (x1012c : Nat), cell h1010 (a1011.add (v26_1009.toNat * 1)) = some (.slice x1012 x1012l x1012c) ∧ (callP6 (karger_Run c0_1001 x1012 x1012l x1012c h1010) fun x1013 x1014 x1014l x1014c x1015 x1016 h1017 => newP h1017 (.cells #[(.int .i64 0), (.slice none 0 0)] 55) fun a1018 h1019 => stC h1019 a1018 (.int .i64 x1013) fun h1020 => stC h1020 (a1018.add 1) (.slice x1014 x1014l x1014c) fun h1021 => (let j1029 := (fun (y1024 : Bool) => iteB y1024 (∃ (x1025 : Int), cell h1021 a1018 = some (.int .i64 x1025) ∧ ∃ (x1026 : Option Addr) (x1026l : Nat) (x1026c : Nat), cell h1021 (a1018.add 1) = some (.slice x1026 x1026l x1026c) ∧ stC h1021 c7_1003 (.int .i64 x1025) fun h1027 => stC h1027 (c7_1003.add 1) (.slice x1026 x1026l x1026c) fun h1028 => ((cont c0_1001 c4_1002 c7_1003 v26_1009 c24_1005 c24_1006 c24_1007 c25_1008 (IntKind.i64.wrap (v26_1009 + 1)) h1028))) (((cont c0_1001 c4_1002 c7_1003 v8_1004 c24_1005 c24_1006 c24_1007 c25_1008 (IntKind.i64.wrap (v26_1009 + 1)) h1021))));
  iteB (decide (v8_1004 < (0 : Int))) ((j1029 true)) (∃ (x1022 : Int), cell h1021 a1018 = some (.int .i64 x1022) ∧ ∃ (x1023 : Int), cell h1021 c7_1003 = some (.int .i64 x1023) ∧ (j1029 (decide (x1022 < x1023)))))))) (K3 v8_1004 h1010))
def karger_Best.l0 (K3 : Int → Heap → Prop) : Nat → (Option Addr) → Addr → Addr → Int → (Option Addr) → Nat → Nat → Int → Int → Heap → Prop
  | 0, _, _, _, _, _, _, _, _, _, _ => False
  | m + 1, c0_1001, c4_1002, c7_1003, v8_1004, c24_1005, c24_1006, c24_1007, c25_1008, v26_1009, h => karger_Best.b0 K3 (karger_Best.l0 K3 m) c0_1001 c4_1002 c7_1003 v8_1004 c24_1005 c24_1006 c24_1007 c25_1008 v26_1009 h
def karger_Best (a1 : Option Addr) (a2 : Option Addr) (a2l : Nat) (a2c : Nat) (h : Heap) (K : Int → (Option Addr) → Nat → Nat → Int → Int → Heap → Prop) : Prop :=
  newP h (.cells #[(.int .i64 0), (.slice none 0 0)] 55) fun a3 h4 => (qcallP1 h4 (net_Net_N a1 h4) fun x5 => (iteB (decide (x5 < (2 : Int))) (stC h4 a3 (.int .i64 0) fun h6 => stC h6 (a3.add 1) (.slice none 0 0) fun h7 => (∃ (x8 : Int), cell h7 a3 = some (.int .i64 x8) ∧ ∃ (x9 : Option Addr) (x9l : Nat) (x9c : Nat), cell h7 (a3.add 1) = some (.slice x9 x9l x9c) ∧ K x8 x9 x9l x9c 0 9 h7)) ((iteB ((a2l : Int) == (0 : Int)) (stC h4 a3 (.int .i64 0) fun h10 => stC h10 (a3.add 1) (.slice none 0 0) fun h11 => (∃ (x12 : Int), cell h11 a3 = some (.int .i64 x12) ∧ ∃ (x13 : Option Addr) (x13l : Nat) (x13c : Nat), cell h11 (a3.add 1) = some (.slice x13 x13l x13c) ∧ K x12 x13 x13l x13c 0 7 h11)) (((newP h4 (.cells #[(.int .i64 0), (.slice none 0 0)] 55) fun a14 h15 => (((∃ m18, karger_Best.l0 (fun z16 h17 => ((∃ (x19 : Int), cell h17 a14 = some (.int .i64 x19) ∧ ∃ (x20 : Option Addr) (x20l : Nat) (x20c : Nat), cell h17 (a14.add 1) = some (.slice x20 x20l x20c) ∧ stC h17 a3 (.int .i64 x19) fun h21 => stC h21 (a3.add 1) (.slice x20 x20l x20c) fun h22 => (∃ (x23 : Int), cell h22 a3 = some (.int .i64 x23) ∧ ∃ (x24 : Option Addr) (x24l : Nat) (x24c : Nat), cell h22 (a3.add 1) = some (.slice x24 x24l x24c) ∧ K x23 x24 x24l x24c z16 0 h22)))) m18 a1 a3 a14 (-1) a2 a2l a2c (a2l : Int) 0 h15))))))))))
def karger_Best.ret (K : Int → (Option Addr) → Nat → Nat → Int → Int → Heap → Prop) (v : Value) (h : Heap) : Prop := match v with
  | (.tuple ⟨[(.agg ⟨[(.int .i64 r25), (.slice r26 r26l r26c)]⟩), (.int .i64 r27), (.int .i64 r28)]⟩) => K r25 r26 r26l r26c r27 r28 h
  | _ => False
theorem karger_Best.ret_elim {K : Int → (Option Addr) → Nat → Nat → Int → Int → Heap → Prop} {K' : Value → Heap → Prop} {v : Value} {h : Heap} (hk : ∀ r25 r26 r26l r26c r27 r28 h, K r25 r26 r26l r26c r27 r28 h → K' (.tuple #[(.agg #[(.int .i64 r25), (.slice r26 r26l r26c)]), (.int .i64 r27), (.int .i64 r28)]) h) (hh : karger_Best.ret K v h) : K' v h := by
  unfold karger_Best.ret at hh
  split at hh
  · exact hk _ _ _ _ _ _ _ hh
  · exact hh.elim
def karger_Best.call (f : FuncId) (vs : List Value) (h : Heap) (K : Value → Heap → Prop) : Prop := match f, vs with
  | 26, [(.pointer a1), (.slice a2 a2l a2c)] => callP6 (karger_Run a1 a2 a2l a2c h) fun r30 r31 r31l r31c r32 r33 h' => K (.tuple #[(.agg #[(.int .i64 r30), (.slice r31 r31l r31c)]), (.int .i64 r32), (.int .i64 r33)]) h'
  | _, _ => False
def karger_Best.qcall (f : FuncId) (vs : List Value) (h : Heap) (K : Value → Prop) : Prop := match f, vs with
  | 44, [(.pointer a1)] => qcallP1 h (net_Net_N a1 h) fun r4 => K (.int .i64 r4)
  | _, _ => False
def karger_Best.r0 (K : Nat → List Value → Heap → Prop) (m : Nat) (vs : List Value) (h : Heap) : Prop := match vs with
  | [(.pointer c0_1001), (.pointer (some c4_1002)), (.pointer (some c7_1003)), (.int .i64 v8_1004), (.slice c24_1005 c24_1006 c24_1007), (.int .i64 c25_1008), (.int .i64 v26_1009)] => karger_Best.l0 (fun z29 h' => K 3 [(.pointer (some c4_1002)), (.pointer (some c7_1003)), (.int .i64 z29)] h') m c0_1001 c4_1002 c7_1003 v8_1004 c24_1005 c24_1006 c24_1007 c25_1008 v26_1009 h
  | _ => False
def karger_Best.loop (i : Nat) (vs : List Value) (h : Heap) (K : Nat → List Value → Heap → Prop) : Prop := match i with
  | 0 => ∃ m, karger_Best.r0 K m vs h
  | _ => False
noncomputable def karger_Best.ctx : Ctx := { P := Tryz.prog, call := karger_Best.call, qcall := karger_Best.qcall, quiet := fun f => Nat.beq f 44 || Nat.beq f 1000131 || Nat.beq f 1000155, loop := karger_Best.loop }
theorem karger_Best.ok : karger_Best.ctx.OK where
  mixed := by kernel_rfl
  mono := by
    intro f args h K K' hh hk
    change karger_Best.call f args h K at hh
    change karger_Best.call f args h K'
    unfold karger_Best.call at hh ⊢
    split at hh
    · obtain ⟨R, h1, h2⟩ := hh
      exact ⟨R, h1, fun _ _ _ _ _ _ x hr => hk _ _ (h2 _ _ _ _ _ _ x hr)⟩
    · exact hh.elim
  call := by
    intro f args h K hh w hw
    change karger_Best.call f args h K at hh
    unfold karger_Best.call at hh
    split at hh
    · obtain ⟨R, h1, h2⟩ := hh
      obtain ⟨g1, g2⟩ := karger_Run.calls h1 w hw
      exact ⟨g1, g2.mono fun e w' ⟨v, he, ho, hr⟩ => ⟨v, he, ho, karger_Run.ret_elim h2 hr⟩⟩
    · exact hh.elim
  qmono := by
    intro f args h K K' hh hk
    change karger_Best.qcall f args h K at hh
    change karger_Best.qcall f args h K'
    unfold karger_Best.qcall at hh ⊢
    split at hh
    · obtain ⟨x0, h1, h2⟩ := hh
      exact ⟨x0, h1, hk _ h2⟩
    · exact hh.elim
  qval := by
    intro f args h K hh
    change karger_Best.qcall f args h K at hh
    suffices H : ∃ v, K v ∧ karger_Best.qcall f args h (· = v) from H
    unfold karger_Best.qcall at hh ⊢
    split at hh
    · obtain ⟨x0, h1, h2⟩ := hh
      exact ⟨_, h2, x0, h1, rfl⟩
    · exact hh.elim
  qcall := by
    intro f args h v hh w hw
    change karger_Best.qcall f args h (· = v) at hh
    unfold karger_Best.qcall at hh
    split at hh
    · obtain ⟨x0, h1, h2⟩ := hh
      obtain ⟨g1, g2⟩ := net_Net_N.calls h1 w hw
      refine .inl ⟨g1, g2.mono fun e w' ⟨u, he, ho, hr⟩ => ?_⟩
      have hq := net_Net_N.ret_elim (K' := fun u h' => u = v ∧ h' = h) (fun _ h' hr => by obtain ⟨rfl, rfl⟩ := hr; exact ⟨h2, rfl⟩) hr
      exact ⟨hq.1 ▸ he, ho, hq.2⟩
    · exact hh.elim
noncomputable def karger_Best.code : Code := (Tryz.f37.body).getD .skip
def karger_Best.ann : Ann := (.two .auto (.two .auto (.two .auto (.two .auto (.two (.two .auto (.two (.loop 0 [0, 4, 7, 8, 24, 25, 26] [(3, [4, 7, 8])] .auto) .auto)) .auto)))))
noncomputable def karger_Best.c0 : Code := sub karger_Best.code [1, 1, 1, 1, 0, 1, 0, 0]
def karger_Best.a0 : Ann := .auto
def karger_Best.keep0 : List Nat := [0, 4, 7, 8, 24, 25, 26]
def karger_Best.outs0 : List (Nat × List Nat) := [(3, [4, 7, 8])]
set_option maxRecDepth 100000 in
theorem karger_Best.L0 : LoopOK karger_Best.ctx 52 karger_Best.c0 0 karger_Best.keep0 karger_Best.outs0 := by
  refine loop_ok (n := karger_Best.a0) karger_Best.ok (by kernel_rfl) (loops_ok (l := []) (by kernel_rfl) ?_) karger_Best.r0 ?_ ?_ (fun vs h K hh => hh)
  · exact trivial
  · intro K vs h hh
    unfold karger_Best.r0 at hh
    split at hh
    · exact hh
    · exact hh
  · intro K m vs h hh
    unfold karger_Best.r0 at hh
    split at hh
    · exact cast (by kernel_rfl) hh
    · exact hh.elim
set_option maxRecDepth 100000 in
theorem karger_Best.eq (a1 : Option Addr) (a2 : Option Addr) (a2l : Nat) (a2c : Nat) (h : Heap) (K : Int → (Option Addr) → Nat → Nat → Int → Int → Heap → Prop) : evF karger_Best.ctx Tryz.f37 karger_Best.ann [(.pointer a1), (.slice a2 a2l a2c)] h (karger_Best.ret K) = karger_Best a1 a2 a2l a2c h K := by kernel_rfl
set_option maxRecDepth 100000 in
theorem karger_Best.calls {a1 : Option Addr} {a2 : Option Addr} {a2l : Nat} {a2c : Nat} {h : Heap} {K : Int → (Option Addr) → Nat → Nat → Int → Int → Heap → Prop} (hh : karger_Best a1 a2 a2l a2c h K) (w : World) (hw : w.heap = h) :
    (callFunc 37 #[(.pointer a1), (.slice a2 a2l a2c)]).run Tryz.prog w = .ok (.enter 37 #[(.pointer a1), (.slice a2 a2l a2c)]) w ∧ Calls Tryz.prog 37 #[(.pointer a1), (.slice a2 a2l a2c)] w fun e w' => ∃ v, e = .returned v ∧ Out w w' ∧ karger_Best.ret K v w'.heap := by
  rw [← karger_Best.eq] at hh
  exact fn_calls (args := [(.pointer a1), (.slice a2 a2l a2c)]) (c := karger_Best.code) karger_Best.ok Tryz.func37 (by kernel_rfl) (by kernel_rfl) (by kernel_rfl) (by kernel_rfl) (loops_ok (l := [(karger_Best.c0, none, 0, karger_Best.keep0, karger_Best.outs0)]) (by kernel_rfl) ⟨karger_Best.L0, trivial⟩) hh w hw
end

end Go.Proofs.YtbhndlpjfncliaaGreat
