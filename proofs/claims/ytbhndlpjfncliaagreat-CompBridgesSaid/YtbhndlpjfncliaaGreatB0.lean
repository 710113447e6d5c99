/- WRITTEN BY A PROGRAM OF THIS SESSION (gen.py): what each function asks of memory, and that the model's run comes to it. -/
import Derived.Test.YtbhndlpjfncliaaGreatProg
import Derived.Test.YtbhndlpjfncliaaGreatFw8
import Derived.Test.YtbhndlpjfncliaaGreatC1
namespace Go.Proofs.YtbhndlpjfncliaaGreat
open Go.Hp
set_option linter.unusedVariables false
set_option linter.unusedSimpArgs false
set_option linter.unusedSectionVars false

/-! ### strait/straitref20.Without: function 14 -/
def straitref20_Without.b0 (K2 : (Option Addr) → Nat → Nat → Heap → Prop) (cont : Int → Addr → Addr → (Option Addr) → Nat → Nat → Int → Heap → Prop) (c1_1001 : Int) (c2_1002 : Addr) (c4_1003 : Addr) (v5_1004 : Option Addr) (v5_1004l : Nat) (v5_1004c : Nat) (v6_1005 : Int) (h1006 : Heap) : Prop :=
  ∃ (x1007 : Option Addr) (x1007l : Nat) (x1007c : Nat), cell h1006 (c2_1002.add 1) = some (.slice x1007 x1007l x1007c) ∧ (iteB (decide (v6_1005 < (x1007l : Int))) (((iteB (v6_1005 != c1_1001) (∃ (x1008 : Option Addr) (x1008l : Nat) (x1008c : Nat), cell h1006 (c2_1002.add 1) = some (.slice x1008 x1008l x1008c) ∧ chkP x1008 fun a1009 => (0 ≤ v6_1005 ∧ v6_1005 < (x1008l : Int)) ∧ ∃ (x1010 : Int), cell h1006 (a1009.add (v6_1005.toNat * 3)) = some (.int .i64 x1010) ∧ ∃ (x1011 : Int), cell h1006 ((a1009.add (v6_1005.toNat * 3)).add 1) = some (.int .i64 x1011) ∧ ∃ (x1012 : Int), cell h1006 ((a1009.add (v6_1005.toNat * 3)).add 2) = some (.int .i64 x1012) ∧ newP h1006 (.cells #[(.int .i64 x1010), (.int .i64 x1011), (.int .i64 x1012)] 82) fun a1013 h1014 => ∃ n1019, cellsAt h1014 (some a1013) (1 * 3) n1019 ∧ appP 82 3 24 [(.int .i64 0), (.int .i64 0), (.int .i64 0)] v5_1004 v5_1004l v5_1004c 1 n1019 h1014 fun q1015 l1016 c1017 h1018 => ((cont c1_1001 c2_1002 c4_1003 q1015 l1016 c1017 (IntKind.i64.wrap (v6_1005 + 1)) h1018))) (((cont c1_1001 c2_1002 c4_1003 v5_1004 v5_1004l v5_1004c (IntKind.i64.wrap (v6_1005 + 1)) h1006)))))) (K2 v5_1004 v5_1004l v5_1004c h1006))
def straitref20_Without.l0 (K2 : (Option Addr) → Nat → Nat → Heap → Prop) : Nat → Int → Addr → Addr → (Option Addr) → Nat → Nat → Int → Heap → Prop
  | 0, _, _, _, _, _, _, _, _ => False
  | m + 1, c1_1001, c2_1002, c4_1003, v5_1004, v5_1004l, v5_1004c, v6_1005, h => straitref20_Without.b0 K2 (straitref20_Without.l0 K2 m) c1_1001 c2_1002 c4_1003 v5_1004 v5_1004l v5_1004c v6_1005 h
def straitref20_Without (a1 : Int) (a2 : Option Addr) (a2l : Nat) (a2c : Nat) (a3 : Int) (h : Heap) (K : Int → (Option Addr) → Nat → Nat → Heap → Prop) : Prop :=
  newP h (.cells #[(.int .i64 a1), (.slice a2 a2l a2c)] 29) fun a4 h5 => newP h5 (.cells #[(.int .i64 0), (.slice none 0 0)] 29) fun a6 h7 => (((∃ m10, straitref20_Without.l0 (fun z8 z8l z8c h9 => ((∃ (x11 : Int), cell h9 a4 = some (.int .i64 x11) ∧ stC h9 a6 (.int .i64 x11) fun h12 => stC h12 (a6.add 1) (.slice z8 z8l z8c) fun h13 => (∃ (x14 : Int), cell h13 a6 = some (.int .i64 x14) ∧ ∃ (x15 : Option Addr) (x15l : Nat) (x15c : Nat), cell h13 (a6.add 1) = some (.slice x15 x15l x15c) ∧ K x14 x15 x15l x15c h13)))) m10 a3 a4 a6 none 0 0 0 h7)))
def straitref20_Without.ret (K : Int → (Option Addr) → Nat → Nat → Heap → Prop) (v : Value) (h : Heap) : Prop := match v with
  | (.agg ⟨[(.int .i64 r16), (.slice r17 r17l r17c)]⟩) => K r16 r17 r17l r17c h
  | _ => False
theorem straitref20_Without.ret_elim {K : Int → (Option Addr) → Nat → Nat → Heap → Prop} {K' : Value → Heap → Prop} {v : Value} {h : Heap} (hk : ∀ r16 r17 r17l r17c h, K r16 r17 r17l r17c h → K' (.agg #[(.int .i64 r16), (.slice r17 r17l r17c)]) h) (hh : straitref20_Without.ret K v h) : K' v h := by
  unfold straitref20_Without.ret at hh
  split at hh
  · exact hk _ _ _ _ _ hh
  · exact hh.elim
def straitref20_Without.r0 (K : Nat → List Value → Heap → Prop) (m : Nat) (vs : List Value) (h : Heap) : Prop := match vs with
  | [(.int .i64 c1_1001), (.pointer (some c2_1002)), (.pointer (some c4_1003)), (.slice v5_1004 v5_1004l v5_1004c), (.int .i64 v6_1005)] => straitref20_Without.l0 (fun z18 z18l z18c h' => K 2 [(.pointer (some c2_1002)), (.pointer (some c4_1003)), (.slice z18 z18l z18c)] h') m c1_1001 c2_1002 c4_1003 v5_1004 v5_1004l v5_1004c v6_1005 h
  | _ => False
def straitref20_Without.loop (i : Nat) (vs : List Value) (h : Heap) (K : Nat → List Value → Heap → Prop) : Prop := match i with
  | 0 => ∃ m, straitref20_Without.r0 K m vs h
  | _ => False
noncomputable def straitref20_Without.ctx : Ctx := { P := Tryz.prog, call := fun _ _ _ _ => False, qcall := fun _ _ _ _ => False, quiet := fun f => Nat.beq f 1000131 || Nat.beq f 1000155, loop := straitref20_Without.loop }
theorem straitref20_Without.ok [DKc] : straitref20_Without.ctx.OK where
  mixed := by kernel_rfl
  mono := fun hh _ => hh.elim
  call := fun hh => hh.elim
  qmono := fun hh _ => hh.elim
  qval := fun hh => hh.elim
  qcall := fun hh => hh.elim
noncomputable def straitref20_Without.code : Code := (Tryz.f14.body).getD .skip
def straitref20_Without.ann : Ann := (.two .auto (.two .auto (.two (.two .auto (.two (.loop 0 [1, 2, 4, 5, 6] [(2, [2, 4, 5])] .auto) .auto)) .auto)))
noncomputable def straitref20_Without.c0 : Code := sub straitref20_Without.code [1, 1, 0, 1, 0, 0]
def straitref20_Without.a0 : Ann := .auto
def straitref20_Without.keep0 : List Nat := [1, 2, 4, 5, 6]
def straitref20_Without.outs0 : List (Nat × List Nat) := [(2, [2, 4, 5])]
set_option maxRecDepth 100000 in
theorem straitref20_Without.L0 [DKc] : LoopOK straitref20_Without.ctx 29 straitref20_Without.c0 0 straitref20_Without.keep0 straitref20_Without.outs0 := by
  refine loop_ok (n := straitref20_Without.a0) straitref20_Without.ok (by kernel_rfl) (loops_ok (l := []) (by kernel_rfl) ?_) straitref20_Without.r0 ?_ ?_ (fun vs h K hh => hh)
  · exact trivial
  · intro K vs h hh
    unfold straitref20_Without.r0 at hh
    split at hh
    · exact hh
    · exact hh
  · intro K m vs h hh
    unfold straitref20_Without.r0 at hh
    split at hh
    · exact cast (by kernel_rfl) hh
    · exact hh.elim
set_option maxRecDepth 100000 in
theorem straitref20_Without.eq (a1 : Int) (a2 : Option Addr) (a2l : Nat) (a2c : Nat) (a3 : Int) (h : Heap) (K : Int → (Option Addr) → Nat → Nat → Heap → Prop) : evF straitref20_Without.ctx Tryz.f14 straitref20_Without.ann [(.agg #[(.int .i64 a1), (.slice a2 a2l a2c)]), (.int .i64 a3)] h (straitref20_Without.ret K) = straitref20_Without a1 a2 a2l a2c a3 h K := by kernel_rfl
set_option maxRecDepth 100000 in
theorem straitref20_Without.calls [DKc] {a1 : Int} {a2 : Option Addr} {a2l : Nat} {a2c : Nat} {a3 : Int} {h : Heap} {K : Int → (Option Addr) → Nat → Nat → Heap → Prop} (hh : straitref20_Without a1 a2 a2l a2c a3 h K) (w : World) (hw : w.heap = h) :
    (callFunc 14 #[(.agg #[(.int .i64 a1), (.slice a2 a2l a2c)]), (.int .i64 a3)]).run Tryz.prog w = .ok (.enter 14 #[(.agg #[(.int .i64 a1), (.slice a2 a2l a2c)]), (.int .i64 a3)]) w ∧ Calls Tryz.prog 14 #[(.agg #[(.int .i64 a1), (.slice a2 a2l a2c)]), (.int .i64 a3)] w fun e w' => ∃ v, e = .returned v ∧ Out w w' ∧ straitref20_Without.ret K v w'.heap := by
  rw [← straitref20_Without.eq] at hh
  exact fn_calls (args := [(.agg #[(.int .i64 a1), (.slice a2 a2l a2c)]), (.int .i64 a3)]) (c := straitref20_Without.code) straitref20_Without.ok Tryz.func14 (by kernel_rfl) (by kernel_rfl) (by kernel_rfl) (by kernel_rfl) (loops_ok (l := [(straitref20_Without.c0, none, 0, straitref20_Without.keep0, straitref20_Without.outs0)]) (by kernel_rfl) ⟨straitref20_Without.L0, trivial⟩) hh w hw

/-! ### strait/straitref20.Bridges: function 12 -/
def straitref20_Bridges.b0 (K2 : (Option Addr) → Nat → Nat → Heap → Prop) (cont : Addr → (Option Addr) → Nat → Nat → Int → Heap → Prop) (c1_1001 : Addr) (v3_1002 : Option Addr) (v3_1002l : Nat) (v3_1002c : Nat) (v4_1003 : Int) (h1004 : Heap) : Prop :=
  ∃ (x1005 : Option Addr) (x1005l : Nat) (x1005c : Nat), cell h1004 (c1_1001.add 1) = some (.slice x1005 x1005l x1005c) ∧ (iteB (decide (v4_1003 < (x1005l : Int))) ((∃ (x1006 : Int), cell h1004 c1_1001 = some (.int .i64 x1006) ∧ ∃ (x1007 : Option Addr) (x1007l : Nat) (x1007c : Nat), cell h1004 (c1_1001.add 1) = some (.slice x1007 x1007l x1007c) ∧ ∃ (x1008 : Int), cell h1004 c1_1001 = some (.int .i64 x1008) ∧ ∃ (x1009 : Option Addr) (x1009l : Nat) (x1009c : Nat), cell h1004 (c1_1001.add 1) = some (.slice x1009 x1009l x1009c) ∧ callP4 (straitref20_Without x1006 x1007 x1007l x1007c v4_1003 h1004) fun x1010 x1011 x1011l x1011c h1012 => (∃ (x1013 : Int), cell h1012 c1_1001 = some (.int .i64 x1013) ∧ ∃ (x1014 : Option Addr) (x1014l : Nat) (x1014c : Nat), cell h1012 (c1_1001.add 1) = some (.slice x1014 x1014l x1014c) ∧ ((.agg #[(.int .i64 x1013), (.slice x1014 x1014l x1014c)]) : Value) = (.agg #[(.int .i64 x1008), (.slice x1009 x1009l x1009c)])) ∧ callP3 (straitref20_Of x1010 x1011 x1011l x1011c h1012) fun x1015 x1015l x1015c h1016 => (∃ (x1017 : Int), cell h1016 c1_1001 = some (.int .i64 x1017) ∧ ∃ (x1018 : Option Addr) (x1018l : Nat) (x1018c : Nat), cell h1016 (c1_1001.add 1) = some (.slice x1018 x1018l x1018c) ∧ ((.agg #[(.int .i64 x1017), (.slice x1018 x1018l x1018c)]) : Value) = (.agg #[(.int .i64 x1008), (.slice x1009 x1009l x1009c)])) ∧ callP3 (straitref20_Of x1008 x1009 x1009l x1009c h1016) fun x1019 x1019l x1019c h1020 => (iteB (decide ((x1015l : Int) > (x1019l : Int))) (newP h1020 (.cells #[(.int .i64 v4_1003)] 3) fun a1021 h1022 => ∃ n1027, cellsAt h1022 (some a1021) (1 * 1) n1027 ∧ appP 3 1 8 [(.int .i64 0)] v3_1002 v3_1002l v3_1002c 1 n1027 h1022 fun q1023 l1024 c1025 h1026 => ((cont c1_1001 q1023 l1024 c1025 (IntKind.i64.wrap (v4_1003 + 1)) h1026))) (((cont c1_1001 v3_1002 v3_1002l v3_1002c (IntKind.i64.wrap (v4_1003 + 1)) h1020)))))) (K2 v3_1002 v3_1002l v3_1002c h1004))
def straitref20_Bridges.l0 (K2 : (Option Addr) → Nat → Nat → Heap → Prop) : Nat → Addr → (Option Addr) → Nat → Nat → Int → Heap → Prop
  | 0, _, _, _, _, _, _ => False
  | m + 1, c1_1001, v3_1002, v3_1002l, v3_1002c, v4_1003, h => straitref20_Bridges.b0 K2 (straitref20_Bridges.l0 K2 m) c1_1001 v3_1002 v3_1002l v3_1002c v4_1003 h
def straitref20_Bridges (a1 : Int) (a2 : Option Addr) (a2l : Nat) (a2c : Nat) (h : Heap) (K : (Option Addr) → Nat → Nat → Heap → Prop) : Prop :=
  newP h (.cells #[(.int .i64 a1), (.slice a2 a2l a2c)] 29) fun a3 h4 => (((∃ m7, straitref20_Bridges.l0 (fun z5 z5l z5c h6 => (K z5 z5l z5c h6)) m7 a3 none 0 0 0 h4)))
def straitref20_Bridges.ret (K : (Option Addr) → Nat → Nat → Heap → Prop) (v : Value) (h : Heap) : Prop := match v with
  | (.slice r8 r8l r8c) => K r8 r8l r8c h
  | _ => False
theorem straitref20_Bridges.ret_elim {K : (Option Addr) → Nat → Nat → Heap → Prop} {K' : Value → Heap → Prop} {v : Value} {h : Heap} (hk : ∀ r8 r8l r8c h, K r8 r8l r8c h → K' (.slice r8 r8l r8c) h) (hh : straitref20_Bridges.ret K v h) : K' v h := by
  unfold straitref20_Bridges.ret at hh
  split at hh
  · exact hk _ _ _ _ hh
  · exact hh.elim
def straitref20_Bridges.call (f : FuncId) (vs : List Value) (h : Heap) (K : Value → Heap → Prop) : Prop := match f, vs with
  | 14, [(.agg ⟨[(.int .i64 a1), (.slice a2 a2l a2c)]⟩), (.int .i64 a3)] => callP4 (straitref20_Without a1 a2 a2l a2c a3 h) fun r16 r17 r17l r17c h' => K (.agg #[(.int .i64 r16), (.slice r17 r17l r17c)]) h'
  | 21, [(.agg ⟨[(.int .i64 a1), (.slice a2 a2l a2c)]⟩)] => callP3 (straitref20_Of a1 a2 a2l a2c h) fun r9 r9l r9c h' => K (.slice r9 r9l r9c) h'
  | _, _ => False
def straitref20_Bridges.r0 (K : Nat → List Value → Heap → Prop) (m : Nat) (vs : List Value) (h : Heap) : Prop := match vs with
  | [(.pointer (some c1_1001)), (.slice v3_1002 v3_1002l v3_1002c), (.int .i64 v4_1003)] => straitref20_Bridges.l0 (fun z9 z9l z9c h' => K 2 [(.slice z9 z9l z9c)] h') m c1_1001 v3_1002 v3_1002l v3_1002c v4_1003 h
  | _ => False
def straitref20_Bridges.loop (i : Nat) (vs : List Value) (h : Heap) (K : Nat → List Value → Heap → Prop) : Prop := match i with
  | 0 => ∃ m, straitref20_Bridges.r0 K m vs h
  | _ => False
noncomputable def straitref20_Bridges.ctx : Ctx := { P := Tryz.prog, call := straitref20_Bridges.call, qcall := fun _ _ _ _ => False, quiet := fun f => Nat.beq f 1000131 || Nat.beq f 1000155, loop := straitref20_Bridges.loop }
theorem straitref20_Bridges.ok [DKc] : straitref20_Bridges.ctx.OK where
  mixed := by kernel_rfl
  mono := by
    intro f args h K K' hh hk
    change straitref20_Bridges.call f args h K at hh
    change straitref20_Bridges.call f args h K'
    unfold straitref20_Bridges.call at hh ⊢
    split at hh
    · obtain ⟨R, h1, h2⟩ := hh
      exact ⟨R, h1, fun _ _ _ _ x hr => hk _ _ (h2 _ _ _ _ x hr)⟩
    · obtain ⟨R, h1, h2⟩ := hh
      exact ⟨R, h1, fun _ _ _ x hr => hk _ _ (h2 _ _ _ x hr)⟩
    · exact hh.elim
  call := by
    intro f args h K hh w hw
    change straitref20_Bridges.call f args h K at hh
    unfold straitref20_Bridges.call at hh
    split at hh
    · obtain ⟨R, h1, h2⟩ := hh
      obtain ⟨g1, g2⟩ := straitref20_Without.calls h1 w hw
      exact ⟨g1, g2.mono fun e w' ⟨v, he, ho, hr⟩ => ⟨v, he, ho, straitref20_Without.ret_elim h2 hr⟩⟩
    · obtain ⟨R, h1, h2⟩ := hh
      obtain ⟨g1, g2⟩ := straitref20_Of.calls h1 w hw
      exact ⟨g1, g2.mono fun e w' ⟨v, he, ho, hr⟩ => ⟨v, he, ho, straitref20_Of.ret_elim h2 hr⟩⟩
    · exact hh.elim
  qmono := fun hh _ => hh.elim
  qval := fun hh => hh.elim
  qcall := fun hh => hh.elim
noncomputable def straitref20_Bridges.code : Code := (Tryz.f12.body).getD .skip
def straitref20_Bridges.ann : Ann := (.two .auto (.two .auto (.two (.two .auto (.two (.loop 0 [1, 3, 4] [(2, [3])] (.two .auto (.two (.two (.two (.reg [0, 0, 3, 7, 15, 0, 47, 111, 255] (.take 0 (.take 1 (.early 5 (.alt 2 (.alt 3 (.take 4 (.alt 6 (.take 7 (.take 8 .done)) .noalt)) .noalt) .noalt))))) .auto) .auto) .auto))) .auto)) .auto)))
noncomputable def straitref20_Bridges.c0 : Code := sub straitref20_Bridges.code [1, 1, 0, 1, 0, 0]
def straitref20_Bridges.a0 : Ann := (.two .auto (.two (.two (.two (.reg [0, 0, 3, 7, 15, 0, 47, 111, 255] (.take 0 (.take 1 (.early 5 (.alt 2 (.alt 3 (.take 4 (.alt 6 (.take 7 (.take 8 .done)) .noalt)) .noalt) .noalt))))) .auto) .auto) .auto))
def straitref20_Bridges.keep0 : List Nat := [1, 3, 4]
def straitref20_Bridges.outs0 : List (Nat × List Nat) := [(2, [3])]
set_option maxRecDepth 100000 in
theorem straitref20_Bridges.L0 [DKc] : LoopOK straitref20_Bridges.ctx 26 straitref20_Bridges.c0 0 straitref20_Bridges.keep0 straitref20_Bridges.outs0 := by
  refine loop_ok (n := straitref20_Bridges.a0) straitref20_Bridges.ok (by kernel_rfl) (loops_ok (l := []) (by kernel_rfl) ?_) straitref20_Bridges.r0 ?_ ?_ (fun vs h K hh => hh)
  · exact trivial
  · intro K vs h hh
    unfold straitref20_Bridges.r0 at hh
    split at hh
    · exact hh
    · exact hh
  · intro K m vs h hh
    unfold straitref20_Bridges.r0 at hh
    split at hh
    · exact cast (by kernel_rfl) hh
    · exact hh.elim
set_option maxRecDepth 100000 in
theorem straitref20_Bridges.eq (a1 : Int) (a2 : Option Addr) (a2l : Nat) (a2c : Nat) (h : Heap) (K : (Option Addr) → Nat → Nat → Heap → Prop) : evF straitref20_Bridges.ctx Tryz.f12 straitref20_Bridges.ann [(.agg #[(.int .i64 a1), (.slice a2 a2l a2c)])] h (straitref20_Bridges.ret K) = straitref20_Bridges a1 a2 a2l a2c h K := by kernel_rfl
set_option maxRecDepth 100000 in
theorem straitref20_Bridges.calls [DKc] {a1 : Int} {a2 : Option Addr} {a2l : Nat} {a2c : Nat} {h : Heap} {K : (Option Addr) → Nat → Nat → Heap → Prop} (hh : straitref20_Bridges a1 a2 a2l a2c h K) (w : World) (hw : w.heap = h) :
    (callFunc 12 #[(.agg #[(.int .i64 a1), (.slice a2 a2l a2c)])]).run Tryz.prog w = .ok (.enter 12 #[(.agg #[(.int .i64 a1), (.slice a2 a2l a2c)])]) w ∧ Calls Tryz.prog 12 #[(.agg #[(.int .i64 a1), (.slice a2 a2l a2c)])] w fun e w' => ∃ v, e = .returned v ∧ Out w w' ∧ straitref20_Bridges.ret K v w'.heap := by
  rw [← straitref20_Bridges.eq] at hh
  exact fn_calls (args := [(.agg #[(.int .i64 a1), (.slice a2 a2l a2c)])]) (c := straitref20_Bridges.code) straitref20_Bridges.ok Tryz.func12 (by kernel_rfl) (by kernel_rfl) (by kernel_rfl) (by kernel_rfl) (loops_ok (l := [(straitref20_Bridges.c0, none, 0, straitref20_Bridges.keep0, straitref20_Bridges.outs0)]) (by kernel_rfl) ⟨straitref20_Bridges.L0, trivial⟩) hh w hw

/-! ### strait/straitref15.Split: function 13 -/
def straitref15_Split.b2 (K6 : (Option Addr) → Nat → Nat → Int → Heap → Prop) (cont : (Option Addr) → Nat → Nat → Addr → (Option Addr) → Nat → Nat → Int → Int → Heap → Prop) (c0_3001 : Option Addr) (c0_3002 : Nat) (c0_3003 : Nat) (c2_3004 : Addr) (v5_3005 : Option Addr) (v5_3005l : Nat) (v5_3005c : Nat) (c6_3006 : Int) (v7_3007 : Int) (h3008 : Heap) : Prop :=
  (iteB (decide (v7_3007 > (2147483648 : Int))) ((chkP c0_3001 fun a3009 => (0 ≤ c6_3006 ∧ c6_3006 < (c0_3002 : Int)) ∧ ∃ (x3010 : Int), cell h3008 (a3009.add (c6_3006.toNat * 3)) = some (.int .i64 x3010) ∧ chkP c0_3001 fun a3011 => (0 ≤ c6_3006 ∧ c6_3006 < (c0_3002 : Int)) ∧ ∃ (x3012 : Int), cell h3008 ((a3011.add (c6_3006.toNat * 3)).add 1) = some (.int .i64 x3012) ∧ newP h3008 (.cells #[(.int .i64 x3010), (.int .i64 x3012), (.int .i64 2147483648)] 82) fun a3013 h3014 => ∃ n3019, cellsAt h3014 (some a3013) (1 * 3) n3019 ∧ appP 82 3 24 [(.int .i64 0), (.int .i64 0), (.int .i64 0)] v5_3005 v5_3005l v5_3005c 1 n3019 h3014 fun q3015 l3016 c3017 h3018 => ((cont c0_3001 c0_3002 c0_3003 c2_3004 q3015 l3016 c3017 c6_3006 (IntKind.i64.wrap (v7_3007 - 2147483648)) h3018)))) (K6 v5_3005 v5_3005l v5_3005c v7_3007 h3008))
def straitref15_Split.l2 (K6 : (Option Addr) → Nat → Nat → Int → Heap → Prop) : Nat → (Option Addr) → Nat → Nat → Addr → (Option Addr) → Nat → Nat → Int → Int → Heap → Prop
  | 0, _, _, _, _, _, _, _, _, _, _ => False
  | m + 1, c0_3001, c0_3002, c0_3003, c2_3004, v5_3005, v5_3005l, v5_3005c, c6_3006, v7_3007, h => straitref15_Split.b2 K6 (straitref15_Split.l2 K6 m) c0_3001 c0_3002 c0_3003 c2_3004 v5_3005 v5_3005l v5_3005c c6_3006 v7_3007 h
def straitref15_Split.b1 (K4 : (Option Addr) → Nat → Nat → Heap → Prop) (cont : (Option Addr) → Nat → Nat → Addr → (Option Addr) → Nat → Nat → Int → Heap → Prop) (c0_2001 : Option Addr) (c0_2002 : Nat) (c0_2003 : Nat) (c2_2004 : Addr) (v5_2005 : Option Addr) (v5_2005l : Nat) (v5_2005c : Nat) (v6_2006 : Int) (h2007 : Heap) : Prop :=
  (iteB (decide (v6_2006 < (c0_2002 : Int))) ((chkP c0_2001 fun a2008 => (0 ≤ v6_2006 ∧ v6_2006 < (c0_2002 : Int)) ∧ ∃ (x2009 : Int), cell h2007 ((a2008.add (v6_2006.toNat * 3)).add 2) = some (.int .i64 x2009) ∧ (∃ m2013, straitref15_Split.l2 (fun z2010 z2010l z2010c z2011 h2012 => ((chkP c0_2001 fun a2014 => (0 ≤ v6_2006 ∧ v6_2006 < (c0_2002 : Int)) ∧ ∃ (x2015 : Int), cell h2012 (a2014.add (v6_2006.toNat * 3)) = some (.int .i64 x2015) ∧ chkP c0_2001 fun a2016 => (0 ≤ v6_2006 ∧ v6_2006 < (c0_2002 : Int)) ∧ ∃ (x2017 : Int), cell h2012 ((a2016.add (v6_2006.toNat * 3)).add 1) = some (.int .i64 x2017) ∧ newP h2012 (.cells #[(.int .i64 x2015), (.int .i64 x2017), (.int .i64 z2011)] 82) fun a2018 h2019 => ∃ n2024, cellsAt h2019 (some a2018) (1 * 3) n2024 ∧ appP 82 3 24 [(.int .i64 0), (.int .i64 0), (.int .i64 0)] z2010 z2010l z2010c 1 n2024 h2019 fun q2020 l2021 c2022 h2023 => ((cont c0_2001 c0_2002 c0_2003 c2_2004 q2020 l2021 c2022 (IntKind.i64.wrap (v6_2006 + 1)) h2023))))) m2013 c0_2001 c0_2002 c0_2003 c2_2004 v5_2005 v5_2005l v5_2005c v6_2006 x2009 h2007))) (K4 v5_2005 v5_2005l v5_2005c h2007))
def straitref15_Split.l1 (K4 : (Option Addr) → Nat → Nat → Heap → Prop) : Nat → (Option Addr) → Nat → Nat → Addr → (Option Addr) → Nat → Nat → Int → Heap → Prop
  | 0, _, _, _, _, _, _, _, _, _ => False
  | m + 1, c0_2001, c0_2002, c0_2003, c2_2004, v5_2005, v5_2005l, v5_2005c, v6_2006, h => straitref15_Split.b1 K4 (straitref15_Split.l1 K4 m) c0_2001 c0_2002 c0_2003 c2_2004 v5_2005 v5_2005l v5_2005c v6_2006 h
def straitref15_Split.b0 (K0 : Heap → Prop) (K2 : Heap → Prop) (cont : (Option Addr) → Nat → Nat → Addr → Int → Int → Heap → Prop) (c0_1001 : Option Addr) (c0_1002 : Nat) (c0_1003 : Nat) (c2_1004 : Addr) (v3_1005 : Int) (v4_1006 : Int) (h1007 : Heap) : Prop :=
  (iteB (decide (v4_1006 < (c0_1002 : Int))) ((let j1031 : Prop := (chkP c0_1001 fun a1019 => (0 ≤ v4_1006 ∧ v4_1006 < (c0_1002 : Int)) ∧ ∃ (x1020 : Int), cell h1007 ((a1019.add (v4_1006.toNat * 3)).add 2) = some (.int .i64 x1020) ∧ 0 ≤ (31 : Int) ∧ bindV (IntKind.i64.wrap (v3_1005 + (x1020.fdiv (2 ^ 31)))) fun n1021 => (let j1030 := (fun (y1027 : Int) => (iteB (decide (y1027 > (1048576 : Int))) (stC h1007 c2_1004 (.slice none 0 0) fun h1028 => stC h1028 (c2_1004.add 1) (.bool false) fun h1029 => K0 h1029) (((cont c0_1001 c0_1002 c0_1003 c2_1004 y1027 (IntKind.i64.wrap (v4_1006 + 1)) h1007)))));
  chkP c0_1001 fun a1022 => (0 ≤ v4_1006 ∧ v4_1006 < (c0_1002 : Int)) ∧ ∃ (x1023 : Int), cell h1007 ((a1022.add (v4_1006.toNat * 3)).add 2) = some (.int .i64 x1023) ∧ iteB (x1023 == (0 : Int)) (((j1030 (IntKind.i64.wrap (n1021 + 1))))) (chkP c0_1001 fun a1024 => (0 ≤ v4_1006 ∧ v4_1006 < (c0_1002 : Int)) ∧ ∃ (x1025 : Int), cell h1007 ((a1024.add (v4_1006.toNat * 3)).add 2) = some (.int .i64 x1025) ∧ (2147483648 : Int) ≠ 0 ∧ (iteB ((x1025.tmod 2147483648) != (0 : Int)) ((j1030 (IntKind.i64.wrap (n1021 + 1)))) ((j1030 n1021))))));
  chkP c0_1001 fun a1008 => (0 ≤ v4_1006 ∧ v4_1006 < (c0_1002 : Int)) ∧ ∃ (x1009 : Int), cell h1007 ((a1008.add (v4_1006.toNat * 3)).add 2) = some (.int .i64 x1009) ∧ iteB (decide (x1009 < (0 : Int))) ((stC h1007 c2_1004 (.slice none 0 0) fun h1015 => stC h1015 (c2_1004.add 1) (.bool false) fun h1016 => K0 h1016)) (chkP c0_1001 fun a1010 => (0 ≤ v4_1006 ∧ v4_1006 < (c0_1002 : Int)) ∧ ∃ (x1011 : Int), cell h1007 ((a1010.add (v4_1006.toNat * 3)).add 2) = some (.int .i64 x1011) ∧ 0 ≤ (31 : Int) ∧ (iteB (decide ((x1011.fdiv (2 ^ 31)) > (1048576 : Int))) (stC h1007 c2_1004 (.slice none 0 0) fun h1017 => stC h1017 (c2_1004.add 1) (.bool false) fun h1018 => K0 h1018) ((j1031)))))) (K2 h1007))
def straitref15_Split.l0 (K0 : Heap → Prop) (K2 : Heap → Prop) : Nat → (Option Addr) → Nat → Nat → Addr → Int → Int → Heap → Prop
  | 0, _, _, _, _, _, _, _ => False
  | m + 1, c0_1001, c0_1002, c0_1003, c2_1004, v3_1005, v4_1006, h => straitref15_Split.b0 K0 K2 (straitref15_Split.l0 K0 K2 m) c0_1001 c0_1002 c0_1003 c2_1004 v3_1005 v4_1006 h
def straitref15_Split (a1 : Option Addr) (a1l : Nat) (a1c : Nat) (h : Heap) (K : (Option Addr) → Nat → Nat → Bool → Heap → Prop) : Prop :=
  newP h (.cells #[(.slice none 0 0), (.bool false)] 38) fun a2 h3 => (((∃ m8, straitref15_Split.l0 (fun h4 => ∃ (x5 : Option Addr) (x5l : Nat) (x5c : Nat), cell h4 a2 = some (.slice x5 x5l x5c) ∧ ∃ (x6 : Bool), cell h4 (a2.add 1) = some (.bool x6) ∧ K x5 x5l x5c x6 h4) (fun h7 => ((((∃ m11, straitref15_Split.l1 (fun z9 z9l z9c h10 => ((stC h10 a2 (.slice z9 z9l z9c) fun h12 => stC h12 (a2.add 1) (.bool true) fun h13 => (∃ (x14 : Option Addr) (x14l : Nat) (x14c : Nat), cell h13 a2 = some (.slice x14 x14l x14c) ∧ ∃ (x15 : Bool), cell h13 (a2.add 1) = some (.bool x15) ∧ K x14 x14l x14c x15 h13)))) m11 a1 a1l a1c a2 none 0 0 0 h7))))) m8 a1 a1l a1c a2 0 0 h3)))
def straitref15_Split.ret (K : (Option Addr) → Nat → Nat → Bool → Heap → Prop) (v : Value) (h : Heap) : Prop := match v with
  | (.agg ⟨[(.slice r16 r16l r16c), (.bool r17)]⟩) => K r16 r16l r16c r17 h
  | _ => False
theorem straitref15_Split.ret_elim {K : (Option Addr) → Nat → Nat → Bool → Heap → Prop} {K' : Value → Heap → Prop} {v : Value} {h : Heap} (hk : ∀ r16 r16l r16c r17 h, K r16 r16l r16c r17 h → K' (.agg #[(.slice r16 r16l r16c), (.bool r17)]) h) (hh : straitref15_Split.ret K v h) : K' v h := by
  unfold straitref15_Split.ret at hh
  split at hh
  · exact hk _ _ _ _ _ hh
  · exact hh.elim
def straitref15_Split.r0 (K : Nat → List Value → Heap → Prop) (m : Nat) (vs : List Value) (h : Heap) : Prop := match vs with
  | [(.slice c0_1001 c0_1002 c0_1003), (.pointer (some c2_1004)), (.int .i64 v3_1005), (.int .i64 v4_1006)] => straitref15_Split.l0 (fun h' => K 0 [(.pointer (some c2_1004))] h') (fun h' => K 2 [(.slice c0_1001 c0_1002 c0_1003), (.pointer (some c2_1004))] h') m c0_1001 c0_1002 c0_1003 c2_1004 v3_1005 v4_1006 h
  | _ => False
def straitref15_Split.r1 (K : Nat → List Value → Heap → Prop) (m : Nat) (vs : List Value) (h : Heap) : Prop := match vs with
  | [(.slice c0_2001 c0_2002 c0_2003), (.pointer (some c2_2004)), (.slice v5_2005 v5_2005l v5_2005c), (.int .i64 v6_2006)] => straitref15_Split.l1 (fun z18 z18l z18c h' => K 4 [(.pointer (some c2_2004)), (.slice z18 z18l z18c)] h') m c0_2001 c0_2002 c0_2003 c2_2004 v5_2005 v5_2005l v5_2005c v6_2006 h
  | _ => False
def straitref15_Split.r2 (K : Nat → List Value → Heap → Prop) (m : Nat) (vs : List Value) (h : Heap) : Prop := match vs with
  | [(.slice c0_3001 c0_3002 c0_3003), (.pointer (some c2_3004)), (.slice v5_3005 v5_3005l v5_3005c), (.int .i64 c6_3006), (.int .i64 v7_3007)] => straitref15_Split.l2 (fun z19 z19l z19c z20 h' => K 6 [(.slice c0_3001 c0_3002 c0_3003), (.pointer (some c2_3004)), (.slice z19 z19l z19c), (.int .i64 c6_3006), (.int .i64 z20)] h') m c0_3001 c0_3002 c0_3003 c2_3004 v5_3005 v5_3005l v5_3005c c6_3006 v7_3007 h
  | _ => False
def straitref15_Split.loop (i : Nat) (vs : List Value) (h : Heap) (K : Nat → List Value → Heap → Prop) : Prop := match i with
  | 0 => ∃ m, straitref15_Split.r0 K m vs h
  | 1 => ∃ m, straitref15_Split.r1 K m vs h
  | 2 => ∃ m, straitref15_Split.r2 K m vs h
  | _ => False
noncomputable def straitref15_Split.ctx : Ctx := { P := Tryz.prog, call := fun _ _ _ _ => False, qcall := fun _ _ _ _ => False, quiet := fun f => Nat.beq f 1000131 || Nat.beq f 1000155, loop := straitref15_Split.loop }
theorem straitref15_Split.ok [DKc] : straitref15_Split.ctx.OK where
  mixed := by kernel_rfl
  mono := fun hh _ => hh.elim
  call := fun hh => hh.elim
  qmono := fun hh _ => hh.elim
  qval := fun hh => hh.elim
  qcall := fun hh => hh.elim
noncomputable def straitref15_Split.code : Code := (Tryz.f13.body).getD .skip
def straitref15_Split.ann : Ann := (.two .auto (.two .auto (.two (.two .auto (.two (.loop 0 [0, 2, 3, 4] [(2, [0, 2]), (0, [2])] .auto) .auto)) (.two .auto (.two (.two .auto (.two (.loop 1 [0, 2, 5, 6] [(4, [2, 5])] (.two .auto (.two (.two (.two .auto (.two (.two (.loop 2 [0, 2, 5, 6, 7] [(6, [0, 2, 5, 6, 7])] (.two .auto (.two (.two (.reg [0, 0, 0, 6, 14, 30, 0, 0, 192, 448, 960, 2046, 4094, 8191, 16383] (.take 0 (.take 1 (.take 2 (.take 3 (.take 4 (.take 5 (.take 6 (.take 7 (.take 8 (.take 9 (.take 10 (.take 11 (.alt 12 (.alt 13 (.take 14 .done) .noalt) .noalt)))))))))))))) .auto) .auto))) .auto) (.reg [0, 0, 0, 6, 14, 30, 0, 0, 192, 448, 960, 0, 4094, 8190, 16383, 32767] (.take 0 (.take 1 (.take 2 (.take 3 (.take 4 (.take 5 (.take 6 (.take 7 (.take 8 (.take 9 (.take 10 (.take 11 (.take 12 (.alt 13 (.alt 14 (.take 15 .done) .noalt) .noalt))))))))))))))))) .auto) .auto))) .auto)) .auto)))))
noncomputable def straitref15_Split.c2 : Code := sub straitref15_Split.code [1, 1, 1, 1, 0, 1, 0, 0, 1, 0, 0, 1, 0, 0, 0]
def straitref15_Split.a2 : Ann := (.two .auto (.two (.two (.reg [0, 0, 0, 6, 14, 30, 0, 0, 192, 448, 960, 2046, 4094, 8191, 16383] (.take 0 (.take 1 (.take 2 (.take 3 (.take 4 (.take 5 (.take 6 (.take 7 (.take 8 (.take 9 (.take 10 (.take 11 (.alt 12 (.alt 13 (.take 14 .done) .noalt) .noalt)))))))))))))) .auto) .auto))
def straitref15_Split.keep2 : List Nat := [0, 2, 5, 6, 7]
def straitref15_Split.outs2 : List (Nat × List Nat) := [(6, [0, 2, 5, 6, 7])]
noncomputable def straitref15_Split.c1 : Code := sub straitref15_Split.code [1, 1, 1, 1, 0, 1, 0, 0]
def straitref15_Split.a1 : Ann := (.two .auto (.two (.two (.two .auto (.two (.two (.loop 2 [0, 2, 5, 6, 7] [(6, [0, 2, 5, 6, 7])] (.two .auto (.two (.two (.reg [0, 0, 0, 6, 14, 30, 0, 0, 192, 448, 960, 2046, 4094, 8191, 16383] (.take 0 (.take 1 (.take 2 (.take 3 (.take 4 (.take 5 (.take 6 (.take 7 (.take 8 (.take 9 (.take 10 (.take 11 (.alt 12 (.alt 13 (.take 14 .done) .noalt) .noalt)))))))))))))) .auto) .auto))) .auto) (.reg [0, 0, 0, 6, 14, 30, 0, 0, 192, 448, 960, 0, 4094, 8190, 16383, 32767] (.take 0 (.take 1 (.take 2 (.take 3 (.take 4 (.take 5 (.take 6 (.take 7 (.take 8 (.take 9 (.take 10 (.take 11 (.take 12 (.alt 13 (.alt 14 (.take 15 .done) .noalt) .noalt))))))))))))))))) .auto) .auto))
def straitref15_Split.keep1 : List Nat := [0, 2, 5, 6]
def straitref15_Split.outs1 : List (Nat × List Nat) := [(4, [2, 5])]
noncomputable def straitref15_Split.c0 : Code := sub straitref15_Split.code [1, 1, 0, 1, 0, 0]
def straitref15_Split.a0 : Ann := .auto
def straitref15_Split.keep0 : List Nat := [0, 2, 3, 4]
def straitref15_Split.outs0 : List (Nat × List Nat) := [(2, [0, 2]), (0, [2])]
set_option maxRecDepth 100000 in
theorem straitref15_Split.L0 [DKc] : LoopOK straitref15_Split.ctx 104 straitref15_Split.c0 0 straitref15_Split.keep0 straitref15_Split.outs0 := by
  refine loop_ok (n := straitref15_Split.a0) straitref15_Split.ok (by kernel_rfl) (loops_ok (l := []) (by kernel_rfl) ?_) straitref15_Split.r0 ?_ ?_ (fun vs h K hh => hh)
  · exact trivial
  · intro K vs h hh
    unfold straitref15_Split.r0 at hh
    split at hh
    · exact hh
    · exact hh
  · intro K m vs h hh
    unfold straitref15_Split.r0 at hh
    split at hh
    · exact cast (by kernel_rfl) hh
    · exact hh.elim
set_option maxRecDepth 100000 in
theorem straitref15_Split.L2 [DKc] : LoopOK straitref15_Split.ctx 104 straitref15_Split.c2 2 straitref15_Split.keep2 straitref15_Split.outs2 := by
  refine loop_ok (n := straitref15_Split.a2) straitref15_Split.ok (by kernel_rfl) (loops_ok (l := []) (by kernel_rfl) ?_) straitref15_Split.r2 ?_ ?_ (fun vs h K hh => hh)
  · exact trivial
  · intro K vs h hh
    unfold straitref15_Split.r2 at hh
    split at hh
    · exact hh
    · exact hh
  · intro K m vs h hh
    unfold straitref15_Split.r2 at hh
    split at hh
    · exact cast (by kernel_rfl) hh
    · exact hh.elim
set_option maxRecDepth 100000 in
theorem straitref15_Split.L1 [DKc] : LoopOK straitref15_Split.ctx 104 straitref15_Split.c1 1 straitref15_Split.keep1 straitref15_Split.outs1 := by
  refine loop_ok (n := straitref15_Split.a1) straitref15_Split.ok (by kernel_rfl) (loops_ok (l := [(straitref15_Split.c2, none, 2, straitref15_Split.keep2, straitref15_Split.outs2)]) (by kernel_rfl) ?_) straitref15_Split.r1 ?_ ?_ (fun vs h K hh => hh)
  · exact ⟨straitref15_Split.L2, trivial⟩
  · intro K vs h hh
    unfold straitref15_Split.r1 at hh
    split at hh
    · exact hh
    · exact hh
  · intro K m vs h hh
    unfold straitref15_Split.r1 at hh
    split at hh
    · exact cast (by kernel_rfl) hh
    · exact hh.elim
set_option maxRecDepth 100000 in
theorem straitref15_Split.eq (a1 : Option Addr) (a1l : Nat) (a1c : Nat) (h : Heap) (K : (Option Addr) → Nat → Nat → Bool → Heap → Prop) : evF straitref15_Split.ctx Tryz.f13 straitref15_Split.ann [(.slice a1 a1l a1c)] h (straitref15_Split.ret K) = straitref15_Split a1 a1l a1c h K := by kernel_rfl
set_option maxRecDepth 100000 in
theorem straitref15_Split.calls [DKc] {a1 : Option Addr} {a1l : Nat} {a1c : Nat} {h : Heap} {K : (Option Addr) → Nat → Nat → Bool → Heap → Prop} (hh : straitref15_Split a1 a1l a1c h K) (w : World) (hw : w.heap = h) :
    (callFunc 13 #[(.slice a1 a1l a1c)]).run Tryz.prog w = .ok (.enter 13 #[(.slice a1 a1l a1c)]) w ∧ Calls Tryz.prog 13 #[(.slice a1 a1l a1c)] w fun e w' => ∃ v, e = .returned v ∧ Out w w' ∧ straitref15_Split.ret K v w'.heap := by
  rw [← straitref15_Split.eq] at hh
  exact fn_calls (args := [(.slice a1 a1l a1c)]) (c := straitref15_Split.code) straitref15_Split.ok Tryz.func13 (by kernel_rfl) (by kernel_rfl) (by kernel_rfl) (by kernel_rfl) (loops_ok (l := [(straitref15_Split.c0, none, 0, straitref15_Split.keep0, straitref15_Split.outs0), (straitref15_Split.c1, none, 1, straitref15_Split.keep1, straitref15_Split.outs1)]) (by kernel_rfl) ⟨straitref15_Split.L0, straitref15_Split.L1, trivial⟩) hh w hw

/-! ### strait/straitlaw20.CompBridges: function 3 -/
section
variable [DKc]
def straitlaw20_CompBridges.b0 (K0 : Bool → Heap → Prop) (K2 : Heap → Prop) (cont : Int → (Option Addr) → Addr → (Option Addr) → Nat → Nat → Int → Int → Heap → Prop) (c0_1001 : Int) (c5_1002 : Option Addr) (c8_1003 : Addr) (c9_1004 : Option Addr) (c9_1005 : Nat) (c9_1006 : Nat) (v10_1007 : Int) (v11_1008 : Int) (h1009 : Heap) : Prop :=
  ∃ (x1010 : Option Addr) (x1010l : Nat) (x1010c : Nat), cell h1009 (c8_1003.add 1) = some (.slice x1010 x1010l x1010c) ∧ (iteB (decide (v11_1008 < (x1010l : Int))) ((∃ (x1011 : Int), cell h1009 c8_1003 = some (.int .i64 x1011) ∧ ∃ (x1012 : Option Addr) (x1012l : Nat) (x1012c : Nat), cell h1009 (c8_1003.add 1) = some (.slice x1012 x1012l x1012c) ∧ callP4 (straitref20_Without x1011 x1012 x1012l x1012c v11_1008 h1009) fun x1013 x1014 x1014l x1014c h1015 => callP4 (straitref15_Split x1014 x1014l x1014c h1015) fun x1016 x1016l x1016c x1017 h1018 => callP3 (net_New (IntKind.i64.wrap c0_1001) x1016 x1016l x1016c h1018) fun x1019 x1020 x1021 h1022 => ((let j1034 := (fun (y1026 : Int) (y1027 : Int) => iteB (x1020 != (0 : Int)) (K0 false h1022) (callP1 (comp_Count x1019 h1022) fun x1028 h1029 => callP1 (comp_Count c5_1002 h1029) fun x1030 h1031 => (iteB (x1028 != (IntKind.i64.wrap (x1030 + y1027))) (K0 false h1031) (((cont c0_1001 c5_1002 c8_1003 c9_1004 c9_1005 c9_1006 y1026 (IntKind.i64.wrap (v11_1008 + 1)) h1031))))));
  iteB (decide (v10_1007 < (c9_1005 : Int))) (chkP c9_1004 fun a1023 => (0 ≤ v10_1007 ∧ v10_1007 < (c9_1005 : Int)) ∧ ∃ (x1024 : Int), cell h1022 (a1023.add (v10_1007.toNat * 1)) = some (.int .i64 x1024) ∧ (iteB (x1024 == v11_1008) (((j1034 (IntKind.i64.wrap (v10_1007 + 1)) 1))) ((j1034 v10_1007 0)))) (((j1034 v10_1007 0))))))) (K2 h1009))
def straitlaw20_CompBridges.l0 (K0 : Bool → Heap → Prop) (K2 : Heap → Prop) : Nat → Int → (Option Addr) → Addr → (Option Addr) → Nat → Nat → Int → Int → Heap → Prop
  | 0, _, _, _, _, _, _, _, _, _ => False
  | m + 1, c0_1001, c5_1002, c8_1003, c9_1004, c9_1005, c9_1006, v10_1007, v11_1008, h => straitlaw20_CompBridges.b0 K0 K2 (straitlaw20_CompBridges.l0 K0 K2 m) c0_1001 c5_1002 c8_1003 c9_1004 c9_1005 c9_1006 v10_1007 v11_1008 h
def straitlaw20_CompBridges (a1 : Int) (a2 : Option Addr) (a2l : Nat) (a2c : Nat) (h : Heap) (K : Bool → Heap → Prop) : Prop :=
  (let j38 : Prop := (callP3 (net_New (IntKind.i64.wrap a1) a2 a2l a2c h) fun x10 x11 x12 h13 => ((iteB (x11 != (0 : Int)) (callP1 (straitlaw20_awake h13) fun x14 h15 => K x14 h15) ((callP6 (straitref16_New (IntKind.i64.wrap a1) a2 a2l a2c h13) fun x16 x17 x17l x17c x18 x19 h20 => newP h20 (.cells #[(.int .i64 0), (.slice none 0 0)] 29) fun a21 h22 => stC h22 a21 (.int .i64 x16) fun h23 => stC h23 (a21.add 1) (.slice x17 x17l x17c) fun h24 => (callP3 (comp_Bridges x10 h24) fun x25 x25l x25c h26 => (∃ (x27 : Int), cell h26 a21 = some (.int .i64 x27) ∧ ∃ (x28 : Option Addr) (x28l : Nat) (x28c : Nat), cell h26 (a21.add 1) = some (.slice x28 x28l x28c) ∧ callP3 (straitref20_Bridges x27 x28 x28l x28c h26) fun x29 x29l x29c h30 => qcallP1 h30 (straitref09_Ints x25 x25l x25c x29 x29l x29c h30) fun x31 => (iteB (!x31) (K false h30) ((((∃ m35, straitlaw20_CompBridges.l0 (fun z32 h33 => K z32 h33) (fun h34 => ((callP1 (straitlaw20_awake h34) fun x36 h37 => K x36 h37))) m35 a1 x10 a21 x25 x25l x25c 0 0 h30))))))))))));
  iteB (decide ((a2l : Int) > (40 : Int))) ((callP1 (straitlaw20_awake h) fun x6 h7 => K x6 h7)) ((iteB (decide (a1 > (40 : Int))) (callP1 (straitlaw20_awake h) fun x8 h9 => K x8 h9) ((j38)))))
def straitlaw20_CompBridges.ret (K : Bool → Heap → Prop) (v : Value) (h : Heap) : Prop := match v with
  | (.bool r39) => K r39 h
  | _ => False
theorem straitlaw20_CompBridges.ret_elim {K : Bool → Heap → Prop} {K' : Value → Heap → Prop} {v : Value} {h : Heap} (hk : ∀ r39 h, K r39 h → K' (.bool r39) h) (hh : straitlaw20_CompBridges.ret K v h) : K' v h := by
  unfold straitlaw20_CompBridges.ret at hh
  split at hh
  · exact hk _ _ hh
  · exact hh.elim
def straitlaw20_CompBridges.call (f : FuncId) (vs : List Value) (h : Heap) (K : Value → Heap → Prop) : Prop := match f, vs with
  | 7, [] => callP1 (straitlaw20_awake h) fun r20 h' => K (.bool r20) h'
  | 8, [(.int .i64 a1), (.slice a2 a2l a2c)] => callP3 (net_New a1 a2 a2l a2c h) fun r37 r38 r39 h' => K (.tuple #[(.pointer r37), (.int .i64 r38), (.int .i64 r39)]) h'
  | 9, [(.int .i64 a1), (.slice a2 a2l a2c)] => callP6 (straitref16_New a1 a2 a2l a2c h) fun r52 r53 r53l r53c r54 r55 h' => K (.agg #[(.int .i64 r52), (.slice r53 r53l r53c), (.int .i64 r54), (.int .i64 r55)]) h'
  | 10, [(.pointer a1)] => callP3 (comp_Bridges a1 h) fun r43 r43l r43c h' => K (.slice r43 r43l r43c) h'
  | 12, [(.agg ⟨[(.int .i64 a1), (.slice a2 a2l a2c)]⟩)] => callP3 (straitref20_Bridges a1 a2 a2l a2c h) fun r8 r8l r8c h' => K (.slice r8 r8l r8c) h'
  | 13, [(.slice a1 a1l a1c)] => callP4 (straitref15_Split a1 a1l a1c h) fun r16 r16l r16c r17 h' => K (.agg #[(.slice r16 r16l r16c), (.bool r17)]) h'
  | 14, [(.agg ⟨[(.int .i64 a1), (.slice a2 a2l a2c)]⟩), (.int .i64 a3)] => callP4 (straitref20_Without a1 a2 a2l a2c a3 h) fun r16 r17 r17l r17c h' => K (.agg #[(.int .i64 r16), (.slice r17 r17l r17c)]) h'
  | 15, [(.pointer a1)] => callP1 (comp_Count a1 h) fun r5 h' => K (.int .i64 r5) h'
  | _, _ => False
def straitlaw20_CompBridges.qcall (f : FuncId) (vs : List Value) (h : Heap) (K : Value → Prop) : Prop := match f, vs with
  | 11, [(.slice a1 a1l a1c), (.slice a2 a2l a2c)] => qcallP1 h (straitref09_Ints a1 a1l a1c a2 a2l a2c h) fun r7 => K (.bool r7)
  | _, _ => False
def straitlaw20_CompBridges.r0 (K : Nat → List Value → Heap → Prop) (m : Nat) (vs : List Value) (h : Heap) : Prop := match vs with
  | [(.int .u8 c0_1001), (.pointer c5_1002), (.pointer (some c8_1003)), (.slice c9_1004 c9_1005 c9_1006), (.int .i64 v10_1007), (.int .i64 v11_1008)] => straitlaw20_CompBridges.l0 (fun z40 h' => K 0 [(.bool z40)] h') (fun h' => K 2 [] h') m c0_1001 c5_1002 c8_1003 c9_1004 c9_1005 c9_1006 v10_1007 v11_1008 h
  | _ => False
def straitlaw20_CompBridges.loop (i : Nat) (vs : List Value) (h : Heap) (K : Nat → List Value → Heap → Prop) : Prop := match i with
  | 0 => ∃ m, straitlaw20_CompBridges.r0 K m vs h
  | _ => False
noncomputable def straitlaw20_CompBridges.ctx : Ctx := { P := Tryz.prog, call := straitlaw20_CompBridges.call, qcall := straitlaw20_CompBridges.qcall, quiet := fun f => Nat.beq f 11 || Nat.beq f 1000131 || Nat.beq f 1000155, loop := straitlaw20_CompBridges.loop }
theorem straitlaw20_CompBridges.ok : straitlaw20_CompBridges.ctx.OK where
  mixed := by kernel_rfl
  mono := by
    intro f args h K K' hh hk
    change straitlaw20_CompBridges.call f args h K at hh
    change straitlaw20_CompBridges.call f args h K'
    unfold straitlaw20_CompBridges.call at hh ⊢
    split at hh
    · obtain ⟨R, h1, h2⟩ := hh
      exact ⟨R, h1, fun _ x hr => hk _ _ (h2 _ x hr)⟩
    · obtain ⟨R, h1, h2⟩ := hh
      exact ⟨R, h1, fun _ _ _ x hr => hk _ _ (h2 _ _ _ x hr)⟩
    · obtain ⟨R, h1, h2⟩ := hh
      exact ⟨R, h1, fun _ _ _ _ _ _ x hr => hk _ _ (h2 _ _ _ _ _ _ x hr)⟩
    · obtain ⟨R, h1, h2⟩ := hh
      exact ⟨R, h1, fun _ _ _ x hr => hk _ _ (h2 _ _ _ x hr)⟩
    · obtain ⟨R, h1, h2⟩ := hh
      exact ⟨R, h1, fun _ _ _ x hr => hk _ _ (h2 _ _ _ x hr)⟩
    · obtain ⟨R, h1, h2⟩ := hh
      exact ⟨R, h1, fun _ _ _ _ x hr => hk _ _ (h2 _ _ _ _ x hr)⟩
    · obtain ⟨R, h1, h2⟩ := hh
      exact ⟨R, h1, fun _ _ _ _ x hr => hk _ _ (h2 _ _ _ _ x hr)⟩
    · obtain ⟨R, h1, h2⟩ := hh
      exact ⟨R, h1, fun _ x hr => hk _ _ (h2 _ x hr)⟩
    · exact hh.elim
  call := by
    intro f args h K hh w hw
    change straitlaw20_CompBridges.call f args h K at hh
    unfold straitlaw20_CompBridges.call at hh
    split at hh
    · obtain ⟨R, h1, h2⟩ := hh
      obtain ⟨g1, g2⟩ := straitlaw20_awake.calls h1 w hw
      exact ⟨g1, g2.mono fun e w' ⟨v, he, ho, hr⟩ => ⟨v, he, ho, straitlaw20_awake.ret_elim h2 hr⟩⟩
    · obtain ⟨R, h1, h2⟩ := hh
      obtain ⟨g1, g2⟩ := net_New.calls h1 w hw
      exact ⟨g1, g2.mono fun e w' ⟨v, he, ho, hr⟩ => ⟨v, he, ho, net_New.ret_elim h2 hr⟩⟩
    · obtain ⟨R, h1, h2⟩ := hh
      obtain ⟨g1, g2⟩ := straitref16_New.calls h1 w hw
      exact ⟨g1, g2.mono fun e w' ⟨v, he, ho, hr⟩ => ⟨v, he, ho, straitref16_New.ret_elim h2 hr⟩⟩
    · obtain ⟨R, h1, h2⟩ := hh
      obtain ⟨g1, g2⟩ := comp_Bridges.calls h1 w hw
      exact ⟨g1, g2.mono fun e w' ⟨v, he, ho, hr⟩ => ⟨v, he, ho, comp_Bridges.ret_elim h2 hr⟩⟩
    · obtain ⟨R, h1, h2⟩ := hh
      obtain ⟨g1, g2⟩ := straitref20_Bridges.calls h1 w hw
      exact ⟨g1, g2.mono fun e w' ⟨v, he, ho, hr⟩ => ⟨v, he, ho, straitref20_Bridges.ret_elim h2 hr⟩⟩
    · obtain ⟨R, h1, h2⟩ := hh
      obtain ⟨g1, g2⟩ := straitref15_Split.calls h1 w hw
      exact ⟨g1, g2.mono fun e w' ⟨v, he, ho, hr⟩ => ⟨v, he, ho, straitref15_Split.ret_elim h2 hr⟩⟩
    · obtain ⟨R, h1, h2⟩ := hh
      obtain ⟨g1, g2⟩ := straitref20_Without.calls h1 w hw
      exact ⟨g1, g2.mono fun e w' ⟨v, he, ho, hr⟩ => ⟨v, he, ho, straitref20_Without.ret_elim h2 hr⟩⟩
    · obtain ⟨R, h1, h2⟩ := hh
      obtain ⟨g1, g2⟩ := comp_Count.calls h1 w hw
      exact ⟨g1, g2.mono fun e w' ⟨v, he, ho, hr⟩ => ⟨v, he, ho, comp_Count.ret_elim h2 hr⟩⟩
    · exact hh.elim
  qmono := by
    intro f args h K K' hh hk
    change straitlaw20_CompBridges.qcall f args h K at hh
    change straitlaw20_CompBridges.qcall f args h K'
    unfold straitlaw20_CompBridges.qcall at hh ⊢
    split at hh
    · obtain ⟨x0, h1, h2⟩ := hh
      exact ⟨x0, h1, hk _ h2⟩
    · exact hh.elim
  qval := by
    intro f args h K hh
    change straitlaw20_CompBridges.qcall f args h K at hh
    suffices H : ∃ v, K v ∧ straitlaw20_CompBridges.qcall f args h (· = v) from H
    unfold straitlaw20_CompBridges.qcall at hh ⊢
    split at hh
    · obtain ⟨x0, h1, h2⟩ := hh
      exact ⟨_, h2, x0, h1, rfl⟩
    · exact hh.elim
  qcall := by
    intro f args h v hh w hw
    change straitlaw20_CompBridges.qcall f args h (· = v) at hh
    unfold straitlaw20_CompBridges.qcall at hh
    split at hh
    · obtain ⟨x0, h1, h2⟩ := hh
      obtain ⟨g1, g2⟩ := straitref09_Ints.calls h1 w hw
      refine .inl ⟨g1, g2.mono fun e w' ⟨u, he, ho, hr⟩ => ?_⟩
      have hq := straitref09_Ints.ret_elim (K' := fun u h' => u = v ∧ h' = h) (fun _ h' hr => by obtain ⟨rfl, rfl⟩ := hr; exact ⟨h2, rfl⟩) hr
      exact ⟨hq.1 ▸ he, ho, hq.2⟩
    · exact hh.elim
noncomputable def straitlaw20_CompBridges.code : Code := (Tryz.f3.body).getD .skip
def straitlaw20_CompBridges.ann : Ann := (.two .auto (.two .auto (.two .auto (.two .auto (.two .auto (.two .auto (.two .auto (.two .auto (.two (.two .auto (.two (.loop 0 [0, 5, 8, 9, 10, 11] [(2, []), (0, [4])] .auto) .auto)) .auto)))))))))
noncomputable def straitlaw20_CompBridges.c0 : Code := sub straitlaw20_CompBridges.code [1, 1, 1, 1, 1, 1, 1, 1, 0, 1, 0, 0]
def straitlaw20_CompBridges.a0 : Ann := .auto
def straitlaw20_CompBridges.keep0 : List Nat := [0, 5, 8, 9, 10, 11]
def straitlaw20_CompBridges.outs0 : List (Nat × List Nat) := [(2, []), (0, [4])]
set_option maxRecDepth 100000 in
theorem straitlaw20_CompBridges.L0 : LoopOK straitlaw20_CompBridges.ctx 93 straitlaw20_CompBridges.c0 0 straitlaw20_CompBridges.keep0 straitlaw20_CompBridges.outs0 := by
  refine loop_ok (n := straitlaw20_CompBridges.a0) straitlaw20_CompBridges.ok (by kernel_rfl) (loops_ok (l := []) (by kernel_rfl) ?_) straitlaw20_CompBridges.r0 ?_ ?_ (fun vs h K hh => hh)
  · exact trivial
  · intro K vs h hh
    unfold straitlaw20_CompBridges.r0 at hh
    split at hh
    · exact hh
    · exact hh
  · intro K m vs h hh
    unfold straitlaw20_CompBridges.r0 at hh
    split at hh
    · exact cast (by kernel_rfl) hh
    · exact hh.elim
set_option maxRecDepth 100000 in
theorem straitlaw20_CompBridges.eq (a1 : Int) (a2 : Option Addr) (a2l : Nat) (a2c : Nat) (h : Heap) (K : Bool → Heap → Prop) : evF straitlaw20_CompBridges.ctx Tryz.f3 straitlaw20_CompBridges.ann [(.int .u8 a1), (.slice a2 a2l a2c)] h (straitlaw20_CompBridges.ret K) = straitlaw20_CompBridges a1 a2 a2l a2c h K := by kernel_rfl
set_option maxRecDepth 100000 in
theorem straitlaw20_CompBridges.calls {a1 : Int} {a2 : Option Addr} {a2l : Nat} {a2c : Nat} {h : Heap} {K : Bool → Heap → Prop} (hh : straitlaw20_CompBridges a1 a2 a2l a2c h K) (w : World) (hw : w.heap = h) :
    (callFunc 3 #[(.int .u8 a1), (.slice a2 a2l a2c)]).run Tryz.prog w = .ok (.enter 3 #[(.int .u8 a1), (.slice a2 a2l a2c)]) w ∧ Calls Tryz.prog 3 #[(.int .u8 a1), (.slice a2 a2l a2c)] w fun e w' => ∃ v, e = .returned v ∧ Out w w' ∧ straitlaw20_CompBridges.ret K v w'.heap := by
  rw [← straitlaw20_CompBridges.eq] at hh
  exact fn_calls (args := [(.int .u8 a1), (.slice a2 a2l a2c)]) (c := straitlaw20_CompBridges.code) straitlaw20_CompBridges.ok Tryz.func3 (by kernel_rfl) (by kernel_rfl) (by kernel_rfl) (by kernel_rfl) (loops_ok (l := [(straitlaw20_CompBridges.c0, none, 0, straitlaw20_CompBridges.keep0, straitlaw20_CompBridges.outs0)]) (by kernel_rfl) ⟨straitlaw20_CompBridges.L0, trivial⟩) hh w hw
end

end Go.Proofs.YtbhndlpjfncliaaGreat
