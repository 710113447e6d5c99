/- WRITTEN BY A PROGRAM OF THIS SESSION (gen.py): what each function asks of memory, and that the model's run comes to it. -/
import Derived.Test.YtbhndlpjfncliaaGreatProg
import Derived.Test.YtbhndlpjfncliaaGreatFw8
import Derived.Test.YtbhndlpjfncliaaGreatC0
namespace Go.Proofs.YtbhndlpjfncliaaGreat
open Go.Hp
set_option linter.unusedVariables false
set_option linter.unusedSimpArgs false
set_option linter.unusedSectionVars false

/-! ### strait/comp.Name: function 19 -/
def comp_Name.b0 (K2 : Heap → Prop) (cont : Addr → Nat → Nat → (Option Addr) → Int → Int → Heap → Prop) (c3_1001 : Addr) (c3_1002 : Nat) (c3_1003 : Nat) (c4_1004 : Option Addr) (c13_1005 : Int) (v14_1006 : Int) (h1007 : Heap) : Prop :=
  (iteB (decide (v14_1006 < c13_1005)) (((callP1 (dsu_Classes_Of c4_1004 v14_1006 h1007) fun x1008 h1009 => (0 ≤ v14_1006 ∧ v14_1006 < (c3_1002 : Int)) ∧ stC h1009 (c3_1001.add (v14_1006.toNat * 1)) (.int .i64 x1008) fun h1010 => ((cont c3_1001 c3_1002 c3_1003 c4_1004 c13_1005 (IntKind.i64.wrap (v14_1006 + 1)) h1010))))) (K2 h1007))
def comp_Name.l0 (K2 : Heap → Prop) : Nat → Addr → Nat → Nat → (Option Addr) → Int → Int → Heap → Prop
  | 0, _, _, _, _, _, _, _ => False
  | m + 1, c3_1001, c3_1002, c3_1003, c4_1004, c13_1005, v14_1006, h => comp_Name.b0 K2 (comp_Name.l0 K2 m) c3_1001 c3_1002 c3_1003 c4_1004 c13_1005 v14_1006 h
def comp_Name (a1 : Option Addr) (h : Heap) (K : (Option Addr) → Nat → Nat → Heap → Prop) : Prop :=
  (qcallP1 h (net_Net_N a1 h) fun x2 => (0 ≤ x2 ∧ x2 ≤ x2 ∧ x2 * (8 : Nat) ≤ 2 ^ 47 ∧ x2 ≤ 2 ^ 47) ∧ newP h (.cells (zeroRow [(.int .i64 0)] x2.toNat).toArray 3) fun a3 h4 => (callP1 (comp_joined a1 0 h4) fun x5 h6 => ((∃ m8, comp_Name.l0 (fun h7 => (((K (some a3) x2.toNat x2.toNat h7)))) m8 a3 x2.toNat x2.toNat x5 (x2.toNat : Int) 0 h6))))
def comp_Name.ret (K : (Option Addr) → Nat → Nat → Heap → Prop) (v : Value) (h : Heap) : Prop := match v with
  | (.slice r9 r9l r9c) => K r9 r9l r9c h
  | _ => False
theorem comp_Name.ret_elim {K : (Option Addr) → Nat → Nat → Heap → Prop} {K' : Value → Heap → Prop} {v : Value} {h : Heap} (hk : ∀ r9 r9l r9c h, K r9 r9l r9c h → K' (.slice r9 r9l r9c) h) (hh : comp_Name.ret K v h) : K' v h := by
  unfold comp_Name.ret at hh
  split at hh
  · exact hk _ _ _ _ hh
  · exact hh.elim
def comp_Name.call (f : FuncId) (vs : List Value) (h : Heap) (K : Value → Heap → Prop) : Prop := match f, vs with
  | 48, [(.pointer a1), (.int .i64 a2)] => callP1 (comp_joined a1 a2 h) fun r10 h' => K (.pointer r10) h'
  | 52, [(.pointer a1), (.int .i64 a2)] => callP1 (dsu_Classes_Of a1 a2 h) fun r9 h' => K (.int .i64 r9) h'
  | _, _ => False
def comp_Name.qcall (f : FuncId) (vs : List Value) (h : Heap) (K : Value → Prop) : Prop := match f, vs with
  | 44, [(.pointer a1)] => qcallP1 h (net_Net_N a1 h) fun r4 => K (.int .i64 r4)
  | _, _ => False
def comp_Name.r0 (K : Nat → List Value → Heap → Prop) (m : Nat) (vs : List Value) (h : Heap) : Prop := match vs with
  | [(.slice (some c3_1001) c3_1002 c3_1003), (.func (.func 52) ⟨[(.pointer c4_1004)]⟩ ⟨[]⟩), (.int .i64 c13_1005), (.int .i64 v14_1006)] => comp_Name.l0 (fun h' => K 2 [(.slice (some c3_1001) c3_1002 c3_1003)] h') m c3_1001 c3_1002 c3_1003 c4_1004 c13_1005 v14_1006 h
  | _ => False
def comp_Name.loop (i : Nat) (vs : List Value) (h : Heap) (K : Nat → List Value → Heap → Prop) : Prop := match i with
  | 0 => ∃ m, comp_Name.r0 K m vs h
  | _ => False
noncomputable def comp_Name.ctx : Ctx := { P := Tryz.prog, call := comp_Name.call, qcall := comp_Name.qcall, quiet := fun f => Nat.beq f 44 || Nat.beq f 1000131 || Nat.beq f 1000155, loop := comp_Name.loop }
theorem comp_Name.ok [DKc] : comp_Name.ctx.OK where
  mixed := by kernel_rfl
  mono := by
    intro f args h K K' hh hk
    change comp_Name.call f args h K at hh
    change comp_Name.call f args h K'
    unfold comp_Name.call at hh ⊢
    split at hh
    · obtain ⟨R, h1, h2⟩ := hh
      exact ⟨R, h1, fun _ x hr => hk _ _ (h2 _ x hr)⟩
    · obtain ⟨R, h1, h2⟩ := hh
      exact ⟨R, h1, fun _ x hr => hk _ _ (h2 _ x hr)⟩
    · exact hh.elim
  call := by
    intro f args h K hh w hw
    change comp_Name.call f args h K at hh
    unfold comp_Name.call at hh
    split at hh
    · obtain ⟨R, h1, h2⟩ := hh
      obtain ⟨g1, g2⟩ := comp_joined.calls h1 w hw
      exact ⟨g1, g2.mono fun e w' ⟨v, he, ho, hr⟩ => ⟨v, he, ho, comp_joined.ret_elim h2 hr⟩⟩
    · obtain ⟨R, h1, h2⟩ := hh
      obtain ⟨g1, g2⟩ := dsu_Classes_Of.calls h1 w hw
      exact ⟨g1, g2.mono fun e w' ⟨v, he, ho, hr⟩ => ⟨v, he, ho, dsu_Classes_Of.ret_elim h2 hr⟩⟩
    · exact hh.elim
  qmono := by
    intro f args h K K' hh hk
    change comp_Name.qcall f args h K at hh
    change comp_Name.qcall f args h K'
    unfold comp_Name.qcall at hh ⊢
    split at hh
    · obtain ⟨x0, h1, h2⟩ := hh
      exact ⟨x0, h1, hk _ h2⟩
    · exact hh.elim
  qval := by
    intro f args h K hh
    change comp_Name.qcall f args h K at hh
    suffices H : ∃ v, K v ∧ comp_Name.qcall f args h (· = v) from H
    unfold comp_Name.qcall at hh ⊢
    split at hh
    · obtain ⟨x0, h1, h2⟩ := hh
      exact ⟨_, h2, x0, h1, rfl⟩
    · exact hh.elim
  qcall := by
    intro f args h v hh w hw
    change comp_Name.qcall f args h (· = v) at hh
    unfold comp_Name.qcall at hh
    split at hh
    · obtain ⟨x0, h1, h2⟩ := hh
      obtain ⟨g1, g2⟩ := net_Net_N.calls h1 w hw
      refine .inl ⟨g1, g2.mono fun e w' ⟨u, he, ho, hr⟩ => ?_⟩
      have hq := net_Net_N.ret_elim (K' := fun u h' => u = v ∧ h' = h) (fun _ h' hr => by obtain ⟨rfl, rfl⟩ := hr; exact ⟨h2, rfl⟩) hr
      exact ⟨hq.1 ▸ he, ho, hq.2⟩
    · exact hh.elim
noncomputable def comp_Name.code : Code := (Tryz.f19.body).getD .skip
def comp_Name.ann : Ann := (.two .auto (.two .auto (.two .auto (.two (.two .auto (.two (.loop 0 [3, 4, 13, 14] [(2, [3])] .auto) .auto)) .auto))))
noncomputable def comp_Name.c0 : Code := sub comp_Name.code [1, 1, 1, 0, 1, 0, 0]
def comp_Name.a0 : Ann := .auto
def comp_Name.keep0 : List Nat := [3, 4, 13, 14]
def comp_Name.outs0 : List (Nat × List Nat) := [(2, [3])]
set_option maxRecDepth 100000 in
theorem comp_Name.L0 [DKc] : LoopOK comp_Name.ctx 25 comp_Name.c0 0 comp_Name.keep0 comp_Name.outs0 := by
  refine loop_ok (n := comp_Name.a0) comp_Name.ok (by kernel_rfl) (loops_ok (l := []) (by kernel_rfl) ?_) comp_Name.r0 ?_ ?_ (fun vs h K hh => hh)
  · exact trivial
  · intro K vs h hh
    unfold comp_Name.r0 at hh
    split at hh
    · exact hh
    · exact hh
  · intro K m vs h hh
    unfold comp_Name.r0 at hh
    split at hh
    · exact cast (by kernel_rfl) hh
    · exact hh.elim
set_option maxRecDepth 100000 in
theorem comp_Name.eq (a1 : Option Addr) (h : Heap) (K : (Option Addr) → Nat → Nat → Heap → Prop) : evF comp_Name.ctx Tryz.f19 comp_Name.ann [(.pointer a1)] h (comp_Name.ret K) = comp_Name a1 h K := by kernel_rfl
set_option maxRecDepth 100000 in
theorem comp_Name.calls [DKc] {a1 : Option Addr} {h : Heap} {K : (Option Addr) → Nat → Nat → Heap → Prop} (hh : comp_Name a1 h K) (w : World) (hw : w.heap = h) :
    (callFunc 19 #[(.pointer a1)]).run Tryz.prog w = .ok (.enter 19 #[(.pointer a1)]) w ∧ Calls Tryz.prog 19 #[(.pointer a1)] w fun e w' => ∃ v, e = .returned v ∧ Out w w' ∧ comp_Name.ret K v w'.heap := by
  rw [← comp_Name.eq] at hh
  exact fn_calls (args := [(.pointer a1)]) (c := comp_Name.code) comp_Name.ok Tryz.func19 (by kernel_rfl) (by kernel_rfl) (by kernel_rfl) (by kernel_rfl) (loops_ok (l := [(comp_Name.c0, none, 0, comp_Name.keep0, comp_Name.outs0)]) (by kernel_rfl) ⟨comp_Name.L0, trivial⟩) hh w hw

/-! ### strait/straitref20.Heavy: function 22 -/
def straitref20_Heavy.b0 (K2 : Heap → Prop) (cont : Int → Addr → Addr → Int → Heap → Prop) (c1_1001 : Int) (c2_1002 : Addr) (c5_1003 : Addr) (v6_1004 : Int) (h1005 : Heap) : Prop :=
  ∃ (x1006 : Option Addr) (x1006l : Nat) (x1006c : Nat), cell h1005 (c2_1002.add 1) = some (.slice x1006 x1006l x1006c) ∧ (iteB (decide (v6_1004 < (x1006l : Int))) ((∃ (x1007 : Option Addr) (x1007l : Nat) (x1007c : Nat), cell h1005 (c2_1002.add 1) = some (.slice x1007 x1007l x1007c) ∧ chkP x1007 fun a1008 => (0 ≤ v6_1004 ∧ v6_1004 < (x1007l : Int)) ∧ ∃ (x1009 : Int), cell h1005 ((a1008.add (v6_1004.toNat * 3)).add 2) = some (.int .i64 x1009) ∧ (iteB (decide (x1009 ≥ c1_1001)) (∃ (x1010 : Option Addr) (x1010l : Nat) (x1010c : Nat), cell h1005 c5_1003 = some (.slice x1010 x1010l x1010c) ∧ ∃ (x1011 : Option Addr) (x1011l : Nat) (x1011c : Nat), cell h1005 (c2_1002.add 1) = some (.slice x1011 x1011l x1011c) ∧ chkP x1011 fun a1012 => (0 ≤ v6_1004 ∧ v6_1004 < (x1011l : Int)) ∧ ∃ (x1013 : Int), cell h1005 (a1012.add (v6_1004.toNat * 3)) = some (.int .i64 x1013) ∧ ∃ (x1014 : Option Addr) (x1014l : Nat) (x1014c : Nat), cell h1005 (c2_1002.add 1) = some (.slice x1014 x1014l x1014c) ∧ chkP x1014 fun a1015 => (0 ≤ v6_1004 ∧ v6_1004 < (x1014l : Int)) ∧ ∃ (x1016 : Int), cell h1005 ((a1015.add (v6_1004.toNat * 3)).add 1) = some (.int .i64 x1016) ∧ callP3 (straitref10_Classes_Join x1010 x1010l x1010c x1013 x1016 h1005) fun x1017 x1017l x1017c h1018 => stC h1018 c5_1003 (.slice x1017 x1017l x1017c) fun h1019 => ((cont c1_1001 c2_1002 c5_1003 (IntKind.i64.wrap (v6_1004 + 1)) h1019))) (((cont c1_1001 c2_1002 c5_1003 (IntKind.i64.wrap (v6_1004 + 1)) h1005)))))) (K2 h1005))
def straitref20_Heavy.l0 (K2 : Heap → Prop) : Nat → Int → Addr → Addr → Int → Heap → Prop
  | 0, _, _, _, _, _ => False
  | m + 1, c1_1001, c2_1002, c5_1003, v6_1004, h => straitref20_Heavy.b0 K2 (straitref20_Heavy.l0 K2 m) c1_1001 c2_1002 c5_1003 v6_1004 h
def straitref20_Heavy (a1 : Int) (a2 : Option Addr) (a2l : Nat) (a2c : Nat) (a3 : Int) (h : Heap) (K : (Option Addr) → Nat → Nat → Heap → Prop) : Prop :=
  newP h (.cells #[(.int .i64 a1), (.slice a2 a2l a2c)] 29) fun a4 h5 => (∃ (x6 : Int), cell h5 a4 = some (.int .i64 x6) ∧ callP3 (straitref10_New x6 h5) fun x7 x7l x7c h8 => newP h8 (.cells #[(.slice none 0 0)] 113) fun a9 h10 => stC h10 a9 (.slice x7 x7l x7c) fun h11 => ((∃ m13, straitref20_Heavy.l0 (fun h12 => ((∃ (x14 : Option Addr) (x14l : Nat) (x14c : Nat), cell h12 a9 = some (.slice x14 x14l x14c) ∧ callP3 (straitref10_Classes_List x14 x14l x14c h12) fun x15 x15l x15c h16 => K x15 x15l x15c h16))) m13 a3 a4 a9 0 h11)))
def straitref20_Heavy.ret (K : (Option Addr) → Nat → Nat → Heap → Prop) (v : Value) (h : Heap) : Prop := match v with
  | (.slice r17 r17l r17c) => K r17 r17l r17c h
  | _ => False
theorem straitref20_Heavy.ret_elim {K : (Option Addr) → Nat → Nat → Heap → Prop} {K' : Value → Heap → Prop} {v : Value} {h : Heap} (hk : ∀ r17 r17l r17c h, K r17 r17l r17c h → K' (.slice r17 r17l r17c) h) (hh : straitref20_Heavy.ret K v h) : K' v h := by
  unfold straitref20_Heavy.ret at hh
  split at hh
  · exact hk _ _ _ _ hh
  · exact hh.elim
def straitref20_Heavy.call (f : FuncId) (vs : List Value) (h : Heap) (K : Value → Heap → Prop) : Prop := match f, vs with
  | 53, [(.int .i64 a1)] => callP3 (straitref10_New a1 h) fun r11 r11l r11c h' => K (.agg #[(.slice r11 r11l r11c)]) h'
  | 54, [(.agg ⟨[(.slice a1 a1l a1c)]⟩), (.int .i64 a2), (.int .i64 a3)] => callP3 (straitref10_Classes_Join a1 a1l a1c a2 a3 h) fun r40 r40l r40c h' => K (.agg #[(.slice r40 r40l r40c)]) h'
  | 55, [(.agg ⟨[(.slice a1 a1l a1c)]⟩)] => callP3 (straitref10_Classes_List a1 a1l a1c h) fun r7 r7l r7c h' => K (.slice r7 r7l r7c) h'
  | _, _ => False
def straitref20_Heavy.r0 (K : Nat → List Value → Heap → Prop) (m : Nat) (vs : List Value) (h : Heap) : Prop := match vs with
  | [(.int .i64 c1_1001), (.pointer (some c2_1002)), (.pointer (some c5_1003)), (.int .i64 v6_1004)] => straitref20_Heavy.l0 (fun h' => K 2 [(.pointer (some c5_1003))] h') m c1_1001 c2_1002 c5_1003 v6_1004 h
  | _ => False
def straitref20_Heavy.loop (i : Nat) (vs : List Value) (h : Heap) (K : Nat → List Value → Heap → Prop) : Prop := match i with
  | 0 => ∃ m, straitref20_Heavy.r0 K m vs h
  | _ => False
noncomputable def straitref20_Heavy.ctx : Ctx := { P := Tryz.prog, call := straitref20_Heavy.call, qcall := fun _ _ _ _ => False, quiet := fun f => Nat.beq f 1000131 || Nat.beq f 1000155, loop := straitref20_Heavy.loop }
theorem straitref20_Heavy.ok [DKc] : straitref20_Heavy.ctx.OK where
  mixed := by kernel_rfl
  mono := by
    intro f args h K K' hh hk
    change straitref20_Heavy.call f args h K at hh
    change straitref20_Heavy.call f args h K'
    unfold straitref20_Heavy.call at hh ⊢
    split at hh
    · obtain ⟨R, h1, h2⟩ := hh
      exact ⟨R, h1, fun _ _ _ x hr => hk _ _ (h2 _ _ _ x hr)⟩
    · obtain ⟨R, h1, h2⟩ := hh
      exact ⟨R, h1, fun _ _ _ x hr => hk _ _ (h2 _ _ _ x hr)⟩
    · obtain ⟨R, h1, h2⟩ := hh
      exact ⟨R, h1, fun _ _ _ x hr => hk _ _ (h2 _ _ _ x hr)⟩
    · exact hh.elim
  call := by
    intro f args h K hh w hw
    change straitref20_Heavy.call f args h K at hh
    unfold straitref20_Heavy.call at hh
    split at hh
    · obtain ⟨R, h1, h2⟩ := hh
      obtain ⟨g1, g2⟩ := straitref10_New.calls h1 w hw
      exact ⟨g1, g2.mono fun e w' ⟨v, he, ho, hr⟩ => ⟨v, he, ho, straitref10_New.ret_elim h2 hr⟩⟩
    · obtain ⟨R, h1, h2⟩ := hh
      obtain ⟨g1, g2⟩ := straitref10_Classes_Join.calls h1 w hw
      exact ⟨g1, g2.mono fun e w' ⟨v, he, ho, hr⟩ => ⟨v, he, ho, straitref10_Classes_Join.ret_elim h2 hr⟩⟩
    · obtain ⟨R, h1, h2⟩ := hh
      obtain ⟨g1, g2⟩ := straitref10_Classes_List.calls h1 w hw
      exact ⟨g1, g2.mono fun e w' ⟨v, he, ho, hr⟩ => ⟨v, he, ho, straitref10_Classes_List.ret_elim h2 hr⟩⟩
    · exact hh.elim
  qmono := fun hh _ => hh.elim
  qval := fun hh => hh.elim
  qcall := fun hh => hh.elim
noncomputable def straitref20_Heavy.code : Code := (Tryz.f22.body).getD .skip
def straitref20_Heavy.ann : Ann := (.two .auto (.two .auto (.two (.two .auto (.two (.loop 0 [1, 2, 5, 6] [(2, [5])] (.two .auto (.two (.two (.two .auto (.two (.reg [0, 0, 2, 0, 14, 30, 62, 0, 128, 0, 896, 1920, 3968, 8191, 16383] (.take 0 (.take 1 (.take 2 (.take 3 (.take 4 (.take 5 (.take 6 (.take 7 (.take 8 (.take 9 (.take 10 (.take 11 (.take 12 (.alt 13 (.alt 14 .done .noalt) .noalt))))))))))))))) .auto)) .auto) .auto))) .auto)) .auto)))
noncomputable def straitref20_Heavy.c0 : Code := sub straitref20_Heavy.code [1, 1, 0, 1, 0, 0]
def straitref20_Heavy.a0 : Ann := (.two .auto (.two (.two (.two .auto (.two (.reg [0, 0, 2, 0, 14, 30, 62, 0, 128, 0, 896, 1920, 3968, 8191, 16383] (.take 0 (.take 1 (.take 2 (.take 3 (.take 4 (.take 5 (.take 6 (.take 7 (.take 8 (.take 9 (.take 10 (.take 11 (.take 12 (.alt 13 (.alt 14 .done .noalt) .noalt))))))))))))))) .auto)) .auto) .auto))
def straitref20_Heavy.keep0 : List Nat := [1, 2, 5, 6]
def straitref20_Heavy.outs0 : List (Nat × List Nat) := [(2, [5])]
set_option maxRecDepth 100000 in
theorem straitref20_Heavy.L0 [DKc] : LoopOK straitref20_Heavy.ctx 41 straitref20_Heavy.c0 0 straitref20_Heavy.keep0 straitref20_Heavy.outs0 := by
  refine loop_ok (n := straitref20_Heavy.a0) straitref20_Heavy.ok (by kernel_rfl) (loops_ok (l := []) (by kernel_rfl) ?_) straitref20_Heavy.r0 ?_ ?_ (fun vs h K hh => hh)
  · exact trivial
  · intro K vs h hh
    unfold straitref20_Heavy.r0 at hh
    split at hh
    · exact hh
    · exact hh
  · intro K m vs h hh
    unfold straitref20_Heavy.r0 at hh
    split at hh
    · exact cast (by kernel_rfl) hh
    · exact hh.elim
set_option maxRecDepth 100000 in
theorem straitref20_Heavy.eq (a1 : Int) (a2 : Option Addr) (a2l : Nat) (a2c : Nat) (a3 : Int) (h : Heap) (K : (Option Addr) → Nat → Nat → Heap → Prop) : evF straitref20_Heavy.ctx Tryz.f22 straitref20_Heavy.ann [(.agg #[(.int .i64 a1), (.slice a2 a2l a2c)]), (.int .i64 a3)] h (straitref20_Heavy.ret K) = straitref20_Heavy a1 a2 a2l a2c a3 h K := by kernel_rfl
set_option maxRecDepth 100000 in
theorem straitref20_Heavy.calls [DKc] {a1 : Int} {a2 : Option Addr} {a2l : Nat} {a2c : Nat} {a3 : Int} {h : Heap} {K : (Option Addr) → Nat → Nat → Heap → Prop} (hh : straitref20_Heavy a1 a2 a2l a2c a3 h K) (w : World) (hw : w.heap = h) :
    (callFunc 22 #[(.agg #[(.int .i64 a1), (.slice a2 a2l a2c)]), (.int .i64 a3)]).run Tryz.prog w = .ok (.enter 22 #[(.agg #[(.int .i64 a1), (.slice a2 a2l a2c)]), (.int .i64 a3)]) w ∧ Calls Tryz.prog 22 #[(.agg #[(.int .i64 a1), (.slice a2 a2l a2c)]), (.int .i64 a3)] w fun e w' => ∃ v, e = .returned v ∧ Out w w' ∧ straitref20_Heavy.ret K v w'.heap := by
  rw [← straitref20_Heavy.eq] at hh
  exact fn_calls (args := [(.agg #[(.int .i64 a1), (.slice a2 a2l a2c)]), (.int .i64 a3)]) (c := straitref20_Heavy.code) straitref20_Heavy.ok Tryz.func22 (by kernel_rfl) (by kernel_rfl) (by kernel_rfl) (by kernel_rfl) (loops_ok (l := [(straitref20_Heavy.c0, none, 0, straitref20_Heavy.keep0, straitref20_Heavy.outs0)]) (by kernel_rfl) ⟨straitref20_Heavy.L0, trivial⟩) hh w hw

/-! ### strait/straitref20.Of: function 21 -/
def straitref20_Of (a1 : Int) (a2 : Option Addr) (a2l : Nat) (a2c : Nat) (h : Heap) (K : (Option Addr) → Nat → Nat → Heap → Prop) : Prop :=
  newP h (.cells #[(.int .i64 a1), (.slice a2 a2l a2c)] 29) fun a3 h4 => (∃ (x5 : Int), cell h4 a3 = some (.int .i64 x5) ∧ ∃ (x6 : Option Addr) (x6l : Nat) (x6c : Nat), cell h4 (a3.add 1) = some (.slice x6 x6l x6c) ∧ callP3 (straitref20_Heavy x5 x6 x6l x6c 0 h4) fun x7 x7l x7c h8 => K x7 x7l x7c h8)
def straitref20_Of.ret (K : (Option Addr) → Nat → Nat → Heap → Prop) (v : Value) (h : Heap) : Prop := match v with
  | (.slice r9 r9l r9c) => K r9 r9l r9c h
  | _ => False
theorem straitref20_Of.ret_elim {K : (Option Addr) → Nat → Nat → Heap → Prop} {K' : Value → Heap → Prop} {v : Value} {h : Heap} (hk : ∀ r9 r9l r9c h, K r9 r9l r9c h → K' (.slice r9 r9l r9c) h) (hh : straitref20_Of.ret K v h) : K' v h := by
  unfold straitref20_Of.ret at hh
  split at hh
  · exact hk _ _ _ _ hh
  · exact hh.elim
def straitref20_Of.call (f : FuncId) (vs : List Value) (h : Heap) (K : Value → Heap → Prop) : Prop := match f, vs with
  | 22, [(.agg ⟨[(.int .i64 a1), (.slice a2 a2l a2c)]⟩), (.int .i64 a3)] => callP3 (straitref20_Heavy a1 a2 a2l a2c a3 h) fun r17 r17l r17c h' => K (.slice r17 r17l r17c) h'
  | _, _ => False
noncomputable def straitref20_Of.ctx : Ctx := { P := Tryz.prog, call := straitref20_Of.call, qcall := fun _ _ _ _ => False, quiet := fun f => Nat.beq f 1000131 || Nat.beq f 1000155, loop := fun _ _ _ _ => False }
theorem straitref20_Of.ok [DKc] : straitref20_Of.ctx.OK where
  mixed := by kernel_rfl
  mono := by
    intro f args h K K' hh hk
    change straitref20_Of.call f args h K at hh
    change straitref20_Of.call f args h K'
    unfold straitref20_Of.call at hh ⊢
    split at hh
    · obtain ⟨R, h1, h2⟩ := hh
      exact ⟨R, h1, fun _ _ _ x hr => hk _ _ (h2 _ _ _ x hr)⟩
    · exact hh.elim
  call := by
    intro f args h K hh w hw
    change straitref20_Of.call f args h K at hh
    unfold straitref20_Of.call at hh
    split at hh
    · obtain ⟨R, h1, h2⟩ := hh
      obtain ⟨g1, g2⟩ := straitref20_Heavy.calls h1 w hw
      exact ⟨g1, g2.mono fun e w' ⟨v, he, ho, hr⟩ => ⟨v, he, ho, straitref20_Heavy.ret_elim h2 hr⟩⟩
    · exact hh.elim
  qmono := fun hh _ => hh.elim
  qval := fun hh => hh.elim
  qcall := fun hh => hh.elim
noncomputable def straitref20_Of.code : Code := (Tryz.f21.body).getD .skip
def straitref20_Of.ann : Ann := .auto
set_option maxRecDepth 100000 in
theorem straitref20_Of.eq (a1 : Int) (a2 : Option Addr) (a2l : Nat) (a2c : Nat) (h : Heap) (K : (Option Addr) → Nat → Nat → Heap → Prop) : evF straitref20_Of.ctx Tryz.f21 straitref20_Of.ann [(.agg #[(.int .i64 a1), (.slice a2 a2l a2c)])] h (straitref20_Of.ret K) = straitref20_Of a1 a2 a2l a2c h K := by kernel_rfl
set_option maxRecDepth 100000 in
theorem straitref20_Of.calls [DKc] {a1 : Int} {a2 : Option Addr} {a2l : Nat} {a2c : Nat} {h : Heap} {K : (Option Addr) → Nat → Nat → Heap → Prop} (hh : straitref20_Of a1 a2 a2l a2c h K) (w : World) (hw : w.heap = h) :
    (callFunc 21 #[(.agg #[(.int .i64 a1), (.slice a2 a2l a2c)])]).run Tryz.prog w = .ok (.enter 21 #[(.agg #[(.int .i64 a1), (.slice a2 a2l a2c)])]) w ∧ Calls Tryz.prog 21 #[(.agg #[(.int .i64 a1), (.slice a2 a2l a2c)])] w fun e w' => ∃ v, e = .returned v ∧ Out w w' ∧ straitref20_Of.ret K v w'.heap := by
  rw [← straitref20_Of.eq] at hh
  exact fn_calls (args := [(.agg #[(.int .i64 a1), (.slice a2 a2l a2c)])]) (c := straitref20_Of.code) straitref20_Of.ok Tryz.func21 (by kernel_rfl) (by kernel_rfl) (by kernel_rfl) (by kernel_rfl) (loops_ok (l := []) (by kernel_rfl) trivial) hh w hw

/-! ### strait/straitref20.Reach: function 23 -/
def straitref20_Reach.b1 (K0 : (Option Addr) → Nat → Nat → Heap → Prop) (K4 : Heap → Prop) (cont : Int → (Option Addr) → Nat → Nat → Int → Int → Heap → Prop) (c1_2001 : Int) (c5_2002 : Option Addr) (c5_2003 : Nat) (c5_2004 : Nat) (c6_2005 : Int) (v7_2006 : Int) (h2007 : Heap) : Prop :=
  chkP c5_2002 fun a2008 => (0 ≤ c6_2005 ∧ c6_2005 < (c5_2003 : Int)) ∧ ∃ (x2009 : Option Addr) (x2009l : Nat) (x2009c : Nat), cell h2007 (a2008.add (c6_2005.toNat * 1)) = some (.slice x2009 x2009l x2009c) ∧ (iteB (decide (v7_2006 < (x2009l : Int))) ((chkP c5_2002 fun a2010 => (0 ≤ c6_2005 ∧ c6_2005 < (c5_2003 : Int)) ∧ ∃ (x2011 : Option Addr) (x2011l : Nat) (x2011c : Nat), cell h2007 (a2010.add (c6_2005.toNat * 1)) = some (.slice x2011 x2011l x2011c) ∧ chkP x2011 fun a2012 => (0 ≤ v7_2006 ∧ v7_2006 < (x2011l : Int)) ∧ ∃ (x2013 : Int), cell h2007 (a2012.add (v7_2006.toNat * 1)) = some (.int .i64 x2013) ∧ (iteB (x2013 == c1_2001) (chkP c5_2002 fun a2014 => (0 ≤ c6_2005 ∧ c6_2005 < (c5_2003 : Int)) ∧ ∃ (x2015 : Option Addr) (x2015l : Nat) (x2015c : Nat), cell h2007 (a2014.add (c6_2005.toNat * 1)) = some (.slice x2015 x2015l x2015c) ∧ K0 x2015 x2015l x2015c h2007) (((cont c1_2001 c5_2002 c5_2003 c5_2004 c6_2005 (IntKind.i64.wrap (v7_2006 + 1)) h2007)))))) (K4 h2007))
def straitref20_Reach.l1 (K0 : (Option Addr) → Nat → Nat → Heap → Prop) (K4 : Heap → Prop) : Nat → Int → (Option Addr) → Nat → Nat → Int → Int → Heap → Prop
  | 0, _, _, _, _, _, _, _ => False
  | m + 1, c1_2001, c5_2002, c5_2003, c5_2004, c6_2005, v7_2006, h => straitref20_Reach.b1 K0 K4 (straitref20_Reach.l1 K0 K4 m) c1_2001 c5_2002 c5_2003 c5_2004 c6_2005 v7_2006 h
def straitref20_Reach.b0 (K0 : (Option Addr) → Nat → Nat → Heap → Prop) (K2 : Heap → Prop) (cont : Int → (Option Addr) → Nat → Nat → Int → Heap → Prop) (c1_1001 : Int) (c5_1002 : Option Addr) (c5_1003 : Nat) (c5_1004 : Nat) (v6_1005 : Int) (h1006 : Heap) : Prop :=
  (iteB (decide (v6_1005 < (c5_1003 : Int))) (((∃ m1010, straitref20_Reach.l1 (fun z1007 z1007l z1007c h1008 => K0 z1007 z1007l z1007c h1008) (fun h1009 => (((cont c1_1001 c5_1002 c5_1003 c5_1004 (IntKind.i64.wrap (v6_1005 + 1)) h1009)))) m1010 c1_1001 c5_1002 c5_1003 c5_1004 v6_1005 0 h1006))) (K2 h1006))
def straitref20_Reach.l0 (K0 : (Option Addr) → Nat → Nat → Heap → Prop) (K2 : Heap → Prop) : Nat → Int → (Option Addr) → Nat → Nat → Int → Heap → Prop
  | 0, _, _, _, _, _, _ => False
  | m + 1, c1_1001, c5_1002, c5_1003, c5_1004, v6_1005, h => straitref20_Reach.b0 K0 K2 (straitref20_Reach.l0 K0 K2 m) c1_1001 c5_1002 c5_1003 c5_1004 v6_1005 h
def straitref20_Reach (a1 : Int) (a2 : Option Addr) (a2l : Nat) (a2c : Nat) (a3 : Int) (h : Heap) (K : (Option Addr) → Nat → Nat → Heap → Prop) : Prop :=
  newP h (.cells #[(.int .i64 a1), (.slice a2 a2l a2c)] 29) fun a4 h5 => (∃ (x6 : Int), cell h5 a4 = some (.int .i64 x6) ∧ ∃ (x7 : Option Addr) (x7l : Nat) (x7c : Nat), cell h5 (a4.add 1) = some (.slice x7 x7l x7c) ∧ callP3 (straitref20_Of x6 x7 x7l x7c h5) fun x8 x8l x8c h9 => ((∃ m13, straitref20_Reach.l0 (fun z10 z10l z10c h11 => K z10 z10l z10c h11) (fun h12 => (K none 0 0 h12)) m13 a3 x8 x8l x8c 0 h9)))
def straitref20_Reach.ret (K : (Option Addr) → Nat → Nat → Heap → Prop) (v : Value) (h : Heap) : Prop := match v with
  | (.slice r14 r14l r14c) => K r14 r14l r14c h
  | _ => False
theorem straitref20_Reach.ret_elim {K : (Option Addr) → Nat → Nat → Heap → Prop} {K' : Value → Heap → Prop} {v : Value} {h : Heap} (hk : ∀ r14 r14l r14c h, K r14 r14l r14c h → K' (.slice r14 r14l r14c) h) (hh : straitref20_Reach.ret K v h) : K' v h := by
  unfold straitref20_Reach.ret at hh
  split at hh
  · exact hk _ _ _ _ hh
  · exact hh.elim
def straitref20_Reach.call (f : FuncId) (vs : List Value) (h : Heap) (K : Value → Heap → Prop) : Prop := match f, vs with
  | 21, [(.agg ⟨[(.int .i64 a1), (.slice a2 a2l a2c)]⟩)] => callP3 (straitref20_Of a1 a2 a2l a2c h) fun r9 r9l r9c h' => K (.slice r9 r9l r9c) h'
  | _, _ => False
def straitref20_Reach.r0 (K : Nat → List Value → Heap → Prop) (m : Nat) (vs : List Value) (h : Heap) : Prop := match vs with
  | [(.int .i64 c1_1001), (.slice c5_1002 c5_1003 c5_1004), (.int .i64 v6_1005)] => straitref20_Reach.l0 (fun z15 z15l z15c h' => K 0 [(.slice z15 z15l z15c)] h') (fun h' => K 2 [] h') m c1_1001 c5_1002 c5_1003 c5_1004 v6_1005 h
  | _ => False
def straitref20_Reach.r1 (K : Nat → List Value → Heap → Prop) (m : Nat) (vs : List Value) (h : Heap) : Prop := match vs with
  | [(.int .i64 c1_2001), (.slice c5_2002 c5_2003 c5_2004), (.int .i64 c6_2005), (.int .i64 v7_2006)] => straitref20_Reach.l1 (fun z16 z16l z16c h' => K 0 [(.slice z16 z16l z16c)] h') (fun h' => K 4 [(.int .i64 c1_2001), (.slice c5_2002 c5_2003 c5_2004), (.int .i64 c6_2005)] h') m c1_2001 c5_2002 c5_2003 c5_2004 c6_2005 v7_2006 h
  | _ => False
def straitref20_Reach.loop (i : Nat) (vs : List Value) (h : Heap) (K : Nat → List Value → Heap → Prop) : Prop := match i with
  | 0 => ∃ m, straitref20_Reach.r0 K m vs h
  | 1 => ∃ m, straitref20_Reach.r1 K m vs h
  | _ => False
noncomputable def straitref20_Reach.ctx : Ctx := { P := Tryz.prog, call := straitref20_Reach.call, qcall := fun _ _ _ _ => False, quiet := fun f => Nat.beq f 1000131 || Nat.beq f 1000155, loop := straitref20_Reach.loop }
theorem straitref20_Reach.ok [DKc] : straitref20_Reach.ctx.OK where
  mixed := by kernel_rfl
  mono := by
    intro f args h K K' hh hk
    change straitref20_Reach.call f args h K at hh
    change straitref20_Reach.call f args h K'
    unfold straitref20_Reach.call at hh ⊢
    split at hh
    · obtain ⟨R, h1, h2⟩ := hh
      exact ⟨R, h1, fun _ _ _ x hr => hk _ _ (h2 _ _ _ x hr)⟩
    · exact hh.elim
  call := by
    intro f args h K hh w hw
    change straitref20_Reach.call f args h K at hh
    unfold straitref20_Reach.call at hh
    split at hh
    · obtain ⟨R, h1, h2⟩ := hh
      obtain ⟨g1, g2⟩ := straitref20_Of.calls h1 w hw
      exact ⟨g1, g2.mono fun e w' ⟨v, he, ho, hr⟩ => ⟨v, he, ho, straitref20_Of.ret_elim h2 hr⟩⟩
    · exact hh.elim
  qmono := fun hh _ => hh.elim
  qval := fun hh => hh.elim
  qcall := fun hh => hh.elim
noncomputable def straitref20_Reach.code : Code := (Tryz.f23.body).getD .skip
def straitref20_Reach.ann : Ann := (.two .auto (.two .auto (.two (.two .auto (.two (.loop 0 [1, 5, 6] [(2, []), (0, [4])] (.two .auto (.two (.two (.two .auto (.two (.loop 1 [1, 5, 6, 7] [(4, [1, 5, 6]), (0, [4])] .auto) .auto)) .auto) .auto))) .auto)) .auto)))
noncomputable def straitref20_Reach.c1 : Code := sub straitref20_Reach.code [1, 1, 0, 1, 0, 0, 1, 0, 0, 1, 0, 0]
def straitref20_Reach.a1 : Ann := .auto
def straitref20_Reach.keep1 : List Nat := [1, 5, 6, 7]
def straitref20_Reach.outs1 : List (Nat × List Nat) := [(4, [1, 5, 6]), (0, [4])]
noncomputable def straitref20_Reach.c0 : Code := sub straitref20_Reach.code [1, 1, 0, 1, 0, 0]
def straitref20_Reach.a0 : Ann := (.two .auto (.two (.two (.two .auto (.two (.loop 1 [1, 5, 6, 7] [(4, [1, 5, 6]), (0, [4])] .auto) .auto)) .auto) .auto))
def straitref20_Reach.keep0 : List Nat := [1, 5, 6]
def straitref20_Reach.outs0 : List (Nat × List Nat) := [(2, []), (0, [4])]
set_option maxRecDepth 100000 in
theorem straitref20_Reach.L1 [DKc] : LoopOK straitref20_Reach.ctx 38 straitref20_Reach.c1 1 straitref20_Reach.keep1 straitref20_Reach.outs1 := by
  refine loop_ok (n := straitref20_Reach.a1) straitref20_Reach.ok (by kernel_rfl) (loops_ok (l := []) (by kernel_rfl) ?_) straitref20_Reach.r1 ?_ ?_ (fun vs h K hh => hh)
  · exact trivial
  · intro K vs h hh
    unfold straitref20_Reach.r1 at hh
    split at hh
    · exact hh
    · exact hh
  · intro K m vs h hh
    unfold straitref20_Reach.r1 at hh
    split at hh
    · exact cast (by kernel_rfl) hh
    · exact hh.elim
set_option maxRecDepth 100000 in
theorem straitref20_Reach.L0 [DKc] : LoopOK straitref20_Reach.ctx 38 straitref20_Reach.c0 0 straitref20_Reach.keep0 straitref20_Reach.outs0 := by
  refine loop_ok (n := straitref20_Reach.a0) straitref20_Reach.ok (by kernel_rfl) (loops_ok (l := [(straitref20_Reach.c1, none, 1, straitref20_Reach.keep1, straitref20_Reach.outs1)]) (by kernel_rfl) ?_) straitref20_Reach.r0 ?_ ?_ (fun vs h K hh => hh)
  · exact ⟨straitref20_Reach.L1, trivial⟩
  · intro K vs h hh
    unfold straitref20_Reach.r0 at hh
    split at hh
    · exact hh
    · exact hh
  · intro K m vs h hh
    unfold straitref20_Reach.r0 at hh
    split at hh
    · exact cast (by kernel_rfl) hh
    · exact hh.elim
set_option maxRecDepth 100000 in
theorem straitref20_Reach.eq (a1 : Int) (a2 : Option Addr) (a2l : Nat) (a2c : Nat) (a3 : Int) (h : Heap) (K : (Option Addr) → Nat → Nat → Heap → Prop) : evF straitref20_Reach.ctx Tryz.f23 straitref20_Reach.ann [(.agg #[(.int .i64 a1), (.slice a2 a2l a2c)]), (.int .i64 a3)] h (straitref20_Reach.ret K) = straitref20_Reach a1 a2 a2l a2c a3 h K := by kernel_rfl
set_option maxRecDepth 100000 in
theorem straitref20_Reach.calls [DKc] {a1 : Int} {a2 : Option Addr} {a2l : Nat} {a2c : Nat} {a3 : Int} {h : Heap} {K : (Option Addr) → Nat → Nat → Heap → Prop} (hh : straitref20_Reach a1 a2 a2l a2c a3 h K) (w : World) (hw : w.heap = h) :
    (callFunc 23 #[(.agg #[(.int .i64 a1), (.slice a2 a2l a2c)]), (.int .i64 a3)]).run Tryz.prog w = .ok (.enter 23 #[(.agg #[(.int .i64 a1), (.slice a2 a2l a2c)]), (.int .i64 a3)]) w ∧ Calls Tryz.prog 23 #[(.agg #[(.int .i64 a1), (.slice a2 a2l a2c)]), (.int .i64 a3)] w fun e w' => ∃ v, e = .returned v ∧ Out w w' ∧ straitref20_Reach.ret K v w'.heap := by
  rw [← straitref20_Reach.eq] at hh
  exact fn_calls (args := [(.agg #[(.int .i64 a1), (.slice a2 a2l a2c)]), (.int .i64 a3)]) (c := straitref20_Reach.code) straitref20_Reach.ok Tryz.func23 (by kernel_rfl) (by kernel_rfl) (by kernel_rfl) (by kernel_rfl) (loops_ok (l := [(straitref20_Reach.c0, none, 0, straitref20_Reach.keep0, straitref20_Reach.outs0)]) (by kernel_rfl) ⟨straitref20_Reach.L0, trivial⟩) hh w hw

/-! ### strait/straitref20.Name: function 24 -/
def straitref20_Name.b1 (K4 : Heap → Prop) (cont : Addr → Nat → Nat → (Option Addr) → Nat → Nat → Int → Int → Heap → Prop) (c3_2001 : Addr) (c3_2002 : Nat) (c3_2003 : Nat) (c4_2004 : Option Addr) (c4_2005 : Nat) (c4_2006 : Nat) (c5_2007 : Int) (v6_2008 : Int) (h2009 : Heap) : Prop :=
  chkP c4_2004 fun a2010 => (0 ≤ c5_2007 ∧ c5_2007 < (c4_2005 : Int)) ∧ ∃ (x2011 : Option Addr) (x2011l : Nat) (x2011c : Nat), cell h2009 (a2010.add (c5_2007.toNat * 1)) = some (.slice x2011 x2011l x2011c) ∧ (iteB (decide (v6_2008 < (x2011l : Int))) ((chkP c4_2004 fun a2012 => (0 ≤ c5_2007 ∧ c5_2007 < (c4_2005 : Int)) ∧ ∃ (x2013 : Option Addr) (x2013l : Nat) (x2013c : Nat), cell h2009 (a2012.add (c5_2007.toNat * 1)) = some (.slice x2013 x2013l x2013c) ∧ chkP x2013 fun a2014 => (0 ≤ v6_2008 ∧ v6_2008 < (x2013l : Int)) ∧ ∃ (x2015 : Int), cell h2009 (a2014.add (v6_2008.toNat * 1)) = some (.int .i64 x2015) ∧ chkP c4_2004 fun a2016 => (0 ≤ c5_2007 ∧ c5_2007 < (c4_2005 : Int)) ∧ ∃ (x2017 : Option Addr) (x2017l : Nat) (x2017c : Nat), cell h2009 (a2016.add (c5_2007.toNat * 1)) = some (.slice x2017 x2017l x2017c) ∧ chkP x2017 fun a2018 => (0 ≤ (0 : Int) ∧ (0 : Int) < (x2017l : Int)) ∧ ∃ (x2019 : Int), cell h2009 (a2018.add ((0 : Int).toNat * 1)) = some (.int .i64 x2019) ∧ (0 ≤ x2015 ∧ x2015 < (c3_2002 : Int)) ∧ stC h2009 (c3_2001.add (x2015.toNat * 1)) (.int .i64 x2019) fun h2020 => ((cont c3_2001 c3_2002 c3_2003 c4_2004 c4_2005 c4_2006 c5_2007 (IntKind.i64.wrap (v6_2008 + 1)) h2020)))) (K4 h2009))
def straitref20_Name.l1 (K4 : Heap → Prop) : Nat → Addr → Nat → Nat → (Option Addr) → Nat → Nat → Int → Int → Heap → Prop
  | 0, _, _, _, _, _, _, _, _, _ => False
  | m + 1, c3_2001, c3_2002, c3_2003, c4_2004, c4_2005, c4_2006, c5_2007, v6_2008, h => straitref20_Name.b1 K4 (straitref20_Name.l1 K4 m) c3_2001 c3_2002 c3_2003 c4_2004 c4_2005 c4_2006 c5_2007 v6_2008 h
def straitref20_Name.b0 (K2 : Heap → Prop) (cont : Addr → Nat → Nat → (Option Addr) → Nat → Nat → Int → Heap → Prop) (c3_1001 : Addr) (c3_1002 : Nat) (c3_1003 : Nat) (c4_1004 : Option Addr) (c4_1005 : Nat) (c4_1006 : Nat) (v5_1007 : Int) (h1008 : Heap) : Prop :=
  (iteB (decide (v5_1007 < (c4_1005 : Int))) (((∃ m1010, straitref20_Name.l1 (fun h1009 => (((cont c3_1001 c3_1002 c3_1003 c4_1004 c4_1005 c4_1006 (IntKind.i64.wrap (v5_1007 + 1)) h1009)))) m1010 c3_1001 c3_1002 c3_1003 c4_1004 c4_1005 c4_1006 v5_1007 0 h1008))) (K2 h1008))
def straitref20_Name.l0 (K2 : Heap → Prop) : Nat → Addr → Nat → Nat → (Option Addr) → Nat → Nat → Int → Heap → Prop
  | 0, _, _, _, _, _, _, _, _ => False
  | m + 1, c3_1001, c3_1002, c3_1003, c4_1004, c4_1005, c4_1006, v5_1007, h => straitref20_Name.b0 K2 (straitref20_Name.l0 K2 m) c3_1001 c3_1002 c3_1003 c4_1004 c4_1005 c4_1006 v5_1007 h
def straitref20_Name (a1 : Int) (a2 : Option Addr) (a2l : Nat) (a2c : Nat) (h : Heap) (K : (Option Addr) → Nat → Nat → Heap → Prop) : Prop :=
  newP h (.cells #[(.int .i64 a1), (.slice a2 a2l a2c)] 29) fun a3 h4 => (∃ (x5 : Int), cell h4 a3 = some (.int .i64 x5) ∧ (0 ≤ x5 ∧ x5 ≤ x5 ∧ x5 * (8 : Nat) ≤ 2 ^ 47 ∧ x5 ≤ 2 ^ 47) ∧ newP h4 (.cells (zeroRow [(.int .i64 0)] x5.toNat).toArray 3) fun a6 h7 => (∃ (x8 : Int), cell h7 a3 = some (.int .i64 x8) ∧ ∃ (x9 : Option Addr) (x9l : Nat) (x9c : Nat), cell h7 (a3.add 1) = some (.slice x9 x9l x9c) ∧ callP3 (straitref20_Of x8 x9 x9l x9c h7) fun x10 x10l x10c h11 => ((∃ m13, straitref20_Name.l0 (fun h12 => (((K (some a6) x5.toNat x5.toNat h12)))) m13 a6 x5.toNat x5.toNat x10 x10l x10c 0 h11))))
def straitref20_Name.ret (K : (Option Addr) → Nat → Nat → Heap → Prop) (v : Value) (h : Heap) : Prop := match v with
  | (.slice r14 r14l r14c) => K r14 r14l r14c h
  | _ => False
theorem straitref20_Name.ret_elim {K : (Option Addr) → Nat → Nat → Heap → Prop} {K' : Value → Heap → Prop} {v : Value} {h : Heap} (hk : ∀ r14 r14l r14c h, K r14 r14l r14c h → K' (.slice r14 r14l r14c) h) (hh : straitref20_Name.ret K v h) : K' v h := by
  unfold straitref20_Name.ret at hh
  split at hh
  · exact hk _ _ _ _ hh
  · exact hh.elim
def straitref20_Name.call (f : FuncId) (vs : List Value) (h : Heap) (K : Value → Heap → Prop) : Prop := match f, vs with
  | 21, [(.agg ⟨[(.int .i64 a1), (.slice a2 a2l a2c)]⟩)] => callP3 (straitref20_Of a1 a2 a2l a2c h) fun r9 r9l r9c h' => K (.slice r9 r9l r9c) h'
  | _, _ => False
def straitref20_Name.r0 (K : Nat → List Value → Heap → Prop) (m : Nat) (vs : List Value) (h : Heap) : Prop := match vs with
  | [(.slice (some c3_1001) c3_1002 c3_1003), (.slice c4_1004 c4_1005 c4_1006), (.int .i64 v5_1007)] => straitref20_Name.l0 (fun h' => K 2 [(.slice (some c3_1001) c3_1002 c3_1003)] h') m c3_1001 c3_1002 c3_1003 c4_1004 c4_1005 c4_1006 v5_1007 h
  | _ => False
def straitref20_Name.r1 (K : Nat → List Value → Heap → Prop) (m : Nat) (vs : List Value) (h : Heap) : Prop := match vs with
  | [(.slice (some c3_2001) c3_2002 c3_2003), (.slice c4_2004 c4_2005 c4_2006), (.int .i64 c5_2007), (.int .i64 v6_2008)] => straitref20_Name.l1 (fun h' => K 4 [(.slice (some c3_2001) c3_2002 c3_2003), (.slice c4_2004 c4_2005 c4_2006), (.int .i64 c5_2007)] h') m c3_2001 c3_2002 c3_2003 c4_2004 c4_2005 c4_2006 c5_2007 v6_2008 h
  | _ => False
def straitref20_Name.loop (i : Nat) (vs : List Value) (h : Heap) (K : Nat → List Value → Heap → Prop) : Prop := match i with
  | 0 => ∃ m, straitref20_Name.r0 K m vs h
  | 1 => ∃ m, straitref20_Name.r1 K m vs h
  | _ => False
noncomputable def straitref20_Name.ctx : Ctx := { P := Tryz.prog, call := straitref20_Name.call, qcall := fun _ _ _ _ => False, quiet := fun f => Nat.beq f 1000131 || Nat.beq f 1000155, loop := straitref20_Name.loop }
theorem straitref20_Name.ok [DKc] : straitref20_Name.ctx.OK where
  mixed := by kernel_rfl
  mono := by
    intro f args h K K' hh hk
    change straitref20_Name.call f args h K at hh
    change straitref20_Name.call f args h K'
    unfold straitref20_Name.call at hh ⊢
    split at hh
    · obtain ⟨R, h1, h2⟩ := hh
      exact ⟨R, h1, fun _ _ _ x hr => hk _ _ (h2 _ _ _ x hr)⟩
    · exact hh.elim
  call := by
    intro f args h K hh w hw
    change straitref20_Name.call f args h K at hh
    unfold straitref20_Name.call at hh
    split at hh
    · obtain ⟨R, h1, h2⟩ := hh
      obtain ⟨g1, g2⟩ := straitref20_Of.calls h1 w hw
      exact ⟨g1, g2.mono fun e w' ⟨v, he, ho, hr⟩ => ⟨v, he, ho, straitref20_Of.ret_elim h2 hr⟩⟩
    · exact hh.elim
  qmono := fun hh _ => hh.elim
  qval := fun hh => hh.elim
  qcall := fun hh => hh.elim
noncomputable def straitref20_Name.code : Code := (Tryz.f24.body).getD .skip
def straitref20_Name.ann : Ann := (.two .auto (.two .auto (.two .auto (.two (.two .auto (.two (.loop 0 [3, 4, 5] [(2, [3])] (.two .auto (.two (.two (.two .auto (.two (.loop 1 [3, 4, 5, 6] [(4, [3, 4, 5])] (.two .auto (.two (.two (.reg [0, 0, 0, 6, 14, 0, 62, 126, 0, 0, 768, 1792, 3840, 7936, 16383, 32767] (.take 0 (.take 1 (.take 2 (.take 3 (.take 4 (.take 5 (.take 6 (.take 7 (.take 8 (.take 9 (.take 10 (.take 11 (.take 12 (.take 13 (.take 14 (.alt 15 .done .noalt))))))))))))))))) .auto) .auto))) .auto)) .auto) .auto))) .auto)) .auto))))
noncomputable def straitref20_Name.c1 : Code := sub straitref20_Name.code [1, 1, 1, 0, 1, 0, 0, 1, 0, 0, 1, 0, 0]
def straitref20_Name.a1 : Ann := (.two .auto (.two (.two (.reg [0, 0, 0, 6, 14, 0, 62, 126, 0, 0, 768, 1792, 3840, 7936, 16383, 32767] (.take 0 (.take 1 (.take 2 (.take 3 (.take 4 (.take 5 (.take 6 (.take 7 (.take 8 (.take 9 (.take 10 (.take 11 (.take 12 (.take 13 (.take 14 (.alt 15 .done .noalt))))))))))))))))) .auto) .auto))
def straitref20_Name.keep1 : List Nat := [3, 4, 5, 6]
def straitref20_Name.outs1 : List (Nat × List Nat) := [(4, [3, 4, 5])]
noncomputable def straitref20_Name.c0 : Code := sub straitref20_Name.code [1, 1, 1, 0, 1, 0, 0]
def straitref20_Name.a0 : Ann := (.two .auto (.two (.two (.two .auto (.two (.loop 1 [3, 4, 5, 6] [(4, [3, 4, 5])] (.two .auto (.two (.two (.reg [0, 0, 0, 6, 14, 0, 62, 126, 0, 0, 768, 1792, 3840, 7936, 16383, 32767] (.take 0 (.take 1 (.take 2 (.take 3 (.take 4 (.take 5 (.take 6 (.take 7 (.take 8 (.take 9 (.take 10 (.take 11 (.take 12 (.take 13 (.take 14 (.alt 15 .done .noalt))))))))))))))))) .auto) .auto))) .auto)) .auto) .auto))
def straitref20_Name.keep0 : List Nat := [3, 4, 5]
def straitref20_Name.outs0 : List (Nat × List Nat) := [(2, [3])]
set_option maxRecDepth 100000 in
theorem straitref20_Name.L1 [DKc] : LoopOK straitref20_Name.ctx 43 straitref20_Name.c1 1 straitref20_Name.keep1 straitref20_Name.outs1 := by
  refine loop_ok (n := straitref20_Name.a1) straitref20_Name.ok (by kernel_rfl) (loops_ok (l := []) (by kernel_rfl) ?_) straitref20_Name.r1 ?_ ?_ (fun vs h K hh => hh)
  · exact trivial
  · intro K vs h hh
    unfold straitref20_Name.r1 at hh
    split at hh
    · exact hh
    · exact hh
  · intro K m vs h hh
    unfold straitref20_Name.r1 at hh
    split at hh
    · exact cast (by kernel_rfl) hh
    · exact hh.elim
set_option maxRecDepth 100000 in
theorem straitref20_Name.L0 [DKc] : LoopOK straitref20_Name.ctx 43 straitref20_Name.c0 0 straitref20_Name.keep0 straitref20_Name.outs0 := by
  refine loop_ok (n := straitref20_Name.a0) straitref20_Name.ok (by kernel_rfl) (loops_ok (l := [(straitref20_Name.c1, none, 1, straitref20_Name.keep1, straitref20_Name.outs1)]) (by kernel_rfl) ?_) straitref20_Name.r0 ?_ ?_ (fun vs h K hh => hh)
  · exact ⟨straitref20_Name.L1, trivial⟩
  · intro K vs h hh
    unfold straitref20_Name.r0 at hh
    split at hh
    · exact hh
    · exact hh
  · intro K m vs h hh
    unfold straitref20_Name.r0 at hh
    split at hh
    · exact cast (by kernel_rfl) hh
    · exact hh.elim
set_option maxRecDepth 100000 in
theorem straitref20_Name.eq (a1 : Int) (a2 : Option Addr) (a2l : Nat) (a2c : Nat) (h : Heap) (K : (Option Addr) → Nat → Nat → Heap → Prop) : evF straitref20_Name.ctx Tryz.f24 straitref20_Name.ann [(.agg #[(.int .i64 a1), (.slice a2 a2l a2c)])] h (straitref20_Name.ret K) = straitref20_Name a1 a2 a2l a2c h K := by kernel_rfl
set_option maxRecDepth 100000 in
theorem straitref20_Name.calls [DKc] {a1 : Int} {a2 : Option Addr} {a2l : Nat} {a2c : Nat} {h : Heap} {K : (Option Addr) → Nat → Nat → Heap → Prop} (hh : straitref20_Name a1 a2 a2l a2c h K) (w : World) (hw : w.heap = h) :
    (callFunc 24 #[(.agg #[(.int .i64 a1), (.slice a2 a2l a2c)])]).run Tryz.prog w = .ok (.enter 24 #[(.agg #[(.int .i64 a1), (.slice a2 a2l a2c)])]) w ∧ Calls Tryz.prog 24 #[(.agg #[(.int .i64 a1), (.slice a2 a2l a2c)])] w fun e w' => ∃ v, e = .returned v ∧ Out w w' ∧ straitref20_Name.ret K v w'.heap := by
  rw [← straitref20_Name.eq] at hh
  exact fn_calls (args := [(.agg #[(.int .i64 a1), (.slice a2 a2l a2c)])]) (c := straitref20_Name.code) straitref20_Name.ok Tryz.func24 (by kernel_rfl) (by kernel_rfl) (by kernel_rfl) (by kernel_rfl) (loops_ok (l := [(straitref20_Name.c0, none, 0, straitref20_Name.keep0, straitref20_Name.outs0)]) (by kernel_rfl) ⟨straitref20_Name.L0, trivial⟩) hh w hw

/-! ### strait/straitlaw20.CompTells: function 4 -/
section
variable [DKc]
def straitlaw20_CompTells (a1 : Int) (a2 : Option Addr) (a2l : Nat) (a2c : Nat) (a3 : Int) (a4 : Int) (h : Heap) (K : Bool → Heap → Prop) : Prop :=
  newP h (.cells #[(.int .i64 a3), (.int .i64 a4)] 43) fun a5 h6 => ((iteB (decide ((a2l : Int) > (60 : Int))) (callP1 (straitlaw20_awake h6) fun x7 h8 => K x7 h8) ((callP3 (net_New (IntKind.i64.wrap a1) a2 a2l a2c h6) fun x9 x10 x11 h12 => ((iteB (x10 != (0 : Int)) (callP3 (comp_Of none h12) fun x13 x13l x13c h14 => iteB ((x13l : Int) == (0 : Int)) (callP3 (comp_Heavy none 0 h14) fun x15 x15l x15c h16 => iteB ((x15l : Int) == (0 : Int)) (callP3 (comp_Reach none 0 h16) fun x17 x17l x17c h18 => iteB ((x17l : Int) == (0 : Int)) (callP1 (comp_Count none h18) fun x19 h20 => iteB (x19 == (0 : Int)) (callP3 (comp_Bridges none h20) fun x21 x21l x21c h22 => iteB ((x21l : Int) == (0 : Int)) (callP3 (comp_Name none h22) fun x23 x23l x23c h24 => iteB ((x23l : Int) == (0 : Int)) (callP1 (straitlaw20_awake h24) fun x25 h26 => K x25 h26) (K false h24)) (K false h22)) (K false h20)) (K false h18)) (K false h16)) (K false h14)) ((callP6 (straitref16_New (IntKind.i64.wrap a1) a2 a2l a2c h12) fun x29 x30 x30l x30c x31 x32 h33 => newP h33 (.cells #[(.int .i64 0), (.slice none 0 0)] 29) fun a34 h35 => stC h35 a34 (.int .i64 x29) fun h36 => stC h36 (a34.add 1) (.slice x30 x30l x30c) fun h37 => (∃ (x38 : Int), cell h37 a34 = some (.int .i64 x38) ∧ ∃ (x39 : Option Addr) (x39l : Nat) (x39c : Nat), cell h37 (a34.add 1) = some (.slice x39 x39l x39c) ∧ callP3 (comp_Of x9 h37) fun x40 x40l x40c h41 => (∃ (x42 : Int), cell h41 a34 = some (.int .i64 x42) ∧ ∃ (x43 : Option Addr) (x43l : Nat) (x43c : Nat), cell h41 (a34.add 1) = some (.slice x43 x43l x43c) ∧ ((.agg #[(.int .i64 x42), (.slice x43 x43l x43c)]) : Value) = (.agg #[(.int .i64 x38), (.slice x39 x39l x39c)])) ∧ callP3 (straitref20_Of x38 x39 x39l x39c h41) fun x44 x44l x44c h45 => qcallP1 h45 (straitref10_Lists x40 x40l x40c x44 x44l x44c h45) fun x46 => iteB x46 ((0 ≤ (0 : Int) ∧ (0 : Int) < (2 : Int)) ∧ ∃ (x47 : Int), cell h45 (a5.add ((0 : Int).toNat * 1)) = some (.int .i64 x47) ∧ (0 ≤ (0 : Int) ∧ (0 : Int) < (2 : Int)) ∧ ∃ (x48 : Int), cell h45 a34 = some (.int .i64 x48) ∧ ∃ (x49 : Option Addr) (x49l : Nat) (x49c : Nat), cell h45 (a34.add 1) = some (.slice x49 x49l x49c) ∧ ∃ (x50 : Int), cell h45 (a5.add ((0 : Int).toNat * 1)) = some (.int .i64 x50) ∧ callP3 (comp_Heavy x9 x47 h45) fun x51 x51l x51c h52 => (∃ (x53 : Int), cell h52 (a5.add ((0 : Int).toNat * 1)) = some (.int .i64 x53) ∧ ((.int .i64 x53) : Value) = (.int .i64 x50)) ∧ (∃ (x54 : Int), cell h52 a34 = some (.int .i64 x54) ∧ ∃ (x55 : Option Addr) (x55l : Nat) (x55c : Nat), cell h52 (a34.add 1) = some (.slice x55 x55l x55c) ∧ ((.agg #[(.int .i64 x54), (.slice x55 x55l x55c)]) : Value) = (.agg #[(.int .i64 x48), (.slice x49 x49l x49c)])) ∧ callP3 (straitref20_Heavy x48 x49 x49l x49c x50 h52) fun x56 x56l x56c h57 => qcallP1 h57 (straitref10_Lists x51 x51l x51c x56 x56l x56c h57) fun x58 => iteB x58 (∃ (x59 : Int), cell h57 a34 = some (.int .i64 x59) ∧ ∃ (x60 : Option Addr) (x60l : Nat) (x60c : Nat), cell h57 (a34.add 1) = some (.slice x60 x60l x60c) ∧ callP1 (comp_Count x9 h57) fun x61 h62 => (∃ (x63 : Int), cell h62 a34 = some (.int .i64 x63) ∧ ∃ (x64 : Option Addr) (x64l : Nat) (x64c : Nat), cell h62 (a34.add 1) = some (.slice x64 x64l x64c) ∧ ((.agg #[(.int .i64 x63), (.slice x64 x64l x64c)]) : Value) = (.agg #[(.int .i64 x59), (.slice x60 x60l x60c)])) ∧ callP3 (straitref20_Of x59 x60 x60l x60c h62) fun x65 x65l x65c h66 => iteB (x61 == (x65l : Int)) ((0 ≤ (1 : Int) ∧ (1 : Int) < (2 : Int)) ∧ ∃ (x67 : Int), cell h66 (a5.add ((1 : Int).toNat * 1)) = some (.int .i64 x67) ∧ (0 ≤ (1 : Int) ∧ (1 : Int) < (2 : Int)) ∧ ∃ (x68 : Int), cell h66 a34 = some (.int .i64 x68) ∧ ∃ (x69 : Option Addr) (x69l : Nat) (x69c : Nat), cell h66 (a34.add 1) = some (.slice x69 x69l x69c) ∧ ∃ (x70 : Int), cell h66 (a5.add ((1 : Int).toNat * 1)) = some (.int .i64 x70) ∧ callP3 (comp_Reach x9 x67 h66) fun x71 x71l x71c h72 => (∃ (x73 : Int), cell h72 (a5.add ((1 : Int).toNat * 1)) = some (.int .i64 x73) ∧ ((.int .i64 x73) : Value) = (.int .i64 x70)) ∧ (∃ (x74 : Int), cell h72 a34 = some (.int .i64 x74) ∧ ∃ (x75 : Option Addr) (x75l : Nat) (x75c : Nat), cell h72 (a34.add 1) = some (.slice x75 x75l x75c) ∧ ((.agg #[(.int .i64 x74), (.slice x75 x75l x75c)]) : Value) = (.agg #[(.int .i64 x68), (.slice x69 x69l x69c)])) ∧ callP3 (straitref20_Reach x68 x69 x69l x69c x70 h72) fun x76 x76l x76c h77 => qcallP1 h77 (straitref09_Ints x71 x71l x71c x76 x76l x76c h77) fun x78 => iteB x78 (∃ (x79 : Int), cell h77 a34 = some (.int .i64 x79) ∧ ∃ (x80 : Option Addr) (x80l : Nat) (x80c : Nat), cell h77 (a34.add 1) = some (.slice x80 x80l x80c) ∧ callP3 (comp_Name x9 h77) fun x81 x81l x81c h82 => (∃ (x83 : Int), cell h82 a34 = some (.int .i64 x83) ∧ ∃ (x84 : Option Addr) (x84l : Nat) (x84c : Nat), cell h82 (a34.add 1) = some (.slice x84 x84l x84c) ∧ ((.agg #[(.int .i64 x83), (.slice x84 x84l x84c)]) : Value) = (.agg #[(.int .i64 x79), (.slice x80 x80l x80c)])) ∧ callP3 (straitref20_Name x79 x80 x80l x80c h82) fun x85 x85l x85c h86 => qcallP1 h86 (straitref09_Ints x81 x81l x81c x85 x85l x85c h86) fun x87 => iteB x87 (callP1 (straitlaw20_awake h86) fun x88 h89 => K x88 h89) (K false h86)) (True ∧ K false h77)) (True ∧ True ∧ True ∧ K false h66)) (True ∧ True ∧ True ∧ True ∧ K false h57)) (True ∧ True ∧ True ∧ True ∧ True ∧ True ∧ K false h45))))))))))
def straitlaw20_CompTells.ret (K : Bool → Heap → Prop) (v : Value) (h : Heap) : Prop := match v with
  | (.bool r92) => K r92 h
  | _ => False
theorem straitlaw20_CompTells.ret_elim {K : Bool → Heap → Prop} {K' : Value → Heap → Prop} {v : Value} {h : Heap} (hk : ∀ r92 h, K r92 h → K' (.bool r92) h) (hh : straitlaw20_CompTells.ret K v h) : K' v h := by
  unfold straitlaw20_CompTells.ret at hh
  split at hh
  · exact hk _ _ hh
  · exact hh.elim
def straitlaw20_CompTells.call (f : FuncId) (vs : List Value) (h : Heap) (K : Value → Heap → Prop) : Prop := match f, vs with
  | 7, [] => callP1 (straitlaw20_awake h) fun r20 h' => K (.bool r20) h'
  | 8, [(.int .i64 a1), (.slice a2 a2l a2c)] => callP3 (net_New a1 a2 a2l a2c h) fun r37 r38 r39 h' => K (.tuple #[(.pointer r37), (.int .i64 r38), (.int .i64 r39)]) h'
  | 9, [(.int .i64 a1), (.slice a2 a2l a2c)] => callP6 (straitref16_New a1 a2 a2l a2c h) fun r52 r53 r53l r53c r54 r55 h' => K (.agg #[(.int .i64 r52), (.slice r53 r53l r53c), (.int .i64 r54), (.int .i64 r55)]) h'
  | 10, [(.pointer a1)] => callP3 (comp_Bridges a1 h) fun r43 r43l r43c h' => K (.slice r43 r43l r43c) h'
  | 15, [(.pointer a1)] => callP1 (comp_Count a1 h) fun r5 h' => K (.int .i64 r5) h'
  | 16, [(.pointer a1)] => callP3 (comp_Of a1 h) fun r4 r4l r4c h' => K (.slice r4 r4l r4c) h'
  | 17, [(.pointer a1), (.int .i64 a2)] => callP3 (comp_Heavy a1 a2 h) fun r7 r7l r7c h' => K (.slice r7 r7l r7c) h'
  | 18, [(.pointer a1), (.int .i64 a2)] => callP3 (comp_Reach a1 a2 h) fun r16 r16l r16c h' => K (.slice r16 r16l r16c) h'
  | 19, [(.pointer a1)] => callP3 (comp_Name a1 h) fun r9 r9l r9c h' => K (.slice r9 r9l r9c) h'
  | 21, [(.agg ⟨[(.int .i64 a1), (.slice a2 a2l a2c)]⟩)] => callP3 (straitref20_Of a1 a2 a2l a2c h) fun r9 r9l r9c h' => K (.slice r9 r9l r9c) h'
  | 22, [(.agg ⟨[(.int .i64 a1), (.slice a2 a2l a2c)]⟩), (.int .i64 a3)] => callP3 (straitref20_Heavy a1 a2 a2l a2c a3 h) fun r17 r17l r17c h' => K (.slice r17 r17l r17c) h'
  | 23, [(.agg ⟨[(.int .i64 a1), (.slice a2 a2l a2c)]⟩), (.int .i64 a3)] => callP3 (straitref20_Reach a1 a2 a2l a2c a3 h) fun r14 r14l r14c h' => K (.slice r14 r14l r14c) h'
  | 24, [(.agg ⟨[(.int .i64 a1), (.slice a2 a2l a2c)]⟩)] => callP3 (straitref20_Name a1 a2 a2l a2c h) fun r14 r14l r14c h' => K (.slice r14 r14l r14c) h'
  | _, _ => False
def straitlaw20_CompTells.qcall (f : FuncId) (vs : List Value) (h : Heap) (K : Value → Prop) : Prop := match f, vs with
  | 11, [(.slice a1 a1l a1c), (.slice a2 a2l a2c)] => qcallP1 h (straitref09_Ints a1 a1l a1c a2 a2l a2c h) fun r7 => K (.bool r7)
  | 20, [(.slice a1 a1l a1c), (.slice a2 a2l a2c)] => qcallP1 h (straitref10_Lists a1 a1l a1c a2 a2l a2c h) fun r7 => K (.bool r7)
  | _, _ => False
noncomputable def straitlaw20_CompTells.ctx : Ctx := { P := Tryz.prog, call := straitlaw20_CompTells.call, qcall := straitlaw20_CompTells.qcall, quiet := fun f => Nat.beq f 11 || Nat.beq f 20 || Nat.beq f 1000131 || Nat.beq f 1000155, loop := fun _ _ _ _ => False }
theorem straitlaw20_CompTells.ok : straitlaw20_CompTells.ctx.OK where
  mixed := by kernel_rfl
  mono := by
    intro f args h K K' hh hk
    change straitlaw20_CompTells.call f args h K at hh
    change straitlaw20_CompTells.call f args h K'
    unfold straitlaw20_CompTells.call at hh ⊢
    split at hh
    · obtain ⟨R, h1, h2⟩ := hh
      exact ⟨R, h1, fun _ x hr => hk _ _ (h2 _ x hr)⟩
    · obtain ⟨R, h1, h2⟩ := hh
      exact ⟨R, h1, fun _ _ _ x hr => hk _ _ (h2 _ _ _ x hr)⟩
    · obtain ⟨R, h1, h2⟩ := hh
      exact ⟨R, h1, fun _ _ _ _ _ _ x hr => hk _ _ (h2 _ _ _ _ _ _ x hr)⟩
    · obtain ⟨R, h1, h2⟩ := hh
      exact ⟨R, h1, fun _ _ _ x hr => hk _ _ (h2 _ _ _ x hr)⟩
    · obtain ⟨R, h1, h2⟩ := hh
      exact ⟨R, h1, fun _ x hr => hk _ _ (h2 _ x hr)⟩
    · obtain ⟨R, h1, h2⟩ := hh
      exact ⟨R, h1, fun _ _ _ x hr => hk _ _ (h2 _ _ _ x hr)⟩
    · obtain ⟨R, h1, h2⟩ := hh
      exact ⟨R, h1, fun _ _ _ x hr => hk _ _ (h2 _ _ _ x hr)⟩
    · obtain ⟨R, h1, h2⟩ := hh
      exact ⟨R, h1, fun _ _ _ x hr => hk _ _ (h2 _ _ _ x hr)⟩
    · obtain ⟨R, h1, h2⟩ := hh
      exact ⟨R, h1, fun _ _ _ x hr => hk _ _ (h2 _ _ _ x hr)⟩
    · obtain ⟨R, h1, h2⟩ := hh
      exact ⟨R, h1, fun _ _ _ x hr => hk _ _ (h2 _ _ _ x hr)⟩
    · obtain ⟨R, h1, h2⟩ := hh
      exact ⟨R, h1, fun _ _ _ x hr => hk _ _ (h2 _ _ _ x hr)⟩
    · obtain ⟨R, h1, h2⟩ := hh
      exact ⟨R, h1, fun _ _ _ x hr => hk _ _ (h2 _ _ _ x hr)⟩
    · obtain ⟨R, h1, h2⟩ := hh
      exact ⟨R, h1, fun _ _ _ x hr => hk _ _ (h2 _ _ _ x hr)⟩
    · exact hh.elim
  call := by
    intro f args h K hh w hw
    change straitlaw20_CompTells.call f args h K at hh
    unfold straitlaw20_CompTells.call at hh
    split at hh
    · obtain ⟨R, h1, h2⟩ := hh
      obtain ⟨g1, g2⟩ := straitlaw20_awake.calls h1 w hw
      exact ⟨g1, g2.mono fun e w' ⟨v, he, ho, hr⟩ => ⟨v, he, ho, straitlaw20_awake.ret_elim h2 hr⟩⟩
    · obtain ⟨R, h1, h2⟩ := hh
      obtain ⟨g1, g2⟩ := net_New.calls h1 w hw
      exact ⟨g1, g2.mono fun e w' ⟨v, he, ho, hr⟩ => ⟨v, he, ho, net_New.ret_elim h2 hr⟩⟩
    · obtain ⟨R, h1, h2⟩ := hh
      obtain ⟨g1, g2⟩ := straitref16_New.calls h1 w hw
      exact ⟨g1, g2.mono fun e w' ⟨v, he, ho, hr⟩ => ⟨v, he, ho, straitref16_New.ret_elim h2 hr⟩⟩
    · obtain ⟨R, h1, h2⟩ := hh
      obtain ⟨g1, g2⟩ := comp_Bridges.calls h1 w hw
      exact ⟨g1, g2.mono fun e w' ⟨v, he, ho, hr⟩ => ⟨v, he, ho, comp_Bridges.ret_elim h2 hr⟩⟩
    · obtain ⟨R, h1, h2⟩ := hh
      obtain ⟨g1, g2⟩ := comp_Count.calls h1 w hw
      exact ⟨g1, g2.mono fun e w' ⟨v, he, ho, hr⟩ => ⟨v, he, ho, comp_Count.ret_elim h2 hr⟩⟩
    · obtain ⟨R, h1, h2⟩ := hh
      obtain ⟨g1, g2⟩ := comp_Of.calls h1 w hw
      exact ⟨g1, g2.mono fun e w' ⟨v, he, ho, hr⟩ => ⟨v, he, ho, comp_Of.ret_elim h2 hr⟩⟩
    · obtain ⟨R, h1, h2⟩ := hh
      obtain ⟨g1, g2⟩ := comp_Heavy.calls h1 w hw
      exact ⟨g1, g2.mono fun e w' ⟨v, he, ho, hr⟩ => ⟨v, he, ho, comp_Heavy.ret_elim h2 hr⟩⟩
    · obtain ⟨R, h1, h2⟩ := hh
      obtain ⟨g1, g2⟩ := comp_Reach.calls h1 w hw
      exact ⟨g1, g2.mono fun e w' ⟨v, he, ho, hr⟩ => ⟨v, he, ho, comp_Reach.ret_elim h2 hr⟩⟩
    · obtain ⟨R, h1, h2⟩ := hh
      obtain ⟨g1, g2⟩ := comp_Name.calls h1 w hw
      exact ⟨g1, g2.mono fun e w' ⟨v, he, ho, hr⟩ => ⟨v, he, ho, comp_Name.ret_elim h2 hr⟩⟩
    · obtain ⟨R, h1, h2⟩ := hh
      obtain ⟨g1, g2⟩ := straitref20_Of.calls h1 w hw
      exact ⟨g1, g2.mono fun e w' ⟨v, he, ho, hr⟩ => ⟨v, he, ho, straitref20_Of.ret_elim h2 hr⟩⟩
    · obtain ⟨R, h1, h2⟩ := hh
      obtain ⟨g1, g2⟩ := straitref20_Heavy.calls h1 w hw
      exact ⟨g1, g2.mono fun e w' ⟨v, he, ho, hr⟩ => ⟨v, he, ho, straitref20_Heavy.ret_elim h2 hr⟩⟩
    · obtain ⟨R, h1, h2⟩ := hh
      obtain ⟨g1, g2⟩ := straitref20_Reach.calls h1 w hw
      exact ⟨g1, g2.mono fun e w' ⟨v, he, ho, hr⟩ => ⟨v, he, ho, straitref20_Reach.ret_elim h2 hr⟩⟩
    · obtain ⟨R, h1, h2⟩ := hh
      obtain ⟨g1, g2⟩ := straitref20_Name.calls h1 w hw
      exact ⟨g1, g2.mono fun e w' ⟨v, he, ho, hr⟩ => ⟨v, he, ho, straitref20_Name.ret_elim h2 hr⟩⟩
    · exact hh.elim
  qmono := by
    intro f args h K K' hh hk
    change straitlaw20_CompTells.qcall f args h K at hh
    change straitlaw20_CompTells.qcall f args h K'
    unfold straitlaw20_CompTells.qcall at hh ⊢
    split at hh
    · obtain ⟨x0, h1, h2⟩ := hh
      exact ⟨x0, h1, hk _ h2⟩
    · obtain ⟨x0, h1, h2⟩ := hh
      exact ⟨x0, h1, hk _ h2⟩
    · exact hh.elim
  qval := by
    intro f args h K hh
    change straitlaw20_CompTells.qcall f args h K at hh
    suffices H : ∃ v, K v ∧ straitlaw20_CompTells.qcall f args h (· = v) from H
    unfold straitlaw20_CompTells.qcall at hh ⊢
    split at hh
    · obtain ⟨x0, h1, h2⟩ := hh
      exact ⟨_, h2, x0, h1, rfl⟩
    · obtain ⟨x0, h1, h2⟩ := hh
      exact ⟨_, h2, x0, h1, rfl⟩
    · exact hh.elim
  qcall := by
    intro f args h v hh w hw
    change straitlaw20_CompTells.qcall f args h (· = v) at hh
    unfold straitlaw20_CompTells.qcall at hh
    split at hh
    · obtain ⟨x0, h1, h2⟩ := hh
      obtain ⟨g1, g2⟩ := straitref09_Ints.calls h1 w hw
      refine .inl ⟨g1, g2.mono fun e w' ⟨u, he, ho, hr⟩ => ?_⟩
      have hq := straitref09_Ints.ret_elim (K' := fun u h' => u = v ∧ h' = h) (fun _ h' hr => by obtain ⟨rfl, rfl⟩ := hr; exact ⟨h2, rfl⟩) hr
      exact ⟨hq.1 ▸ he, ho, hq.2⟩
    · obtain ⟨x0, h1, h2⟩ := hh
      obtain ⟨g1, g2⟩ := straitref10_Lists.calls h1 w hw
      refine .inl ⟨g1, g2.mono fun e w' ⟨u, he, ho, hr⟩ => ?_⟩
      have hq := straitref10_Lists.ret_elim (K' := fun u h' => u = v ∧ h' = h) (fun _ h' hr => by obtain ⟨rfl, rfl⟩ := hr; exact ⟨h2, rfl⟩) hr
      exact ⟨hq.1 ▸ he, ho, hq.2⟩
    · exact hh.elim
noncomputable def straitlaw20_CompTells.code : Code := (Tryz.f4.body).getD .skip
def straitlaw20_CompTells.ann : Ann := (.two .auto (.two .auto (.two .auto (.two .auto (.two .auto (.two (.reg [0, 1, 0, 7, 15, 31, 63, 63, 191, 511, 63, 63, 2111, 8191, 16383, 32767, 65535, 131071, 262143, 131071, 1048575, 2097151, 4194303, 8388607, 16777215, 33554431, 33554431, 100663295, 268435455, 33554431, 33554431, 1107296255, 4294967295, 8589934591, 17179869183, 34359738367, 68719476735, 137438953471, 68719476735, 549755813887, 1099511627775, 2199023255551, 4398046511103, 8796093022207, 17592186044415, 35184372088831] (.take 0 (.early 2 (.alt 1 (.alt 3 (.take 4 (.take 5 (.take 6 (.take 7 (.take 8 (.take 11 (.early 10 (.early 12 (.alt 9 (.alt 13 (.take 14 (.take 15 (.take 16 (.take 17 (.early 19 (.alt 18 (.alt 20 (.take 21 (.take 22 (.take 23 (.take 24 (.take 25 (.take 26 (.take 27 (.take 30 (.early 29 (.early 31 (.alt 28 (.alt 32 (.take 33 (.take 34 (.take 35 (.take 36 (.early 38 (.alt 37 (.alt 39 (.take 40 (.take 41 (.take 42 (.alt 43 (.take 44 (.take 45 .done)) .noalt)))) .noalt) .noalt)))))) .noalt) .noalt))))))))))) .noalt) .noalt)))))) .noalt) .noalt))))))))) .noalt) .noalt)))) .auto))))))
set_option maxRecDepth 100000 in
theorem straitlaw20_CompTells.eq (a1 : Int) (a2 : Option Addr) (a2l : Nat) (a2c : Nat) (a3 : Int) (a4 : Int) (h : Heap) (K : Bool → Heap → Prop) : evF straitlaw20_CompTells.ctx Tryz.f4 straitlaw20_CompTells.ann [(.int .u8 a1), (.slice a2 a2l a2c), (.agg #[(.int .i64 a3), (.int .i64 a4)])] h (straitlaw20_CompTells.ret K) = straitlaw20_CompTells a1 a2 a2l a2c a3 a4 h K := by kernel_rfl
set_option maxRecDepth 100000 in
theorem straitlaw20_CompTells.calls {a1 : Int} {a2 : Option Addr} {a2l : Nat} {a2c : Nat} {a3 : Int} {a4 : Int} {h : Heap} {K : Bool → Heap → Prop} (hh : straitlaw20_CompTells a1 a2 a2l a2c a3 a4 h K) (w : World) (hw : w.heap = h) :
    (callFunc 4 #[(.int .u8 a1), (.slice a2 a2l a2c), (.agg #[(.int .i64 a3), (.int .i64 a4)])]).run Tryz.prog w = .ok (.enter 4 #[(.int .u8 a1), (.slice a2 a2l a2c), (.agg #[(.int .i64 a3), (.int .i64 a4)])]) w ∧ Calls Tryz.prog 4 #[(.int .u8 a1), (.slice a2 a2l a2c), (.agg #[(.int .i64 a3), (.int .i64 a4)])] w fun e w' => ∃ v, e = .returned v ∧ Out w w' ∧ straitlaw20_CompTells.ret K v w'.heap := by
  rw [← straitlaw20_CompTells.eq] at hh
  exact fn_calls (args := [(.int .u8 a1), (.slice a2 a2l a2c), (.agg #[(.int .i64 a3), (.int .i64 a4)])]) (c := straitlaw20_CompTells.code) straitlaw20_CompTells.ok Tryz.func4 (by kernel_rfl) (by kernel_rfl) (by kernel_rfl) (by kernel_rfl) (loops_ok (l := []) (by kernel_rfl) trivial) hh w hw
end

end Go.Proofs.YtbhndlpjfncliaaGreat
