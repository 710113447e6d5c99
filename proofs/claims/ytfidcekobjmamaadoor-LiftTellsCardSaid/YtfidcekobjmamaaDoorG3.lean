/- WRITTEN BY A PROGRAM OF THIS SESSION (gen.py): what each function asks of memory, and that the model's run comes to it. -/
import Derived.Test.YtfidcekobjmamaaDoorProg
import Derived.Test.YtfidcekobjmamaaDoorFw8
import Derived.Test.YtfidcekobjmamaaDoorG2
namespace Go.Proofs.YtfidcekobjmamaaDoor
open Go.Hp
set_option linter.unusedVariables false
set_option linter.unusedSimpArgs false

/-! ### strait/straitref29.Path: function 34 -/
def straitref29_Path.b1 (K4 : (Option Addr) → Nat → Nat → Heap → Prop) (cont : (Option Addr) → Nat → Nat → (Option Addr) → Nat → Nat → (Option Addr) → Nat → Nat → Int → Heap → Prop) (v7_2001 : Option Addr) (v7_2001l : Nat) (v7_2001c : Nat) (c8_2002 : Option Addr) (c8_2003 : Nat) (c8_2004 : Nat) (c9_2005 : Option Addr) (c9_2006 : Nat) (c9_2007 : Nat) (v11_2008 : Int) (h2009 : Heap) : Prop :=
  (iteB (decide (v11_2008 ≥ (0 : Int))) ((chkP c9_2005 fun a2010 => (0 ≤ v11_2008 ∧ v11_2008 < (c9_2006 : Int)) ∧ ∃ (x2011 : Int), cell h2009 (a2010.add (v11_2008.toNat * 1)) = some (.int .i64 x2011) ∧ qcallP1 h2009 (straitref21_In c8_2002 c8_2003 c8_2004 x2011 h2009) fun x2012 => (iteB (!x2012) (chkP c9_2005 fun a2013 => (0 ≤ v11_2008 ∧ v11_2008 < (c9_2006 : Int)) ∧ ∃ (x2014 : Int), cell h2009 (a2013.add (v11_2008.toNat * 1)) = some (.int .i64 x2014) ∧ newP h2009 (.cells #[(.int .i64 x2014)] 3) fun a2015 h2016 => ∃ n2021, cellsAt h2016 (some a2015) (1 * 1) n2021 ∧ appP 3 1 8 [(.int .i64 0)] v7_2001 v7_2001l v7_2001c 1 n2021 h2016 fun q2017 l2018 c2019 h2020 => ((cont q2017 l2018 c2019 c8_2002 c8_2003 c8_2004 c9_2005 c9_2006 c9_2007 (IntKind.i64.wrap (v11_2008 - 1)) h2020))) (((cont v7_2001 v7_2001l v7_2001c c8_2002 c8_2003 c8_2004 c9_2005 c9_2006 c9_2007 (IntKind.i64.wrap (v11_2008 - 1)) h2009)))))) (K4 v7_2001 v7_2001l v7_2001c h2009))
def straitref29_Path.l1 (K4 : (Option Addr) → Nat → Nat → Heap → Prop) : Nat → (Option Addr) → Nat → Nat → (Option Addr) → Nat → Nat → (Option Addr) → Nat → Nat → Int → Heap → Prop
  | 0, _, _, _, _, _, _, _, _, _, _, _ => False
  | m + 1, v7_2001, v7_2001l, v7_2001c, c8_2002, c8_2003, c8_2004, c9_2005, c9_2006, c9_2007, v11_2008, h => straitref29_Path.b1 K4 (straitref29_Path.l1 K4 m) v7_2001 v7_2001l v7_2001c c8_2002 c8_2003 c8_2004 c9_2005 c9_2006 c9_2007 v11_2008 h
def straitref29_Path.b0 (K0 : (Option Addr) → Nat → Nat → Heap → Prop) (K2 : (Option Addr) → Nat → Nat → Heap → Prop) (cont : (Option Addr) → Nat → Nat → (Option Addr) → Nat → Nat → (Option Addr) → Nat → Nat → Int → Heap → Prop) (v7_1001 : Option Addr) (v7_1001l : Nat) (v7_1001c : Nat) (c8_1002 : Option Addr) (c8_1003 : Nat) (c8_1004 : Nat) (c9_1005 : Option Addr) (c9_1006 : Nat) (c9_1007 : Nat) (v10_1008 : Int) (h1009 : Heap) : Prop :=
  (iteB (decide (v10_1008 < (c8_1003 : Int))) ((chkP c8_1002 fun a1010 => (0 ≤ v10_1008 ∧ v10_1008 < (c8_1003 : Int)) ∧ ∃ (x1011 : Int), cell h1009 (a1010.add (v10_1008.toNat * 1)) = some (.int .i64 x1011) ∧ newP h1009 (.cells #[(.int .i64 x1011)] 3) fun a1012 h1013 => ∃ n1018, cellsAt h1013 (some a1012) (1 * 1) n1018 ∧ appP 3 1 8 [(.int .i64 0)] v7_1001 v7_1001l v7_1001c 1 n1018 h1013 fun q1014 l1015 c1016 h1017 => (chkP c8_1002 fun a1019 => (0 ≤ v10_1008 ∧ v10_1008 < (c8_1003 : Int)) ∧ ∃ (x1020 : Int), cell h1017 (a1019.add (v10_1008.toNat * 1)) = some (.int .i64 x1020) ∧ qcallP1 h1017 (straitref21_In c9_1005 c9_1006 c9_1007 x1020 h1017) fun x1021 => (iteB x1021 ((∃ m1024, straitref29_Path.l1 (fun z1022 z1022l z1022c h1023 => (K0 z1022 z1022l z1022c h1023)) m1024 q1014 l1015 c1016 c8_1002 c8_1003 c8_1004 c9_1005 c9_1006 c9_1007 (IntKind.i64.wrap ((c9_1006 : Int) - 1)) h1017)) (((cont q1014 l1015 c1016 c8_1002 c8_1003 c8_1004 c9_1005 c9_1006 c9_1007 (IntKind.i64.wrap (v10_1008 + 1)) h1017))))))) (K2 v7_1001 v7_1001l v7_1001c h1009))
def straitref29_Path.l0 (K0 : (Option Addr) → Nat → Nat → Heap → Prop) (K2 : (Option Addr) → Nat → Nat → Heap → Prop) : Nat → (Option Addr) → Nat → Nat → (Option Addr) → Nat → Nat → (Option Addr) → Nat → Nat → Int → Heap → Prop
  | 0, _, _, _, _, _, _, _, _, _, _, _ => False
  | m + 1, v7_1001, v7_1001l, v7_1001c, c8_1002, c8_1003, c8_1004, c9_1005, c9_1006, c9_1007, v10_1008, h => straitref29_Path.b0 K0 K2 (straitref29_Path.l0 K0 K2 m) v7_1001 v7_1001l v7_1001c c8_1002 c8_1003 c8_1004 c9_1005 c9_1006 c9_1007 v10_1008 h
def straitref29_Path (a1 : Option Addr) (a1l : Nat) (a1c : Nat) (a2 : Option Addr) (a2l : Nat) (a2c : Nat) (a3 : Int) (a4 : Int) (h : Heap) (K : (Option Addr) → Nat → Nat → Heap → Prop) : Prop :=
  newP h (.cells #[(.slice a1 a1l a1c), (.slice a2 a2l a2c)] 25) fun a5 h6 => ((let j33 := (fun (h17 : Heap) => ∃ (x18 : Option Addr) (x18l : Nat) (x18c : Nat), cell h17 a5 = some (.slice x18 x18l x18c) ∧ ∃ (x19 : Option Addr) (x19l : Nat) (x19c : Nat), cell h17 (a5.add 1) = some (.slice x19 x19l x19c) ∧ ∃ (x20 : Option Addr) (x20l : Nat) (x20c : Nat), cell h17 a5 = some (.slice x20 x20l x20c) ∧ ∃ (x21 : Option Addr) (x21l : Nat) (x21c : Nat), cell h17 (a5.add 1) = some (.slice x21 x21l x21c) ∧ callP3 (straitref29_Up x18 x18l x18c x19 x19l x19c a3 h17) fun x22 x22l x22c h23 => (∃ (x24 : Option Addr) (x24l : Nat) (x24c : Nat), cell h23 a5 = some (.slice x24 x24l x24c) ∧ ∃ (x25 : Option Addr) (x25l : Nat) (x25c : Nat), cell h23 (a5.add 1) = some (.slice x25 x25l x25c) ∧ ((.agg #[(.slice x24 x24l x24c), (.slice x25 x25l x25c)]) : Value) = (.agg #[(.slice x20 x20l x20c), (.slice x21 x21l x21c)])) ∧ callP3 (straitref29_Up x20 x20l x20c x21 x21l x21c a4 h23) fun x26 x26l x26c h27 => ((∃ m32, straitref29_Path.l0 (fun z28 z28l z28c h29 => K z28 z28l z28c h29) (fun z30 z30l z30c h31 => (K z30 z30l z30c h31)) m32 none 0 0 x22 x22l x22c x26 x26l x26c 0 h27)));
  ∃ (x7 : Option Addr) (x7l : Nat) (x7c : Nat), cell h6 a5 = some (.slice x7 x7l x7c) ∧ ∃ (x8 : Option Addr) (x8l : Nat) (x8c : Nat), cell h6 (a5.add 1) = some (.slice x8 x8l x8c) ∧ callP1 (straitref29_in x7 x7l x7c x8 x8l x8c a3 h6) fun x9 h10 => iteB (!x9) (K none 0 0 h10) (∃ (x11 : Option Addr) (x11l : Nat) (x11c : Nat), cell h10 a5 = some (.slice x11 x11l x11c) ∧ ∃ (x12 : Option Addr) (x12l : Nat) (x12c : Nat), cell h10 (a5.add 1) = some (.slice x12 x12l x12c) ∧ callP1 (straitref29_in x11 x11l x11c x12 x12l x12c a4 h10) fun x13 h14 => (iteB (!x13) (K none 0 0 h14) ((j33 h14))))))
def straitref29_Path.ret (K : (Option Addr) → Nat → Nat → Heap → Prop) (v : Value) (h : Heap) : Prop := match v with
  | (.slice r34 r34l r34c) => K r34 r34l r34c h
  | _ => False
theorem straitref29_Path.ret_elim {K : (Option Addr) → Nat → Nat → Heap → Prop} {K' : Value → Heap → Prop} {v : Value} {h : Heap} (hk : ∀ r34 r34l r34c h, K r34 r34l r34c h → K' (.slice r34 r34l r34c) h) (hh : straitref29_Path.ret K v h) : K' v h := by
  unfold straitref29_Path.ret at hh
  split at hh
  · exact hk _ _ _ _ hh
  · exact hh.elim
def straitref29_Path.call (f : FuncId) (vs : List Value) (h : Heap) (K : Value → Heap → Prop) : Prop := match f, vs with
  | 29, [(.agg ⟨[(.slice a1 a1l a1c), (.slice a2 a2l a2c)]⟩), (.int .i64 a3)] => callP3 (straitref29_Up a1 a1l a1c a2 a2l a2c a3 h) fun r9 r9l r9c h' => K (.slice r9 r9l r9c) h'
  | 30, [(.agg ⟨[(.slice a1 a1l a1c), (.slice a2 a2l a2c)]⟩), (.int .i64 a3)] => callP1 (straitref29_in a1 a1l a1c a2 a2l a2c a3 h) fun r13 h' => K (.bool r13) h'
  | _, _ => False
def straitref29_Path.qcall (f : FuncId) (vs : List Value) (h : Heap) (K : Value → Prop) : Prop := match f, vs with
  | 32, [(.slice a1 a1l a1c), (.int .i64 a2)] => qcallP1 h (straitref21_In a1 a1l a1c a2 h) fun r7 => K (.bool r7)
  | _, _ => False
def straitref29_Path.r0 (K : Nat → List Value → Heap → Prop) (m : Nat) (vs : List Value) (h : Heap) : Prop := match vs with
  | [(.slice v7_1001 v7_1001l v7_1001c), (.slice c8_1002 c8_1003 c8_1004), (.slice c9_1005 c9_1006 c9_1007), (.int .i64 v10_1008)] => straitref29_Path.l0 (fun z35 z35l z35c h' => K 0 [(.slice z35 z35l z35c)] h') (fun z36 z36l z36c h' => K 2 [(.slice z36 z36l z36c)] h') m v7_1001 v7_1001l v7_1001c c8_1002 c8_1003 c8_1004 c9_1005 c9_1006 c9_1007 v10_1008 h
  | _ => False
def straitref29_Path.r1 (K : Nat → List Value → Heap → Prop) (m : Nat) (vs : List Value) (h : Heap) : Prop := match vs with
  | [(.slice v7_2001 v7_2001l v7_2001c), (.slice c8_2002 c8_2003 c8_2004), (.slice c9_2005 c9_2006 c9_2007), (.int .i64 v11_2008)] => straitref29_Path.l1 (fun z37 z37l z37c h' => K 4 [(.slice z37 z37l z37c)] h') m v7_2001 v7_2001l v7_2001c c8_2002 c8_2003 c8_2004 c9_2005 c9_2006 c9_2007 v11_2008 h
  | _ => False
def straitref29_Path.loop (i : Nat) (vs : List Value) (h : Heap) (K : Nat → List Value → Heap → Prop) : Prop := match i with
  | 0 => ∃ m, straitref29_Path.r0 K m vs h
  | 1 => ∃ m, straitref29_Path.r1 K m vs h
  | _ => False
noncomputable def straitref29_Path.ctx : Ctx := { P := Tryd.prog, call := straitref29_Path.call, qcall := straitref29_Path.qcall, quiet := fun f => Nat.beq f 32, loop := straitref29_Path.loop }
theorem straitref29_Path.ok : straitref29_Path.ctx.OK where
  mixed := by kernel_rfl
  mono := by
    intro f args h K K' hh hk
    change straitref29_Path.call f args h K at hh
    change straitref29_Path.call f args h K'
    unfold straitref29_Path.call at hh ⊢
    split at hh
    · obtain ⟨R, h1, h2⟩ := hh
      exact ⟨R, h1, fun _ _ _ x hr => hk _ _ (h2 _ _ _ x hr)⟩
    · obtain ⟨R, h1, h2⟩ := hh
      exact ⟨R, h1, fun _ x hr => hk _ _ (h2 _ x hr)⟩
    · exact hh.elim
  call := by
    intro f args h K hh w hw
    change straitref29_Path.call f args h K at hh
    unfold straitref29_Path.call at hh
    split at hh
    · obtain ⟨R, h1, h2⟩ := hh
      obtain ⟨g1, g2⟩ := straitref29_Up.calls h1 w hw
      exact ⟨g1, g2.mono fun e w' ⟨v, he, ho, hr⟩ => ⟨v, he, ho, straitref29_Up.ret_elim h2 hr⟩⟩
    · obtain ⟨R, h1, h2⟩ := hh
      obtain ⟨g1, g2⟩ := straitref29_in.calls h1 w hw
      exact ⟨g1, g2.mono fun e w' ⟨v, he, ho, hr⟩ => ⟨v, he, ho, straitref29_in.ret_elim h2 hr⟩⟩
    · exact hh.elim
  qmono := by
    intro f args h K K' hh hk
    change straitref29_Path.qcall f args h K at hh
    change straitref29_Path.qcall f args h K'
    unfold straitref29_Path.qcall at hh ⊢
    split at hh
    · obtain ⟨x0, h1, h2⟩ := hh
      exact ⟨x0, h1, hk _ h2⟩
    · exact hh.elim
  qval := by
    intro f args h K hh
    change straitref29_Path.qcall f args h K at hh
    suffices H : ∃ v, K v ∧ straitref29_Path.qcall f args h (· = v) from H
    unfold straitref29_Path.qcall at hh ⊢
    split at hh
    · obtain ⟨x0, h1, h2⟩ := hh
      exact ⟨_, h2, x0, h1, rfl⟩
    · exact hh.elim
  qcall := by
    intro f args h v hh w hw
    change straitref29_Path.qcall f args h (· = v) at hh
    unfold straitref29_Path.qcall at hh
    split at hh
    · obtain ⟨x0, h1, h2⟩ := hh
      obtain ⟨g1, g2⟩ := straitref21_In.calls h1 w hw
      refine .inl ⟨g1, g2.mono fun e w' ⟨u, he, ho, hr⟩ => ?_⟩
      have hq := straitref21_In.ret_elim (K' := fun u h' => u = v ∧ h' = h) (fun _ h' hr => by obtain ⟨rfl, rfl⟩ := hr; exact ⟨h2, rfl⟩) hr
      exact ⟨hq.1 ▸ he, ho, hq.2⟩
    · exact hh.elim
noncomputable def straitref29_Path.code : Code := (Tryd.f34.body).getD .skip
def straitref29_Path.ann : Ann := (.two .auto (.two .auto (.two .auto (.two (.reg [0, 0, 3, 0, 0, 31, 63, 127] (.take 0 (.take 1 (.take 4 (.early 3 (.alt 2 (.alt 5 (.take 6 (.take 7 .done)) .noalt) .noalt)))))) (.two (.two .auto (.two (.loop 0 [7, 8, 9, 10] [(2, [7]), (0, [6])] (.two .auto (.two (.two (.two .auto (.two .auto (.two (.two (.two .auto (.two (.loop 1 [7, 8, 9, 11] [(4, [7])] .auto) .auto)) .auto) .auto))) .auto) .auto))) .auto)) .auto)))))
noncomputable def straitref29_Path.c1 : Code := sub straitref29_Path.code [1, 1, 1, 1, 0, 1, 0, 0, 1, 0, 0, 1, 1, 0, 0, 1, 0, 0]
def straitref29_Path.a1 : Ann := .auto
def straitref29_Path.keep1 : List Nat := [7, 8, 9, 11]
def straitref29_Path.outs1 : List (Nat × List Nat) := [(4, [7])]
noncomputable def straitref29_Path.c0 : Code := sub straitref29_Path.code [1, 1, 1, 1, 0, 1, 0, 0]
def straitref29_Path.a0 : Ann := (.two .auto (.two (.two (.two .auto (.two .auto (.two (.two (.two .auto (.two (.loop 1 [7, 8, 9, 11] [(4, [7])] .auto) .auto)) .auto) .auto))) .auto) .auto))
def straitref29_Path.keep0 : List Nat := [7, 8, 9, 10]
def straitref29_Path.outs0 : List (Nat × List Nat) := [(2, [7]), (0, [6])]
set_option maxRecDepth 100000 in
theorem straitref29_Path.L1 : LoopOK straitref29_Path.ctx 71 straitref29_Path.c1 1 straitref29_Path.keep1 straitref29_Path.outs1 := by
  refine loop_ok (n := straitref29_Path.a1) straitref29_Path.ok (by kernel_rfl) (loops_ok (l := []) (by kernel_rfl) ?_) straitref29_Path.r1 ?_ ?_ (fun vs h K hh => hh)
  · exact trivial
  · intro K vs h hh
    unfold straitref29_Path.r1 at hh
    split at hh
    · exact hh
    · exact hh
  · intro K m vs h hh
    unfold straitref29_Path.r1 at hh
    split at hh
    · exact cast (by kernel_rfl) hh
    · exact hh.elim
set_option maxRecDepth 100000 in
theorem straitref29_Path.L0 : LoopOK straitref29_Path.ctx 71 straitref29_Path.c0 0 straitref29_Path.keep0 straitref29_Path.outs0 := by
  refine loop_ok (n := straitref29_Path.a0) straitref29_Path.ok (by kernel_rfl) (loops_ok (l := [(straitref29_Path.c1, none, 1, straitref29_Path.keep1, straitref29_Path.outs1)]) (by kernel_rfl) ?_) straitref29_Path.r0 ?_ ?_ (fun vs h K hh => hh)
  · exact ⟨straitref29_Path.L1, trivial⟩
  · intro K vs h hh
    unfold straitref29_Path.r0 at hh
    split at hh
    · exact hh
    · exact hh
  · intro K m vs h hh
    unfold straitref29_Path.r0 at hh
    split at hh
    · exact cast (by kernel_rfl) hh
    · exact hh.elim
set_option maxRecDepth 100000 in
theorem straitref29_Path.eq (a1 : Option Addr) (a1l : Nat) (a1c : Nat) (a2 : Option Addr) (a2l : Nat) (a2c : Nat) (a3 : Int) (a4 : Int) (h : Heap) (K : (Option Addr) → Nat → Nat → Heap → Prop) : evF straitref29_Path.ctx Tryd.f34 straitref29_Path.ann [(.agg #[(.slice a1 a1l a1c), (.slice a2 a2l a2c)]), (.int .i64 a3), (.int .i64 a4)] h (straitref29_Path.ret K) = straitref29_Path a1 a1l a1c a2 a2l a2c a3 a4 h K := by kernel_rfl
set_option maxRecDepth 100000 in
theorem straitref29_Path.calls {a1 : Option Addr} {a1l : Nat} {a1c : Nat} {a2 : Option Addr} {a2l : Nat} {a2c : Nat} {a3 : Int} {a4 : Int} {h : Heap} {K : (Option Addr) → Nat → Nat → Heap → Prop} (hh : straitref29_Path a1 a1l a1c a2 a2l a2c a3 a4 h K) (w : World) (hw : w.heap = h) :
    (callFunc 34 #[(.agg #[(.slice a1 a1l a1c), (.slice a2 a2l a2c)]), (.int .i64 a3), (.int .i64 a4)]).run Tryd.prog w = .ok (.enter 34 #[(.agg #[(.slice a1 a1l a1c), (.slice a2 a2l a2c)]), (.int .i64 a3), (.int .i64 a4)]) w ∧ Calls Tryd.prog 34 #[(.agg #[(.slice a1 a1l a1c), (.slice a2 a2l a2c)]), (.int .i64 a3), (.int .i64 a4)] w fun e w' => ∃ v, e = .returned v ∧ Out w w' ∧ straitref29_Path.ret K v w'.heap := by
  rw [← straitref29_Path.eq] at hh
  exact fn_calls (args := [(.agg #[(.slice a1 a1l a1c), (.slice a2 a2l a2c)]), (.int .i64 a3), (.int .i64 a4)]) (c := straitref29_Path.code) straitref29_Path.ok Tryd.func34 (by kernel_rfl) (by kernel_rfl) (by kernel_rfl) (by kernel_rfl) (loops_ok (l := [(straitref29_Path.c0, none, 0, straitref29_Path.keep0, straitref29_Path.outs0)]) (by kernel_rfl) ⟨straitref29_Path.L0, trivial⟩) hh w hw

/-! ### strait/straitref32.Far: function 21 -/
def straitref32_Far (a1 : Option Addr) (a1l : Nat) (a1c : Nat) (a2 : Option Addr) (a2l : Nat) (a2c : Nat) (a3 : Int) (a4 : Int) (h : Heap) (K : Int → Heap → Prop) : Prop :=
  newP h (.cells #[(.slice a1 a1l a1c), (.slice a2 a2l a2c)] 25) fun a5 h6 => (let j22 := (fun (h17 : Heap) => ∃ (x18 : Option Addr) (x18l : Nat) (x18c : Nat), cell h17 a5 = some (.slice x18 x18l x18c) ∧ ∃ (x19 : Option Addr) (x19l : Nat) (x19c : Nat), cell h17 (a5.add 1) = some (.slice x19 x19l x19c) ∧ callP3 (straitref29_Path x18 x18l x18c x19 x19l x19c a3 a4 h17) fun x20 x20l x20c h21 => (K (IntKind.i64.wrap ((x20l : Int) - 1)) h21));
  ∃ (x7 : Option Addr) (x7l : Nat) (x7c : Nat), cell h6 a5 = some (.slice x7 x7l x7c) ∧ ∃ (x8 : Option Addr) (x8l : Nat) (x8c : Nat), cell h6 (a5.add 1) = some (.slice x8 x8l x8c) ∧ callP1 (straitref32_in x7 x7l x7c x8 x8l x8c a3 h6) fun x9 h10 => iteB (!x9) (((K (-1) h10))) (∃ (x11 : Option Addr) (x11l : Nat) (x11c : Nat), cell h10 a5 = some (.slice x11 x11l x11c) ∧ ∃ (x12 : Option Addr) (x12l : Nat) (x12c : Nat), cell h10 (a5.add 1) = some (.slice x12 x12l x12c) ∧ callP1 (straitref32_in x11 x11l x11c x12 x12l x12c a4 h10) fun x13 h14 => (iteB (!x13) ((K (-1) h14)) ((j22 h14)))))
def straitref32_Far.ret (K : Int → Heap → Prop) (v : Value) (h : Heap) : Prop := match v with
  | (.int .i64 r23) => K r23 h
  | _ => False
theorem straitref32_Far.ret_elim {K : Int → Heap → Prop} {K' : Value → Heap → Prop} {v : Value} {h : Heap} (hk : ∀ r23 h, K r23 h → K' (.int .i64 r23) h) (hh : straitref32_Far.ret K v h) : K' v h := by
  unfold straitref32_Far.ret at hh
  split at hh
  · exact hk _ _ hh
  · exact hh.elim
def straitref32_Far.call (f : FuncId) (vs : List Value) (h : Heap) (K : Value → Heap → Prop) : Prop := match f, vs with
  | 33, [(.agg ⟨[(.slice a1 a1l a1c), (.slice a2 a2l a2c)]⟩), (.int .i64 a3)] => callP1 (straitref32_in a1 a1l a1c a2 a2l a2c a3 h) fun r8 h' => K (.bool r8) h'
  | 34, [(.agg ⟨[(.slice a1 a1l a1c), (.slice a2 a2l a2c)]⟩), (.int .i64 a3), (.int .i64 a4)] => callP3 (straitref29_Path a1 a1l a1c a2 a2l a2c a3 a4 h) fun r34 r34l r34c h' => K (.slice r34 r34l r34c) h'
  | _, _ => False
noncomputable def straitref32_Far.ctx : Ctx := { P := Tryd.prog, call := straitref32_Far.call, qcall := fun _ _ _ _ => False, quiet := fun f => false, loop := fun _ _ _ _ => False }
theorem straitref32_Far.ok : straitref32_Far.ctx.OK where
  mixed := by kernel_rfl
  mono := by
    intro f args h K K' hh hk
    change straitref32_Far.call f args h K at hh
    change straitref32_Far.call f args h K'
    unfold straitref32_Far.call at hh ⊢
    split at hh
    · obtain ⟨R, h1, h2⟩ := hh
      exact ⟨R, h1, fun _ x hr => hk _ _ (h2 _ x hr)⟩
    · obtain ⟨R, h1, h2⟩ := hh
      exact ⟨R, h1, fun _ _ _ x hr => hk _ _ (h2 _ _ _ x hr)⟩
    · exact hh.elim
  call := by
    intro f args h K hh w hw
    change straitref32_Far.call f args h K at hh
    unfold straitref32_Far.call at hh
    split at hh
    · obtain ⟨R, h1, h2⟩ := hh
      obtain ⟨g1, g2⟩ := straitref32_in.calls h1 w hw
      exact ⟨g1, g2.mono fun e w' ⟨v, he, ho, hr⟩ => ⟨v, he, ho, straitref32_in.ret_elim h2 hr⟩⟩
    · obtain ⟨R, h1, h2⟩ := hh
      obtain ⟨g1, g2⟩ := straitref29_Path.calls h1 w hw
      exact ⟨g1, g2.mono fun e w' ⟨v, he, ho, hr⟩ => ⟨v, he, ho, straitref29_Path.ret_elim h2 hr⟩⟩
    · exact hh.elim
  qmono := fun hh _ => hh.elim
  qval := fun hh => hh.elim
  qcall := fun hh => hh.elim
noncomputable def straitref32_Far.code : Code := (Tryd.f21.body).getD .skip
def straitref32_Far.ann : Ann := .auto
set_option maxRecDepth 100000 in
theorem straitref32_Far.eq (a1 : Option Addr) (a1l : Nat) (a1c : Nat) (a2 : Option Addr) (a2l : Nat) (a2c : Nat) (a3 : Int) (a4 : Int) (h : Heap) (K : Int → Heap → Prop) : evF straitref32_Far.ctx Tryd.f21 straitref32_Far.ann [(.agg #[(.slice a1 a1l a1c), (.slice a2 a2l a2c)]), (.int .i64 a3), (.int .i64 a4)] h (straitref32_Far.ret K) = straitref32_Far a1 a1l a1c a2 a2l a2c a3 a4 h K := by kernel_rfl
set_option maxRecDepth 100000 in
theorem straitref32_Far.calls {a1 : Option Addr} {a1l : Nat} {a1c : Nat} {a2 : Option Addr} {a2l : Nat} {a2c : Nat} {a3 : Int} {a4 : Int} {h : Heap} {K : Int → Heap → Prop} (hh : straitref32_Far a1 a1l a1c a2 a2l a2c a3 a4 h K) (w : World) (hw : w.heap = h) :
    (callFunc 21 #[(.agg #[(.slice a1 a1l a1c), (.slice a2 a2l a2c)]), (.int .i64 a3), (.int .i64 a4)]).run Tryd.prog w = .ok (.enter 21 #[(.agg #[(.slice a1 a1l a1c), (.slice a2 a2l a2c)]), (.int .i64 a3), (.int .i64 a4)]) w ∧ Calls Tryd.prog 21 #[(.agg #[(.slice a1 a1l a1c), (.slice a2 a2l a2c)]), (.int .i64 a3), (.int .i64 a4)] w fun e w' => ∃ v, e = .returned v ∧ Out w w' ∧ straitref32_Far.ret K v w'.heap := by
  rw [← straitref32_Far.eq] at hh
  exact fn_calls (args := [(.agg #[(.slice a1 a1l a1c), (.slice a2 a2l a2c)]), (.int .i64 a3), (.int .i64 a4)]) (c := straitref32_Far.code) straitref32_Far.ok Tryd.func21 (by kernel_rfl) (by kernel_rfl) (by kernel_rfl) (by kernel_rfl) (loops_ok (l := []) (by kernel_rfl) trivial) hh w hw

/-! ### strait/straitlaw32.LiftTells: function 4 -/
def straitlaw32_LiftTells (a1 : Option Addr) (a1l : Nat) (a1c : Nat) (a2 : Option Addr) (a2l : Nat) (a2c : Nat) (a3 : Int) (a4 : Int) (a5 : Int) (h : Heap) (K : Bool → Heap → Prop) : Prop :=
  newP h (.cells #[(.slice a1 a1l a1c), (.slice a2 a2l a2c)] 25) fun a6 h7 => newP h7 (.cells #[(.int .i64 a3), (.int .i64 a4), (.int .i64 a5)] 35) fun a8 h9 => (let j85 : Prop := (∃ (x19 : Option Addr) (x19l : Nat) (x19c : Nat), cell h9 a6 = some (.slice x19 x19l x19c) ∧ ∃ (x20 : Option Addr) (x20l : Nat) (x20c : Nat), cell h9 (a6.add 1) = some (.slice x20 x20l x20c) ∧ callP2 (lift_New x19 x19l x19c x20 x20l x20c h9) fun x21 x22 h23 => (∃ (x24 : Option Addr) (x24l : Nat) (x24c : Nat), cell h23 a6 = some (.slice x24 x24l x24c) ∧ ∃ (x25 : Option Addr) (x25l : Nat) (x25c : Nat), cell h23 (a6.add 1) = some (.slice x25 x25l x25c) ∧ callP1 (straitref29_Right x24 x24l x24c x25 x25l x25c h23) fun x26 h27 => (iteB (!x26) (iteB x21.isNone (iteB (x22 == (15 : Int)) (callP1 (straitlaw32_awake h27) fun x28 h29 => K x28 h29) (K false h27)) (K false h27)) ((let j84 : Prop := ((0 ≤ (0 : Int) ∧ (0 : Int) < (3 : Int)) ∧ ∃ (x33 : Int), cell h27 (a8.add ((0 : Int).toNat * 1)) = some (.int .i64 x33) ∧ (0 ≤ (1 : Int) ∧ (1 : Int) < (3 : Int)) ∧ ∃ (x34 : Int), cell h27 (a8.add ((1 : Int).toNat * 1)) = some (.int .i64 x34) ∧ (0 ≤ (2 : Int) ∧ (2 : Int) < (3 : Int)) ∧ ∃ (x35 : Int), cell h27 (a8.add ((2 : Int).toNat * 1)) = some (.int .i64 x35) ∧ (qcallP1 h27 (lift_Table_Looks x21 h27) fun x36 => (callP2 (lift_Table_Least x21 x33 x34 h27) fun x37 x38 h39 => (qcallP1 h39 (lift_Table_Looks x21 h39) fun x40 => (iteB (x36 == (0 : Int)) (∃ (x41 : Option Addr) (x41l : Nat) (x41c : Nat), cell h39 a6 = some (.slice x41 x41l x41c) ∧ ∃ (x42 : Option Addr) (x42l : Nat) (x42c : Nat), cell h39 (a6.add 1) = some (.slice x42 x42l x42c) ∧ callP2 (straitref29_Least x41 x41l x41c x42 x42l x42c x33 x34 h39) fun x43 x44 h45 => iteB (eqAll [(x43 == x37), (x44 == x38)]) (∃ (x46 : Option Addr) (x46l : Nat) (x46c : Nat), cell h45 a6 = some (.slice x46 x46l x46c) ∧ qcallP1 h45 (straitref32_Most (x46l : Int) h45) fun x47 => iteB (decide (x40 ≤ x47)) (qcallP1 h45 (lift_Table_N x21 h45) fun x48 => ∃ (x49 : Option Addr) (x49l : Nat) (x49c : Nat), cell h45 a6 = some (.slice x49 x49l x49c) ∧ iteB (x48 == (x49l : Int)) (qcallP1 h45 (lift_Table_Depth x21 x33 h45) fun x50 => ∃ (x51 : Option Addr) (x51l : Nat) (x51c : Nat), cell h45 a6 = some (.slice x51 x51l x51c) ∧ ∃ (x52 : Option Addr) (x52l : Nat) (x52c : Nat), cell h45 (a6.add 1) = some (.slice x52 x52l x52c) ∧ callP1 (straitref32_Depth x51 x51l x51c x52 x52l x52c x33 h45) fun x53 h54 => iteB (x50 == x53) (∃ (x55 : Option Addr) (x55l : Nat) (x55c : Nat), cell h54 a6 = some (.slice x55 x55l x55c) ∧ ∃ (x56 : Option Addr) (x56l : Nat) (x56c : Nat), cell h54 (a6.add 1) = some (.slice x56 x56l x56c) ∧ callP1 (lift_Table_Up x21 x33 x35 h54) fun x57 h58 => (∃ (x59 : Option Addr) (x59l : Nat) (x59c : Nat), cell h58 a6 = some (.slice x59 x59l x59c) ∧ ∃ (x60 : Option Addr) (x60l : Nat) (x60c : Nat), cell h58 (a6.add 1) = some (.slice x60 x60l x60c) ∧ ((.agg #[(.slice x59 x59l x59c), (.slice x60 x60l x60c)]) : Value) = (.agg #[(.slice x55 x55l x55c), (.slice x56 x56l x56c)])) ∧ callP1 (straitref32_Up x55 x55l x55c x56 x56l x56c x33 x35 h58) fun x61 h62 => iteB (x57 == x61) (∃ (x63 : Option Addr) (x63l : Nat) (x63c : Nat), cell h62 a6 = some (.slice x63 x63l x63c) ∧ ∃ (x64 : Option Addr) (x64l : Nat) (x64c : Nat), cell h62 (a6.add 1) = some (.slice x64 x64l x64c) ∧ callP1 (lift_Table_Meet x21 x33 x34 h62) fun x65 h66 => (∃ (x67 : Option Addr) (x67l : Nat) (x67c : Nat), cell h66 a6 = some (.slice x67 x67l x67c) ∧ ∃ (x68 : Option Addr) (x68l : Nat) (x68c : Nat), cell h66 (a6.add 1) = some (.slice x68 x68l x68c) ∧ ((.agg #[(.slice x67 x67l x67c), (.slice x68 x68l x68c)]) : Value) = (.agg #[(.slice x63 x63l x63c), (.slice x64 x64l x64c)])) ∧ callP1 (straitref32_Meet x63 x63l x63c x64 x64l x64c x33 x34 h66) fun x69 h70 => iteB (x65 == x69) (∃ (x71 : Option Addr) (x71l : Nat) (x71c : Nat), cell h70 a6 = some (.slice x71 x71l x71c) ∧ ∃ (x72 : Option Addr) (x72l : Nat) (x72c : Nat), cell h70 (a6.add 1) = some (.slice x72 x72l x72c) ∧ callP1 (lift_Table_Far x21 x33 x34 h70) fun x73 h74 => (∃ (x75 : Option Addr) (x75l : Nat) (x75c : Nat), cell h74 a6 = some (.slice x75 x75l x75c) ∧ ∃ (x76 : Option Addr) (x76l : Nat) (x76c : Nat), cell h74 (a6.add 1) = some (.slice x76 x76l x76c) ∧ ((.agg #[(.slice x75 x75l x75c), (.slice x76 x76l x76c)]) : Value) = (.agg #[(.slice x71 x71l x71c), (.slice x72 x72l x72c)])) ∧ callP1 (straitref32_Far x71 x71l x71c x72 x72l x72c x33 x34 h74) fun x77 h78 => iteB (x73 == x77) (qcallP1 h78 (lift_Table_Looks x21 h78) fun x79 => iteB (x79 == x40) (callP1 (straitlaw32_awake h78) fun x80 h81 => K x80 h81) (K false h78)) (K false h78)) (True ∧ K false h70)) (True ∧ True ∧ K false h62)) (True ∧ True ∧ True ∧ K false h54)) (True ∧ True ∧ True ∧ K false h45)) (True ∧ True ∧ True ∧ K false h45)) (True ∧ True ∧ True ∧ K false h45)) (True ∧ True ∧ True ∧ K false h39))))));
  iteB (x22 != (0 : Int)) (K false h27) ((iteB x21.isNone (K false h27) ((j84)))))))));
  ∃ (x10 : Option Addr) (x10l : Nat) (x10c : Nat), cell h9 a6 = some (.slice x10 x10l x10c) ∧ iteB (decide ((x10l : Int) > (40 : Int))) ((callP1 (straitlaw32_awake h9) fun x15 h16 => K x15 h16)) (∃ (x11 : Option Addr) (x11l : Nat) (x11c : Nat), cell h9 (a6.add 1) = some (.slice x11 x11l x11c) ∧ (iteB (decide ((x11l : Int) > (5000 : Int))) (callP1 (straitlaw32_awake h9) fun x17 h18 => K x17 h18) ((j85)))))
def straitlaw32_LiftTells.ret (K : Bool → Heap → Prop) (v : Value) (h : Heap) : Prop := match v with
  | (.bool r86) => K r86 h
  | _ => False
theorem straitlaw32_LiftTells.ret_elim {K : Bool → Heap → Prop} {K' : Value → Heap → Prop} {v : Value} {h : Heap} (hk : ∀ r86 h, K r86 h → K' (.bool r86) h) (hh : straitlaw32_LiftTells.ret K v h) : K' v h := by
  unfold straitlaw32_LiftTells.ret at hh
  split at hh
  · exact hk _ _ hh
  · exact hh.elim
def straitlaw32_LiftTells.call (f : FuncId) (vs : List Value) (h : Heap) (K : Value → Heap → Prop) : Prop := match f, vs with
  | 6, [] => callP1 (straitlaw32_awake h) fun r19 h' => K (.bool r19) h'
  | 7, [(.agg ⟨[(.slice a1 a1l a1c), (.slice a2 a2l a2c)]⟩)] => callP2 (lift_New a1 a1l a1c a2 a2l a2c h) fun r44 r45 h' => K (.tuple #[(.pointer r44), (.int .i64 r45)]) h'
  | 9, [(.pointer a1), (.int .i64 a2), (.int .i64 a3)] => callP1 (lift_Table_Meet a1 a2 a3 h) fun r28 h' => K (.int .i64 r28) h'
  | 10, [(.pointer a1), (.int .i64 a2), (.int .i64 a3)] => callP1 (lift_Table_Up a1 a2 a3 h) fun r31 h' => K (.int .i64 r31) h'
  | 11, [(.pointer a1), (.int .i64 a2), (.int .i64 a3)] => callP1 (lift_Table_Far a1 a2 a3 h) fun r19 h' => K (.int .i64 r19) h'
  | 12, [(.agg ⟨[(.slice a1 a1l a1c), (.slice a2 a2l a2c)]⟩)] => callP1 (straitref29_Right a1 a1l a1c a2 a2l a2c h) fun r33 h' => K (.bool r33) h'
  | 14, [(.pointer a1), (.int .i64 a2), (.int .i64 a3)] => callP2 (lift_Table_Least a1 a2 a3 h) fun r18 r19 h' => K (.tuple #[(.int .i64 r18), (.bool r19)]) h'
  | 15, [(.agg ⟨[(.slice a1 a1l a1c), (.slice a2 a2l a2c)]⟩), (.int .i64 a3), (.int .i64 a4)] => callP2 (straitref29_Least a1 a1l a1c a2 a2l a2c a3 a4 h) fun r36 r37 h' => K (.agg #[(.int .i64 r36), (.bool r37)]) h'
  | 18, [(.agg ⟨[(.slice a1 a1l a1c), (.slice a2 a2l a2c)]⟩), (.int .i64 a3)] => callP1 (straitref32_Depth a1 a1l a1c a2 a2l a2c a3 h) fun r14 h' => K (.int .i64 r14) h'
  | 19, [(.agg ⟨[(.slice a1 a1l a1c), (.slice a2 a2l a2c)]⟩), (.int .i64 a3), (.int .i64 a4)] => callP1 (straitref32_Up a1 a1l a1c a2 a2l a2c a3 a4 h) fun r21 h' => K (.int .i64 r21) h'
  | 20, [(.agg ⟨[(.slice a1 a1l a1c), (.slice a2 a2l a2c)]⟩), (.int .i64 a3), (.int .i64 a4)] => callP1 (straitref32_Meet a1 a1l a1c a2 a2l a2c a3 a4 h) fun r33 h' => K (.int .i64 r33) h'
  | 21, [(.agg ⟨[(.slice a1 a1l a1c), (.slice a2 a2l a2c)]⟩), (.int .i64 a3), (.int .i64 a4)] => callP1 (straitref32_Far a1 a1l a1c a2 a2l a2c a3 a4 h) fun r23 h' => K (.int .i64 r23) h'
  | _, _ => False
def straitlaw32_LiftTells.qcall (f : FuncId) (vs : List Value) (h : Heap) (K : Value → Prop) : Prop := match f, vs with
  | 8, [(.pointer a1), (.int .i64 a2)] => qcallP1 h (lift_Table_Depth a1 a2 h) fun r8 => K (.int .i64 r8)
  | 13, [(.pointer a1)] => qcallP1 h (lift_Table_Looks a1 h) fun r4 => K (.int .i64 r4)
  | 16, [(.int .i64 a1)] => qcallP1 h (straitref32_Most a1 h) fun r10 => K (.int .i64 r10)
  | 17, [(.pointer a1)] => qcallP1 h (lift_Table_N a1 h) fun r4 => K (.int .i64 r4)
  | _, _ => False
noncomputable def straitlaw32_LiftTells.ctx : Ctx := { P := Tryd.prog, call := straitlaw32_LiftTells.call, qcall := straitlaw32_LiftTells.qcall, quiet := fun f => Nat.beq f 8 || Nat.beq f 13 || Nat.beq f 16 || Nat.beq f 17, loop := fun _ _ _ _ => False }
theorem straitlaw32_LiftTells.ok : straitlaw32_LiftTells.ctx.OK where
  mixed := by kernel_rfl
  mono := by
    intro f args h K K' hh hk
    change straitlaw32_LiftTells.call f args h K at hh
    change straitlaw32_LiftTells.call f args h K'
    unfold straitlaw32_LiftTells.call at hh ⊢
    split at hh
    · obtain ⟨R, h1, h2⟩ := hh
      exact ⟨R, h1, fun _ x hr => hk _ _ (h2 _ x hr)⟩
    · obtain ⟨R, h1, h2⟩ := hh
      exact ⟨R, h1, fun _ _ x hr => hk _ _ (h2 _ _ x hr)⟩
    · obtain ⟨R, h1, h2⟩ := hh
      exact ⟨R, h1, fun _ x hr => hk _ _ (h2 _ x hr)⟩
    · obtain ⟨R, h1, h2⟩ := hh
      exact ⟨R, h1, fun _ x hr => hk _ _ (h2 _ x hr)⟩
    · obtain ⟨R, h1, h2⟩ := hh
      exact ⟨R, h1, fun _ x hr => hk _ _ (h2 _ x hr)⟩
    · obtain ⟨R, h1, h2⟩ := hh
      exact ⟨R, h1, fun _ x hr => hk _ _ (h2 _ x hr)⟩
    · obtain ⟨R, h1, h2⟩ := hh
      exact ⟨R, h1, fun _ _ x hr => hk _ _ (h2 _ _ x hr)⟩
    · obtain ⟨R, h1, h2⟩ := hh
      exact ⟨R, h1, fun _ _ x hr => hk _ _ (h2 _ _ x hr)⟩
    · obtain ⟨R, h1, h2⟩ := hh
      exact ⟨R, h1, fun _ x hr => hk _ _ (h2 _ x hr)⟩
    · obtain ⟨R, h1, h2⟩ := hh
      exact ⟨R, h1, fun _ x hr => hk _ _ (h2 _ x hr)⟩
    · obtain ⟨R, h1, h2⟩ := hh
      exact ⟨R, h1, fun _ x hr => hk _ _ (h2 _ x hr)⟩
    · obtain ⟨R, h1, h2⟩ := hh
      exact ⟨R, h1, fun _ x hr => hk _ _ (h2 _ x hr)⟩
    · exact hh.elim
  call := by
    intro f args h K hh w hw
    change straitlaw32_LiftTells.call f args h K at hh
    unfold straitlaw32_LiftTells.call at hh
    split at hh
    · obtain ⟨R, h1, h2⟩ := hh
      obtain ⟨g1, g2⟩ := straitlaw32_awake.calls h1 w hw
      exact ⟨g1, g2.mono fun e w' ⟨v, he, ho, hr⟩ => ⟨v, he, ho, straitlaw32_awake.ret_elim h2 hr⟩⟩
    · obtain ⟨R, h1, h2⟩ := hh
      obtain ⟨g1, g2⟩ := lift_New.calls h1 w hw
      exact ⟨g1, g2.mono fun e w' ⟨v, he, ho, hr⟩ => ⟨v, he, ho, lift_New.ret_elim h2 hr⟩⟩
    · obtain ⟨R, h1, h2⟩ := hh
      obtain ⟨g1, g2⟩ := lift_Table_Meet.calls h1 w hw
      exact ⟨g1, g2.mono fun e w' ⟨v, he, ho, hr⟩ => ⟨v, he, ho, lift_Table_Meet.ret_elim h2 hr⟩⟩
    · obtain ⟨R, h1, h2⟩ := hh
      obtain ⟨g1, g2⟩ := lift_Table_Up.calls h1 w hw
      exact ⟨g1, g2.mono fun e w' ⟨v, he, ho, hr⟩ => ⟨v, he, ho, lift_Table_Up.ret_elim h2 hr⟩⟩
    · obtain ⟨R, h1, h2⟩ := hh
      obtain ⟨g1, g2⟩ := lift_Table_Far.calls h1 w hw
      exact ⟨g1, g2.mono fun e w' ⟨v, he, ho, hr⟩ => ⟨v, he, ho, lift_Table_Far.ret_elim h2 hr⟩⟩
    · obtain ⟨R, h1, h2⟩ := hh
      obtain ⟨g1, g2⟩ := straitref29_Right.calls h1 w hw
      exact ⟨g1, g2.mono fun e w' ⟨v, he, ho, hr⟩ => ⟨v, he, ho, straitref29_Right.ret_elim h2 hr⟩⟩
    · obtain ⟨R, h1, h2⟩ := hh
      obtain ⟨g1, g2⟩ := lift_Table_Least.calls h1 w hw
      exact ⟨g1, g2.mono fun e w' ⟨v, he, ho, hr⟩ => ⟨v, he, ho, lift_Table_Least.ret_elim h2 hr⟩⟩
    · obtain ⟨R, h1, h2⟩ := hh
      obtain ⟨g1, g2⟩ := straitref29_Least.calls h1 w hw
      exact ⟨g1, g2.mono fun e w' ⟨v, he, ho, hr⟩ => ⟨v, he, ho, straitref29_Least.ret_elim h2 hr⟩⟩
    · obtain ⟨R, h1, h2⟩ := hh
      obtain ⟨g1, g2⟩ := straitref32_Depth.calls h1 w hw
      exact ⟨g1, g2.mono fun e w' ⟨v, he, ho, hr⟩ => ⟨v, he, ho, straitref32_Depth.ret_elim h2 hr⟩⟩
    · obtain ⟨R, h1, h2⟩ := hh
      obtain ⟨g1, g2⟩ := straitref32_Up.calls h1 w hw
      exact ⟨g1, g2.mono fun e w' ⟨v, he, ho, hr⟩ => ⟨v, he, ho, straitref32_Up.ret_elim h2 hr⟩⟩
    · obtain ⟨R, h1, h2⟩ := hh
      obtain ⟨g1, g2⟩ := straitref32_Meet.calls h1 w hw
      exact ⟨g1, g2.mono fun e w' ⟨v, he, ho, hr⟩ => ⟨v, he, ho, straitref32_Meet.ret_elim h2 hr⟩⟩
    · obtain ⟨R, h1, h2⟩ := hh
      obtain ⟨g1, g2⟩ := straitref32_Far.calls h1 w hw
      exact ⟨g1, g2.mono fun e w' ⟨v, he, ho, hr⟩ => ⟨v, he, ho, straitref32_Far.ret_elim h2 hr⟩⟩
    · exact hh.elim
  qmono := by
    intro f args h K K' hh hk
    change straitlaw32_LiftTells.qcall f args h K at hh
    change straitlaw32_LiftTells.qcall f args h K'
    unfold straitlaw32_LiftTells.qcall at hh ⊢
    split at hh
    · obtain ⟨x0, h1, h2⟩ := hh
      exact ⟨x0, h1, hk _ h2⟩
    · obtain ⟨x0, h1, h2⟩ := hh
      exact ⟨x0, h1, hk _ h2⟩
    · obtain ⟨x0, h1, h2⟩ := hh
      exact ⟨x0, h1, hk _ h2⟩
    · obtain ⟨x0, h1, h2⟩ := hh
      exact ⟨x0, h1, hk _ h2⟩
    · exact hh.elim
  qval := by
    intro f args h K hh
    change straitlaw32_LiftTells.qcall f args h K at hh
    suffices H : ∃ v, K v ∧ straitlaw32_LiftTells.qcall f args h (· = v) from H
    unfold straitlaw32_LiftTells.qcall at hh ⊢
    split at hh
    · obtain ⟨x0, h1, h2⟩ := hh
      exact ⟨_, h2, x0, h1, rfl⟩
    · obtain ⟨x0, h1, h2⟩ := hh
      exact ⟨_, h2, x0, h1, rfl⟩
    · obtain ⟨x0, h1, h2⟩ := hh
      exact ⟨_, h2, x0, h1, rfl⟩
    · obtain ⟨x0, h1, h2⟩ := hh
      exact ⟨_, h2, x0, h1, rfl⟩
    · exact hh.elim
  qcall := by
    intro f args h v hh w hw
    change straitlaw32_LiftTells.qcall f args h (· = v) at hh
    unfold straitlaw32_LiftTells.qcall at hh
    split at hh
    · obtain ⟨x0, h1, h2⟩ := hh
      obtain ⟨g1, g2⟩ := lift_Table_Depth.calls h1 w hw
      refine .inl ⟨g1, g2.mono fun e w' ⟨u, he, ho, hr⟩ => ?_⟩
      have hq := lift_Table_Depth.ret_elim (K' := fun u h' => u = v ∧ h' = h) (fun _ h' hr => by obtain ⟨rfl, rfl⟩ := hr; exact ⟨h2, rfl⟩) hr
      exact ⟨hq.1 ▸ he, ho, hq.2⟩
    · obtain ⟨x0, h1, h2⟩ := hh
      obtain ⟨g1, g2⟩ := lift_Table_Looks.calls h1 w hw
      refine .inl ⟨g1, g2.mono fun e w' ⟨u, he, ho, hr⟩ => ?_⟩
      have hq := lift_Table_Looks.ret_elim (K' := fun u h' => u = v ∧ h' = h) (fun _ h' hr => by obtain ⟨rfl, rfl⟩ := hr; exact ⟨h2, rfl⟩) hr
      exact ⟨hq.1 ▸ he, ho, hq.2⟩
    · obtain ⟨x0, h1, h2⟩ := hh
      obtain ⟨g1, g2⟩ := straitref32_Most.calls h1 w hw
      refine .inl ⟨g1, g2.mono fun e w' ⟨u, he, ho, hr⟩ => ?_⟩
      have hq := straitref32_Most.ret_elim (K' := fun u h' => u = v ∧ h' = h) (fun _ h' hr => by obtain ⟨rfl, rfl⟩ := hr; exact ⟨h2, rfl⟩) hr
      exact ⟨hq.1 ▸ he, ho, hq.2⟩
    · obtain ⟨x0, h1, h2⟩ := hh
      obtain ⟨g1, g2⟩ := lift_Table_N.calls h1 w hw
      refine .inl ⟨g1, g2.mono fun e w' ⟨u, he, ho, hr⟩ => ?_⟩
      have hq := lift_Table_N.ret_elim (K' := fun u h' => u = v ∧ h' = h) (fun _ h' hr => by obtain ⟨rfl, rfl⟩ := hr; exact ⟨h2, rfl⟩) hr
      exact ⟨hq.1 ▸ he, ho, hq.2⟩
    · exact hh.elim
noncomputable def straitlaw32_LiftTells.code : Code := (Tryd.f4.body).getD .skip
def straitlaw32_LiftTells.ann : Ann := (.two .auto (.two .auto (.two .auto (.two .auto (.two .auto (.two (.reg [0, 1, 0, 4, 0, 16, 3, 79, 255] (.take 0 (.take 1 (.take 2 (.take 3 (.take 4 (.take 5 (.take 6 (.take 7 (.take 8 .done)))))))))) (.two .auto (.two .auto (.two .auto (.two (.reg [0, 1, 3, 7, 7, 7, 63, 7, 7, 391, 1023, 2047, 4095, 8191, 8191, 24575, 57343, 122879, 262143, 524287, 1048575, 2097151, 4194303, 2097151, 10485759, 27262975, 67108863, 134217727, 268435455, 536870911, 536870911, 2147483647, 536870911, 536870911, 17179869183, 34359738367, 68719476735, 137438953471, 274877906943, 274877906943, 274877906943, 2199023255551, 274877906943, 274877906943, 274877906943, 35184372088831, 70368744177663, 140737488355327, 281474976710655, 562949953421311, 562949953421311, 562949953421311, 4503599627370495, 562949953421311, 562949953421311, 562949953421311, 72057594037927935, 144115188075855871, 288230376151711743, 576460752303423487, 1152921504606846975, 1152921504606846975, 1152921504606846975, 9223372036854775807, 1152921504606846975, 1152921504606846975, 1152921504606846975, 147573952589676412927, 295147905179352825855, 590295810358705651711, 1180591620717411303423, 2361183241434822606847, 4722366482869645213695, 2361183241434822606847, 18889465931478580854783, 37778931862957161709567, 75557863725914323419135, 151115727451828646838271, 302231454903657293676543, 604462909807314587353087] (.take 0 (.take 1 (.take 2 (.take 3 (.take 4 (.take 5 (.take 7 (.take 8 (.take 9 (.alt 6 (.take 10 (.take 11 (.take 12 (.take 13 (.take 14 (.take 15 (.take 16 (.take 17 (.take 18 (.take 19 (.take 20 (.take 21 (.take 22 (.take 23 (.take 24 (.take 25 (.take 26 (.take 27 (.take 28 (.take 29 (.take 30 (.take 31 (.take 32 (.take 33 (.alt 34 (.take 35 (.take 36 (.take 37 (.take 38 (.take 39 (.take 40 (.take 43 (.take 44 (.early 42 (.alt 41 (.alt 45 (.take 46 (.take 47 (.take 48 (.take 49 (.take 50 (.take 51 (.take 54 (.take 55 (.early 53 (.alt 52 (.alt 56 (.take 57 (.take 58 (.take 59 (.take 60 (.take 61 (.take 62 (.take 65 (.take 66 (.early 64 (.alt 63 (.alt 67 (.take 68 (.take 69 (.take 70 (.take 71 (.take 72 (.take 73 (.take 74 (.take 75 (.take 76 (.alt 77 (.take 78 (.take 79 .done)) .noalt)))))))))) .noalt) .noalt)))))))))) .noalt) .noalt)))))))))) .noalt) .noalt)))))))))) .noalt))))))))))))))))))))))))) .noalt))))))))))) .auto))))))))))
set_option maxRecDepth 100000 in
theorem straitlaw32_LiftTells.eq (a1 : Option Addr) (a1l : Nat) (a1c : Nat) (a2 : Option Addr) (a2l : Nat) (a2c : Nat) (a3 : Int) (a4 : Int) (a5 : Int) (h : Heap) (K : Bool → Heap → Prop) : evF straitlaw32_LiftTells.ctx Tryd.f4 straitlaw32_LiftTells.ann [(.agg #[(.slice a1 a1l a1c), (.slice a2 a2l a2c)]), (.agg #[(.int .i64 a3), (.int .i64 a4), (.int .i64 a5)])] h (straitlaw32_LiftTells.ret K) = straitlaw32_LiftTells a1 a1l a1c a2 a2l a2c a3 a4 a5 h K := by kernel_rfl
set_option maxRecDepth 100000 in
theorem straitlaw32_LiftTells.calls {a1 : Option Addr} {a1l : Nat} {a1c : Nat} {a2 : Option Addr} {a2l : Nat} {a2c : Nat} {a3 : Int} {a4 : Int} {a5 : Int} {h : Heap} {K : Bool → Heap → Prop} (hh : straitlaw32_LiftTells a1 a1l a1c a2 a2l a2c a3 a4 a5 h K) (w : World) (hw : w.heap = h) :
    (callFunc 4 #[(.agg #[(.slice a1 a1l a1c), (.slice a2 a2l a2c)]), (.agg #[(.int .i64 a3), (.int .i64 a4), (.int .i64 a5)])]).run Tryd.prog w = .ok (.enter 4 #[(.agg #[(.slice a1 a1l a1c), (.slice a2 a2l a2c)]), (.agg #[(.int .i64 a3), (.int .i64 a4), (.int .i64 a5)])]) w ∧ Calls Tryd.prog 4 #[(.agg #[(.slice a1 a1l a1c), (.slice a2 a2l a2c)]), (.agg #[(.int .i64 a3), (.int .i64 a4), (.int .i64 a5)])] w fun e w' => ∃ v, e = .returned v ∧ Out w w' ∧ straitlaw32_LiftTells.ret K v w'.heap := by
  rw [← straitlaw32_LiftTells.eq] at hh
  exact fn_calls (args := [(.agg #[(.slice a1 a1l a1c), (.slice a2 a2l a2c)]), (.agg #[(.int .i64 a3), (.int .i64 a4), (.int .i64 a5)])]) (c := straitlaw32_LiftTells.code) straitlaw32_LiftTells.ok Tryd.func4 (by kernel_rfl) (by kernel_rfl) (by kernel_rfl) (by kernel_rfl) (loops_ok (l := []) (by kernel_rfl) trivial) hh w hw

end Go.Proofs.YtfidcekobjmamaaDoor
