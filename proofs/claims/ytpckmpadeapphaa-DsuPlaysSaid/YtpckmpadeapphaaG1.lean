/- WRITTEN BY A PROGRAM OF THIS SESSION (gen.py): what each function asks of memory, and that the model's run comes to it. -/
import Derived.Test.YtpckmpadeapphaaProg
import Derived.Test.YtpckmpadeapphaaFw8
import Derived.Test.YtpckmpadeapphaaG0
namespace Go.Proofs.Ytpckmpadeapphaa
open Go.Hp
set_option linter.unusedVariables false
set_option linter.unusedSimpArgs false

/-! ### (strait/straitref10.Classes).Size: function 24 -/
def straitref10_Classes_Size.b0 (K2 : Int → Heap → Prop) (cont : Int → Addr → Int → Int → Heap → Prop) (c1_1001 : Int) (c2_1002 : Addr) (v5_1003 : Int) (v6_1004 : Int) (h1005 : Heap) : Prop :=
  ∃ (x1006 : Option Addr) (x1006l : Nat) (x1006c : Nat), cell h1005 c2_1002 = some (.slice x1006 x1006l x1006c) ∧ (iteB (decide (v6_1004 < (x1006l : Int))) ((∃ (x1007 : Option Addr) (x1007l : Nat) (x1007c : Nat), cell h1005 c2_1002 = some (.slice x1007 x1007l x1007c) ∧ callP1 (straitref10_Classes_Same x1007 x1007l x1007c v6_1004 c1_1001 h1005) fun x1008 h1009 => (iteB x1008 (((cont c1_1001 c2_1002 (IntKind.i64.wrap (v5_1003 + 1)) (IntKind.i64.wrap (v6_1004 + 1)) h1009))) (((cont c1_1001 c2_1002 v5_1003 (IntKind.i64.wrap (v6_1004 + 1)) h1009)))))) (K2 v5_1003 h1005))
def straitref10_Classes_Size.l0 (K2 : Int → Heap → Prop) : Nat → Int → Addr → Int → Int → Heap → Prop
  | 0, _, _, _, _, _ => False
  | m + 1, c1_1001, c2_1002, v5_1003, v6_1004, h => straitref10_Classes_Size.b0 K2 (straitref10_Classes_Size.l0 K2 m) c1_1001 c2_1002 v5_1003 v6_1004 h
def straitref10_Classes_Size (a1 : Option Addr) (a1l : Nat) (a1c : Nat) (a2 : Int) (h : Heap) (K : Int → Heap → Prop) : Prop :=
  newP h (.cells #[(.slice a1 a1l a1c)] 28) fun a3 h4 => (((∃ m7, straitref10_Classes_Size.l0 (fun z5 h6 => (K z5 h6)) m7 a2 a3 0 0 h4)))
def straitref10_Classes_Size.ret (K : Int → Heap → Prop) (v : Value) (h : Heap) : Prop := match v with
  | (.int .i64 r8) => K r8 h
  | _ => False
theorem straitref10_Classes_Size.ret_elim {K : Int → Heap → Prop} {K' : Value → Heap → Prop} {v : Value} {h : Heap} (hk : ∀ r8 h, K r8 h → K' (.int .i64 r8) h) (hh : straitref10_Classes_Size.ret K v h) : K' v h := by
  unfold straitref10_Classes_Size.ret at hh
  split at hh
  · exact hk _ _ hh
  · exact hh.elim
def straitref10_Classes_Size.call (f : FuncId) (vs : List Value) (h : Heap) (K : Value → Heap → Prop) : Prop := match f, vs with
  | 9, [(.agg ⟨[(.slice a1 a1l a1c)]⟩), (.int .i64 a2), (.int .i64 a3)] => callP1 (straitref10_Classes_Same a1 a1l a1c a2 a3 h) fun r20 h' => K (.bool r20) h'
  | _, _ => False
def straitref10_Classes_Size.r0 (K : Nat → List Value → Heap → Prop) (m : Nat) (vs : List Value) (h : Heap) : Prop := match vs with
  | [(.int .i64 c1_1001), (.pointer (some c2_1002)), (.int .i64 v5_1003), (.int .i64 v6_1004)] => straitref10_Classes_Size.l0 (fun z9 h' => K 2 [(.int .i64 z9)] h') m c1_1001 c2_1002 v5_1003 v6_1004 h
  | _ => False
def straitref10_Classes_Size.loop (i : Nat) (vs : List Value) (h : Heap) (K : Nat → List Value → Heap → Prop) : Prop := match i with
  | 0 => ∃ m, straitref10_Classes_Size.r0 K m vs h
  | _ => False
noncomputable def straitref10_Classes_Size.ctx : Ctx := { P := Try.prog, call := straitref10_Classes_Size.call, qcall := fun _ _ _ _ => False, quiet := fun f => Nat.beq f 1000045, loop := straitref10_Classes_Size.loop }
theorem straitref10_Classes_Size.ok : straitref10_Classes_Size.ctx.OK where
  mixed := by kernel_rfl
  mono := by
    intro f args h K K' hh hk
    change straitref10_Classes_Size.call f args h K at hh
    change straitref10_Classes_Size.call f args h K'
    unfold straitref10_Classes_Size.call at hh ⊢
    split at hh
    · obtain ⟨R, h1, h2⟩ := hh
      exact ⟨R, h1, fun _ x hr => hk _ _ (h2 _ x hr)⟩
    · exact hh.elim
  call := by
    intro f args h K hh w hw
    change straitref10_Classes_Size.call f args h K at hh
    unfold straitref10_Classes_Size.call at hh
    split at hh
    · obtain ⟨R, h1, h2⟩ := hh
      obtain ⟨g1, g2⟩ := straitref10_Classes_Same.calls h1 w hw
      exact ⟨g1, g2.mono fun e w' ⟨v, he, ho, hr⟩ => ⟨v, he, ho, straitref10_Classes_Same.ret_elim h2 hr⟩⟩
    · exact hh.elim
  qmono := fun hh _ => hh.elim
  qval := fun hh => hh.elim
  qcall := fun hh => hh.elim
noncomputable def straitref10_Classes_Size.code : Code := (Try.f24.body).getD .skip
def straitref10_Classes_Size.ann : Ann := (.two .auto (.two .auto (.two (.two .auto (.two (.loop 0 [1, 2, 5, 6] [(2, [5])] .auto) .auto)) .auto)))
noncomputable def straitref10_Classes_Size.c0 : Code := sub straitref10_Classes_Size.code [1, 1, 0, 1, 0, 0]
def straitref10_Classes_Size.a0 : Ann := .auto
def straitref10_Classes_Size.keep0 : List Nat := [1, 2, 5, 6]
def straitref10_Classes_Size.outs0 : List (Nat × List Nat) := [(2, [5])]
set_option maxRecDepth 100000 in
theorem straitref10_Classes_Size.L0 : LoopOK straitref10_Classes_Size.ctx 21 straitref10_Classes_Size.c0 0 straitref10_Classes_Size.keep0 straitref10_Classes_Size.outs0 := by
  refine loop_ok (n := straitref10_Classes_Size.a0) straitref10_Classes_Size.ok (by kernel_rfl) (loops_ok (l := []) (by kernel_rfl) ?_) straitref10_Classes_Size.r0 ?_ ?_ (fun vs h K hh => hh)
  · exact trivial
  · intro K vs h hh
    unfold straitref10_Classes_Size.r0 at hh
    split at hh
    · exact hh
    · exact hh
  · intro K m vs h hh
    unfold straitref10_Classes_Size.r0 at hh
    split at hh
    · exact cast (by kernel_rfl) hh
    · exact hh.elim
set_option maxRecDepth 100000 in
theorem straitref10_Classes_Size.eq (a1 : Option Addr) (a1l : Nat) (a1c : Nat) (a2 : Int) (h : Heap) (K : Int → Heap → Prop) : evF straitref10_Classes_Size.ctx Try.f24 straitref10_Classes_Size.ann [(.agg #[(.slice a1 a1l a1c)]), (.int .i64 a2)] h (straitref10_Classes_Size.ret K) = straitref10_Classes_Size a1 a1l a1c a2 h K := by kernel_rfl
set_option maxRecDepth 100000 in
theorem straitref10_Classes_Size.calls {a1 : Option Addr} {a1l : Nat} {a1c : Nat} {a2 : Int} {h : Heap} {K : Int → Heap → Prop} (hh : straitref10_Classes_Size a1 a1l a1c a2 h K) (w : World) (hw : w.heap = h) :
    (callFunc 24 #[(.agg #[(.slice a1 a1l a1c)]), (.int .i64 a2)]).run Try.prog w = .ok (.enter 24 #[(.agg #[(.slice a1 a1l a1c)]), (.int .i64 a2)]) w ∧ Calls Try.prog 24 #[(.agg #[(.slice a1 a1l a1c)]), (.int .i64 a2)] w fun e w' => ∃ v, e = .returned v ∧ Out w w' ∧ straitref10_Classes_Size.ret K v w'.heap := by
  rw [← straitref10_Classes_Size.eq] at hh
  exact fn_calls (args := [(.agg #[(.slice a1 a1l a1c)]), (.int .i64 a2)]) (c := straitref10_Classes_Size.code) straitref10_Classes_Size.ok Try.func24 (by kernel_rfl) (by kernel_rfl) (by kernel_rfl) (by kernel_rfl) (loops_ok (l := [(straitref10_Classes_Size.c0, none, 0, straitref10_Classes_Size.keep0, straitref10_Classes_Size.outs0)]) (by kernel_rfl) ⟨straitref10_Classes_Size.L0, trivial⟩) hh w hw

/-! ### (strait/straitref10.Classes).List: function 16 -/
def straitref10_Classes_List.b1 (K4 : (Option Addr) → Nat → Nat → Heap → Prop) (cont : Addr → (Option Addr) → Nat → Nat → Int → (Option Addr) → Nat → Nat → Int → Heap → Prop) (c1_2001 : Addr) (c3_2002 : Option Addr) (c3_2003 : Nat) (c3_2004 : Nat) (c4_2005 : Int) (v5_2006 : Option Addr) (v5_2006l : Nat) (v5_2006c : Nat) (v6_2007 : Int) (h2008 : Heap) : Prop :=
  ∃ (x2009 : Option Addr) (x2009l : Nat) (x2009c : Nat), cell h2008 c1_2001 = some (.slice x2009 x2009l x2009c) ∧ (iteB (decide (v6_2007 < (x2009l : Int))) ((∃ (x2010 : Option Addr) (x2010l : Nat) (x2010c : Nat), cell h2008 c1_2001 = some (.slice x2010 x2010l x2010c) ∧ chkP x2010 fun a2011 => (0 ≤ v6_2007 ∧ v6_2007 < (x2010l : Int)) ∧ ∃ (x2012 : Int), cell h2008 (a2011.add (v6_2007.toNat * 1)) = some (.int .i64 x2012) ∧ (iteB (x2012 == c4_2005) (newP h2008 (.cells #[(.int .i64 v6_2007)] 3) fun a2013 h2014 => ∃ n2019, cellsAt h2014 (some a2013) (1 * 1) n2019 ∧ appP 3 1 8 [(.int .i64 0)] v5_2006 v5_2006l v5_2006c 1 n2019 h2014 fun q2015 l2016 c2017 h2018 => ((cont c1_2001 c3_2002 c3_2003 c3_2004 c4_2005 q2015 l2016 c2017 (IntKind.i64.wrap (v6_2007 + 1)) h2018))) (((cont c1_2001 c3_2002 c3_2003 c3_2004 c4_2005 v5_2006 v5_2006l v5_2006c (IntKind.i64.wrap (v6_2007 + 1)) h2008)))))) (K4 v5_2006 v5_2006l v5_2006c h2008))
def straitref10_Classes_List.l1 (K4 : (Option Addr) → Nat → Nat → Heap → Prop) : Nat → Addr → (Option Addr) → Nat → Nat → Int → (Option Addr) → Nat → Nat → Int → Heap → Prop
  | 0, _, _, _, _, _, _, _, _, _, _ => False
  | m + 1, c1_2001, c3_2002, c3_2003, c3_2004, c4_2005, v5_2006, v5_2006l, v5_2006c, v6_2007, h => straitref10_Classes_List.b1 K4 (straitref10_Classes_List.l1 K4 m) c1_2001 c3_2002 c3_2003 c3_2004 c4_2005 v5_2006 v5_2006l v5_2006c v6_2007 h
def straitref10_Classes_List.b0 (K2 : (Option Addr) → Nat → Nat → Heap → Prop) (cont : Addr → (Option Addr) → Nat → Nat → Int → Heap → Prop) (c1_1001 : Addr) (v3_1002 : Option Addr) (v3_1002l : Nat) (v3_1002c : Nat) (v4_1003 : Int) (h1004 : Heap) : Prop :=
  ∃ (x1005 : Option Addr) (x1005l : Nat) (x1005c : Nat), cell h1004 c1_1001 = some (.slice x1005 x1005l x1005c) ∧ (iteB (decide (v4_1003 < (x1005l : Int))) ((∃ (x1006 : Option Addr) (x1006l : Nat) (x1006c : Nat), cell h1004 c1_1001 = some (.slice x1006 x1006l x1006c) ∧ chkP x1006 fun a1007 => (0 ≤ v4_1003 ∧ v4_1003 < (x1006l : Int)) ∧ ∃ (x1008 : Int), cell h1004 (a1007.add (v4_1003.toNat * 1)) = some (.int .i64 x1008) ∧ (iteB (x1008 == v4_1003) (((∃ m1011, straitref10_Classes_List.l1 (fun z1009 z1009l z1009c h1010 => ((newP h1010 (.cells #[(.slice z1009 z1009l z1009c)] 26) fun a1012 h1013 => ∃ n1018, cellsAt h1013 (some a1012) (1 * 1) n1018 ∧ appP 26 1 24 [(.slice none 0 0)] v3_1002 v3_1002l v3_1002c 1 n1018 h1013 fun q1014 l1015 c1016 h1017 => ((cont c1_1001 q1014 l1015 c1016 (IntKind.i64.wrap (v4_1003 + 1)) h1017))))) m1011 c1_1001 v3_1002 v3_1002l v3_1002c v4_1003 none 0 0 0 h1004))) (((cont c1_1001 v3_1002 v3_1002l v3_1002c (IntKind.i64.wrap (v4_1003 + 1)) h1004)))))) (K2 v3_1002 v3_1002l v3_1002c h1004))
def straitref10_Classes_List.l0 (K2 : (Option Addr) → Nat → Nat → Heap → Prop) : Nat → Addr → (Option Addr) → Nat → Nat → Int → Heap → Prop
  | 0, _, _, _, _, _, _ => False
  | m + 1, c1_1001, v3_1002, v3_1002l, v3_1002c, v4_1003, h => straitref10_Classes_List.b0 K2 (straitref10_Classes_List.l0 K2 m) c1_1001 v3_1002 v3_1002l v3_1002c v4_1003 h
def straitref10_Classes_List (a1 : Option Addr) (a1l : Nat) (a1c : Nat) (h : Heap) (K : (Option Addr) → Nat → Nat → Heap → Prop) : Prop :=
  newP h (.cells #[(.slice a1 a1l a1c)] 28) fun a2 h3 => (((∃ m6, straitref10_Classes_List.l0 (fun z4 z4l z4c h5 => (K z4 z4l z4c h5)) m6 a2 none 0 0 0 h3)))
def straitref10_Classes_List.ret (K : (Option Addr) → Nat → Nat → Heap → Prop) (v : Value) (h : Heap) : Prop := match v with
  | (.slice r7 r7l r7c) => K r7 r7l r7c h
  | _ => False
theorem straitref10_Classes_List.ret_elim {K : (Option Addr) → Nat → Nat → Heap → Prop} {K' : Value → Heap → Prop} {v : Value} {h : Heap} (hk : ∀ r7 r7l r7c h, K r7 r7l r7c h → K' (.slice r7 r7l r7c) h) (hh : straitref10_Classes_List.ret K v h) : K' v h := by
  unfold straitref10_Classes_List.ret at hh
  split at hh
  · exact hk _ _ _ _ hh
  · exact hh.elim
def straitref10_Classes_List.r0 (K : Nat → List Value → Heap → Prop) (m : Nat) (vs : List Value) (h : Heap) : Prop := match vs with
  | [(.pointer (some c1_1001)), (.slice v3_1002 v3_1002l v3_1002c), (.int .i64 v4_1003)] => straitref10_Classes_List.l0 (fun z8 z8l z8c h' => K 2 [(.slice z8 z8l z8c)] h') m c1_1001 v3_1002 v3_1002l v3_1002c v4_1003 h
  | _ => False
def straitref10_Classes_List.r1 (K : Nat → List Value → Heap → Prop) (m : Nat) (vs : List Value) (h : Heap) : Prop := match vs with
  | [(.pointer (some c1_2001)), (.slice c3_2002 c3_2003 c3_2004), (.int .i64 c4_2005), (.slice v5_2006 v5_2006l v5_2006c), (.int .i64 v6_2007)] => straitref10_Classes_List.l1 (fun z9 z9l z9c h' => K 4 [(.pointer (some c1_2001)), (.slice c3_2002 c3_2003 c3_2004), (.int .i64 c4_2005), (.slice z9 z9l z9c)] h') m c1_2001 c3_2002 c3_2003 c3_2004 c4_2005 v5_2006 v5_2006l v5_2006c v6_2007 h
  | _ => False
def straitref10_Classes_List.loop (i : Nat) (vs : List Value) (h : Heap) (K : Nat → List Value → Heap → Prop) : Prop := match i with
  | 0 => ∃ m, straitref10_Classes_List.r0 K m vs h
  | 1 => ∃ m, straitref10_Classes_List.r1 K m vs h
  | _ => False
noncomputable def straitref10_Classes_List.ctx : Ctx := { P := Try.prog, call := fun _ _ _ _ => False, qcall := fun _ _ _ _ => False, quiet := fun f => Nat.beq f 1000045, loop := straitref10_Classes_List.loop }
theorem straitref10_Classes_List.ok : straitref10_Classes_List.ctx.OK where
  mixed := by kernel_rfl
  mono := fun hh _ => hh.elim
  call := fun hh => hh.elim
  qmono := fun hh _ => hh.elim
  qval := fun hh => hh.elim
  qcall := fun hh => hh.elim
noncomputable def straitref10_Classes_List.code : Code := (Try.f16.body).getD .skip
def straitref10_Classes_List.ann : Ann := (.two .auto (.two .auto (.two (.two .auto (.two (.loop 0 [1, 3, 4] [(2, [3])] (.two .auto (.two (.two (.two .auto (.two (.two .auto (.two (.two .auto (.two (.loop 1 [1, 3, 4, 5, 6] [(4, [1, 3, 4, 5])] .auto) .auto)) .auto)) .auto)) .auto) .auto))) .auto)) .auto)))
noncomputable def straitref10_Classes_List.c1 : Code := sub straitref10_Classes_List.code [1, 1, 0, 1, 0, 0, 1, 0, 0, 1, 0, 1, 0, 1, 0, 0]
def straitref10_Classes_List.a1 : Ann := .auto
def straitref10_Classes_List.keep1 : List Nat := [1, 3, 4, 5, 6]
def straitref10_Classes_List.outs1 : List (Nat × List Nat) := [(4, [1, 3, 4, 5])]
noncomputable def straitref10_Classes_List.c0 : Code := sub straitref10_Classes_List.code [1, 1, 0, 1, 0, 0]
def straitref10_Classes_List.a0 : Ann := (.two .auto (.two (.two (.two .auto (.two (.two .auto (.two (.two .auto (.two (.loop 1 [1, 3, 4, 5, 6] [(4, [1, 3, 4, 5])] .auto) .auto)) .auto)) .auto)) .auto) .auto))
def straitref10_Classes_List.keep0 : List Nat := [1, 3, 4]
def straitref10_Classes_List.outs0 : List (Nat × List Nat) := [(2, [3])]
set_option maxRecDepth 100000 in
theorem straitref10_Classes_List.L1 : LoopOK straitref10_Classes_List.ctx 44 straitref10_Classes_List.c1 1 straitref10_Classes_List.keep1 straitref10_Classes_List.outs1 := by
  refine loop_ok (n := straitref10_Classes_List.a1) straitref10_Classes_List.ok (by kernel_rfl) (loops_ok (l := []) (by kernel_rfl) ?_) straitref10_Classes_List.r1 ?_ ?_ (fun vs h K hh => hh)
  · exact trivial
  · intro K vs h hh
    unfold straitref10_Classes_List.r1 at hh
    split at hh
    · exact hh
    · exact hh
  · intro K m vs h hh
    unfold straitref10_Classes_List.r1 at hh
    split at hh
    · exact cast (by kernel_rfl) hh
    · exact hh.elim
set_option maxRecDepth 100000 in
theorem straitref10_Classes_List.L0 : LoopOK straitref10_Classes_List.ctx 44 straitref10_Classes_List.c0 0 straitref10_Classes_List.keep0 straitref10_Classes_List.outs0 := by
  refine loop_ok (n := straitref10_Classes_List.a0) straitref10_Classes_List.ok (by kernel_rfl) (loops_ok (l := [(straitref10_Classes_List.c1, none, 1, straitref10_Classes_List.keep1, straitref10_Classes_List.outs1)]) (by kernel_rfl) ?_) straitref10_Classes_List.r0 ?_ ?_ (fun vs h K hh => hh)
  · exact ⟨straitref10_Classes_List.L1, trivial⟩
  · intro K vs h hh
    unfold straitref10_Classes_List.r0 at hh
    split at hh
    · exact hh
    · exact hh
  · intro K m vs h hh
    unfold straitref10_Classes_List.r0 at hh
    split at hh
    · exact cast (by kernel_rfl) hh
    · exact hh.elim
set_option maxRecDepth 100000 in
theorem straitref10_Classes_List.eq (a1 : Option Addr) (a1l : Nat) (a1c : Nat) (h : Heap) (K : (Option Addr) → Nat → Nat → Heap → Prop) : evF straitref10_Classes_List.ctx Try.f16 straitref10_Classes_List.ann [(.agg #[(.slice a1 a1l a1c)])] h (straitref10_Classes_List.ret K) = straitref10_Classes_List a1 a1l a1c h K := by kernel_rfl
set_option maxRecDepth 100000 in
theorem straitref10_Classes_List.calls {a1 : Option Addr} {a1l : Nat} {a1c : Nat} {h : Heap} {K : (Option Addr) → Nat → Nat → Heap → Prop} (hh : straitref10_Classes_List a1 a1l a1c h K) (w : World) (hw : w.heap = h) :
    (callFunc 16 #[(.agg #[(.slice a1 a1l a1c)])]).run Try.prog w = .ok (.enter 16 #[(.agg #[(.slice a1 a1l a1c)])]) w ∧ Calls Try.prog 16 #[(.agg #[(.slice a1 a1l a1c)])] w fun e w' => ∃ v, e = .returned v ∧ Out w w' ∧ straitref10_Classes_List.ret K v w'.heap := by
  rw [← straitref10_Classes_List.eq] at hh
  exact fn_calls (args := [(.agg #[(.slice a1 a1l a1c)])]) (c := straitref10_Classes_List.code) straitref10_Classes_List.ok Try.func16 (by kernel_rfl) (by kernel_rfl) (by kernel_rfl) (by kernel_rfl) (loops_ok (l := [(straitref10_Classes_List.c0, none, 0, straitref10_Classes_List.keep0, straitref10_Classes_List.outs0)]) (by kernel_rfl) ⟨straitref10_Classes_List.L0, trivial⟩) hh w hw

/-! ### strait/straitlaw10.same: function 13 -/
def straitlaw10_same (a1 : Option Addr) (a2 : Option Addr) (a2l : Nat) (a2c : Nat) (a3 : Int) (h : Heap) (K : Bool → Heap → Prop) : Prop :=
  newP h (.cells #[(.slice a2 a2l a2c)] 28) fun a4 h5 => (iteB (!a1.isNone) (qcallP1 h5 (dsu_Classes_Room a1 h5) fun x6 => ∃ (x7 : Option Addr) (x7l : Nat) (x7c : Nat), cell h5 a4 = some (.slice x7 x7l x7c) ∧ iteB (x6 == (x7l : Int)) (∃ (x8 : Option Addr) (x8l : Nat) (x8c : Nat), cell h5 a4 = some (.slice x8 x8l x8c) ∧ callP1 (dsu_Classes_Of a1 a3 h5) fun x9 h10 => (∃ (x11 : Option Addr) (x11l : Nat) (x11c : Nat), cell h10 a4 = some (.slice x11 x11l x11c) ∧ ((.agg #[(.slice x11 x11l x11c)]) : Value) = (.agg #[(.slice x8 x8l x8c)])) ∧ callP1 (straitref10_Classes_Of x8 x8l x8c a3 h10) fun x12 h13 => iteB (x9 == x12) (∃ (x14 : Option Addr) (x14l : Nat) (x14c : Nat), cell h13 a4 = some (.slice x14 x14l x14c) ∧ callP1 (dsu_Classes_Size a1 a3 h13) fun x15 h16 => (∃ (x17 : Option Addr) (x17l : Nat) (x17c : Nat), cell h16 a4 = some (.slice x17 x17l x17c) ∧ ((.agg #[(.slice x17 x17l x17c)]) : Value) = (.agg #[(.slice x14 x14l x14c)])) ∧ callP1 (straitref10_Classes_Size x14 x14l x14c a3 h16) fun x18 h19 => iteB (x15 == x18) (qcallP1 h19 (dsu_Classes_Count a1 h19) fun x20 => ∃ (x21 : Option Addr) (x21l : Nat) (x21c : Nat), cell h19 a4 = some (.slice x21 x21l x21c) ∧ callP3 (straitref10_Classes_List x21 x21l x21c h19) fun x22 x22l x22c h23 => (K (x20 == (x22l : Int)) h23)) (K false h19)) (True ∧ K false h13)) (True ∧ True ∧ K false h5)) (True ∧ True ∧ K false h5))
def straitlaw10_same.ret (K : Bool → Heap → Prop) (v : Value) (h : Heap) : Prop := match v with
  | (.bool r26) => K r26 h
  | _ => False
theorem straitlaw10_same.ret_elim {K : Bool → Heap → Prop} {K' : Value → Heap → Prop} {v : Value} {h : Heap} (hk : ∀ r26 h, K r26 h → K' (.bool r26) h) (hh : straitlaw10_same.ret K v h) : K' v h := by
  unfold straitlaw10_same.ret at hh
  split at hh
  · exact hk _ _ hh
  · exact hh.elim
def straitlaw10_same.call (f : FuncId) (vs : List Value) (h : Heap) (K : Value → Heap → Prop) : Prop := match f, vs with
  | 10, [(.agg ⟨[(.slice a1 a1l a1c)]⟩), (.int .i64 a2)] => callP1 (straitref10_Classes_Of a1 a1l a1c a2 h) fun r11 h' => K (.int .i64 r11) h'
  | 16, [(.agg ⟨[(.slice a1 a1l a1c)]⟩)] => callP3 (straitref10_Classes_List a1 a1l a1c h) fun r7 r7l r7c h' => K (.slice r7 r7l r7c) h'
  | 18, [(.pointer a1), (.int .i64 a2)] => callP1 (dsu_Classes_Of a1 a2 h) fun r9 h' => K (.int .i64 r9) h'
  | 20, [(.pointer a1), (.int .i64 a2)] => callP1 (dsu_Classes_Size a1 a2 h) fun r9 h' => K (.int .i64 r9) h'
  | 24, [(.agg ⟨[(.slice a1 a1l a1c)]⟩), (.int .i64 a2)] => callP1 (straitref10_Classes_Size a1 a1l a1c a2 h) fun r8 h' => K (.int .i64 r8) h'
  | _, _ => False
def straitlaw10_same.qcall (f : FuncId) (vs : List Value) (h : Heap) (K : Value → Prop) : Prop := match f, vs with
  | 17, [(.pointer a1)] => qcallP1 h (dsu_Classes_Room a1 h) fun r4 => K (.int .i64 r4)
  | 19, [(.pointer a1)] => qcallP1 h (dsu_Classes_Count a1 h) fun r4 => K (.int .i64 r4)
  | _, _ => False
noncomputable def straitlaw10_same.ctx : Ctx := { P := Try.prog, call := straitlaw10_same.call, qcall := straitlaw10_same.qcall, quiet := fun f => Nat.beq f 17 || Nat.beq f 19 || Nat.beq f 1000045, loop := fun _ _ _ _ => False }
theorem straitlaw10_same.ok : straitlaw10_same.ctx.OK where
  mixed := by kernel_rfl
  mono := by
    intro f args h K K' hh hk
    change straitlaw10_same.call f args h K at hh
    change straitlaw10_same.call f args h K'
    unfold straitlaw10_same.call at hh ⊢
    split at hh
    · obtain ⟨R, h1, h2⟩ := hh
      exact ⟨R, h1, fun _ x hr => hk _ _ (h2 _ x hr)⟩
    · obtain ⟨R, h1, h2⟩ := hh
      exact ⟨R, h1, fun _ _ _ x hr => hk _ _ (h2 _ _ _ x hr)⟩
    · obtain ⟨R, h1, h2⟩ := hh
      exact ⟨R, h1, fun _ x hr => hk _ _ (h2 _ x hr)⟩
    · obtain ⟨R, h1, h2⟩ := hh
      exact ⟨R, h1, fun _ x hr => hk _ _ (h2 _ x hr)⟩
    · obtain ⟨R, h1, h2⟩ := hh
      exact ⟨R, h1, fun _ x hr => hk _ _ (h2 _ x hr)⟩
    · exact hh.elim
  call := by
    intro f args h K hh w hw
    change straitlaw10_same.call f args h K at hh
    unfold straitlaw10_same.call at hh
    split at hh
    · obtain ⟨R, h1, h2⟩ := hh
      obtain ⟨g1, g2⟩ := straitref10_Classes_Of.calls h1 w hw
      exact ⟨g1, g2.mono fun e w' ⟨v, he, ho, hr⟩ => ⟨v, he, ho, straitref10_Classes_Of.ret_elim h2 hr⟩⟩
    · obtain ⟨R, h1, h2⟩ := hh
      obtain ⟨g1, g2⟩ := straitref10_Classes_List.calls h1 w hw
      exact ⟨g1, g2.mono fun e w' ⟨v, he, ho, hr⟩ => ⟨v, he, ho, straitref10_Classes_List.ret_elim h2 hr⟩⟩
    · obtain ⟨R, h1, h2⟩ := hh
      obtain ⟨g1, g2⟩ := dsu_Classes_Of.calls h1 w hw
      exact ⟨g1, g2.mono fun e w' ⟨v, he, ho, hr⟩ => ⟨v, he, ho, dsu_Classes_Of.ret_elim h2 hr⟩⟩
    · obtain ⟨R, h1, h2⟩ := hh
      obtain ⟨g1, g2⟩ := dsu_Classes_Size.calls h1 w hw
      exact ⟨g1, g2.mono fun e w' ⟨v, he, ho, hr⟩ => ⟨v, he, ho, dsu_Classes_Size.ret_elim h2 hr⟩⟩
    · obtain ⟨R, h1, h2⟩ := hh
      obtain ⟨g1, g2⟩ := straitref10_Classes_Size.calls h1 w hw
      exact ⟨g1, g2.mono fun e w' ⟨v, he, ho, hr⟩ => ⟨v, he, ho, straitref10_Classes_Size.ret_elim h2 hr⟩⟩
    · exact hh.elim
  qmono := by
    intro f args h K K' hh hk
    change straitlaw10_same.qcall f args h K at hh
    change straitlaw10_same.qcall f args h K'
    unfold straitlaw10_same.qcall at hh ⊢
    split at hh
    · obtain ⟨x0, h1, h2⟩ := hh
      exact ⟨x0, h1, hk _ h2⟩
    · obtain ⟨x0, h1, h2⟩ := hh
      exact ⟨x0, h1, hk _ h2⟩
    · exact hh.elim
  qval := by
    intro f args h K hh
    change straitlaw10_same.qcall f args h K at hh
    suffices H : ∃ v, K v ∧ straitlaw10_same.qcall f args h (· = v) from H
    unfold straitlaw10_same.qcall at hh ⊢
    split at hh
    · obtain ⟨x0, h1, h2⟩ := hh
      exact ⟨_, h2, x0, h1, rfl⟩
    · obtain ⟨x0, h1, h2⟩ := hh
      exact ⟨_, h2, x0, h1, rfl⟩
    · exact hh.elim
  qcall := by
    intro f args h v hh w hw
    change straitlaw10_same.qcall f args h (· = v) at hh
    unfold straitlaw10_same.qcall at hh
    split at hh
    · obtain ⟨x0, h1, h2⟩ := hh
      obtain ⟨g1, g2⟩ := dsu_Classes_Room.calls h1 w hw
      refine .inl ⟨g1, g2.mono fun e w' ⟨u, he, ho, hr⟩ => ?_⟩
      have hq := dsu_Classes_Room.ret_elim (K' := fun u h' => u = v ∧ h' = h) (fun _ h' hr => by obtain ⟨rfl, rfl⟩ := hr; exact ⟨h2, rfl⟩) hr
      exact ⟨hq.1 ▸ he, ho, hq.2⟩
    · obtain ⟨x0, h1, h2⟩ := hh
      obtain ⟨g1, g2⟩ := dsu_Classes_Count.calls h1 w hw
      refine .inl ⟨g1, g2.mono fun e w' ⟨u, he, ho, hr⟩ => ?_⟩
      have hq := dsu_Classes_Count.ret_elim (K' := fun u h' => u = v ∧ h' = h) (fun _ h' hr => by obtain ⟨rfl, rfl⟩ := hr; exact ⟨h2, rfl⟩) hr
      exact ⟨hq.1 ▸ he, ho, hq.2⟩
    · exact hh.elim
noncomputable def straitlaw10_same.code : Code := (Try.f13.body).getD .skip
def straitlaw10_same.ann : Ann := (.two .auto (.two (.reg [0, 1, 3, 7, 15, 7, 39, 103, 255, 511, 1023, 2047, 2047, 8191, 2047, 2047, 65535, 131071, 262143, 524287, 1048575, 1048575, 4194303, 1048575, 1048575, 33554431, 67108863, 134217727, 268435455, 536870911, 1073741823, 536870911, 4294967295, 8589934591, 17179869183, 34359738367, 68719476735] (.take 0 (.take 1 (.take 2 (.take 3 (.take 4 (.take 5 (.take 6 (.take 7 (.take 8 (.take 9 (.take 10 (.take 11 (.take 12 (.take 15 (.early 14 (.alt 13 (.alt 16 (.take 17 (.take 18 (.take 19 (.take 20 (.take 21 (.take 24 (.early 23 (.alt 22 (.alt 25 (.take 26 (.take 27 (.take 28 (.take 29 (.take 30 (.take 31 (.alt 32 (.take 33 (.take 34 (.take 35 (.take 36 .done)))) .noalt))))))) .noalt) .noalt)))))))) .noalt) .noalt))))))))))))))))) .auto))
set_option maxRecDepth 100000 in
theorem straitlaw10_same.eq (a1 : Option Addr) (a2 : Option Addr) (a2l : Nat) (a2c : Nat) (a3 : Int) (h : Heap) (K : Bool → Heap → Prop) : evF straitlaw10_same.ctx Try.f13 straitlaw10_same.ann [(.pointer a1), (.agg #[(.slice a2 a2l a2c)]), (.int .i64 a3)] h (straitlaw10_same.ret K) = straitlaw10_same a1 a2 a2l a2c a3 h K := by kernel_rfl
set_option maxRecDepth 100000 in
theorem straitlaw10_same.calls {a1 : Option Addr} {a2 : Option Addr} {a2l : Nat} {a2c : Nat} {a3 : Int} {h : Heap} {K : Bool → Heap → Prop} (hh : straitlaw10_same a1 a2 a2l a2c a3 h K) (w : World) (hw : w.heap = h) :
    (callFunc 13 #[(.pointer a1), (.agg #[(.slice a2 a2l a2c)]), (.int .i64 a3)]).run Try.prog w = .ok (.enter 13 #[(.pointer a1), (.agg #[(.slice a2 a2l a2c)]), (.int .i64 a3)]) w ∧ Calls Try.prog 13 #[(.pointer a1), (.agg #[(.slice a2 a2l a2c)]), (.int .i64 a3)] w fun e w' => ∃ v, e = .returned v ∧ Out w w' ∧ straitlaw10_same.ret K v w'.heap := by
  rw [← straitlaw10_same.eq] at hh
  exact fn_calls (args := [(.pointer a1), (.agg #[(.slice a2 a2l a2c)]), (.int .i64 a3)]) (c := straitlaw10_same.code) straitlaw10_same.ok Try.func13 (by kernel_rfl) (by kernel_rfl) (by kernel_rfl) (by kernel_rfl) (loops_ok (l := []) (by kernel_rfl) trivial) hh w hw

/-! ### slices.SortFunc[[][]int,[]int]: function 26, by its contract -/
def slices_SortFunc_LLint_Lint_dsu_Classes_List_c1.ret (K : Heap → Prop) (v : Value) (h : Heap) : Prop := match v with
  | (.tuple ⟨[]⟩) => K h
  | _ => False
theorem slices_SortFunc_LLint_Lint_dsu_Classes_List_c1.ret_elim {K : Heap → Prop} {K' : Value → Heap → Prop} {v : Value} {h : Heap} (hk : ∀  h, K h → K' (.tuple #[]) h) (hh : slices_SortFunc_LLint_Lint_dsu_Classes_List_c1.ret K v h) : K' v h := by
  unfold slices_SortFunc_LLint_Lint_dsu_Classes_List_c1.ret at hh
  split at hh
  · exact hk _ hh
  · exact hh.elim
def slices_SortFunc_LLint_Lint_dsu_Classes_List_c1 (a1 : Option Addr) (a1l : Nat) (a1c : Nat) (h : Heap) (K : Heap → Prop) : Prop := ∀ w : World, w.heap = h → (callFunc 26 #[(.slice a1 a1l a1c), (.func (.func 27) #[] #[])]).run Try.prog w = .ok (.enter 26 #[(.slice a1 a1l a1c), (.func (.func 27) #[] #[])]) w ∧ Calls Try.prog 26 #[(.slice a1 a1l a1c), (.func (.func 27) #[] #[])] w fun e w' => ∃ v, e = .returned v ∧ Out w w' ∧ slices_SortFunc_LLint_Lint_dsu_Classes_List_c1.ret K v w'.heap
theorem slices_SortFunc_LLint_Lint_dsu_Classes_List_c1.calls {a1 : Option Addr} {a1l : Nat} {a1c : Nat} {h : Heap} {K : Heap → Prop} (hh : slices_SortFunc_LLint_Lint_dsu_Classes_List_c1 a1 a1l a1c h K) (w : World) (hw : w.heap = h) : (callFunc 26 #[(.slice a1 a1l a1c), (.func (.func 27) #[] #[])]).run Try.prog w = .ok (.enter 26 #[(.slice a1 a1l a1c), (.func (.func 27) #[] #[])]) w ∧ Calls Try.prog 26 #[(.slice a1 a1l a1c), (.func (.func 27) #[] #[])] w fun e w' => ∃ v, e = .returned v ∧ Out w w' ∧ slices_SortFunc_LLint_Lint_dsu_Classes_List_c1.ret K v w'.heap := hh w hw

/-! ### (*strait/dsu.Classes).List: function 15 -/
def dsu_Classes_List.b1 (K4 : (Option Addr) → Nat → Nat → Heap → Prop) (cont : (Option Addr) → Nat → Nat → Addr → Heap → Prop) (v6_2001 : Option Addr) (v6_2001l : Nat) (v6_2001c : Nat) (c31_2002 : Addr) (h2003 : Heap) : Prop :=
  let j2025 := (fun (y2010 : Bool) (h2011 : Heap) => iteB y2010 (((c31_2002.off = 0 ∧ c31_2002.spot = none) ∧ ∃ (b2012 : Nat) (m2013 : KV) (s2014 : List Nat) (i2015 : Nat) (e2016 : Value × Value), (h2011[c31_2002.block]? = some (.mapIter (some b2012) m2013.length (s2014 ++ [i2015]).toArray m2013.length) ∧ mapAt h2011 b2012 m2013 ∧ m2013[i2015]? = some e2016) ∧ ∃ (q2017 : Option Addr) (q2017l q2017c : Nat), e2016.2 = .slice q2017 q2017l q2017c ∧ (newP h2011 (.cells #[(.slice q2017 q2017l q2017c)] 26) fun a2018 h2019 => ∃ n2024, cellsAt h2019 (some a2018) (1 * 1) n2024 ∧ appP 26 1 24 [(.slice none 0 0)] v6_2001 v6_2001l v6_2001c 1 n2024 h2019 fun q2020 l2021 c2022 h2023 => cont q2020 l2021 c2022 c31_2002 h2023))) (K4 v6_2001 v6_2001l v6_2001c h2011));
  (c31_2002.off = 0 ∧ c31_2002.spot = none) ∧ ∃ (b2004 : Nat) (m2005 : KV) (s2006 : List Nat), (h2003[c31_2002.block]? = some (.mapIter (some b2004) m2005.length s2006.toArray m2005.length) ∧ mapAt h2003 b2004 m2005) ∧ ((∀ i, i < m2005.length → i ∈ s2006) → (j2025 false h2003)) ∧ ∀ i2007 e2008, m2005[i2007]? = some e2008 → i2007 ∉ s2006 → bindV (setO h2003 c31_2002.block (.mapIter (some b2004) m2005.length (s2006 ++ [i2007]).toArray m2005.length)) fun h2009 => (j2025 true h2009)
def dsu_Classes_List.l1 (K4 : (Option Addr) → Nat → Nat → Heap → Prop) : Nat → (Option Addr) → Nat → Nat → Addr → Heap → Prop
  | 0, _, _, _, _, _ => False
  | m + 1, v6_2001, v6_2001l, v6_2001c, c31_2002, h => dsu_Classes_List.b1 K4 (dsu_Classes_List.l1 K4 m) v6_2001 v6_2001l v6_2001c c31_2002 h
def dsu_Classes_List.b0 (K2 : Heap → Prop) (cont : (Option Addr) → (Option Nat) → Int → Int → Heap → Prop) (c0_1001 : Option Addr) (c3_1002 : Option Nat) (c11_1003 : Int) (v12_1004 : Int) (h1005 : Heap) : Prop :=
  (iteB (decide (v12_1004 < c11_1003)) (((callP1 (dsu_Classes_Of c0_1001 v12_1004 h1005) fun x1006 h1007 => (chkM c3_1002 fun b1008 => ∃ m1009, mapIn (.int .i64) h1007 b1008 m1009 ∧ ∃ (x1010 : Option Addr) (x1010l : Nat) (x1010c : Nat), some ((getM (.int .i64 x1006) m1009).getD (.slice none 0 0)) = some (.slice x1010 x1010l x1010c) ∧ newP h1007 (.cells #[(.int .i64 v12_1004)] 3) fun a1011 h1012 => ∃ n1017, cellsAt h1012 (some a1011) (1 * 1) n1017 ∧ appP 3 1 8 [(.int .i64 0)] x1010 x1010l x1010c 1 n1017 h1012 fun q1013 l1014 c1015 h1016 => chkM c3_1002 fun b1018 => ∃ m1019, mapIn (.int .i64) h1016 b1018 m1019 ∧ bindV (setO h1016 b1018 (mapObj (putM (.int .i64 x1006) (.slice q1013 l1014 c1015) m1019))) fun h1020 => ((cont c0_1001 c3_1002 c11_1003 (IntKind.i64.wrap (v12_1004 + 1)) h1020)))))) (K2 h1005))
def dsu_Classes_List.l0 (K2 : Heap → Prop) : Nat → (Option Addr) → (Option Nat) → Int → Int → Heap → Prop
  | 0, _, _, _, _, _ => False
  | m + 1, c0_1001, c3_1002, c11_1003, v12_1004, h => dsu_Classes_List.b0 K2 (dsu_Classes_List.l0 K2 m) c0_1001 c3_1002 c11_1003 v12_1004 h
def dsu_Classes_List (a1 : Option Addr) (h : Heap) (K : (Option Addr) → Nat → Nat → Heap → Prop) : Prop :=
  (newP h (mapObj []) fun a2 h3 => (qcallP1 h3 (dsu_Classes_Room a1 h3) fun x4 => (∃ m6, dsu_Classes_List.l0 (fun h5 => ((chkM (some a2.block) fun b7 => ∃ m8, mapAt h5 b7 m8 ∧ (0 ≤ (0 : Int) ∧ (0 : Int) ≤ (m8.length : Int) ∧ (m8.length : Int) * (24 : Nat) ≤ 2 ^ 47 ∧ (m8.length : Int) ≤ 2 ^ 47) ∧ newP h5 (.cells (zeroRow [(.slice none 0 0)] (m8.length : Int).toNat).toArray 26) fun a9 h10 => (chkM (some a2.block) fun b11 => ∃ m12, mapAt h10 b11 m12 ∧ newP h10 (.mapIter (some b11) m12.length #[] m12.length) fun a13 h14 => (∃ m17, dsu_Classes_List.l1 (fun z15 z15l z15c h16 => ((callP0 (slices_SortFunc_LLint_Lint_dsu_Classes_List_c1 z15 z15l z15c h16) fun h18 => K z15 z15l z15c h18))) m17 (some a9) ((0 : Int).toNat) ((m8.length : Int).toNat) a13 h14))))) m6 a1 (some a2.block) x4 0 h3)))
def dsu_Classes_List.ret (K : (Option Addr) → Nat → Nat → Heap → Prop) (v : Value) (h : Heap) : Prop := match v with
  | (.slice r19 r19l r19c) => K r19 r19l r19c h
  | _ => False
theorem dsu_Classes_List.ret_elim {K : (Option Addr) → Nat → Nat → Heap → Prop} {K' : Value → Heap → Prop} {v : Value} {h : Heap} (hk : ∀ r19 r19l r19c h, K r19 r19l r19c h → K' (.slice r19 r19l r19c) h) (hh : dsu_Classes_List.ret K v h) : K' v h := by
  unfold dsu_Classes_List.ret at hh
  split at hh
  · exact hk _ _ _ _ hh
  · exact hh.elim
def dsu_Classes_List.call (f : FuncId) (vs : List Value) (h : Heap) (K : Value → Heap → Prop) : Prop := match f, vs with
  | 18, [(.pointer a1), (.int .i64 a2)] => callP1 (dsu_Classes_Of a1 a2 h) fun r9 h' => K (.int .i64 r9) h'
  | 26, [(.slice a1 a1l a1c), (.func (.func 27) ⟨[]⟩ ⟨[]⟩)] => callP0 (slices_SortFunc_LLint_Lint_dsu_Classes_List_c1 a1 a1l a1c h) fun h' => K (.tuple #[]) h'
  | _, _ => False
def dsu_Classes_List.qcall (f : FuncId) (vs : List Value) (h : Heap) (K : Value → Prop) : Prop := match f, vs with
  | 17, [(.pointer a1)] => qcallP1 h (dsu_Classes_Room a1 h) fun r4 => K (.int .i64 r4)
  | _, _ => False
def dsu_Classes_List.r0 (K : Nat → List Value → Heap → Prop) (m : Nat) (vs : List Value) (h : Heap) : Prop := match vs with
  | [(.pointer c0_1001), (.map c3_1002), (.int .i64 c11_1003), (.int .i64 v12_1004)] => dsu_Classes_List.l0 (fun h' => K 2 [(.map c3_1002)] h') m c0_1001 c3_1002 c11_1003 v12_1004 h
  | _ => False
def dsu_Classes_List.r1 (K : Nat → List Value → Heap → Prop) (m : Nat) (vs : List Value) (h : Heap) : Prop := match vs with
  | [(.slice v6_2001 v6_2001l v6_2001c), (.pointer (some c31_2002))] => dsu_Classes_List.l1 (fun z20 z20l z20c h' => K 4 [(.slice z20 z20l z20c)] h') m v6_2001 v6_2001l v6_2001c c31_2002 h
  | _ => False
def dsu_Classes_List.loop (i : Nat) (vs : List Value) (h : Heap) (K : Nat → List Value → Heap → Prop) : Prop := match i with
  | 0 => ∃ m, dsu_Classes_List.r0 K m vs h
  | 1 => ∃ m, dsu_Classes_List.r1 K m vs h
  | _ => False
noncomputable def dsu_Classes_List.ctx : Ctx := { P := Try.prog, call := dsu_Classes_List.call, qcall := dsu_Classes_List.qcall, quiet := fun f => Nat.beq f 17 || Nat.beq f 1000045, loop := dsu_Classes_List.loop }
theorem dsu_Classes_List.ok : dsu_Classes_List.ctx.OK where
  mixed := by kernel_rfl
  mono := by
    intro f args h K K' hh hk
    change dsu_Classes_List.call f args h K at hh
    change dsu_Classes_List.call f args h K'
    unfold dsu_Classes_List.call at hh ⊢
    split at hh
    · obtain ⟨R, h1, h2⟩ := hh
      exact ⟨R, h1, fun _ x hr => hk _ _ (h2 _ x hr)⟩
    · obtain ⟨R, h1, h2⟩ := hh
      exact ⟨R, h1, fun x hr => hk _ _ (h2 x hr)⟩
    · exact hh.elim
  call := by
    intro f args h K hh w hw
    change dsu_Classes_List.call f args h K at hh
    unfold dsu_Classes_List.call at hh
    split at hh
    · obtain ⟨R, h1, h2⟩ := hh
      obtain ⟨g1, g2⟩ := dsu_Classes_Of.calls h1 w hw
      exact ⟨g1, g2.mono fun e w' ⟨v, he, ho, hr⟩ => ⟨v, he, ho, dsu_Classes_Of.ret_elim h2 hr⟩⟩
    · obtain ⟨R, h1, h2⟩ := hh
      obtain ⟨g1, g2⟩ := slices_SortFunc_LLint_Lint_dsu_Classes_List_c1.calls h1 w hw
      exact ⟨g1, g2.mono fun e w' ⟨v, he, ho, hr⟩ => ⟨v, he, ho, slices_SortFunc_LLint_Lint_dsu_Classes_List_c1.ret_elim h2 hr⟩⟩
    · exact hh.elim
  qmono := by
    intro f args h K K' hh hk
    change dsu_Classes_List.qcall f args h K at hh
    change dsu_Classes_List.qcall f args h K'
    unfold dsu_Classes_List.qcall at hh ⊢
    split at hh
    · obtain ⟨x0, h1, h2⟩ := hh
      exact ⟨x0, h1, hk _ h2⟩
    · exact hh.elim
  qval := by
    intro f args h K hh
    change dsu_Classes_List.qcall f args h K at hh
    suffices H : ∃ v, K v ∧ dsu_Classes_List.qcall f args h (· = v) from H
    unfold dsu_Classes_List.qcall at hh ⊢
    split at hh
    · obtain ⟨x0, h1, h2⟩ := hh
      exact ⟨_, h2, x0, h1, rfl⟩
    · exact hh.elim
  qcall := by
    intro f args h v hh w hw
    change dsu_Classes_List.qcall f args h (· = v) at hh
    unfold dsu_Classes_List.qcall at hh
    split at hh
    · obtain ⟨x0, h1, h2⟩ := hh
      obtain ⟨g1, g2⟩ := dsu_Classes_Room.calls h1 w hw
      refine .inl ⟨g1, g2.mono fun e w' ⟨u, he, ho, hr⟩ => ?_⟩
      have hq := dsu_Classes_Room.ret_elim (K' := fun u h' => u = v ∧ h' = h) (fun _ h' hr => by obtain ⟨rfl, rfl⟩ := hr; exact ⟨h2, rfl⟩) hr
      exact ⟨hq.1 ▸ he, ho, hq.2⟩
    · exact hh.elim
noncomputable def dsu_Classes_List.code : Code := (Try.f15.body).getD .skip
def dsu_Classes_List.ann : Ann := (.two .auto (.two .auto (.two (.two .auto (.two (.loop 0 [0, 3, 11, 12] [(2, [3])] .auto) .auto)) (.two .auto (.two (.two .auto (.two (.loop 1 [6, 31] [(4, [6])] .auto) .auto)) .auto)))))
noncomputable def dsu_Classes_List.c1 : Code := sub dsu_Classes_List.code [1, 1, 1, 1, 0, 1, 0, 0]
def dsu_Classes_List.a1 : Ann := .auto
def dsu_Classes_List.keep1 : List Nat := [6, 31]
def dsu_Classes_List.outs1 : List (Nat × List Nat) := [(4, [6])]
noncomputable def dsu_Classes_List.c0 : Code := sub dsu_Classes_List.code [1, 1, 0, 1, 0, 0]
def dsu_Classes_List.a0 : Ann := .auto
def dsu_Classes_List.keep0 : List Nat := [0, 3, 11, 12]
def dsu_Classes_List.outs0 : List (Nat × List Nat) := [(2, [3])]
set_option maxRecDepth 100000 in
theorem dsu_Classes_List.L0 : LoopOK dsu_Classes_List.ctx 43 dsu_Classes_List.c0 0 dsu_Classes_List.keep0 dsu_Classes_List.outs0 := by
  refine loop_ok (n := dsu_Classes_List.a0) dsu_Classes_List.ok (by kernel_rfl) (loops_ok (l := []) (by kernel_rfl) ?_) dsu_Classes_List.r0 ?_ ?_ (fun vs h K hh => hh)
  · exact trivial
  · intro K vs h hh
    unfold dsu_Classes_List.r0 at hh
    split at hh
    · exact hh
    · exact hh
  · intro K m vs h hh
    unfold dsu_Classes_List.r0 at hh
    split at hh
    · exact cast (by kernel_rfl) hh
    · exact hh.elim
set_option maxRecDepth 100000 in
theorem dsu_Classes_List.L1 : LoopOK dsu_Classes_List.ctx 43 dsu_Classes_List.c1 1 dsu_Classes_List.keep1 dsu_Classes_List.outs1 := by
  refine loop_ok (n := dsu_Classes_List.a1) dsu_Classes_List.ok (by kernel_rfl) (loops_ok (l := []) (by kernel_rfl) ?_) dsu_Classes_List.r1 ?_ ?_ (fun vs h K hh => hh)
  · exact trivial
  · intro K vs h hh
    unfold dsu_Classes_List.r1 at hh
    split at hh
    · exact hh
    · exact hh
  · intro K m vs h hh
    unfold dsu_Classes_List.r1 at hh
    split at hh
    · exact cast (by kernel_rfl) hh
    · exact hh.elim
set_option maxRecDepth 100000 in
theorem dsu_Classes_List.eq (a1 : Option Addr) (h : Heap) (K : (Option Addr) → Nat → Nat → Heap → Prop) : evF dsu_Classes_List.ctx Try.f15 dsu_Classes_List.ann [(.pointer a1)] h (dsu_Classes_List.ret K) = dsu_Classes_List a1 h K := by kernel_rfl
set_option maxRecDepth 100000 in
theorem dsu_Classes_List.calls {a1 : Option Addr} {h : Heap} {K : (Option Addr) → Nat → Nat → Heap → Prop} (hh : dsu_Classes_List a1 h K) (w : World) (hw : w.heap = h) :
    (callFunc 15 #[(.pointer a1)]).run Try.prog w = .ok (.enter 15 #[(.pointer a1)]) w ∧ Calls Try.prog 15 #[(.pointer a1)] w fun e w' => ∃ v, e = .returned v ∧ Out w w' ∧ dsu_Classes_List.ret K v w'.heap := by
  rw [← dsu_Classes_List.eq] at hh
  exact fn_calls (args := [(.pointer a1)]) (c := dsu_Classes_List.code) dsu_Classes_List.ok Try.func15 (by kernel_rfl) (by kernel_rfl) (by kernel_rfl) (by kernel_rfl) (loops_ok (l := [(dsu_Classes_List.c0, none, 0, dsu_Classes_List.keep0, dsu_Classes_List.outs0), (dsu_Classes_List.c1, none, 1, dsu_Classes_List.keep1, dsu_Classes_List.outs1)]) (by kernel_rfl) ⟨dsu_Classes_List.L0, dsu_Classes_List.L1, trivial⟩) hh w hw

/-! ### strait/straitref09.Ints: function 25 -/
def straitref09_Ints.b0 (K0 : Bool → Heap → Prop) (K2 : Heap → Prop) (cont : (Option Addr) → Nat → Nat → (Option Addr) → Nat → Nat → Int → Heap → Prop) (c0_1001 : Option Addr) (c0_1002 : Nat) (c0_1003 : Nat) (c1_1004 : Option Addr) (c1_1005 : Nat) (c1_1006 : Nat) (v5_1007 : Int) (h1008 : Heap) : Prop :=
  (iteB (decide (v5_1007 < (c0_1002 : Int))) ((chkP c0_1001 fun a1009 => (0 ≤ v5_1007 ∧ v5_1007 < (c0_1002 : Int)) ∧ ∃ (x1010 : Int), cell h1008 (a1009.add (v5_1007.toNat * 1)) = some (.int .i64 x1010) ∧ chkP c1_1004 fun a1011 => (0 ≤ v5_1007 ∧ v5_1007 < (c1_1005 : Int)) ∧ ∃ (x1012 : Int), cell h1008 (a1011.add (v5_1007.toNat * 1)) = some (.int .i64 x1012) ∧ (iteB (x1010 != x1012) (K0 false h1008) (((cont c0_1001 c0_1002 c0_1003 c1_1004 c1_1005 c1_1006 (IntKind.i64.wrap (v5_1007 + 1)) h1008)))))) (K2 h1008))
def straitref09_Ints.l0 (K0 : Bool → Heap → Prop) (K2 : Heap → Prop) : Nat → (Option Addr) → Nat → Nat → (Option Addr) → Nat → Nat → Int → Heap → Prop
  | 0, _, _, _, _, _, _, _, _ => False
  | m + 1, c0_1001, c0_1002, c0_1003, c1_1004, c1_1005, c1_1006, v5_1007, h => straitref09_Ints.b0 K0 K2 (straitref09_Ints.l0 K0 K2 m) c0_1001 c0_1002 c0_1003 c1_1004 c1_1005 c1_1006 v5_1007 h
def straitref09_Ints (a1 : Option Addr) (a1l : Nat) (a1c : Nat) (a2 : Option Addr) (a2l : Nat) (a2c : Nat) (h : Heap) (K : Bool → Heap → Prop) : Prop :=
  ((iteB ((a1l : Int) != (a2l : Int)) (K false h) (((∃ m6, straitref09_Ints.l0 (fun z3 h4 => K z3 h4) (fun h5 => (K true h5)) m6 a1 a1l a1c a2 a2l a2c 0 h)))))
def straitref09_Ints.ret (K : Bool → Heap → Prop) (v : Value) (h : Heap) : Prop := match v with
  | (.bool r7) => K r7 h
  | _ => False
theorem straitref09_Ints.ret_elim {K : Bool → Heap → Prop} {K' : Value → Heap → Prop} {v : Value} {h : Heap} (hk : ∀ r7 h, K r7 h → K' (.bool r7) h) (hh : straitref09_Ints.ret K v h) : K' v h := by
  unfold straitref09_Ints.ret at hh
  split at hh
  · exact hk _ _ hh
  · exact hh.elim
def straitref09_Ints.r0 (K : Nat → List Value → Heap → Prop) (m : Nat) (vs : List Value) (h : Heap) : Prop := match vs with
  | [(.slice c0_1001 c0_1002 c0_1003), (.slice c1_1004 c1_1005 c1_1006), (.int .i64 v5_1007)] => straitref09_Ints.l0 (fun z8 h' => K 0 [(.bool z8)] h') (fun h' => K 2 [] h') m c0_1001 c0_1002 c0_1003 c1_1004 c1_1005 c1_1006 v5_1007 h
  | _ => False
def straitref09_Ints.loop (i : Nat) (vs : List Value) (h : Heap) (K : Nat → List Value → Heap → Prop) : Prop := match i with
  | 0 => ∃ m, straitref09_Ints.r0 K m vs h
  | _ => False
noncomputable def straitref09_Ints.ctx : Ctx := { P := Try.prog, call := fun _ _ _ _ => False, qcall := fun _ _ _ _ => False, quiet := fun f => Nat.beq f 1000045, loop := straitref09_Ints.loop }
theorem straitref09_Ints.ok : straitref09_Ints.ctx.OK where
  mixed := by kernel_rfl
  mono := fun hh _ => hh.elim
  call := fun hh => hh.elim
  qmono := fun hh _ => hh.elim
  qval := fun hh => hh.elim
  qcall := fun hh => hh.elim
noncomputable def straitref09_Ints.code : Code := (Try.f25.body).getD .skip
def straitref09_Ints.ann : Ann := (.two .auto (.two .auto (.two (.two .auto (.two (.loop 0 [0, 1, 5] [(2, []), (0, [4])] (.two .auto (.two (.two (.two (.reg [0, 0, 3, 7, 0, 0, 48, 112, 255] (.take 0 (.take 1 (.take 2 (.take 3 (.take 4 (.take 5 (.take 6 (.take 7 (.take 8 .done)))))))))) .auto) .auto) .auto))) .auto)) .auto)))
noncomputable def straitref09_Ints.c0 : Code := sub straitref09_Ints.code [1, 1, 0, 1, 0, 0]
def straitref09_Ints.a0 : Ann := (.two .auto (.two (.two (.two (.reg [0, 0, 3, 7, 0, 0, 48, 112, 255] (.take 0 (.take 1 (.take 2 (.take 3 (.take 4 (.take 5 (.take 6 (.take 7 (.take 8 .done)))))))))) .auto) .auto) .auto))
def straitref09_Ints.keep0 : List Nat := [0, 1, 5]
def straitref09_Ints.outs0 : List (Nat × List Nat) := [(2, []), (0, [4])]
set_option maxRecDepth 100000 in
theorem straitref09_Ints.L0 : LoopOK straitref09_Ints.ctx 26 straitref09_Ints.c0 0 straitref09_Ints.keep0 straitref09_Ints.outs0 := by
  refine loop_ok (n := straitref09_Ints.a0) straitref09_Ints.ok (by kernel_rfl) (loops_ok (l := []) (by kernel_rfl) ?_) straitref09_Ints.r0 ?_ ?_ (fun vs h K hh => hh)
  · exact trivial
  · intro K vs h hh
    unfold straitref09_Ints.r0 at hh
    split at hh
    · exact hh
    · exact hh
  · intro K m vs h hh
    unfold straitref09_Ints.r0 at hh
    split at hh
    · exact cast (by kernel_rfl) hh
    · exact hh.elim
set_option maxRecDepth 100000 in
theorem straitref09_Ints.eq (a1 : Option Addr) (a1l : Nat) (a1c : Nat) (a2 : Option Addr) (a2l : Nat) (a2c : Nat) (h : Heap) (K : Bool → Heap → Prop) : evF straitref09_Ints.ctx Try.f25 straitref09_Ints.ann [(.slice a1 a1l a1c), (.slice a2 a2l a2c)] h (straitref09_Ints.ret K) = straitref09_Ints a1 a1l a1c a2 a2l a2c h K := by kernel_rfl
set_option maxRecDepth 100000 in
theorem straitref09_Ints.calls {a1 : Option Addr} {a1l : Nat} {a1c : Nat} {a2 : Option Addr} {a2l : Nat} {a2c : Nat} {h : Heap} {K : Bool → Heap → Prop} (hh : straitref09_Ints a1 a1l a1c a2 a2l a2c h K) (w : World) (hw : w.heap = h) :
    (callFunc 25 #[(.slice a1 a1l a1c), (.slice a2 a2l a2c)]).run Try.prog w = .ok (.enter 25 #[(.slice a1 a1l a1c), (.slice a2 a2l a2c)]) w ∧ Calls Try.prog 25 #[(.slice a1 a1l a1c), (.slice a2 a2l a2c)] w fun e w' => ∃ v, e = .returned v ∧ Out w w' ∧ straitref09_Ints.ret K v w'.heap := by
  rw [← straitref09_Ints.eq] at hh
  exact fn_calls (args := [(.slice a1 a1l a1c), (.slice a2 a2l a2c)]) (c := straitref09_Ints.code) straitref09_Ints.ok Try.func25 (by kernel_rfl) (by kernel_rfl) (by kernel_rfl) (by kernel_rfl) (loops_ok (l := [(straitref09_Ints.c0, none, 0, straitref09_Ints.keep0, straitref09_Ints.outs0)]) (by kernel_rfl) ⟨straitref09_Ints.L0, trivial⟩) hh w hw

/-! ### strait/straitref10.Lists: function 14 -/
def straitref10_Lists.b0 (K0 : Bool → Heap → Prop) (K2 : Heap → Prop) (cont : (Option Addr) → Nat → Nat → (Option Addr) → Nat → Nat → Int → Heap → Prop) (c0_1001 : Option Addr) (c0_1002 : Nat) (c0_1003 : Nat) (c1_1004 : Option Addr) (c1_1005 : Nat) (c1_1006 : Nat) (v5_1007 : Int) (h1008 : Heap) : Prop :=
  (iteB (decide (v5_1007 < (c0_1002 : Int))) ((chkP c0_1001 fun a1009 => (0 ≤ v5_1007 ∧ v5_1007 < (c0_1002 : Int)) ∧ ∃ (x1010 : Option Addr) (x1010l : Nat) (x1010c : Nat), cell h1008 (a1009.add (v5_1007.toNat * 1)) = some (.slice x1010 x1010l x1010c) ∧ chkP c1_1004 fun a1011 => (0 ≤ v5_1007 ∧ v5_1007 < (c1_1005 : Int)) ∧ ∃ (x1012 : Option Addr) (x1012l : Nat) (x1012c : Nat), cell h1008 (a1011.add (v5_1007.toNat * 1)) = some (.slice x1012 x1012l x1012c) ∧ qcallP1 h1008 (straitref09_Ints x1010 x1010l x1010c x1012 x1012l x1012c h1008) fun x1013 => (iteB (!x1013) (K0 false h1008) (((cont c0_1001 c0_1002 c0_1003 c1_1004 c1_1005 c1_1006 (IntKind.i64.wrap (v5_1007 + 1)) h1008)))))) (K2 h1008))
def straitref10_Lists.l0 (K0 : Bool → Heap → Prop) (K2 : Heap → Prop) : Nat → (Option Addr) → Nat → Nat → (Option Addr) → Nat → Nat → Int → Heap → Prop
  | 0, _, _, _, _, _, _, _, _ => False
  | m + 1, c0_1001, c0_1002, c0_1003, c1_1004, c1_1005, c1_1006, v5_1007, h => straitref10_Lists.b0 K0 K2 (straitref10_Lists.l0 K0 K2 m) c0_1001 c0_1002 c0_1003 c1_1004 c1_1005 c1_1006 v5_1007 h
def straitref10_Lists (a1 : Option Addr) (a1l : Nat) (a1c : Nat) (a2 : Option Addr) (a2l : Nat) (a2c : Nat) (h : Heap) (K : Bool → Heap → Prop) : Prop :=
  ((iteB ((a1l : Int) != (a2l : Int)) (K false h) (((∃ m6, straitref10_Lists.l0 (fun z3 h4 => K z3 h4) (fun h5 => (K true h5)) m6 a1 a1l a1c a2 a2l a2c 0 h)))))
def straitref10_Lists.ret (K : Bool → Heap → Prop) (v : Value) (h : Heap) : Prop := match v with
  | (.bool r7) => K r7 h
  | _ => False
theorem straitref10_Lists.ret_elim {K : Bool → Heap → Prop} {K' : Value → Heap → Prop} {v : Value} {h : Heap} (hk : ∀ r7 h, K r7 h → K' (.bool r7) h) (hh : straitref10_Lists.ret K v h) : K' v h := by
  unfold straitref10_Lists.ret at hh
  split at hh
  · exact hk _ _ hh
  · exact hh.elim
def straitref10_Lists.qcall (f : FuncId) (vs : List Value) (h : Heap) (K : Value → Prop) : Prop := match f, vs with
  | 25, [(.slice a1 a1l a1c), (.slice a2 a2l a2c)] => qcallP1 h (straitref09_Ints a1 a1l a1c a2 a2l a2c h) fun r7 => K (.bool r7)
  | _, _ => False
def straitref10_Lists.r0 (K : Nat → List Value → Heap → Prop) (m : Nat) (vs : List Value) (h : Heap) : Prop := match vs with
  | [(.slice c0_1001 c0_1002 c0_1003), (.slice c1_1004 c1_1005 c1_1006), (.int .i64 v5_1007)] => straitref10_Lists.l0 (fun z8 h' => K 0 [(.bool z8)] h') (fun h' => K 2 [] h') m c0_1001 c0_1002 c0_1003 c1_1004 c1_1005 c1_1006 v5_1007 h
  | _ => False
def straitref10_Lists.loop (i : Nat) (vs : List Value) (h : Heap) (K : Nat → List Value → Heap → Prop) : Prop := match i with
  | 0 => ∃ m, straitref10_Lists.r0 K m vs h
  | _ => False
noncomputable def straitref10_Lists.ctx : Ctx := { P := Try.prog, call := fun _ _ _ _ => False, qcall := straitref10_Lists.qcall, quiet := fun f => Nat.beq f 25 || Nat.beq f 1000045, loop := straitref10_Lists.loop }
theorem straitref10_Lists.ok : straitref10_Lists.ctx.OK where
  mixed := by kernel_rfl
  mono := fun hh _ => hh.elim
  call := fun hh => hh.elim
  qmono := by
    intro f args h K K' hh hk
    change straitref10_Lists.qcall f args h K at hh
    change straitref10_Lists.qcall f args h K'
    unfold straitref10_Lists.qcall at hh ⊢
    split at hh
    · obtain ⟨x0, h1, h2⟩ := hh
      exact ⟨x0, h1, hk _ h2⟩
    · exact hh.elim
  qval := by
    intro f args h K hh
    change straitref10_Lists.qcall f args h K at hh
    suffices H : ∃ v, K v ∧ straitref10_Lists.qcall f args h (· = v) from H
    unfold straitref10_Lists.qcall at hh ⊢
    split at hh
    · obtain ⟨x0, h1, h2⟩ := hh
      exact ⟨_, h2, x0, h1, rfl⟩
    · exact hh.elim
  qcall := by
    intro f args h v hh w hw
    change straitref10_Lists.qcall f args h (· = v) at hh
    unfold straitref10_Lists.qcall at hh
    split at hh
    · obtain ⟨x0, h1, h2⟩ := hh
      obtain ⟨g1, g2⟩ := straitref09_Ints.calls h1 w hw
      refine .inl ⟨g1, g2.mono fun e w' ⟨u, he, ho, hr⟩ => ?_⟩
      have hq := straitref09_Ints.ret_elim (K' := fun u h' => u = v ∧ h' = h) (fun _ h' hr => by obtain ⟨rfl, rfl⟩ := hr; exact ⟨h2, rfl⟩) hr
      exact ⟨hq.1 ▸ he, ho, hq.2⟩
    · exact hh.elim
noncomputable def straitref10_Lists.code : Code := (Try.f14.body).getD .skip
def straitref10_Lists.ann : Ann := (.two .auto (.two .auto (.two (.two .auto (.two (.loop 0 [0, 1, 5] [(2, []), (0, [4])] (.two .auto (.two (.two (.two (.reg [0, 0, 3, 7, 0, 0, 48, 112, 255, 511] (.take 0 (.take 1 (.take 2 (.take 3 (.take 4 (.take 5 (.take 6 (.take 7 (.take 8 (.take 9 .done))))))))))) .auto) .auto) .auto))) .auto)) .auto)))
noncomputable def straitref10_Lists.c0 : Code := sub straitref10_Lists.code [1, 1, 0, 1, 0, 0]
def straitref10_Lists.a0 : Ann := (.two .auto (.two (.two (.two (.reg [0, 0, 3, 7, 0, 0, 48, 112, 255, 511] (.take 0 (.take 1 (.take 2 (.take 3 (.take 4 (.take 5 (.take 6 (.take 7 (.take 8 (.take 9 .done))))))))))) .auto) .auto) .auto))
def straitref10_Lists.keep0 : List Nat := [0, 1, 5]
def straitref10_Lists.outs0 : List (Nat × List Nat) := [(2, []), (0, [4])]
set_option maxRecDepth 100000 in
theorem straitref10_Lists.L0 : LoopOK straitref10_Lists.ctx 27 straitref10_Lists.c0 0 straitref10_Lists.keep0 straitref10_Lists.outs0 := by
  refine loop_ok (n := straitref10_Lists.a0) straitref10_Lists.ok (by kernel_rfl) (loops_ok (l := []) (by kernel_rfl) ?_) straitref10_Lists.r0 ?_ ?_ (fun vs h K hh => hh)
  · exact trivial
  · intro K vs h hh
    unfold straitref10_Lists.r0 at hh
    split at hh
    · exact hh
    · exact hh
  · intro K m vs h hh
    unfold straitref10_Lists.r0 at hh
    split at hh
    · exact cast (by kernel_rfl) hh
    · exact hh.elim
set_option maxRecDepth 100000 in
theorem straitref10_Lists.eq (a1 : Option Addr) (a1l : Nat) (a1c : Nat) (a2 : Option Addr) (a2l : Nat) (a2c : Nat) (h : Heap) (K : Bool → Heap → Prop) : evF straitref10_Lists.ctx Try.f14 straitref10_Lists.ann [(.slice a1 a1l a1c), (.slice a2 a2l a2c)] h (straitref10_Lists.ret K) = straitref10_Lists a1 a1l a1c a2 a2l a2c h K := by kernel_rfl
set_option maxRecDepth 100000 in
theorem straitref10_Lists.calls {a1 : Option Addr} {a1l : Nat} {a1c : Nat} {a2 : Option Addr} {a2l : Nat} {a2c : Nat} {h : Heap} {K : Bool → Heap → Prop} (hh : straitref10_Lists a1 a1l a1c a2 a2l a2c h K) (w : World) (hw : w.heap = h) :
    (callFunc 14 #[(.slice a1 a1l a1c), (.slice a2 a2l a2c)]).run Try.prog w = .ok (.enter 14 #[(.slice a1 a1l a1c), (.slice a2 a2l a2c)]) w ∧ Calls Try.prog 14 #[(.slice a1 a1l a1c), (.slice a2 a2l a2c)] w fun e w' => ∃ v, e = .returned v ∧ Out w w' ∧ straitref10_Lists.ret K v w'.heap := by
  rw [← straitref10_Lists.eq] at hh
  exact fn_calls (args := [(.slice a1 a1l a1c), (.slice a2 a2l a2c)]) (c := straitref10_Lists.code) straitref10_Lists.ok Try.func14 (by kernel_rfl) (by kernel_rfl) (by kernel_rfl) (by kernel_rfl) (loops_ok (l := [(straitref10_Lists.c0, none, 0, straitref10_Lists.keep0, straitref10_Lists.outs0)]) (by kernel_rfl) ⟨straitref10_Lists.L0, trivial⟩) hh w hw

/-! ### strait/straitlaw10.DsuPlays: function 3 -/
def straitlaw10_DsuPlays.b1 (K0 : Bool → Heap → Prop) (K4 : Heap → Prop) (cont : (Option Addr) → Addr → Int → Heap → Prop) (c5_2001 : Option Addr) (c6_2002 : Addr) (v12_2003 : Int) (h2004 : Heap) : Prop :=
  ∃ (x2005 : Option Addr) (x2005l : Nat) (x2005c : Nat), cell h2004 c6_2002 = some (.slice x2005 x2005l x2005c) ∧ (iteB (decide (v12_2003 ≤ (x2005l : Int))) ((∃ (x2006 : Option Addr) (x2006l : Nat) (x2006c : Nat), cell h2004 c6_2002 = some (.slice x2006 x2006l x2006c) ∧ callP1 (straitlaw10_same c5_2001 x2006 x2006l x2006c v12_2003 h2004) fun x2007 h2008 => (iteB (!x2007) (K0 false h2008) (((cont c5_2001 c6_2002 (IntKind.i64.wrap (v12_2003 + 1)) h2008)))))) (K4 h2004))
def straitlaw10_DsuPlays.l1 (K0 : Bool → Heap → Prop) (K4 : Heap → Prop) : Nat → (Option Addr) → Addr → Int → Heap → Prop
  | 0, _, _, _, _ => False
  | m + 1, c5_2001, c6_2002, v12_2003, h => straitlaw10_DsuPlays.b1 K0 K4 (straitlaw10_DsuPlays.l1 K0 K4 m) c5_2001 c6_2002 v12_2003 h
def straitlaw10_DsuPlays.b0 (K0 : Bool → Heap → Prop) (K2 : Heap → Prop) (cont : (Option Addr) → Nat → Nat → (Option Addr) → Addr → Int → Heap → Prop) (c1_1001 : Option Addr) (c1_1002 : Nat) (c1_1003 : Nat) (c5_1004 : Option Addr) (c6_1005 : Addr) (v7_1006 : Int) (h1007 : Heap) : Prop :=
  (iteB (decide (v7_1006 < (c1_1002 : Int))) ((chkP c1_1001 fun a1008 => (0 ≤ v7_1006 ∧ v7_1006 < (c1_1002 : Int)) ∧ (0 ≤ (0 : Int) ∧ (0 : Int) < (2 : Int)) ∧ ∃ (x1009 : Int), cell h1007 ((a1008.add (v7_1006.toNat * 2)).add ((0 : Int).toNat * 1)) = some (.int .i64 x1009) ∧ chkP c1_1001 fun a1010 => (0 ≤ v7_1006 ∧ v7_1006 < (c1_1002 : Int)) ∧ (0 ≤ (1 : Int) ∧ (1 : Int) < (2 : Int)) ∧ ∃ (x1011 : Int), cell h1007 ((a1010.add (v7_1006.toNat * 2)).add ((1 : Int).toNat * 1)) = some (.int .i64 x1011) ∧ (∃ (x1012 : Option Addr) (x1012l : Nat) (x1012c : Nat), cell h1007 c6_1005 = some (.slice x1012 x1012l x1012c) ∧ callP1 (dsu_Classes_Same c5_1004 x1009 x1011 h1007) fun x1013 h1014 => (∃ (x1015 : Option Addr) (x1015l : Nat) (x1015c : Nat), cell h1014 c6_1005 = some (.slice x1015 x1015l x1015c) ∧ ((.agg #[(.slice x1015 x1015l x1015c)]) : Value) = (.agg #[(.slice x1012 x1012l x1012c)])) ∧ callP1 (straitref10_Classes_Same x1012 x1012l x1012c x1009 x1011 h1014) fun x1016 h1017 => (iteB (!(x1013 == x1016)) (K0 false h1017) ((let j1043 := (fun (y1027 : Bool) (h1028 : Heap) => callP1 (dsu_Classes_Join c5_1004 x1009 x1011 h1028) fun x1029 h1030 => (∃ (x1031 : Option Addr) (x1031l : Nat) (x1031c : Nat), cell h1030 c6_1005 = some (.slice x1031 x1031l x1031c) ∧ callP3 (straitref10_Classes_Join x1031 x1031l x1031c x1009 x1011 h1030) fun x1032 x1032l x1032c h1033 => stC h1033 c6_1005 (.slice x1032 x1032l x1032c) fun h1034 => (iteB (!(x1029 == y1027)) (K0 false h1034) (∃ (x1035 : Option Addr) (x1035l : Nat) (x1035c : Nat), cell h1034 c6_1005 = some (.slice x1035 x1035l x1035c) ∧ callP1 (straitlaw10_same c5_1004 x1035 x1035l x1035c x1009 h1034) fun x1036 h1037 => iteB (!x1036) (K0 false h1037) (∃ (x1038 : Option Addr) (x1038l : Nat) (x1038c : Nat), cell h1037 c6_1005 = some (.slice x1038 x1038l x1038c) ∧ callP1 (straitlaw10_same c5_1004 x1038 x1038l x1038c x1011 h1037) fun x1039 h1040 => (iteB (!x1039) (K0 false h1040) (((cont c1_1001 c1_1002 c1_1003 c5_1004 c6_1005 (IntKind.i64.wrap (v7_1006 + 1)) h1040)))))))));
  ∃ (x1018 : Option Addr) (x1018l : Nat) (x1018c : Nat), cell h1017 c6_1005 = some (.slice x1018 x1018l x1018c) ∧ callP1 (straitref10_Classes_Of x1018 x1018l x1018c x1009 h1017) fun x1019 h1020 => iteB (decide (x1019 ≥ (0 : Int))) (∃ (x1021 : Option Addr) (x1021l : Nat) (x1021c : Nat), cell h1020 c6_1005 = some (.slice x1021 x1021l x1021c) ∧ callP1 (straitref10_Classes_Of x1021 x1021l x1021c x1011 h1020) fun x1022 h1023 => iteB (decide (x1022 ≥ (0 : Int))) (∃ (x1024 : Option Addr) (x1024l : Nat) (x1024c : Nat), cell h1023 c6_1005 = some (.slice x1024 x1024l x1024c) ∧ callP1 (straitref10_Classes_Same x1024 x1024l x1024c x1009 x1011 h1023) fun x1025 h1026 => (j1043 (!x1025) h1026)) ((j1043 false h1023))) ((j1043 false h1020)))))))) (K2 h1007))
def straitlaw10_DsuPlays.l0 (K0 : Bool → Heap → Prop) (K2 : Heap → Prop) : Nat → (Option Addr) → Nat → Nat → (Option Addr) → Addr → Int → Heap → Prop
  | 0, _, _, _, _, _, _, _ => False
  | m + 1, c1_1001, c1_1002, c1_1003, c5_1004, c6_1005, v7_1006, h => straitlaw10_DsuPlays.b0 K0 K2 (straitlaw10_DsuPlays.l0 K0 K2 m) c1_1001 c1_1002 c1_1003 c5_1004 c6_1005 v7_1006 h
def straitlaw10_DsuPlays (a1 : Int) (a2 : Option Addr) (a2l : Nat) (a2c : Nat) (h : Heap) (K : Bool → Heap → Prop) : Prop :=
  (let j36 : Prop := (callP1 (dsu_New a1 h) fun x10 h11 => callP3 (straitref10_New a1 h11) fun x12 x12l x12c h13 => newP h13 (.cells #[(.slice none 0 0)] 28) fun a14 h15 => stC h15 a14 (.slice x12 x12l x12c) fun h16 => ((∃ m20, straitlaw10_DsuPlays.l0 (fun z17 h18 => K z17 h18) (fun h19 => (((∃ m24, straitlaw10_DsuPlays.l1 (fun z21 h22 => K z21 h22) (fun h23 => ((∃ (x25 : Option Addr) (x25l : Nat) (x25c : Nat), cell h23 a14 = some (.slice x25 x25l x25c) ∧ callP3 (dsu_Classes_List x10 h23) fun x26 x26l x26c h27 => (∃ (x28 : Option Addr) (x28l : Nat) (x28c : Nat), cell h27 a14 = some (.slice x28 x28l x28c) ∧ ((.agg #[(.slice x28 x28l x28c)]) : Value) = (.agg #[(.slice x25 x25l x25c)])) ∧ callP3 (straitref10_Classes_List x25 x25l x25c h27) fun x29 x29l x29c h30 => qcallP1 h30 (straitref10_Lists x26 x26l x26c x29 x29l x29c h30) fun x31 => iteB x31 (callP1 (straitlaw10_awake h30) fun x32 h33 => K x32 h33) (K false h30)))) m24 x10 a14 (-1) h19)))) m20 a2 a2l a2c x10 a14 0 h16)));
  iteB (decide ((a2l : Int) > (60 : Int))) ((callP1 (straitlaw10_awake h) fun x6 h7 => K x6 h7)) ((iteB (decide (a1 > (300 : Int))) (callP1 (straitlaw10_awake h) fun x8 h9 => K x8 h9) ((j36)))))
def straitlaw10_DsuPlays.ret (K : Bool → Heap → Prop) (v : Value) (h : Heap) : Prop := match v with
  | (.bool r37) => K r37 h
  | _ => False
theorem straitlaw10_DsuPlays.ret_elim {K : Bool → Heap → Prop} {K' : Value → Heap → Prop} {v : Value} {h : Heap} (hk : ∀ r37 h, K r37 h → K' (.bool r37) h) (hh : straitlaw10_DsuPlays.ret K v h) : K' v h := by
  unfold straitlaw10_DsuPlays.ret at hh
  split at hh
  · exact hk _ _ hh
  · exact hh.elim
def straitlaw10_DsuPlays.call (f : FuncId) (vs : List Value) (h : Heap) (K : Value → Heap → Prop) : Prop := match f, vs with
  | 5, [] => callP1 (straitlaw10_awake h) fun r16 h' => K (.bool r16) h'
  | 6, [(.int .i64 a1)] => callP1 (dsu_New a1 h) fun r50 h' => K (.pointer r50) h'
  | 7, [(.int .i64 a1)] => callP3 (straitref10_New a1 h) fun r11 r11l r11c h' => K (.agg #[(.slice r11 r11l r11c)]) h'
  | 8, [(.pointer a1), (.int .i64 a2), (.int .i64 a3)] => callP1 (dsu_Classes_Same a1 a2 a3 h) fun r9 h' => K (.bool r9) h'
  | 9, [(.agg ⟨[(.slice a1 a1l a1c)]⟩), (.int .i64 a2), (.int .i64 a3)] => callP1 (straitref10_Classes_Same a1 a1l a1c a2 a3 h) fun r20 h' => K (.bool r20) h'
  | 10, [(.agg ⟨[(.slice a1 a1l a1c)]⟩), (.int .i64 a2)] => callP1 (straitref10_Classes_Of a1 a1l a1c a2 h) fun r11 h' => K (.int .i64 r11) h'
  | 11, [(.pointer a1), (.int .i64 a2), (.int .i64 a3)] => callP1 (dsu_Classes_Join a1 a2 a3 h) fun r51 h' => K (.bool r51) h'
  | 12, [(.agg ⟨[(.slice a1 a1l a1c)]⟩), (.int .i64 a2), (.int .i64 a3)] => callP3 (straitref10_Classes_Join a1 a1l a1c a2 a3 h) fun r40 r40l r40c h' => K (.agg #[(.slice r40 r40l r40c)]) h'
  | 13, [(.pointer a1), (.agg ⟨[(.slice a2 a2l a2c)]⟩), (.int .i64 a3)] => callP1 (straitlaw10_same a1 a2 a2l a2c a3 h) fun r26 h' => K (.bool r26) h'
  | 15, [(.pointer a1)] => callP3 (dsu_Classes_List a1 h) fun r19 r19l r19c h' => K (.slice r19 r19l r19c) h'
  | 16, [(.agg ⟨[(.slice a1 a1l a1c)]⟩)] => callP3 (straitref10_Classes_List a1 a1l a1c h) fun r7 r7l r7c h' => K (.slice r7 r7l r7c) h'
  | _, _ => False
def straitlaw10_DsuPlays.qcall (f : FuncId) (vs : List Value) (h : Heap) (K : Value → Prop) : Prop := match f, vs with
  | 14, [(.slice a1 a1l a1c), (.slice a2 a2l a2c)] => qcallP1 h (straitref10_Lists a1 a1l a1c a2 a2l a2c h) fun r7 => K (.bool r7)
  | _, _ => False
def straitlaw10_DsuPlays.r0 (K : Nat → List Value → Heap → Prop) (m : Nat) (vs : List Value) (h : Heap) : Prop := match vs with
  | [(.slice c1_1001 c1_1002 c1_1003), (.pointer c5_1004), (.pointer (some c6_1005)), (.int .i64 v7_1006)] => straitlaw10_DsuPlays.l0 (fun z38 h' => K 0 [(.bool z38)] h') (fun h' => K 2 [(.pointer c5_1004), (.pointer (some c6_1005))] h') m c1_1001 c1_1002 c1_1003 c5_1004 c6_1005 v7_1006 h
  | _ => False
def straitlaw10_DsuPlays.r1 (K : Nat → List Value → Heap → Prop) (m : Nat) (vs : List Value) (h : Heap) : Prop := match vs with
  | [(.pointer c5_2001), (.pointer (some c6_2002)), (.int .i64 v12_2003)] => straitlaw10_DsuPlays.l1 (fun z39 h' => K 0 [(.bool z39)] h') (fun h' => K 4 [(.pointer c5_2001), (.pointer (some c6_2002))] h') m c5_2001 c6_2002 v12_2003 h
  | _ => False
def straitlaw10_DsuPlays.loop (i : Nat) (vs : List Value) (h : Heap) (K : Nat → List Value → Heap → Prop) : Prop := match i with
  | 0 => ∃ m, straitlaw10_DsuPlays.r0 K m vs h
  | 1 => ∃ m, straitlaw10_DsuPlays.r1 K m vs h
  | _ => False
noncomputable def straitlaw10_DsuPlays.ctx : Ctx := { P := Try.prog, call := straitlaw10_DsuPlays.call, qcall := straitlaw10_DsuPlays.qcall, quiet := fun f => Nat.beq f 14 || Nat.beq f 1000045, loop := straitlaw10_DsuPlays.loop }
theorem straitlaw10_DsuPlays.ok : straitlaw10_DsuPlays.ctx.OK where
  mixed := by kernel_rfl
  mono := by
    intro f args h K K' hh hk
    change straitlaw10_DsuPlays.call f args h K at hh
    change straitlaw10_DsuPlays.call f args h K'
    unfold straitlaw10_DsuPlays.call at hh ⊢
    split at hh
    · obtain ⟨R, h1, h2⟩ := hh
      exact ⟨R, h1, fun _ x hr => hk _ _ (h2 _ x hr)⟩
    · obtain ⟨R, h1, h2⟩ := hh
      exact ⟨R, h1, fun _ x hr => hk _ _ (h2 _ x hr)⟩
    · obtain ⟨R, h1, h2⟩ := hh
      exact ⟨R, h1, fun _ _ _ x hr => hk _ _ (h2 _ _ _ x hr)⟩
    · obtain ⟨R, h1, h2⟩ := hh
      exact ⟨R, h1, fun _ x hr => hk _ _ (h2 _ x hr)⟩
    · obtain ⟨R, h1, h2⟩ := hh
      exact ⟨R, h1, fun _ x hr => hk _ _ (h2 _ x hr)⟩
    · obtain ⟨R, h1, h2⟩ := hh
      exact ⟨R, h1, fun _ x hr => hk _ _ (h2 _ x hr)⟩
    · obtain ⟨R, h1, h2⟩ := hh
      exact ⟨R, h1, fun _ x hr => hk _ _ (h2 _ x hr)⟩
    · obtain ⟨R, h1, h2⟩ := hh
      exact ⟨R, h1, fun _ _ _ x hr => hk _ _ (h2 _ _ _ x hr)⟩
    · obtain ⟨R, h1, h2⟩ := hh
      exact ⟨R, h1, fun _ x hr => hk _ _ (h2 _ x hr)⟩
    · obtain ⟨R, h1, h2⟩ := hh
      exact ⟨R, h1, fun _ _ _ x hr => hk _ _ (h2 _ _ _ x hr)⟩
    · obtain ⟨R, h1, h2⟩ := hh
      exact ⟨R, h1, fun _ _ _ x hr => hk _ _ (h2 _ _ _ x hr)⟩
    · exact hh.elim
  call := by
    intro f args h K hh w hw
    change straitlaw10_DsuPlays.call f args h K at hh
    unfold straitlaw10_DsuPlays.call at hh
    split at hh
    · obtain ⟨R, h1, h2⟩ := hh
      obtain ⟨g1, g2⟩ := straitlaw10_awake.calls h1 w hw
      exact ⟨g1, g2.mono fun e w' ⟨v, he, ho, hr⟩ => ⟨v, he, ho, straitlaw10_awake.ret_elim h2 hr⟩⟩
    · obtain ⟨R, h1, h2⟩ := hh
      obtain ⟨g1, g2⟩ := dsu_New.calls h1 w hw
      exact ⟨g1, g2.mono fun e w' ⟨v, he, ho, hr⟩ => ⟨v, he, ho, dsu_New.ret_elim h2 hr⟩⟩
    · obtain ⟨R, h1, h2⟩ := hh
      obtain ⟨g1, g2⟩ := straitref10_New.calls h1 w hw
      exact ⟨g1, g2.mono fun e w' ⟨v, he, ho, hr⟩ => ⟨v, he, ho, straitref10_New.ret_elim h2 hr⟩⟩
    · obtain ⟨R, h1, h2⟩ := hh
      obtain ⟨g1, g2⟩ := dsu_Classes_Same.calls h1 w hw
      exact ⟨g1, g2.mono fun e w' ⟨v, he, ho, hr⟩ => ⟨v, he, ho, dsu_Classes_Same.ret_elim h2 hr⟩⟩
    · obtain ⟨R, h1, h2⟩ := hh
      obtain ⟨g1, g2⟩ := straitref10_Classes_Same.calls h1 w hw
      exact ⟨g1, g2.mono fun e w' ⟨v, he, ho, hr⟩ => ⟨v, he, ho, straitref10_Classes_Same.ret_elim h2 hr⟩⟩
    · obtain ⟨R, h1, h2⟩ := hh
      obtain ⟨g1, g2⟩ := straitref10_Classes_Of.calls h1 w hw
      exact ⟨g1, g2.mono fun e w' ⟨v, he, ho, hr⟩ => ⟨v, he, ho, straitref10_Classes_Of.ret_elim h2 hr⟩⟩
    · obtain ⟨R, h1, h2⟩ := hh
      obtain ⟨g1, g2⟩ := dsu_Classes_Join.calls h1 w hw
      exact ⟨g1, g2.mono fun e w' ⟨v, he, ho, hr⟩ => ⟨v, he, ho, dsu_Classes_Join.ret_elim h2 hr⟩⟩
    · obtain ⟨R, h1, h2⟩ := hh
      obtain ⟨g1, g2⟩ := straitref10_Classes_Join.calls h1 w hw
      exact ⟨g1, g2.mono fun e w' ⟨v, he, ho, hr⟩ => ⟨v, he, ho, straitref10_Classes_Join.ret_elim h2 hr⟩⟩
    · obtain ⟨R, h1, h2⟩ := hh
      obtain ⟨g1, g2⟩ := straitlaw10_same.calls h1 w hw
      exact ⟨g1, g2.mono fun e w' ⟨v, he, ho, hr⟩ => ⟨v, he, ho, straitlaw10_same.ret_elim h2 hr⟩⟩
    · obtain ⟨R, h1, h2⟩ := hh
      obtain ⟨g1, g2⟩ := dsu_Classes_List.calls h1 w hw
      exact ⟨g1, g2.mono fun e w' ⟨v, he, ho, hr⟩ => ⟨v, he, ho, dsu_Classes_List.ret_elim h2 hr⟩⟩
    · obtain ⟨R, h1, h2⟩ := hh
      obtain ⟨g1, g2⟩ := straitref10_Classes_List.calls h1 w hw
      exact ⟨g1, g2.mono fun e w' ⟨v, he, ho, hr⟩ => ⟨v, he, ho, straitref10_Classes_List.ret_elim h2 hr⟩⟩
    · exact hh.elim
  qmono := by
    intro f args h K K' hh hk
    change straitlaw10_DsuPlays.qcall f args h K at hh
    change straitlaw10_DsuPlays.qcall f args h K'
    unfold straitlaw10_DsuPlays.qcall at hh ⊢
    split at hh
    · obtain ⟨x0, h1, h2⟩ := hh
      exact ⟨x0, h1, hk _ h2⟩
    · exact hh.elim
  qval := by
    intro f args h K hh
    change straitlaw10_DsuPlays.qcall f args h K at hh
    suffices H : ∃ v, K v ∧ straitlaw10_DsuPlays.qcall f args h (· = v) from H
    unfold straitlaw10_DsuPlays.qcall at hh ⊢
    split at hh
    · obtain ⟨x0, h1, h2⟩ := hh
      exact ⟨_, h2, x0, h1, rfl⟩
    · exact hh.elim
  qcall := by
    intro f args h v hh w hw
    change straitlaw10_DsuPlays.qcall f args h (· = v) at hh
    unfold straitlaw10_DsuPlays.qcall at hh
    split at hh
    · obtain ⟨x0, h1, h2⟩ := hh
      obtain ⟨g1, g2⟩ := straitref10_Lists.calls h1 w hw
      refine .inl ⟨g1, g2.mono fun e w' ⟨u, he, ho, hr⟩ => ?_⟩
      have hq := straitref10_Lists.ret_elim (K' := fun u h' => u = v ∧ h' = h) (fun _ h' hr => by obtain ⟨rfl, rfl⟩ := hr; exact ⟨h2, rfl⟩) hr
      exact ⟨hq.1 ▸ he, ho, hq.2⟩
    · exact hh.elim
noncomputable def straitlaw10_DsuPlays.code : Code := (Try.f3.body).getD .skip
def straitlaw10_DsuPlays.ann : Ann := (.two .auto (.two .auto (.two .auto (.two (.two .auto (.two (.loop 0 [1, 5, 6, 7] [(2, [5, 6]), (0, [4])] (.two .auto (.two (.two (.two (.reg [0, 0, 3, 7, 15, 0, 0, 96, 224, 480, 31, 2047] (.take 0 (.take 1 (.take 2 (.take 3 (.take 4 (.take 5 (.take 6 (.take 7 (.take 8 (.take 9 (.take 10 (.take 11 .done))))))))))))) (.two (.two (.reg [0, 0, 0, 7, 0, 0, 0, 127, 255] (.take 0 (.take 1 (.take 2 (.take 5 (.take 6 (.early 4 (.alt 3 (.alt 7 (.take 8 .done) .noalt) .noalt)))))))) .auto) .auto)) .auto) .auto))) .auto)) (.two (.two .auto (.two (.loop 1 [5, 6, 12] [(4, [5, 6]), (0, [4])] .auto) .auto)) (.two (.reg [0, 1, 0, 7, 15, 31, 63, 127, 255] (.take 0 (.early 2 (.alt 1 (.alt 3 (.take 4 (.take 5 (.alt 6 (.take 7 (.take 8 .done)) .noalt))) .noalt) .noalt)))) .auto))))))
noncomputable def straitlaw10_DsuPlays.c1 : Code := sub straitlaw10_DsuPlays.code [1, 1, 1, 1, 0, 1, 0, 0]
def straitlaw10_DsuPlays.a1 : Ann := .auto
def straitlaw10_DsuPlays.keep1 : List Nat := [5, 6, 12]
def straitlaw10_DsuPlays.outs1 : List (Nat × List Nat) := [(4, [5, 6]), (0, [4])]
noncomputable def straitlaw10_DsuPlays.c0 : Code := sub straitlaw10_DsuPlays.code [1, 1, 1, 0, 1, 0, 0]
def straitlaw10_DsuPlays.a0 : Ann := (.two .auto (.two (.two (.two (.reg [0, 0, 3, 7, 15, 0, 0, 96, 224, 480, 31, 2047] (.take 0 (.take 1 (.take 2 (.take 3 (.take 4 (.take 5 (.take 6 (.take 7 (.take 8 (.take 9 (.take 10 (.take 11 .done))))))))))))) (.two (.two (.reg [0, 0, 0, 7, 0, 0, 0, 127, 255] (.take 0 (.take 1 (.take 2 (.take 5 (.take 6 (.early 4 (.alt 3 (.alt 7 (.take 8 .done) .noalt) .noalt)))))))) .auto) .auto)) .auto) .auto))
def straitlaw10_DsuPlays.keep0 : List Nat := [1, 5, 6, 7]
def straitlaw10_DsuPlays.outs0 : List (Nat × List Nat) := [(2, [5, 6]), (0, [4])]
set_option maxRecDepth 100000 in
theorem straitlaw10_DsuPlays.L0 : LoopOK straitlaw10_DsuPlays.ctx 112 straitlaw10_DsuPlays.c0 0 straitlaw10_DsuPlays.keep0 straitlaw10_DsuPlays.outs0 := by
  refine loop_ok (n := straitlaw10_DsuPlays.a0) straitlaw10_DsuPlays.ok (by kernel_rfl) (loops_ok (l := []) (by kernel_rfl) ?_) straitlaw10_DsuPlays.r0 ?_ ?_ (fun vs h K hh => hh)
  · exact trivial
  · intro K vs h hh
    unfold straitlaw10_DsuPlays.r0 at hh
    split at hh
    · exact hh
    · exact hh
  · intro K m vs h hh
    unfold straitlaw10_DsuPlays.r0 at hh
    split at hh
    · exact cast (by kernel_rfl) hh
    · exact hh.elim
set_option maxRecDepth 100000 in
theorem straitlaw10_DsuPlays.L1 : LoopOK straitlaw10_DsuPlays.ctx 112 straitlaw10_DsuPlays.c1 1 straitlaw10_DsuPlays.keep1 straitlaw10_DsuPlays.outs1 := by
  refine loop_ok (n := straitlaw10_DsuPlays.a1) straitlaw10_DsuPlays.ok (by kernel_rfl) (loops_ok (l := []) (by kernel_rfl) ?_) straitlaw10_DsuPlays.r1 ?_ ?_ (fun vs h K hh => hh)
  · exact trivial
  · intro K vs h hh
    unfold straitlaw10_DsuPlays.r1 at hh
    split at hh
    · exact hh
    · exact hh
  · intro K m vs h hh
    unfold straitlaw10_DsuPlays.r1 at hh
    split at hh
    · exact cast (by kernel_rfl) hh
    · exact hh.elim
set_option maxRecDepth 100000 in
theorem straitlaw10_DsuPlays.eq (a1 : Int) (a2 : Option Addr) (a2l : Nat) (a2c : Nat) (h : Heap) (K : Bool → Heap → Prop) : evF straitlaw10_DsuPlays.ctx Try.f3 straitlaw10_DsuPlays.ann [(.int .i64 a1), (.slice a2 a2l a2c)] h (straitlaw10_DsuPlays.ret K) = straitlaw10_DsuPlays a1 a2 a2l a2c h K := by kernel_rfl
set_option maxRecDepth 100000 in
theorem straitlaw10_DsuPlays.calls {a1 : Int} {a2 : Option Addr} {a2l : Nat} {a2c : Nat} {h : Heap} {K : Bool → Heap → Prop} (hh : straitlaw10_DsuPlays a1 a2 a2l a2c h K) (w : World) (hw : w.heap = h) :
    (callFunc 3 #[(.int .i64 a1), (.slice a2 a2l a2c)]).run Try.prog w = .ok (.enter 3 #[(.int .i64 a1), (.slice a2 a2l a2c)]) w ∧ Calls Try.prog 3 #[(.int .i64 a1), (.slice a2 a2l a2c)] w fun e w' => ∃ v, e = .returned v ∧ Out w w' ∧ straitlaw10_DsuPlays.ret K v w'.heap := by
  rw [← straitlaw10_DsuPlays.eq] at hh
  exact fn_calls (args := [(.int .i64 a1), (.slice a2 a2l a2c)]) (c := straitlaw10_DsuPlays.code) straitlaw10_DsuPlays.ok Try.func3 (by kernel_rfl) (by kernel_rfl) (by kernel_rfl) (by kernel_rfl) (loops_ok (l := [(straitlaw10_DsuPlays.c0, none, 0, straitlaw10_DsuPlays.keep0, straitlaw10_DsuPlays.outs0), (straitlaw10_DsuPlays.c1, none, 1, straitlaw10_DsuPlays.keep1, straitlaw10_DsuPlays.outs1)]) (by kernel_rfl) ⟨straitlaw10_DsuPlays.L0, straitlaw10_DsuPlays.L1, trivial⟩) hh w hw

/-! ### strait/straitlaw10.DsuOrder: function 4 -/
def straitlaw10_DsuOrder.b0 (K2 : Heap → Prop) (cont : Int → (Option Addr) → Nat → Nat → Int → (Option Addr) → (Option Addr) → Int → Heap → Prop) (c0_1001 : Int) (c1_1002 : Option Addr) (c1_1003 : Nat) (c1_1004 : Nat) (c2_1005 : Int) (c7_1006 : Option Addr) (c8_1007 : Option Addr) (v9_1008 : Int) (h1009 : Heap) : Prop :=
  (iteB (decide (v9_1008 < (c1_1003 : Int))) ((chkP c1_1002 fun a1010 => (0 ≤ v9_1008 ∧ v9_1008 < (c1_1003 : Int)) ∧ (0 ≤ (0 : Int) ∧ (0 : Int) < (2 : Int)) ∧ ∃ (x1011 : Int), cell h1009 ((a1010.add (v9_1008.toNat * 2)).add ((0 : Int).toNat * 1)) = some (.int .i64 x1011) ∧ chkP c1_1002 fun a1012 => (0 ≤ v9_1008 ∧ v9_1008 < (c1_1003 : Int)) ∧ (0 ≤ (1 : Int) ∧ (1 : Int) < (2 : Int)) ∧ ∃ (x1013 : Int), cell h1009 ((a1012.add (v9_1008.toNat * 2)).add ((1 : Int).toNat * 1)) = some (.int .i64 x1013) ∧ callP1 (dsu_Classes_Join c7_1006 x1011 x1013 h1009) fun x1014 h1015 => (bindV (IntKind.i64.wrap ((IntKind.i64.wrap ((c1_1003 : Int) - 1)) - v9_1008)) fun n1016 => chkP c1_1002 fun a1017 => (0 ≤ n1016 ∧ n1016 < (c1_1003 : Int)) ∧ (0 ≤ (1 : Int) ∧ (1 : Int) < (2 : Int)) ∧ ∃ (x1018 : Int), cell h1015 ((a1017.add (n1016.toNat * 2)).add ((1 : Int).toNat * 1)) = some (.int .i64 x1018) ∧ bindV (IntKind.i64.wrap ((IntKind.i64.wrap ((c1_1003 : Int) - 1)) - v9_1008)) fun n1019 => chkP c1_1002 fun a1020 => (0 ≤ n1019 ∧ n1019 < (c1_1003 : Int)) ∧ (0 ≤ (0 : Int) ∧ (0 : Int) < (2 : Int)) ∧ ∃ (x1021 : Int), cell h1015 ((a1020.add (n1019.toNat * 2)).add ((0 : Int).toNat * 1)) = some (.int .i64 x1021) ∧ callP1 (dsu_Classes_Join c8_1007 x1018 x1021 h1015) fun x1022 h1023 => ((cont c0_1001 c1_1002 c1_1003 c1_1004 c2_1005 c7_1006 c8_1007 (IntKind.i64.wrap (v9_1008 + 1)) h1023))))) (K2 h1009))
def straitlaw10_DsuOrder.l0 (K2 : Heap → Prop) : Nat → Int → (Option Addr) → Nat → Nat → Int → (Option Addr) → (Option Addr) → Int → Heap → Prop
  | 0, _, _, _, _, _, _, _, _, _ => False
  | m + 1, c0_1001, c1_1002, c1_1003, c1_1004, c2_1005, c7_1006, c8_1007, v9_1008, h => straitlaw10_DsuOrder.b0 K2 (straitlaw10_DsuOrder.l0 K2 m) c0_1001 c1_1002 c1_1003 c1_1004 c2_1005 c7_1006 c8_1007 v9_1008 h
def straitlaw10_DsuOrder (a1 : Int) (a2 : Option Addr) (a2l : Nat) (a2c : Nat) (a3 : Int) (h : Heap) (K : Bool → Heap → Prop) : Prop :=
  ((iteB (decide ((a2l : Int) > (60 : Int))) (callP1 (straitlaw10_awake h) fun x4 h5 => K x4 h5) ((callP1 (dsu_New a1 h) fun x6 h7 => callP1 (dsu_New a1 h7) fun x8 h9 => ((∃ m11, straitlaw10_DsuOrder.l0 (fun h10 => (((let j42 := (fun (h26 : Heap) => qcallP1 h26 (dsu_Classes_Room x6 h26) fun x27 => qcallP1 h26 (straitref09_Room a1 h26) fun x28 => iteB (x27 == x28) (callP3 (dsu_Classes_List x6 h26) fun x29 x29l x29c h30 => callP3 (dsu_Classes_List x8 h30) fun x31 x31l x31c h32 => qcallP1 h32 (straitref10_Lists x29 x29l x29c x31 x31l x31c h32) fun x33 => iteB x33 (callP1 (dsu_Classes_Of x6 a3 h32) fun x34 h35 => callP1 (dsu_Classes_Of x8 a3 h35) fun x36 h37 => iteB (x34 == x36) (callP1 (straitlaw10_awake h37) fun x38 h39 => K x38 h39) (K false h37)) (K false h32)) (K false h26));
  qcallP1 h10 (dsu_Classes_Room none h10) fun x12 => iteB (x12 != (0 : Int)) (K false h10) (callP1 (dsu_Classes_Join none 0 a3 h10) fun x13 h14 => iteB x13 (K false h14) (callP1 (dsu_Classes_Of none a3 h14) fun x15 h16 => iteB (x15 != ((-1) : Int)) (K false h16) (callP1 (dsu_Classes_Same none a3 a3 h16) fun x17 h18 => iteB x17 (K false h18) (qcallP1 h18 (dsu_Classes_Count none h18) fun x19 => iteB (x19 != (0 : Int)) (K false h18) (callP1 (dsu_Classes_Size none a3 h18) fun x20 h21 => iteB (x20 != (0 : Int)) (K false h21) (callP3 (dsu_Classes_List none h21) fun x22 x22l x22c h23 => (iteB ((x22l : Int) != (0 : Int)) (K false h23) ((j42 h23))))))))))))) m11 a1 a2 a2l a2c a3 x6 x8 0 h9))))))
def straitlaw10_DsuOrder.ret (K : Bool → Heap → Prop) (v : Value) (h : Heap) : Prop := match v with
  | (.bool r43) => K r43 h
  | _ => False
theorem straitlaw10_DsuOrder.ret_elim {K : Bool → Heap → Prop} {K' : Value → Heap → Prop} {v : Value} {h : Heap} (hk : ∀ r43 h, K r43 h → K' (.bool r43) h) (hh : straitlaw10_DsuOrder.ret K v h) : K' v h := by
  unfold straitlaw10_DsuOrder.ret at hh
  split at hh
  · exact hk _ _ hh
  · exact hh.elim
def straitlaw10_DsuOrder.call (f : FuncId) (vs : List Value) (h : Heap) (K : Value → Heap → Prop) : Prop := match f, vs with
  | 5, [] => callP1 (straitlaw10_awake h) fun r16 h' => K (.bool r16) h'
  | 6, [(.int .i64 a1)] => callP1 (dsu_New a1 h) fun r50 h' => K (.pointer r50) h'
  | 8, [(.pointer a1), (.int .i64 a2), (.int .i64 a3)] => callP1 (dsu_Classes_Same a1 a2 a3 h) fun r9 h' => K (.bool r9) h'
  | 11, [(.pointer a1), (.int .i64 a2), (.int .i64 a3)] => callP1 (dsu_Classes_Join a1 a2 a3 h) fun r51 h' => K (.bool r51) h'
  | 15, [(.pointer a1)] => callP3 (dsu_Classes_List a1 h) fun r19 r19l r19c h' => K (.slice r19 r19l r19c) h'
  | 18, [(.pointer a1), (.int .i64 a2)] => callP1 (dsu_Classes_Of a1 a2 h) fun r9 h' => K (.int .i64 r9) h'
  | 20, [(.pointer a1), (.int .i64 a2)] => callP1 (dsu_Classes_Size a1 a2 h) fun r9 h' => K (.int .i64 r9) h'
  | _, _ => False
def straitlaw10_DsuOrder.qcall (f : FuncId) (vs : List Value) (h : Heap) (K : Value → Prop) : Prop := match f, vs with
  | 14, [(.slice a1 a1l a1c), (.slice a2 a2l a2c)] => qcallP1 h (straitref10_Lists a1 a1l a1c a2 a2l a2c h) fun r7 => K (.bool r7)
  | 17, [(.pointer a1)] => qcallP1 h (dsu_Classes_Room a1 h) fun r4 => K (.int .i64 r4)
  | 19, [(.pointer a1)] => qcallP1 h (dsu_Classes_Count a1 h) fun r4 => K (.int .i64 r4)
  | 21, [(.int .i64 a1)] => qcallP1 h (straitref09_Room a1 h) fun r3 => K (.int .i64 r3)
  | _, _ => False
def straitlaw10_DsuOrder.r0 (K : Nat → List Value → Heap → Prop) (m : Nat) (vs : List Value) (h : Heap) : Prop := match vs with
  | [(.int .i64 c0_1001), (.slice c1_1002 c1_1003 c1_1004), (.int .i64 c2_1005), (.pointer c7_1006), (.pointer c8_1007), (.int .i64 v9_1008)] => straitlaw10_DsuOrder.l0 (fun h' => K 2 [(.int .i64 c0_1001), (.int .i64 c2_1005), (.pointer c7_1006), (.pointer c8_1007)] h') m c0_1001 c1_1002 c1_1003 c1_1004 c2_1005 c7_1006 c8_1007 v9_1008 h
  | _ => False
def straitlaw10_DsuOrder.loop (i : Nat) (vs : List Value) (h : Heap) (K : Nat → List Value → Heap → Prop) : Prop := match i with
  | 0 => ∃ m, straitlaw10_DsuOrder.r0 K m vs h
  | _ => False
noncomputable def straitlaw10_DsuOrder.ctx : Ctx := { P := Try.prog, call := straitlaw10_DsuOrder.call, qcall := straitlaw10_DsuOrder.qcall, quiet := fun f => Nat.beq f 14 || Nat.beq f 17 || Nat.beq f 19 || Nat.beq f 21 || Nat.beq f 1000045, loop := straitlaw10_DsuOrder.loop }
theorem straitlaw10_DsuOrder.ok : straitlaw10_DsuOrder.ctx.OK where
  mixed := by kernel_rfl
  mono := by
    intro f args h K K' hh hk
    change straitlaw10_DsuOrder.call f args h K at hh
    change straitlaw10_DsuOrder.call f args h K'
    unfold straitlaw10_DsuOrder.call at hh ⊢
    split at hh
    · obtain ⟨R, h1, h2⟩ := hh
      exact ⟨R, h1, fun _ x hr => hk _ _ (h2 _ x hr)⟩
    · obtain ⟨R, h1, h2⟩ := hh
      exact ⟨R, h1, fun _ x hr => hk _ _ (h2 _ x hr)⟩
    · obtain ⟨R, h1, h2⟩ := hh
      exact ⟨R, h1, fun _ x hr => hk _ _ (h2 _ x hr)⟩
    · obtain ⟨R, h1, h2⟩ := hh
      exact ⟨R, h1, fun _ x hr => hk _ _ (h2 _ x hr)⟩
    · obtain ⟨R, h1, h2⟩ := hh
      exact ⟨R, h1, fun _ _ _ x hr => hk _ _ (h2 _ _ _ x hr)⟩
    · obtain ⟨R, h1, h2⟩ := hh
      exact ⟨R, h1, fun _ x hr => hk _ _ (h2 _ x hr)⟩
    · obtain ⟨R, h1, h2⟩ := hh
      exact ⟨R, h1, fun _ x hr => hk _ _ (h2 _ x hr)⟩
    · exact hh.elim
  call := by
    intro f args h K hh w hw
    change straitlaw10_DsuOrder.call f args h K at hh
    unfold straitlaw10_DsuOrder.call at hh
    split at hh
    · obtain ⟨R, h1, h2⟩ := hh
      obtain ⟨g1, g2⟩ := straitlaw10_awake.calls h1 w hw
      exact ⟨g1, g2.mono fun e w' ⟨v, he, ho, hr⟩ => ⟨v, he, ho, straitlaw10_awake.ret_elim h2 hr⟩⟩
    · obtain ⟨R, h1, h2⟩ := hh
      obtain ⟨g1, g2⟩ := dsu_New.calls h1 w hw
      exact ⟨g1, g2.mono fun e w' ⟨v, he, ho, hr⟩ => ⟨v, he, ho, dsu_New.ret_elim h2 hr⟩⟩
    · obtain ⟨R, h1, h2⟩ := hh
      obtain ⟨g1, g2⟩ := dsu_Classes_Same.calls h1 w hw
      exact ⟨g1, g2.mono fun e w' ⟨v, he, ho, hr⟩ => ⟨v, he, ho, dsu_Classes_Same.ret_elim h2 hr⟩⟩
    · obtain ⟨R, h1, h2⟩ := hh
      obtain ⟨g1, g2⟩ := dsu_Classes_Join.calls h1 w hw
      exact ⟨g1, g2.mono fun e w' ⟨v, he, ho, hr⟩ => ⟨v, he, ho, dsu_Classes_Join.ret_elim h2 hr⟩⟩
    · obtain ⟨R, h1, h2⟩ := hh
      obtain ⟨g1, g2⟩ := dsu_Classes_List.calls h1 w hw
      exact ⟨g1, g2.mono fun e w' ⟨v, he, ho, hr⟩ => ⟨v, he, ho, dsu_Classes_List.ret_elim h2 hr⟩⟩
    · obtain ⟨R, h1, h2⟩ := hh
      obtain ⟨g1, g2⟩ := dsu_Classes_Of.calls h1 w hw
      exact ⟨g1, g2.mono fun e w' ⟨v, he, ho, hr⟩ => ⟨v, he, ho, dsu_Classes_Of.ret_elim h2 hr⟩⟩
    · obtain ⟨R, h1, h2⟩ := hh
      obtain ⟨g1, g2⟩ := dsu_Classes_Size.calls h1 w hw
      exact ⟨g1, g2.mono fun e w' ⟨v, he, ho, hr⟩ => ⟨v, he, ho, dsu_Classes_Size.ret_elim h2 hr⟩⟩
    · exact hh.elim
  qmono := by
    intro f args h K K' hh hk
    change straitlaw10_DsuOrder.qcall f args h K at hh
    change straitlaw10_DsuOrder.qcall f args h K'
    unfold straitlaw10_DsuOrder.qcall at hh ⊢
    split at hh
    · obtain ⟨x0, h1, h2⟩ := hh
      exact ⟨x0, h1, hk _ h2⟩
    · obtain ⟨x0, h1, h2⟩ := hh
      exact ⟨x0, h1, hk _ h2⟩
    · obtain ⟨x0, h1, h2⟩ := hh
      exact ⟨x0, h1, hk _ h2⟩
    · obtain ⟨x0, h1, h2⟩ := hh
      exact ⟨x0, h1, hk _ h2⟩
    · exact hh.elim
  qval := by
    intro f args h K hh
    change straitlaw10_DsuOrder.qcall f args h K at hh
    suffices H : ∃ v, K v ∧ straitlaw10_DsuOrder.qcall f args h (· = v) from H
    unfold straitlaw10_DsuOrder.qcall at hh ⊢
    split at hh
    · obtain ⟨x0, h1, h2⟩ := hh
      exact ⟨_, h2, x0, h1, rfl⟩
    · obtain ⟨x0, h1, h2⟩ := hh
      exact ⟨_, h2, x0, h1, rfl⟩
    · obtain ⟨x0, h1, h2⟩ := hh
      exact ⟨_, h2, x0, h1, rfl⟩
    · obtain ⟨x0, h1, h2⟩ := hh
      exact ⟨_, h2, x0, h1, rfl⟩
    · exact hh.elim
  qcall := by
    intro f args h v hh w hw
    change straitlaw10_DsuOrder.qcall f args h (· = v) at hh
    unfold straitlaw10_DsuOrder.qcall at hh
    split at hh
    · obtain ⟨x0, h1, h2⟩ := hh
      obtain ⟨g1, g2⟩ := straitref10_Lists.calls h1 w hw
      refine .inl ⟨g1, g2.mono fun e w' ⟨u, he, ho, hr⟩ => ?_⟩
      have hq := straitref10_Lists.ret_elim (K' := fun u h' => u = v ∧ h' = h) (fun _ h' hr => by obtain ⟨rfl, rfl⟩ := hr; exact ⟨h2, rfl⟩) hr
      exact ⟨hq.1 ▸ he, ho, hq.2⟩
    · obtain ⟨x0, h1, h2⟩ := hh
      obtain ⟨g1, g2⟩ := dsu_Classes_Room.calls h1 w hw
      refine .inl ⟨g1, g2.mono fun e w' ⟨u, he, ho, hr⟩ => ?_⟩
      have hq := dsu_Classes_Room.ret_elim (K' := fun u h' => u = v ∧ h' = h) (fun _ h' hr => by obtain ⟨rfl, rfl⟩ := hr; exact ⟨h2, rfl⟩) hr
      exact ⟨hq.1 ▸ he, ho, hq.2⟩
    · obtain ⟨x0, h1, h2⟩ := hh
      obtain ⟨g1, g2⟩ := dsu_Classes_Count.calls h1 w hw
      refine .inl ⟨g1, g2.mono fun e w' ⟨u, he, ho, hr⟩ => ?_⟩
      have hq := dsu_Classes_Count.ret_elim (K' := fun u h' => u = v ∧ h' = h) (fun _ h' hr => by obtain ⟨rfl, rfl⟩ := hr; exact ⟨h2, rfl⟩) hr
      exact ⟨hq.1 ▸ he, ho, hq.2⟩
    · obtain ⟨x0, h1, h2⟩ := hh
      obtain ⟨g1, g2⟩ := straitref09_Room.calls h1 w hw
      refine .inl ⟨g1, g2.mono fun e w' ⟨u, he, ho, hr⟩ => ?_⟩
      have hq := straitref09_Room.ret_elim (K' := fun u h' => u = v ∧ h' = h) (fun _ h' hr => by obtain ⟨rfl, rfl⟩ := hr; exact ⟨h2, rfl⟩) hr
      exact ⟨hq.1 ▸ he, ho, hq.2⟩
    · exact hh.elim
noncomputable def straitlaw10_DsuOrder.code : Code := (Try.f4.body).getD .skip
def straitlaw10_DsuOrder.ann : Ann := (.two .auto (.two .auto (.two .auto (.two (.two .auto (.two (.loop 0 [0, 1, 2, 7, 8, 9] [(2, [0, 2, 7, 8])] (.two .auto (.two (.two (.two (.reg [0, 0, 0, 6, 14, 30, 0, 0, 192, 448, 960, 2047] (.take 0 (.take 1 (.take 2 (.take 3 (.take 4 (.take 5 (.take 6 (.take 7 (.take 8 (.take 9 (.take 10 (.alt 11 .done .noalt))))))))))))) (.reg [0, 0, 0, 4, 12, 0, 60, 126, 254, 510, 0, 0, 2048, 6144, 0, 30720, 64512, 130048, 261120, 524287] (.take 0 (.take 1 (.take 2 (.take 3 (.take 4 (.take 5 (.take 6 (.take 7 (.take 8 (.take 9 (.take 10 (.take 11 (.take 12 (.take 13 (.take 14 (.take 15 (.take 16 (.take 17 (.take 18 (.alt 19 .done .noalt)))))))))))))))))))))) .auto) .auto))) .auto)) .auto))))
noncomputable def straitlaw10_DsuOrder.c0 : Code := sub straitlaw10_DsuOrder.code [1, 1, 1, 0, 1, 0, 0]
def straitlaw10_DsuOrder.a0 : Ann := (.two .auto (.two (.two (.two (.reg [0, 0, 0, 6, 14, 30, 0, 0, 192, 448, 960, 2047] (.take 0 (.take 1 (.take 2 (.take 3 (.take 4 (.take 5 (.take 6 (.take 7 (.take 8 (.take 9 (.take 10 (.alt 11 .done .noalt))))))))))))) (.reg [0, 0, 0, 4, 12, 0, 60, 126, 254, 510, 0, 0, 2048, 6144, 0, 30720, 64512, 130048, 261120, 524287] (.take 0 (.take 1 (.take 2 (.take 3 (.take 4 (.take 5 (.take 6 (.take 7 (.take 8 (.take 9 (.take 10 (.take 11 (.take 12 (.take 13 (.take 14 (.take 15 (.take 16 (.take 17 (.take 18 (.alt 19 .done .noalt)))))))))))))))))))))) .auto) .auto))
def straitlaw10_DsuOrder.keep0 : List Nat := [0, 1, 2, 7, 8, 9]
def straitlaw10_DsuOrder.outs0 : List (Nat × List Nat) := [(2, [0, 2, 7, 8])]
set_option maxRecDepth 100000 in
theorem straitlaw10_DsuOrder.L0 : LoopOK straitlaw10_DsuOrder.ctx 118 straitlaw10_DsuOrder.c0 0 straitlaw10_DsuOrder.keep0 straitlaw10_DsuOrder.outs0 := by
  refine loop_ok (n := straitlaw10_DsuOrder.a0) straitlaw10_DsuOrder.ok (by kernel_rfl) (loops_ok (l := []) (by kernel_rfl) ?_) straitlaw10_DsuOrder.r0 ?_ ?_ (fun vs h K hh => hh)
  · exact trivial
  · intro K vs h hh
    unfold straitlaw10_DsuOrder.r0 at hh
    split at hh
    · exact hh
    · exact hh
  · intro K m vs h hh
    unfold straitlaw10_DsuOrder.r0 at hh
    split at hh
    · exact cast (by kernel_rfl) hh
    · exact hh.elim
set_option maxRecDepth 100000 in
theorem straitlaw10_DsuOrder.eq (a1 : Int) (a2 : Option Addr) (a2l : Nat) (a2c : Nat) (a3 : Int) (h : Heap) (K : Bool → Heap → Prop) : evF straitlaw10_DsuOrder.ctx Try.f4 straitlaw10_DsuOrder.ann [(.int .i64 a1), (.slice a2 a2l a2c), (.int .i64 a3)] h (straitlaw10_DsuOrder.ret K) = straitlaw10_DsuOrder a1 a2 a2l a2c a3 h K := by kernel_rfl
set_option maxRecDepth 100000 in
theorem straitlaw10_DsuOrder.calls {a1 : Int} {a2 : Option Addr} {a2l : Nat} {a2c : Nat} {a3 : Int} {h : Heap} {K : Bool → Heap → Prop} (hh : straitlaw10_DsuOrder a1 a2 a2l a2c a3 h K) (w : World) (hw : w.heap = h) :
    (callFunc 4 #[(.int .i64 a1), (.slice a2 a2l a2c), (.int .i64 a3)]).run Try.prog w = .ok (.enter 4 #[(.int .i64 a1), (.slice a2 a2l a2c), (.int .i64 a3)]) w ∧ Calls Try.prog 4 #[(.int .i64 a1), (.slice a2 a2l a2c), (.int .i64 a3)] w fun e w' => ∃ v, e = .returned v ∧ Out w w' ∧ straitlaw10_DsuOrder.ret K v w'.heap := by
  rw [← straitlaw10_DsuOrder.eq] at hh
  exact fn_calls (args := [(.int .i64 a1), (.slice a2 a2l a2c), (.int .i64 a3)]) (c := straitlaw10_DsuOrder.code) straitlaw10_DsuOrder.ok Try.func4 (by kernel_rfl) (by kernel_rfl) (by kernel_rfl) (by kernel_rfl) (loops_ok (l := [(straitlaw10_DsuOrder.c0, none, 0, straitlaw10_DsuOrder.keep0, straitlaw10_DsuOrder.outs0)]) (by kernel_rfl) ⟨straitlaw10_DsuOrder.L0, trivial⟩) hh w hw

end Go.Proofs.Ytpckmpadeapphaa
