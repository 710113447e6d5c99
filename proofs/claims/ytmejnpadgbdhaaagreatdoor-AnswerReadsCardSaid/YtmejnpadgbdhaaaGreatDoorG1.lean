/- WRITTEN BY A PROGRAM OF THIS SESSION (gen.py): what each function asks of memory, and that the model's run comes to it. -/
import Derived.Test.YtmejnpadgbdhaaaGreatDoorProg
import Derived.Test.YtmejnpadgbdhaaaGreatDoorFw8
import Derived.Test.YtmejnpadgbdhaaaGreatDoorG0
namespace Go.Proofs.YtmejnpadgbdhaaaGreatDoor
open Go.Hp
set_option linter.unusedVariables false
set_option linter.unusedSimpArgs false
set_option linter.unusedSectionVars false

/-! ### strait/answer.Print: function 7 -/
section
variable [DKc]
def answer_Print.b1 (K4 : (Option Addr) → Nat → Nat → Heap → Prop) (cont : Addr → (Option Addr) → Nat → Nat → (Option Addr) → Nat → Nat → Int → Int → Heap → Prop) (c1_2001 : Addr) (v3_2002 : Option Addr) (v3_2002l : Nat) (v3_2002c : Nat) (c37_2003 : Option Addr) (c37_2004 : Nat) (c37_2005 : Nat) (c38_2006 : Int) (v39_2007 : Int) (h2008 : Heap) : Prop :=
  (iteB (decide (v39_2007 < c38_2006)) ((chkP c37_2003 fun a2009 => (0 ≤ v39_2007 ∧ v39_2007 < (c37_2004 : Int)) ∧ ∃ (x2010 : Int), cell h2008 (a2009.add (v39_2007.toNat * 1)) = some (.int .i64 x2010) ∧ (callP1 (dec_Print x2010 h2008) fun x2011 h2012 => newP h2012 (.cells #[(.string x2011)] 9) fun a2013 h2014 => ∃ n2019, cellsAt h2014 (some a2013) (1 * 1) n2019 ∧ appP 9 1 16 [(.string (⟨#[]⟩ : ByteArray))] v3_2002 v3_2002l v3_2002c 1 n2019 h2014 fun q2015 l2016 c2017 h2018 => ((cont c1_2001 q2015 l2016 c2017 c37_2003 c37_2004 c37_2005 c38_2006 (IntKind.i64.wrap (v39_2007 + 1)) h2018))))) (K4 v3_2002 v3_2002l v3_2002c h2008))
def answer_Print.l1 (K4 : (Option Addr) → Nat → Nat → Heap → Prop) : Nat → Addr → (Option Addr) → Nat → Nat → (Option Addr) → Nat → Nat → Int → Int → Heap → Prop
  | 0, _, _, _, _, _, _, _, _, _, _ => False
  | m + 1, c1_2001, v3_2002, v3_2002l, v3_2002c, c37_2003, c37_2004, c37_2005, c38_2006, v39_2007, h => answer_Print.b1 K4 (answer_Print.l1 K4 m) c1_2001 v3_2002 v3_2002l v3_2002c c37_2003 c37_2004 c37_2005 c38_2006 v39_2007 h
def answer_Print.b0 (K2 : (Option Addr) → Nat → Nat → Heap → Prop) (cont : Addr → (Option Addr) → Nat → Nat → (Option Addr) → Nat → Nat → Int → Int → Heap → Prop) (c1_1001 : Addr) (v3_1002 : Option Addr) (v3_1002l : Nat) (v3_1002c : Nat) (c17_1003 : Option Addr) (c17_1004 : Nat) (c17_1005 : Nat) (c18_1006 : Int) (v19_1007 : Int) (h1008 : Heap) : Prop :=
  (iteB (decide (v19_1007 < c18_1006)) ((chkP c17_1003 fun a1009 => (0 ≤ v19_1007 ∧ v19_1007 < (c17_1004 : Int)) ∧ ∃ (x1010 : Int), cell h1008 (a1009.add (v19_1007.toNat * 1)) = some (.int .i64 x1010) ∧ (callP1 (dec_Print x1010 h1008) fun x1011 h1012 => newP h1012 (.cells #[(.string x1011)] 9) fun a1013 h1014 => ∃ n1019, cellsAt h1014 (some a1013) (1 * 1) n1019 ∧ appP 9 1 16 [(.string (⟨#[]⟩ : ByteArray))] v3_1002 v3_1002l v3_1002c 1 n1019 h1014 fun q1015 l1016 c1017 h1018 => ((cont c1_1001 q1015 l1016 c1017 c17_1003 c17_1004 c17_1005 c18_1006 (IntKind.i64.wrap (v19_1007 + 1)) h1018))))) (K2 v3_1002 v3_1002l v3_1002c h1008))
def answer_Print.l0 (K2 : (Option Addr) → Nat → Nat → Heap → Prop) : Nat → Addr → (Option Addr) → Nat → Nat → (Option Addr) → Nat → Nat → Int → Int → Heap → Prop
  | 0, _, _, _, _, _, _, _, _, _, _ => False
  | m + 1, c1_1001, v3_1002, v3_1002l, v3_1002c, c17_1003, c17_1004, c17_1005, c18_1006, v19_1007, h => answer_Print.b0 K2 (answer_Print.l0 K2 m) c1_1001 v3_1002 v3_1002l v3_1002c c17_1003 c17_1004 c17_1005 c18_1006 v19_1007 h
def answer_Print (a1 : Int) (a2 : Option Addr) (a2l : Nat) (a2c : Nat) (a3 : Option Addr) (a3l : Nat) (a3c : Nat) (a4 : Option Addr) (a4l : Nat) (a4c : Nat) (h : Heap) (K : ByteArray → Heap → Prop) : Prop :=
  newP h (.cells #[(.int .i64 a1), (.slice a2 a2l a2c), (.slice a3 a3l a3c), (.slice a4 a4l a4c)] 27) fun a5 h6 => (newP h6 (.cells #[(.string (⟨#[111, 107]⟩ : ByteArray))] 9) fun a7 h8 => (let j55 := (fun (y15 : Option Addr) (y15l : Nat) (y15c : Nat) (h16 : Heap) => ∃ (x17 : Option Addr) (x17l : Nat) (x17c : Nat), cell h16 (a5.add 1) = some (.slice x17 x17l x17c) ∧ (∃ m20, answer_Print.l0 (fun z18 z18l z18c h19 => ((let j54 := (fun (y29 : Option Addr) (y29l : Nat) (y29c : Nat) (h30 : Heap) => ∃ (x31 : Option Addr) (x31l : Nat) (x31c : Nat), cell h30 (a5.add 2) = some (.slice x31 x31l x31c) ∧ (∃ m34, answer_Print.l1 (fun z32 z32l z32c h33 => ((∃ (x35 : Option Addr) (x35l : Nat) (x35c : Nat), cell h33 (a5.add 3) = some (.slice x35 x35l x35c) ∧ (iteB (decide ((x35l : Int) > (0 : Int))) (∃ (x36 : Option Addr) (x36l : Nat) (x36c : Nat), cell h33 (a5.add 3) = some (.slice x36 x36l x36c) ∧ callP1 (command_Hex x36 x36l x36c h33) fun x37 h38 => newP h38 (.cells #[(.string (⟨#[98, 121, 116, 101, 115]⟩ : ByteArray)), (.string x37)] 9) fun a39 h40 => ∃ n45, cellsAt h40 (some a39) (2 * 1) n45 ∧ appP 9 1 16 [(.string (⟨#[]⟩ : ByteArray))] z32 z32l z32c 2 n45 h40 fun q41 l42 c43 h44 => (callP1 (strings_Join q41 l42 c43 (⟨#[32]⟩ : ByteArray) h44) fun x50 h51 => K x50 h51)) ((callP1 (strings_Join z32 z32l z32c (⟨#[32]⟩ : ByteArray) h33) fun x52 h53 => K x52 h53)))))) m34 a5 y29 y29l y29c x31 x31l x31c (x31l : Int) 0 h30));
  ∃ (x21 : Option Addr) (x21l : Nat) (x21c : Nat), cell h19 (a5.add 2) = some (.slice x21 x21l x21c) ∧ (iteB (decide ((x21l : Int) > (0 : Int))) (newP h19 (.cells #[(.string (⟨#[115, 105, 100, 101]⟩ : ByteArray))] 9) fun a22 h23 => ∃ n28, cellsAt h23 (some a22) (1 * 1) n28 ∧ appP 9 1 16 [(.string (⟨#[]⟩ : ByteArray))] z18 z18l z18c 1 n28 h23 fun q24 l25 c26 h27 => (j54 q24 l25 c26 h27)) ((j54 z18 z18l z18c h19)))))) m20 a5 y15 y15l y15c x17 x17l x17c (x17l : Int) 0 h16));
  ∃ (x9 : Int), cell h8 a5 = some (.int .i64 x9) ∧ (iteB (x9 != (0 : Int)) (∃ (x10 : Int), cell h8 a5 = some (.int .i64 x10) ∧ callP1 (dec_Print x10 h8) fun x11 h12 => newP h12 (.cells #[(.string (⟨#[101, 114, 114, 111, 114]⟩ : ByteArray)), (.string x11)] 9) fun a13 h14 => (j55 (some a13) 2 2 h14)) ((j55 (some a7) 1 1 h8)))))
def answer_Print.ret (K : ByteArray → Heap → Prop) (v : Value) (h : Heap) : Prop := match v with
  | (.string r56) => K r56 h
  | _ => False
theorem answer_Print.ret_elim {K : ByteArray → Heap → Prop} {K' : Value → Heap → Prop} {v : Value} {h : Heap} (hk : ∀ r56 h, K r56 h → K' (.string r56) h) (hh : answer_Print.ret K v h) : K' v h := by
  unfold answer_Print.ret at hh
  split at hh
  · exact hk _ _ hh
  · exact hh.elim
def answer_Print.call (f : FuncId) (vs : List Value) (h : Heap) (K : Value → Heap → Prop) : Prop := match f, vs with
  | 22, [(.int .i64 a1)] => callP1 (dec_Print a1 h) fun r4 h' => K (.string r4) h'
  | 23, [(.slice a1 a1l a1c)] => callP1 (command_Hex a1 a1l a1c h) fun r8 h' => K (.string r8) h'
  | 24, [(.slice a1 a1l a1c), (.string a2)] => callP1 (strings_Join a1 a1l a1c a2 h) fun r24 h' => K (.string r24) h'
  | _, _ => False
def answer_Print.r0 (K : Nat → List Value → Heap → Prop) (m : Nat) (vs : List Value) (h : Heap) : Prop := match vs with
  | [(.pointer (some c1_1001)), (.slice v3_1002 v3_1002l v3_1002c), (.slice c17_1003 c17_1004 c17_1005), (.int .i64 c18_1006), (.int .i64 v19_1007)] => answer_Print.l0 (fun z57 z57l z57c h' => K 2 [(.pointer (some c1_1001)), (.slice z57 z57l z57c)] h') m c1_1001 v3_1002 v3_1002l v3_1002c c17_1003 c17_1004 c17_1005 c18_1006 v19_1007 h
  | _ => False
def answer_Print.r1 (K : Nat → List Value → Heap → Prop) (m : Nat) (vs : List Value) (h : Heap) : Prop := match vs with
  | [(.pointer (some c1_2001)), (.slice v3_2002 v3_2002l v3_2002c), (.slice c37_2003 c37_2004 c37_2005), (.int .i64 c38_2006), (.int .i64 v39_2007)] => answer_Print.l1 (fun z58 z58l z58c h' => K 4 [(.pointer (some c1_2001)), (.slice z58 z58l z58c)] h') m c1_2001 v3_2002 v3_2002l v3_2002c c37_2003 c37_2004 c37_2005 c38_2006 v39_2007 h
  | _ => False
def answer_Print.loop (i : Nat) (vs : List Value) (h : Heap) (K : Nat → List Value → Heap → Prop) : Prop := match i with
  | 0 => ∃ m, answer_Print.r0 K m vs h
  | 1 => ∃ m, answer_Print.r1 K m vs h
  | _ => False
noncomputable def answer_Print.ctx : Ctx := { P := Tryz.prog, call := answer_Print.call, qcall := fun _ _ _ _ => False, quiet := fun f => Nat.beq f 2000025, loop := answer_Print.loop }
theorem answer_Print.ok : answer_Print.ctx.OK where
  mixed := by kernel_rfl
  mono := by
    intro f args h K K' hh hk
    change answer_Print.call f args h K at hh
    change answer_Print.call f args h K'
    unfold answer_Print.call at hh ⊢
    split at hh
    · obtain ⟨R, h1, h2⟩ := hh
      exact ⟨R, h1, fun _ x hr => hk _ _ (h2 _ x hr)⟩
    · obtain ⟨R, h1, h2⟩ := hh
      exact ⟨R, h1, fun _ x hr => hk _ _ (h2 _ x hr)⟩
    · obtain ⟨R, h1, h2⟩ := hh
      exact ⟨R, h1, fun _ x hr => hk _ _ (h2 _ x hr)⟩
    · exact hh.elim
  call := by
    intro f args h K hh w hw
    change answer_Print.call f args h K at hh
    unfold answer_Print.call at hh
    split at hh
    · obtain ⟨R, h1, h2⟩ := hh
      obtain ⟨g1, g2⟩ := dec_Print.calls h1 w hw
      exact ⟨g1, g2.mono fun e w' ⟨v, he, ho, hr⟩ => ⟨v, he, ho, dec_Print.ret_elim h2 hr⟩⟩
    · obtain ⟨R, h1, h2⟩ := hh
      obtain ⟨g1, g2⟩ := command_Hex.calls h1 w hw
      exact ⟨g1, g2.mono fun e w' ⟨v, he, ho, hr⟩ => ⟨v, he, ho, command_Hex.ret_elim h2 hr⟩⟩
    · obtain ⟨R, h1, h2⟩ := hh
      obtain ⟨g1, g2⟩ := strings_Join.calls h1 w hw
      exact ⟨g1, g2.mono fun e w' ⟨v, he, ho, hr⟩ => ⟨v, he, ho, strings_Join.ret_elim h2 hr⟩⟩
    · exact hh.elim
  qmono := fun hh _ => hh.elim
  qval := fun hh => hh.elim
  qcall := fun hh => hh.elim
noncomputable def answer_Print.code : Code := (Tryz.f7.body).getD .skip
def answer_Print.ann : Ann := (.two .auto (.two .auto (.two .auto (.two (.two .auto (.two (.loop 0 [1, 3, 17, 18, 19] [(2, [1, 3])] .auto) .auto)) (.two .auto (.two (.two .auto (.two (.loop 1 [1, 3, 37, 38, 39] [(4, [1, 3])] .auto) .auto)) .auto))))))
noncomputable def answer_Print.c1 : Code := sub answer_Print.code [1, 1, 1, 1, 1, 0, 1, 0, 0]
def answer_Print.a1 : Ann := .auto
def answer_Print.keep1 : List Nat := [1, 3, 37, 38, 39]
def answer_Print.outs1 : List (Nat × List Nat) := [(4, [1, 3])]
noncomputable def answer_Print.c0 : Code := sub answer_Print.code [1, 1, 1, 0, 1, 0, 0]
def answer_Print.a0 : Ann := .auto
def answer_Print.keep0 : List Nat := [1, 3, 17, 18, 19]
def answer_Print.outs0 : List (Nat × List Nat) := [(2, [1, 3])]
set_option maxRecDepth 100000 in
theorem answer_Print.L0 : LoopOK answer_Print.ctx 61 answer_Print.c0 0 answer_Print.keep0 answer_Print.outs0 := by
  refine loop_ok (n := answer_Print.a0) answer_Print.ok (by kernel_rfl) (loops_ok (l := []) (by kernel_rfl) ?_) answer_Print.r0 ?_ ?_ (fun vs h K hh => hh)
  · exact trivial
  · intro K vs h hh
    unfold answer_Print.r0 at hh
    split at hh
    · exact hh
    · exact hh
  · intro K m vs h hh
    unfold answer_Print.r0 at hh
    split at hh
    · exact cast (by kernel_rfl) hh
    · exact hh.elim
set_option maxRecDepth 100000 in
theorem answer_Print.L1 : LoopOK answer_Print.ctx 61 answer_Print.c1 1 answer_Print.keep1 answer_Print.outs1 := by
  refine loop_ok (n := answer_Print.a1) answer_Print.ok (by kernel_rfl) (loops_ok (l := []) (by kernel_rfl) ?_) answer_Print.r1 ?_ ?_ (fun vs h K hh => hh)
  · exact trivial
  · intro K vs h hh
    unfold answer_Print.r1 at hh
    split at hh
    · exact hh
    · exact hh
  · intro K m vs h hh
    unfold answer_Print.r1 at hh
    split at hh
    · exact cast (by kernel_rfl) hh
    · exact hh.elim
set_option maxRecDepth 100000 in
theorem answer_Print.eq (a1 : Int) (a2 : Option Addr) (a2l : Nat) (a2c : Nat) (a3 : Option Addr) (a3l : Nat) (a3c : Nat) (a4 : Option Addr) (a4l : Nat) (a4c : Nat) (h : Heap) (K : ByteArray → Heap → Prop) : evF answer_Print.ctx Tryz.f7 answer_Print.ann [(.agg #[(.int .i64 a1), (.slice a2 a2l a2c), (.slice a3 a3l a3c), (.slice a4 a4l a4c)])] h (answer_Print.ret K) = answer_Print a1 a2 a2l a2c a3 a3l a3c a4 a4l a4c h K := by kernel_rfl
set_option maxRecDepth 100000 in
theorem answer_Print.calls {a1 : Int} {a2 : Option Addr} {a2l : Nat} {a2c : Nat} {a3 : Option Addr} {a3l : Nat} {a3c : Nat} {a4 : Option Addr} {a4l : Nat} {a4c : Nat} {h : Heap} {K : ByteArray → Heap → Prop} (hh : answer_Print a1 a2 a2l a2c a3 a3l a3c a4 a4l a4c h K) (w : World) (hw : w.heap = h) :
    (callFunc 7 #[(.agg #[(.int .i64 a1), (.slice a2 a2l a2c), (.slice a3 a3l a3c), (.slice a4 a4l a4c)])]).run Tryz.prog w = .ok (.enter 7 #[(.agg #[(.int .i64 a1), (.slice a2 a2l a2c), (.slice a3 a3l a3c), (.slice a4 a4l a4c)])]) w ∧ Calls Tryz.prog 7 #[(.agg #[(.int .i64 a1), (.slice a2 a2l a2c), (.slice a3 a3l a3c), (.slice a4 a4l a4c)])] w fun e w' => ∃ v, e = .returned v ∧ Out w w' ∧ answer_Print.ret K v w'.heap := by
  rw [← answer_Print.eq] at hh
  exact fn_calls (args := [(.agg #[(.int .i64 a1), (.slice a2 a2l a2c), (.slice a3 a3l a3c), (.slice a4 a4l a4c)])]) (c := answer_Print.code) answer_Print.ok Tryz.func7 (by kernel_rfl) (by kernel_rfl) (by kernel_rfl) (by kernel_rfl) (loops_ok (l := [(answer_Print.c0, none, 0, answer_Print.keep0, answer_Print.outs0), (answer_Print.c1, none, 1, answer_Print.keep1, answer_Print.outs1)]) (by kernel_rfl) ⟨answer_Print.L0, answer_Print.L1, trivial⟩) hh w hw
end

/-! ### strait/answer.Parse$1: function 15 -/
def answer_Parse_c1 (a1 : Int) (a2 : Addr) (h : Heap) (K : Heap → Prop) : Prop :=
  ∃ (x3 : Option Addr) (x3l : Nat) (x3c : Nat), cell h (a2.add 1) = some (.slice x3 x3l x3c) ∧ newP h (.cells #[(.int .i64 a1)] 2) fun a4 h5 => ∃ n10, cellsAt h5 (some a4) (1 * 1) n10 ∧ appP 2 1 8 [(.int .i64 0)] x3 x3l x3c 1 n10 h5 fun q6 l7 c8 h9 => stC h9 (a2.add 1) (.slice q6 l7 c8) fun h11 => K h11
def answer_Parse_c1.ret (K : Heap → Prop) (v : Value) (h : Heap) : Prop := match v with
  | (.tuple ⟨[]⟩) => K h
  | _ => False
theorem answer_Parse_c1.ret_elim {K : Heap → Prop} {K' : Value → Heap → Prop} {v : Value} {h : Heap} (hk : ∀  h, K h → K' (.tuple #[]) h) (hh : answer_Parse_c1.ret K v h) : K' v h := by
  unfold answer_Parse_c1.ret at hh
  split at hh
  · exact hk _ hh
  · exact hh.elim
noncomputable def answer_Parse_c1.ctx : Ctx := { P := Tryz.prog, call := fun _ _ _ _ => False, qcall := fun _ _ _ _ => False, quiet := fun f => Nat.beq f 2000025, loop := fun _ _ _ _ => False }
theorem answer_Parse_c1.ok [DKc] : answer_Parse_c1.ctx.OK where
  mixed := by kernel_rfl
  mono := fun hh _ => hh.elim
  call := fun hh => hh.elim
  qmono := fun hh _ => hh.elim
  qval := fun hh => hh.elim
  qcall := fun hh => hh.elim
noncomputable def answer_Parse_c1.code : Code := (Tryz.f15.body).getD .skip
def answer_Parse_c1.ann : Ann := .auto
set_option maxRecDepth 100000 in
theorem answer_Parse_c1.eq (a1 : Int) (a2 : Addr) (h : Heap) (K : Heap → Prop) : evF answer_Parse_c1.ctx Tryz.f15 answer_Parse_c1.ann [(.int .i64 a1), (.pointer (some a2))] h (answer_Parse_c1.ret K) = answer_Parse_c1 a1 a2 h K := by kernel_rfl
set_option maxRecDepth 100000 in
theorem answer_Parse_c1.calls [DKc] {a1 : Int} {a2 : Addr} {h : Heap} {K : Heap → Prop} (hh : answer_Parse_c1 a1 a2 h K) (w : World) (hw : w.heap = h) :
    (callFunc 15 #[(.int .i64 a1), (.pointer (some a2))]).run Tryz.prog w = .ok (.enter 15 #[(.int .i64 a1), (.pointer (some a2))]) w ∧ Calls Tryz.prog 15 #[(.int .i64 a1), (.pointer (some a2))] w fun e w' => ∃ v, e = .returned v ∧ Out w w' ∧ answer_Parse_c1.ret K v w'.heap := by
  rw [← answer_Parse_c1.eq] at hh
  exact fn_calls (args := [(.int .i64 a1), (.pointer (some a2))]) (c := answer_Parse_c1.code) answer_Parse_c1.ok Tryz.func15 (by kernel_rfl) (by kernel_rfl) (by kernel_rfl) (by kernel_rfl) (loops_ok (l := []) (by kernel_rfl) trivial) hh w hw

/-! ### strait/answer.all: function 14 -/
section
variable [DKc]
def answer_all_answer_line_number_answer_Parse_c1.b0 (K2 : Heap → Prop) (cont : Addr → Addr → Int → Bool → Heap → Prop) (c0_1001 : Addr) (c1_1002 : Addr) (v4_1003 : Int) (v5_1004 : Bool) (h1005 : Heap) : Prop :=
  (iteB v5_1004 ((callP0 (answer_Parse_c1 v4_1003 c1_1002 h1005) fun h1006 => ((callP2 (answer_line_number (some c0_1001) h1006) fun x1007 x1008 h1009 => cont c0_1001 c1_1002 x1007 x1008 h1009)))) (K2 h1005))
def answer_all_answer_line_number_answer_Parse_c1.l0 (K2 : Heap → Prop) : Nat → Addr → Addr → Int → Bool → Heap → Prop
  | 0, _, _, _, _, _ => False
  | m + 1, c0_1001, c1_1002, v4_1003, v5_1004, h => answer_all_answer_line_number_answer_Parse_c1.b0 K2 (answer_all_answer_line_number_answer_Parse_c1.l0 K2 m) c0_1001 c1_1002 v4_1003 v5_1004 h
def answer_all_answer_line_number_answer_Parse_c1 (a1 : Addr) (a2 : Addr) (h : Heap) (K : Heap → Prop) : Prop :=
  callP2 (answer_line_number (some a1) h) fun x3 x4 h5 => (∃ m7, answer_all_answer_line_number_answer_Parse_c1.l0 (fun h6 => K h6) m7 a1 a2 x3 x4 h5)
def answer_all_answer_line_number_answer_Parse_c1.ret (K : Heap → Prop) (v : Value) (h : Heap) : Prop := match v with
  | (.tuple ⟨[]⟩) => K h
  | _ => False
theorem answer_all_answer_line_number_answer_Parse_c1.ret_elim {K : Heap → Prop} {K' : Value → Heap → Prop} {v : Value} {h : Heap} (hk : ∀  h, K h → K' (.tuple #[]) h) (hh : answer_all_answer_line_number_answer_Parse_c1.ret K v h) : K' v h := by
  unfold answer_all_answer_line_number_answer_Parse_c1.ret at hh
  split at hh
  · exact hk _ hh
  · exact hh.elim
def answer_all_answer_line_number_answer_Parse_c1.call (f : FuncId) (vs : List Value) (h : Heap) (K : Value → Heap → Prop) : Prop := match f, vs with
  | 13, [(.pointer a1)] => callP2 (answer_line_number a1 h) fun r16 r17 h' => K (.tuple #[(.int .i64 r16), (.bool r17)]) h'
  | 15, [(.int .i64 a1), (.pointer (some a2))] => callP0 (answer_Parse_c1 a1 a2 h) fun h' => K (.tuple #[]) h'
  | _, _ => False
def answer_all_answer_line_number_answer_Parse_c1.r0 (K : Nat → List Value → Heap → Prop) (m : Nat) (vs : List Value) (h : Heap) : Prop := match vs with
  | [(.func (.func 13) ⟨[(.pointer (some c0_1001))]⟩ ⟨[]⟩), (.func (.func 15) ⟨[]⟩ ⟨[(.pointer (some c1_1002))]⟩), (.int .i64 v4_1003), (.bool v5_1004)] => answer_all_answer_line_number_answer_Parse_c1.l0 (fun h' => K 2 [] h') m c0_1001 c1_1002 v4_1003 v5_1004 h
  | _ => False
def answer_all_answer_line_number_answer_Parse_c1.loop (i : Nat) (vs : List Value) (h : Heap) (K : Nat → List Value → Heap → Prop) : Prop := match i with
  | 0 => ∃ m, answer_all_answer_line_number_answer_Parse_c1.r0 K m vs h
  | _ => False
noncomputable def answer_all_answer_line_number_answer_Parse_c1.ctx : Ctx := { P := Tryz.prog, call := answer_all_answer_line_number_answer_Parse_c1.call, qcall := fun _ _ _ _ => False, quiet := fun f => Nat.beq f 2000025, loop := answer_all_answer_line_number_answer_Parse_c1.loop }
theorem answer_all_answer_line_number_answer_Parse_c1.ok : answer_all_answer_line_number_answer_Parse_c1.ctx.OK where
  mixed := by kernel_rfl
  mono := by
    intro f args h K K' hh hk
    change answer_all_answer_line_number_answer_Parse_c1.call f args h K at hh
    change answer_all_answer_line_number_answer_Parse_c1.call f args h K'
    unfold answer_all_answer_line_number_answer_Parse_c1.call at hh ⊢
    split at hh
    · obtain ⟨R, h1, h2⟩ := hh
      exact ⟨R, h1, fun _ _ x hr => hk _ _ (h2 _ _ x hr)⟩
    · obtain ⟨R, h1, h2⟩ := hh
      exact ⟨R, h1, fun x hr => hk _ _ (h2 x hr)⟩
    · exact hh.elim
  call := by
    intro f args h K hh w hw
    change answer_all_answer_line_number_answer_Parse_c1.call f args h K at hh
    unfold answer_all_answer_line_number_answer_Parse_c1.call at hh
    split at hh
    · obtain ⟨R, h1, h2⟩ := hh
      obtain ⟨g1, g2⟩ := answer_line_number.calls h1 w hw
      exact ⟨g1, g2.mono fun e w' ⟨v, he, ho, hr⟩ => ⟨v, he, ho, answer_line_number.ret_elim h2 hr⟩⟩
    · obtain ⟨R, h1, h2⟩ := hh
      obtain ⟨g1, g2⟩ := answer_Parse_c1.calls h1 w hw
      exact ⟨g1, g2.mono fun e w' ⟨v, he, ho, hr⟩ => ⟨v, he, ho, answer_Parse_c1.ret_elim h2 hr⟩⟩
    · exact hh.elim
  qmono := fun hh _ => hh.elim
  qval := fun hh => hh.elim
  qcall := fun hh => hh.elim
noncomputable def answer_all_answer_line_number_answer_Parse_c1.code : Code := (Tryz.f14.body).getD .skip
def answer_all_answer_line_number_answer_Parse_c1.ann : Ann := (.two .auto (.two (.loop 0 [0, 1, 4, 5] [(2, [])] .auto) .auto))
noncomputable def answer_all_answer_line_number_answer_Parse_c1.c0 : Code := sub answer_all_answer_line_number_answer_Parse_c1.code [1, 0, 0]
def answer_all_answer_line_number_answer_Parse_c1.a0 : Ann := .auto
def answer_all_answer_line_number_answer_Parse_c1.keep0 : List Nat := [0, 1, 4, 5]
def answer_all_answer_line_number_answer_Parse_c1.outs0 : List (Nat × List Nat) := [(2, [])]
set_option maxRecDepth 100000 in
theorem answer_all_answer_line_number_answer_Parse_c1.L0 : LoopOK answer_all_answer_line_number_answer_Parse_c1.ctx 20 answer_all_answer_line_number_answer_Parse_c1.c0 0 answer_all_answer_line_number_answer_Parse_c1.keep0 answer_all_answer_line_number_answer_Parse_c1.outs0 := by
  refine loop_ok (n := answer_all_answer_line_number_answer_Parse_c1.a0) answer_all_answer_line_number_answer_Parse_c1.ok (by kernel_rfl) (loops_ok (l := []) (by kernel_rfl) ?_) answer_all_answer_line_number_answer_Parse_c1.r0 ?_ ?_ (fun vs h K hh => hh)
  · exact trivial
  · intro K vs h hh
    unfold answer_all_answer_line_number_answer_Parse_c1.r0 at hh
    split at hh
    · exact hh
    · exact hh
  · intro K m vs h hh
    unfold answer_all_answer_line_number_answer_Parse_c1.r0 at hh
    split at hh
    · exact cast (by kernel_rfl) hh
    · exact hh.elim
set_option maxRecDepth 100000 in
theorem answer_all_answer_line_number_answer_Parse_c1.eq (a1 : Addr) (a2 : Addr) (h : Heap) (K : Heap → Prop) : evF answer_all_answer_line_number_answer_Parse_c1.ctx Tryz.f14 answer_all_answer_line_number_answer_Parse_c1.ann [(.func (.func 13) #[(.pointer (some a1))] #[]), (.func (.func 15) #[] #[(.pointer (some a2))])] h (answer_all_answer_line_number_answer_Parse_c1.ret K) = answer_all_answer_line_number_answer_Parse_c1 a1 a2 h K := by kernel_rfl
set_option maxRecDepth 100000 in
theorem answer_all_answer_line_number_answer_Parse_c1.calls {a1 : Addr} {a2 : Addr} {h : Heap} {K : Heap → Prop} (hh : answer_all_answer_line_number_answer_Parse_c1 a1 a2 h K) (w : World) (hw : w.heap = h) :
    (callFunc 14 #[(.func (.func 13) #[(.pointer (some a1))] #[]), (.func (.func 15) #[] #[(.pointer (some a2))])]).run Tryz.prog w = .ok (.enter 14 #[(.func (.func 13) #[(.pointer (some a1))] #[]), (.func (.func 15) #[] #[(.pointer (some a2))])]) w ∧ Calls Tryz.prog 14 #[(.func (.func 13) #[(.pointer (some a1))] #[]), (.func (.func 15) #[] #[(.pointer (some a2))])] w fun e w' => ∃ v, e = .returned v ∧ Out w w' ∧ answer_all_answer_line_number_answer_Parse_c1.ret K v w'.heap := by
  rw [← answer_all_answer_line_number_answer_Parse_c1.eq] at hh
  exact fn_calls (args := [(.func (.func 13) #[(.pointer (some a1))] #[]), (.func (.func 15) #[] #[(.pointer (some a2))])]) (c := answer_all_answer_line_number_answer_Parse_c1.code) answer_all_answer_line_number_answer_Parse_c1.ok Tryz.func14 (by kernel_rfl) (by kernel_rfl) (by kernel_rfl) (by kernel_rfl) (loops_ok (l := [(answer_all_answer_line_number_answer_Parse_c1.c0, none, 0, answer_all_answer_line_number_answer_Parse_c1.keep0, answer_all_answer_line_number_answer_Parse_c1.outs0)]) (by kernel_rfl) ⟨answer_all_answer_line_number_answer_Parse_c1.L0, trivial⟩) hh w hw
end

/-! ### strait/answer.Parse$2: function 16 -/
def answer_Parse_c2 (a1 : Int) (a2 : Addr) (h : Heap) (K : Heap → Prop) : Prop :=
  ∃ (x3 : Option Addr) (x3l : Nat) (x3c : Nat), cell h (a2.add 2) = some (.slice x3 x3l x3c) ∧ newP h (.cells #[(.int .i64 a1)] 3) fun a4 h5 => ∃ n10, cellsAt h5 (some a4) (1 * 1) n10 ∧ appP 3 1 8 [(.int .i64 0)] x3 x3l x3c 1 n10 h5 fun q6 l7 c8 h9 => stC h9 (a2.add 2) (.slice q6 l7 c8) fun h11 => K h11
def answer_Parse_c2.ret (K : Heap → Prop) (v : Value) (h : Heap) : Prop := match v with
  | (.tuple ⟨[]⟩) => K h
  | _ => False
theorem answer_Parse_c2.ret_elim {K : Heap → Prop} {K' : Value → Heap → Prop} {v : Value} {h : Heap} (hk : ∀  h, K h → K' (.tuple #[]) h) (hh : answer_Parse_c2.ret K v h) : K' v h := by
  unfold answer_Parse_c2.ret at hh
  split at hh
  · exact hk _ hh
  · exact hh.elim
noncomputable def answer_Parse_c2.ctx : Ctx := { P := Tryz.prog, call := fun _ _ _ _ => False, qcall := fun _ _ _ _ => False, quiet := fun f => Nat.beq f 2000025, loop := fun _ _ _ _ => False }
theorem answer_Parse_c2.ok [DKc] : answer_Parse_c2.ctx.OK where
  mixed := by kernel_rfl
  mono := fun hh _ => hh.elim
  call := fun hh => hh.elim
  qmono := fun hh _ => hh.elim
  qval := fun hh => hh.elim
  qcall := fun hh => hh.elim
noncomputable def answer_Parse_c2.code : Code := (Tryz.f16.body).getD .skip
def answer_Parse_c2.ann : Ann := .auto
set_option maxRecDepth 100000 in
theorem answer_Parse_c2.eq (a1 : Int) (a2 : Addr) (h : Heap) (K : Heap → Prop) : evF answer_Parse_c2.ctx Tryz.f16 answer_Parse_c2.ann [(.int .i64 a1), (.pointer (some a2))] h (answer_Parse_c2.ret K) = answer_Parse_c2 a1 a2 h K := by kernel_rfl
set_option maxRecDepth 100000 in
theorem answer_Parse_c2.calls [DKc] {a1 : Int} {a2 : Addr} {h : Heap} {K : Heap → Prop} (hh : answer_Parse_c2 a1 a2 h K) (w : World) (hw : w.heap = h) :
    (callFunc 16 #[(.int .i64 a1), (.pointer (some a2))]).run Tryz.prog w = .ok (.enter 16 #[(.int .i64 a1), (.pointer (some a2))]) w ∧ Calls Tryz.prog 16 #[(.int .i64 a1), (.pointer (some a2))] w fun e w' => ∃ v, e = .returned v ∧ Out w w' ∧ answer_Parse_c2.ret K v w'.heap := by
  rw [← answer_Parse_c2.eq] at hh
  exact fn_calls (args := [(.int .i64 a1), (.pointer (some a2))]) (c := answer_Parse_c2.code) answer_Parse_c2.ok Tryz.func16 (by kernel_rfl) (by kernel_rfl) (by kernel_rfl) (by kernel_rfl) (loops_ok (l := []) (by kernel_rfl) trivial) hh w hw

/-! ### strait/answer.all: function 14 -/
section
variable [DKc]
def answer_all_answer_line_number_answer_Parse_c2.b0 (K2 : Heap → Prop) (cont : Addr → Addr → Int → Bool → Heap → Prop) (c0_1001 : Addr) (c1_1002 : Addr) (v4_1003 : Int) (v5_1004 : Bool) (h1005 : Heap) : Prop :=
  (iteB v5_1004 ((callP0 (answer_Parse_c2 v4_1003 c1_1002 h1005) fun h1006 => ((callP2 (answer_line_number (some c0_1001) h1006) fun x1007 x1008 h1009 => cont c0_1001 c1_1002 x1007 x1008 h1009)))) (K2 h1005))
def answer_all_answer_line_number_answer_Parse_c2.l0 (K2 : Heap → Prop) : Nat → Addr → Addr → Int → Bool → Heap → Prop
  | 0, _, _, _, _, _ => False
  | m + 1, c0_1001, c1_1002, v4_1003, v5_1004, h => answer_all_answer_line_number_answer_Parse_c2.b0 K2 (answer_all_answer_line_number_answer_Parse_c2.l0 K2 m) c0_1001 c1_1002 v4_1003 v5_1004 h
def answer_all_answer_line_number_answer_Parse_c2 (a1 : Addr) (a2 : Addr) (h : Heap) (K : Heap → Prop) : Prop :=
  callP2 (answer_line_number (some a1) h) fun x3 x4 h5 => (∃ m7, answer_all_answer_line_number_answer_Parse_c2.l0 (fun h6 => K h6) m7 a1 a2 x3 x4 h5)
def answer_all_answer_line_number_answer_Parse_c2.ret (K : Heap → Prop) (v : Value) (h : Heap) : Prop := match v with
  | (.tuple ⟨[]⟩) => K h
  | _ => False
theorem answer_all_answer_line_number_answer_Parse_c2.ret_elim {K : Heap → Prop} {K' : Value → Heap → Prop} {v : Value} {h : Heap} (hk : ∀  h, K h → K' (.tuple #[]) h) (hh : answer_all_answer_line_number_answer_Parse_c2.ret K v h) : K' v h := by
  unfold answer_all_answer_line_number_answer_Parse_c2.ret at hh
  split at hh
  · exact hk _ hh
  · exact hh.elim
def answer_all_answer_line_number_answer_Parse_c2.call (f : FuncId) (vs : List Value) (h : Heap) (K : Value → Heap → Prop) : Prop := match f, vs with
  | 13, [(.pointer a1)] => callP2 (answer_line_number a1 h) fun r16 r17 h' => K (.tuple #[(.int .i64 r16), (.bool r17)]) h'
  | 16, [(.int .i64 a1), (.pointer (some a2))] => callP0 (answer_Parse_c2 a1 a2 h) fun h' => K (.tuple #[]) h'
  | _, _ => False
def answer_all_answer_line_number_answer_Parse_c2.r0 (K : Nat → List Value → Heap → Prop) (m : Nat) (vs : List Value) (h : Heap) : Prop := match vs with
  | [(.func (.func 13) ⟨[(.pointer (some c0_1001))]⟩ ⟨[]⟩), (.func (.func 16) ⟨[]⟩ ⟨[(.pointer (some c1_1002))]⟩), (.int .i64 v4_1003), (.bool v5_1004)] => answer_all_answer_line_number_answer_Parse_c2.l0 (fun h' => K 2 [] h') m c0_1001 c1_1002 v4_1003 v5_1004 h
  | _ => False
def answer_all_answer_line_number_answer_Parse_c2.loop (i : Nat) (vs : List Value) (h : Heap) (K : Nat → List Value → Heap → Prop) : Prop := match i with
  | 0 => ∃ m, answer_all_answer_line_number_answer_Parse_c2.r0 K m vs h
  | _ => False
noncomputable def answer_all_answer_line_number_answer_Parse_c2.ctx : Ctx := { P := Tryz.prog, call := answer_all_answer_line_number_answer_Parse_c2.call, qcall := fun _ _ _ _ => False, quiet := fun f => Nat.beq f 2000025, loop := answer_all_answer_line_number_answer_Parse_c2.loop }
theorem answer_all_answer_line_number_answer_Parse_c2.ok : answer_all_answer_line_number_answer_Parse_c2.ctx.OK where
  mixed := by kernel_rfl
  mono := by
    intro f args h K K' hh hk
    change answer_all_answer_line_number_answer_Parse_c2.call f args h K at hh
    change answer_all_answer_line_number_answer_Parse_c2.call f args h K'
    unfold answer_all_answer_line_number_answer_Parse_c2.call at hh ⊢
    split at hh
    · obtain ⟨R, h1, h2⟩ := hh
      exact ⟨R, h1, fun _ _ x hr => hk _ _ (h2 _ _ x hr)⟩
    · obtain ⟨R, h1, h2⟩ := hh
      exact ⟨R, h1, fun x hr => hk _ _ (h2 x hr)⟩
    · exact hh.elim
  call := by
    intro f args h K hh w hw
    change answer_all_answer_line_number_answer_Parse_c2.call f args h K at hh
    unfold answer_all_answer_line_number_answer_Parse_c2.call at hh
    split at hh
    · obtain ⟨R, h1, h2⟩ := hh
      obtain ⟨g1, g2⟩ := answer_line_number.calls h1 w hw
      exact ⟨g1, g2.mono fun e w' ⟨v, he, ho, hr⟩ => ⟨v, he, ho, answer_line_number.ret_elim h2 hr⟩⟩
    · obtain ⟨R, h1, h2⟩ := hh
      obtain ⟨g1, g2⟩ := answer_Parse_c2.calls h1 w hw
      exact ⟨g1, g2.mono fun e w' ⟨v, he, ho, hr⟩ => ⟨v, he, ho, answer_Parse_c2.ret_elim h2 hr⟩⟩
    · exact hh.elim
  qmono := fun hh _ => hh.elim
  qval := fun hh => hh.elim
  qcall := fun hh => hh.elim
noncomputable def answer_all_answer_line_number_answer_Parse_c2.code : Code := (Tryz.f14.body).getD .skip
def answer_all_answer_line_number_answer_Parse_c2.ann : Ann := (.two .auto (.two (.loop 0 [0, 1, 4, 5] [(2, [])] .auto) .auto))
noncomputable def answer_all_answer_line_number_answer_Parse_c2.c0 : Code := sub answer_all_answer_line_number_answer_Parse_c2.code [1, 0, 0]
def answer_all_answer_line_number_answer_Parse_c2.a0 : Ann := .auto
def answer_all_answer_line_number_answer_Parse_c2.keep0 : List Nat := [0, 1, 4, 5]
def answer_all_answer_line_number_answer_Parse_c2.outs0 : List (Nat × List Nat) := [(2, [])]
set_option maxRecDepth 100000 in
theorem answer_all_answer_line_number_answer_Parse_c2.L0 : LoopOK answer_all_answer_line_number_answer_Parse_c2.ctx 20 answer_all_answer_line_number_answer_Parse_c2.c0 0 answer_all_answer_line_number_answer_Parse_c2.keep0 answer_all_answer_line_number_answer_Parse_c2.outs0 := by
  refine loop_ok (n := answer_all_answer_line_number_answer_Parse_c2.a0) answer_all_answer_line_number_answer_Parse_c2.ok (by kernel_rfl) (loops_ok (l := []) (by kernel_rfl) ?_) answer_all_answer_line_number_answer_Parse_c2.r0 ?_ ?_ (fun vs h K hh => hh)
  · exact trivial
  · intro K vs h hh
    unfold answer_all_answer_line_number_answer_Parse_c2.r0 at hh
    split at hh
    · exact hh
    · exact hh
  · intro K m vs h hh
    unfold answer_all_answer_line_number_answer_Parse_c2.r0 at hh
    split at hh
    · exact cast (by kernel_rfl) hh
    · exact hh.elim
set_option maxRecDepth 100000 in
theorem answer_all_answer_line_number_answer_Parse_c2.eq (a1 : Addr) (a2 : Addr) (h : Heap) (K : Heap → Prop) : evF answer_all_answer_line_number_answer_Parse_c2.ctx Tryz.f14 answer_all_answer_line_number_answer_Parse_c2.ann [(.func (.func 13) #[(.pointer (some a1))] #[]), (.func (.func 16) #[] #[(.pointer (some a2))])] h (answer_all_answer_line_number_answer_Parse_c2.ret K) = answer_all_answer_line_number_answer_Parse_c2 a1 a2 h K := by kernel_rfl
set_option maxRecDepth 100000 in
theorem answer_all_answer_line_number_answer_Parse_c2.calls {a1 : Addr} {a2 : Addr} {h : Heap} {K : Heap → Prop} (hh : answer_all_answer_line_number_answer_Parse_c2 a1 a2 h K) (w : World) (hw : w.heap = h) :
    (callFunc 14 #[(.func (.func 13) #[(.pointer (some a1))] #[]), (.func (.func 16) #[] #[(.pointer (some a2))])]).run Tryz.prog w = .ok (.enter 14 #[(.func (.func 13) #[(.pointer (some a1))] #[]), (.func (.func 16) #[] #[(.pointer (some a2))])]) w ∧ Calls Tryz.prog 14 #[(.func (.func 13) #[(.pointer (some a1))] #[]), (.func (.func 16) #[] #[(.pointer (some a2))])] w fun e w' => ∃ v, e = .returned v ∧ Out w w' ∧ answer_all_answer_line_number_answer_Parse_c2.ret K v w'.heap := by
  rw [← answer_all_answer_line_number_answer_Parse_c2.eq] at hh
  exact fn_calls (args := [(.func (.func 13) #[(.pointer (some a1))] #[]), (.func (.func 16) #[] #[(.pointer (some a2))])]) (c := answer_all_answer_line_number_answer_Parse_c2.code) answer_all_answer_line_number_answer_Parse_c2.ok Tryz.func14 (by kernel_rfl) (by kernel_rfl) (by kernel_rfl) (by kernel_rfl) (loops_ok (l := [(answer_all_answer_line_number_answer_Parse_c2.c0, none, 0, answer_all_answer_line_number_answer_Parse_c2.keep0, answer_all_answer_line_number_answer_Parse_c2.outs0)]) (by kernel_rfl) ⟨answer_all_answer_line_number_answer_Parse_c2.L0, trivial⟩) hh w hw
end

/-! ### strait/answer.Parse: function 5 -/
section
variable [DKc]
def answer_Parse (a1 : ByteArray) (h : Heap) (K : Int → (Option Addr) → Nat → Nat → (Option Addr) → Nat → Nat → (Option Addr) → Nat → Nat → Bool → Heap → Prop) : Prop :=
  newP h (.cells #[(.int .i64 0), (.slice none 0 0), (.slice none 0 0), (.slice none 0 0)] 27) fun a2 h3 => (callP4 (word_Words a1 h3) fun x4 x4l x4c x5 h6 => ((iteB (!x5) (stC h6 a2 (.int .i64 0) fun h7 => stC h7 (a2.add 1) (.slice none 0 0) fun h8 => stC h8 (a2.add 2) (.slice none 0 0) fun h9 => stC h9 (a2.add 3) (.slice none 0 0) fun h10 => (∃ (x11 : Int), cell h10 a2 = some (.int .i64 x11) ∧ ∃ (x12 : Option Addr) (x12l : Nat) (x12c : Nat), cell h10 (a2.add 1) = some (.slice x12 x12l x12c) ∧ ∃ (x13 : Option Addr) (x13l : Nat) (x13c : Nat), cell h10 (a2.add 2) = some (.slice x13 x13l x13c) ∧ ∃ (x14 : Option Addr) (x14l : Nat) (x14c : Nat), cell h10 (a2.add 3) = some (.slice x14 x14l x14c) ∧ K x11 x12 x12l x12c x13 x13l x13c x14 x14l x14c false h10)) ((newP h6 (.cells #[(.slice x4 x4l x4c)] 45) fun a15 h16 => (newP h16 (.cells #[(.int .i64 0), (.slice none 0 0), (.slice none 0 0), (.slice none 0 0)] 27) fun a17 h18 => (let j114 := (fun (h41 : Heap) => (callP0 (answer_all_answer_line_number_answer_Parse_c1 a15 a17 h41) fun h42 => (let j113 := (fun (h55 : Heap) => let j112 := (fun (h81 : Heap) => let j99 := (fun (y89 : Bool) (h90 : Heap) => iteB y89 (stC h90 a2 (.int .i64 0) fun h91 => stC h91 (a2.add 1) (.slice none 0 0) fun h92 => stC h92 (a2.add 2) (.slice none 0 0) fun h93 => stC h93 (a2.add 3) (.slice none 0 0) fun h94 => (∃ (x95 : Int), cell h94 a2 = some (.int .i64 x95) ∧ ∃ (x96 : Option Addr) (x96l : Nat) (x96c : Nat), cell h94 (a2.add 1) = some (.slice x96 x96l x96c) ∧ ∃ (x97 : Option Addr) (x97l : Nat) (x97c : Nat), cell h94 (a2.add 2) = some (.slice x97 x97l x97c) ∧ ∃ (x98 : Option Addr) (x98l : Nat) (x98c : Nat), cell h94 (a2.add 3) = some (.slice x98 x98l x98c) ∧ K x95 x96 x96l x96c x97 x97l x97c x98 x98l x98c false h94)) ((∃ (x100 : Int), cell h90 a17 = some (.int .i64 x100) ∧ ∃ (x101 : Option Addr) (x101l : Nat) (x101c : Nat), cell h90 (a17.add 1) = some (.slice x101 x101l x101c) ∧ ∃ (x102 : Option Addr) (x102l : Nat) (x102c : Nat), cell h90 (a17.add 2) = some (.slice x102 x102l x102c) ∧ ∃ (x103 : Option Addr) (x103l : Nat) (x103c : Nat), cell h90 (a17.add 3) = some (.slice x103 x103l x103c) ∧ stC h90 a2 (.int .i64 x100) fun h104 => stC h104 (a2.add 1) (.slice x101 x101l x101c) fun h105 => stC h105 (a2.add 2) (.slice x102 x102l x102c) fun h106 => stC h106 (a2.add 3) (.slice x103 x103l x103c) fun h107 => (∃ (x108 : Int), cell h107 a2 = some (.int .i64 x108) ∧ ∃ (x109 : Option Addr) (x109l : Nat) (x109c : Nat), cell h107 (a2.add 1) = some (.slice x109 x109l x109c) ∧ ∃ (x110 : Option Addr) (x110l : Nat) (x110c : Nat), cell h107 (a2.add 2) = some (.slice x110 x110l x110c) ∧ ∃ (x111 : Option Addr) (x111l : Nat) (x111c : Nat), cell h107 (a2.add 3) = some (.slice x111 x111l x111c) ∧ K x108 x109 x109l x109c x110 x110l x110c x111 x111l x111c true h107))));
  ∃ (x82 : Option Addr) (x82l : Nat) (x82c : Nat), cell h81 a15 = some (.slice x82 x82l x82c) ∧ iteB (decide ((x82l : Int) > (0 : Int))) ((j99 true h81)) (∃ (x83 : Int), cell h81 a17 = some (.int .i64 x83) ∧ ∃ (x84 : Option Addr) (x84l : Nat) (x84c : Nat), cell h81 (a17.add 1) = some (.slice x84 x84l x84c) ∧ ∃ (x85 : Option Addr) (x85l : Nat) (x85c : Nat), cell h81 (a17.add 2) = some (.slice x85 x85l x85c) ∧ ∃ (x86 : Option Addr) (x86l : Nat) (x86c : Nat), cell h81 (a17.add 3) = some (.slice x86 x86l x86c) ∧ callP1 (answer_Print x83 x84 x84l x84c x85 x85l x85c x86 x86l x86c h81) fun x87 h88 => (j99 (!(x87.toList == a1.toList)) h88)));
  let j80 := (fun (y59 : Bool) (h60 : Heap) => iteB y59 (∃ (x61 : Option Addr) (x61l : Nat) (x61c : Nat), cell h60 a15 = some (.slice x61 x61l x61c) ∧ chkP x61 fun a62 => (0 ≤ (0 : Int) ∧ (0 : Int) < (x61l : Int)) ∧ ∃ (x63 : ByteArray), cell h60 (a62.add ((0 : Int).toNat * 1)) = some (.string x63) ∧ callP4 (command_Bytes x63 h60) fun x64 x64l x64c x65 h66 => stC h66 (a17.add 3) (.slice x64 x64l x64c) fun h67 => (let j78 := (fun (y69 : Bool) => iteB y69 (stC h67 a2 (.int .i64 0) fun h70 => stC h70 (a2.add 1) (.slice none 0 0) fun h71 => stC h71 (a2.add 2) (.slice none 0 0) fun h72 => stC h72 (a2.add 3) (.slice none 0 0) fun h73 => (∃ (x74 : Int), cell h73 a2 = some (.int .i64 x74) ∧ ∃ (x75 : Option Addr) (x75l : Nat) (x75c : Nat), cell h73 (a2.add 1) = some (.slice x75 x75l x75c) ∧ ∃ (x76 : Option Addr) (x76l : Nat) (x76c : Nat), cell h73 (a2.add 2) = some (.slice x76 x76l x76c) ∧ ∃ (x77 : Option Addr) (x77l : Nat) (x77c : Nat), cell h73 (a2.add 3) = some (.slice x77 x77l x77c) ∧ K x74 x75 x75l x75c x76 x76l x76c x77 x77l x77c false h73)) ((stC h67 a15 (.slice none 0 0) fun h79 => (j112 h79))));
  iteB (!x65) ((j78 true)) (∃ (x68 : Option Addr) (x68l : Nat) (x68c : Nat), cell h67 (a17.add 3) = some (.slice x68 x68l x68c) ∧ (j78 ((x68l : Int) == (0 : Int)))))) ((j112 h60)));
  callP1 (answer_line_word (some a15) (⟨#[98, 121, 116, 101, 115]⟩ : ByteArray) h55) fun x56 h57 => iteB x56 (∃ (x58 : Option Addr) (x58l : Nat) (x58c : Nat), cell h57 a15 = some (.slice x58 x58l x58c) ∧ (j80 ((x58l : Int) == (1 : Int)) h57)) ((j80 false h57)));
  callP1 (answer_line_word (some a15) (⟨#[115, 105, 100, 101]⟩ : ByteArray) h42) fun x43 h44 => (iteB x43 (callP0 (answer_all_answer_line_number_answer_Parse_c2 a15 a17 h44) fun h45 => (∃ (x46 : Option Addr) (x46l : Nat) (x46c : Nat), cell h45 (a17.add 2) = some (.slice x46 x46l x46c) ∧ (iteB ((x46l : Int) == (0 : Int)) (stC h45 a2 (.int .i64 0) fun h47 => stC h47 (a2.add 1) (.slice none 0 0) fun h48 => stC h48 (a2.add 2) (.slice none 0 0) fun h49 => stC h49 (a2.add 3) (.slice none 0 0) fun h50 => (∃ (x51 : Int), cell h50 a2 = some (.int .i64 x51) ∧ ∃ (x52 : Option Addr) (x52l : Nat) (x52c : Nat), cell h50 (a2.add 1) = some (.slice x52 x52l x52c) ∧ ∃ (x53 : Option Addr) (x53l : Nat) (x53c : Nat), cell h50 (a2.add 2) = some (.slice x53 x53l x53c) ∧ ∃ (x54 : Option Addr) (x54l : Nat) (x54c : Nat), cell h50 (a2.add 3) = some (.slice x54 x54l x54c) ∧ K x51 x52 x52l x52c x53 x53l x53c x54 x54l x54c false h50)) ((j113 h45))))) ((j113 h44))))));
  callP1 (answer_line_word (some a15) (⟨#[111, 107]⟩ : ByteArray) h18) fun x19 h20 => (iteB (!x19) (callP1 (answer_line_word (some a15) (⟨#[101, 114, 114, 111, 114]⟩ : ByteArray) h20) fun x21 h22 => (let j40 := (fun (y26 : Int) (y27 : Bool) (h28 : Heap) => let j38 := (fun (y29 : Bool) => iteB y29 (stC h28 a2 (.int .i64 0) fun h30 => stC h30 (a2.add 1) (.slice none 0 0) fun h31 => stC h31 (a2.add 2) (.slice none 0 0) fun h32 => stC h32 (a2.add 3) (.slice none 0 0) fun h33 => (∃ (x34 : Int), cell h33 a2 = some (.int .i64 x34) ∧ ∃ (x35 : Option Addr) (x35l : Nat) (x35c : Nat), cell h33 (a2.add 1) = some (.slice x35 x35l x35c) ∧ ∃ (x36 : Option Addr) (x36l : Nat) (x36c : Nat), cell h33 (a2.add 2) = some (.slice x36 x36l x36c) ∧ ∃ (x37 : Option Addr) (x37l : Nat) (x37c : Nat), cell h33 (a2.add 3) = some (.slice x37 x37l x37c) ∧ K x34 x35 x35l x35c x36 x36l x36c x37 x37l x37c false h33)) ((stC h28 a17 (.int .i64 y26) fun h39 => (j114 h39))));
  iteB (!y27) ((j38 true)) ((j38 (y26 == (0 : Int)))));
  (iteB x21 (callP2 (answer_line_number (some a15) h22) fun x23 x24 h25 => (j40 x23 x24 h25)) ((j40 0 x21 h22))))) ((j114 h20))))))))))
def answer_Parse.ret (K : Int → (Option Addr) → Nat → Nat → (Option Addr) → Nat → Nat → (Option Addr) → Nat → Nat → Bool → Heap → Prop) (v : Value) (h : Heap) : Prop := match v with
  | (.tuple ⟨[(.agg ⟨[(.int .i64 r115), (.slice r116 r116l r116c), (.slice r117 r117l r117c), (.slice r118 r118l r118c)]⟩), (.bool r119)]⟩) => K r115 r116 r116l r116c r117 r117l r117c r118 r118l r118c r119 h
  | _ => False
theorem answer_Parse.ret_elim {K : Int → (Option Addr) → Nat → Nat → (Option Addr) → Nat → Nat → (Option Addr) → Nat → Nat → Bool → Heap → Prop} {K' : Value → Heap → Prop} {v : Value} {h : Heap} (hk : ∀ r115 r116 r116l r116c r117 r117l r117c r118 r118l r118c r119 h, K r115 r116 r116l r116c r117 r117l r117c r118 r118l r118c r119 h → K' (.tuple #[(.agg #[(.int .i64 r115), (.slice r116 r116l r116c), (.slice r117 r117l r117c), (.slice r118 r118l r118c)]), (.bool r119)]) h) (hh : answer_Parse.ret K v h) : K' v h := by
  unfold answer_Parse.ret at hh
  split at hh
  · exact hk _ _ _ _ _ _ _ _ _ _ _ _ hh
  · exact hh.elim
def answer_Parse.call (f : FuncId) (vs : List Value) (h : Heap) (K : Value → Heap → Prop) : Prop := match f, vs with
  | 7, [(.agg ⟨[(.int .i64 a1), (.slice a2 a2l a2c), (.slice a3 a3l a3c), (.slice a4 a4l a4c)]⟩)] => callP1 (answer_Print a1 a2 a2l a2c a3 a3l a3c a4 a4l a4c h) fun r56 h' => K (.string r56) h'
  | 11, [(.string a1)] => callP4 (word_Words a1 h) fun r6 r6l r6c r7 h' => K (.tuple #[(.slice r6 r6l r6c), (.bool r7)]) h'
  | 12, [(.pointer a1), (.string a2)] => callP1 (answer_line_word a1 a2 h) fun r15 h' => K (.bool r15) h'
  | 13, [(.pointer a1)] => callP2 (answer_line_number a1 h) fun r16 r17 h' => K (.tuple #[(.int .i64 r16), (.bool r17)]) h'
  | 14, [(.func (.func 13) ⟨[(.pointer (some a1))]⟩ ⟨[]⟩), (.func (.func 15) ⟨[]⟩ ⟨[(.pointer (some a2))]⟩)] => callP0 (answer_all_answer_line_number_answer_Parse_c1 a1 a2 h) fun h' => K (.tuple #[]) h'
  | 14, [(.func (.func 13) ⟨[(.pointer (some a1))]⟩ ⟨[]⟩), (.func (.func 16) ⟨[]⟩ ⟨[(.pointer (some a2))]⟩)] => callP0 (answer_all_answer_line_number_answer_Parse_c2 a1 a2 h) fun h' => K (.tuple #[]) h'
  | 17, [(.string a1)] => callP4 (command_Bytes a1 h) fun r11 r11l r11c r12 h' => K (.tuple #[(.slice r11 r11l r11c), (.bool r12)]) h'
  | _, _ => False
noncomputable def answer_Parse.ctx : Ctx := { P := Tryz.prog, call := answer_Parse.call, qcall := fun _ _ _ _ => False, quiet := fun f => Nat.beq f 2000025, loop := fun _ _ _ _ => False }
theorem answer_Parse.ok : answer_Parse.ctx.OK where
  mixed := by kernel_rfl
  mono := by
    intro f args h K K' hh hk
    change answer_Parse.call f args h K at hh
    change answer_Parse.call f args h K'
    unfold answer_Parse.call at hh ⊢
    split at hh
    · obtain ⟨R, h1, h2⟩ := hh
      exact ⟨R, h1, fun _ x hr => hk _ _ (h2 _ x hr)⟩
    · obtain ⟨R, h1, h2⟩ := hh
      exact ⟨R, h1, fun _ _ _ _ x hr => hk _ _ (h2 _ _ _ _ x hr)⟩
    · obtain ⟨R, h1, h2⟩ := hh
      exact ⟨R, h1, fun _ x hr => hk _ _ (h2 _ x hr)⟩
    · obtain ⟨R, h1, h2⟩ := hh
      exact ⟨R, h1, fun _ _ x hr => hk _ _ (h2 _ _ x hr)⟩
    · obtain ⟨R, h1, h2⟩ := hh
      exact ⟨R, h1, fun x hr => hk _ _ (h2 x hr)⟩
    · obtain ⟨R, h1, h2⟩ := hh
      exact ⟨R, h1, fun x hr => hk _ _ (h2 x hr)⟩
    · obtain ⟨R, h1, h2⟩ := hh
      exact ⟨R, h1, fun _ _ _ _ x hr => hk _ _ (h2 _ _ _ _ x hr)⟩
    · exact hh.elim
  call := by
    intro f args h K hh w hw
    change answer_Parse.call f args h K at hh
    unfold answer_Parse.call at hh
    split at hh
    · obtain ⟨R, h1, h2⟩ := hh
      obtain ⟨g1, g2⟩ := answer_Print.calls h1 w hw
      exact ⟨g1, g2.mono fun e w' ⟨v, he, ho, hr⟩ => ⟨v, he, ho, answer_Print.ret_elim h2 hr⟩⟩
    · obtain ⟨R, h1, h2⟩ := hh
      obtain ⟨g1, g2⟩ := word_Words.calls h1 w hw
      exact ⟨g1, g2.mono fun e w' ⟨v, he, ho, hr⟩ => ⟨v, he, ho, word_Words.ret_elim h2 hr⟩⟩
    · obtain ⟨R, h1, h2⟩ := hh
      obtain ⟨g1, g2⟩ := answer_line_word.calls h1 w hw
      exact ⟨g1, g2.mono fun e w' ⟨v, he, ho, hr⟩ => ⟨v, he, ho, answer_line_word.ret_elim h2 hr⟩⟩
    · obtain ⟨R, h1, h2⟩ := hh
      obtain ⟨g1, g2⟩ := answer_line_number.calls h1 w hw
      exact ⟨g1, g2.mono fun e w' ⟨v, he, ho, hr⟩ => ⟨v, he, ho, answer_line_number.ret_elim h2 hr⟩⟩
    · obtain ⟨R, h1, h2⟩ := hh
      obtain ⟨g1, g2⟩ := answer_all_answer_line_number_answer_Parse_c1.calls h1 w hw
      exact ⟨g1, g2.mono fun e w' ⟨v, he, ho, hr⟩ => ⟨v, he, ho, answer_all_answer_line_number_answer_Parse_c1.ret_elim h2 hr⟩⟩
    · obtain ⟨R, h1, h2⟩ := hh
      obtain ⟨g1, g2⟩ := answer_all_answer_line_number_answer_Parse_c2.calls h1 w hw
      exact ⟨g1, g2.mono fun e w' ⟨v, he, ho, hr⟩ => ⟨v, he, ho, answer_all_answer_line_number_answer_Parse_c2.ret_elim h2 hr⟩⟩
    · obtain ⟨R, h1, h2⟩ := hh
      obtain ⟨g1, g2⟩ := command_Bytes.calls h1 w hw
      exact ⟨g1, g2.mono fun e w' ⟨v, he, ho, hr⟩ => ⟨v, he, ho, command_Bytes.ret_elim h2 hr⟩⟩
    · exact hh.elim
  qmono := fun hh _ => hh.elim
  qval := fun hh => hh.elim
  qcall := fun hh => hh.elim
noncomputable def answer_Parse.code : Code := (Tryz.f5.body).getD .skip
def answer_Parse.ann : Ann := .auto
set_option maxRecDepth 100000 in
theorem answer_Parse.eq (a1 : ByteArray) (h : Heap) (K : Int → (Option Addr) → Nat → Nat → (Option Addr) → Nat → Nat → (Option Addr) → Nat → Nat → Bool → Heap → Prop) : evF answer_Parse.ctx Tryz.f5 answer_Parse.ann [(.string a1)] h (answer_Parse.ret K) = answer_Parse a1 h K := by kernel_rfl
set_option maxRecDepth 100000 in
theorem answer_Parse.calls {a1 : ByteArray} {h : Heap} {K : Int → (Option Addr) → Nat → Nat → (Option Addr) → Nat → Nat → (Option Addr) → Nat → Nat → Bool → Heap → Prop} (hh : answer_Parse a1 h K) (w : World) (hw : w.heap = h) :
    (callFunc 5 #[(.string a1)]).run Tryz.prog w = .ok (.enter 5 #[(.string a1)]) w ∧ Calls Tryz.prog 5 #[(.string a1)] w fun e w' => ∃ v, e = .returned v ∧ Out w w' ∧ answer_Parse.ret K v w'.heap := by
  rw [← answer_Parse.eq] at hh
  exact fn_calls (args := [(.string a1)]) (c := answer_Parse.code) answer_Parse.ok Tryz.func5 (by kernel_rfl) (by kernel_rfl) (by kernel_rfl) (by kernel_rfl) (loops_ok (l := []) (by kernel_rfl) trivial) hh w hw
end

/-! ### slices.Clone[[]int64,int64]: function 30 -/
def slices_Clone_Lint64_int64 (a1 : Option Addr) (a1l : Nat) (a1c : Nat) (h : Heap) (K : (Option Addr) → Nat → Nat → Heap → Prop) : Prop :=
  ((iteB a1.isNone (K none 0 0 h) ((newP h (.cells #[] 2) fun a2 h3 => ∃ n8, cellsAt h3 a1 (a1l * 1) n8 ∧ appP 2 1 8 [(.int .i64 0)] (some a2) 0 0 a1l n8 h3 fun q4 l5 c6 h7 => K q4 l5 c6 h7))))
def slices_Clone_Lint64_int64.ret (K : (Option Addr) → Nat → Nat → Heap → Prop) (v : Value) (h : Heap) : Prop := match v with
  | (.slice r9 r9l r9c) => K r9 r9l r9c h
  | _ => False
theorem slices_Clone_Lint64_int64.ret_elim {K : (Option Addr) → Nat → Nat → Heap → Prop} {K' : Value → Heap → Prop} {v : Value} {h : Heap} (hk : ∀ r9 r9l r9c h, K r9 r9l r9c h → K' (.slice r9 r9l r9c) h) (hh : slices_Clone_Lint64_int64.ret K v h) : K' v h := by
  unfold slices_Clone_Lint64_int64.ret at hh
  split at hh
  · exact hk _ _ _ _ hh
  · exact hh.elim
noncomputable def slices_Clone_Lint64_int64.ctx : Ctx := { P := Tryz.prog, call := fun _ _ _ _ => False, qcall := fun _ _ _ _ => False, quiet := fun f => Nat.beq f 2000025, loop := fun _ _ _ _ => False }
theorem slices_Clone_Lint64_int64.ok [DKc] : slices_Clone_Lint64_int64.ctx.OK where
  mixed := by kernel_rfl
  mono := fun hh _ => hh.elim
  call := fun hh => hh.elim
  qmono := fun hh _ => hh.elim
  qval := fun hh => hh.elim
  qcall := fun hh => hh.elim
noncomputable def slices_Clone_Lint64_int64.code : Code := (Tryz.f30.body).getD .skip
def slices_Clone_Lint64_int64.ann : Ann := .auto
set_option maxRecDepth 100000 in
theorem slices_Clone_Lint64_int64.eq (a1 : Option Addr) (a1l : Nat) (a1c : Nat) (h : Heap) (K : (Option Addr) → Nat → Nat → Heap → Prop) : evF slices_Clone_Lint64_int64.ctx Tryz.f30 slices_Clone_Lint64_int64.ann [(.slice a1 a1l a1c)] h (slices_Clone_Lint64_int64.ret K) = slices_Clone_Lint64_int64 a1 a1l a1c h K := by kernel_rfl
set_option maxRecDepth 100000 in
theorem slices_Clone_Lint64_int64.calls [DKc] {a1 : Option Addr} {a1l : Nat} {a1c : Nat} {h : Heap} {K : (Option Addr) → Nat → Nat → Heap → Prop} (hh : slices_Clone_Lint64_int64 a1 a1l a1c h K) (w : World) (hw : w.heap = h) :
    (callFunc 30 #[(.slice a1 a1l a1c)]).run Tryz.prog w = .ok (.enter 30 #[(.slice a1 a1l a1c)]) w ∧ Calls Tryz.prog 30 #[(.slice a1 a1l a1c)] w fun e w' => ∃ v, e = .returned v ∧ Out w w' ∧ slices_Clone_Lint64_int64.ret K v w'.heap := by
  rw [← slices_Clone_Lint64_int64.eq] at hh
  exact fn_calls (args := [(.slice a1 a1l a1c)]) (c := slices_Clone_Lint64_int64.code) slices_Clone_Lint64_int64.ok Tryz.func30 (by kernel_rfl) (by kernel_rfl) (by kernel_rfl) (by kernel_rfl) (loops_ok (l := []) (by kernel_rfl) trivial) hh w hw

/-! ### strait/answer.Fail: function 10 -/
def answer_Fail (a1 : Int) (a2 : Option Addr) (a2l : Nat) (a2c : Nat) (h : Heap) (K : Int → (Option Addr) → Nat → Nat → (Option Addr) → Nat → Nat → (Option Addr) → Nat → Nat → Heap → Prop) : Prop :=
  newP h (.cells #[(.int .i64 0), (.slice none 0 0), (.slice none 0 0), (.slice none 0 0)] 27) fun a3 h4 => (callP3 (slices_Clone_Lint64_int64 a2 a2l a2c h4) fun x5 x5l x5c h6 => stC h6 a3 (.int .i64 a1) fun h7 => stC h7 (a3.add 1) (.slice x5 x5l x5c) fun h8 => stC h8 (a3.add 2) (.slice none 0 0) fun h9 => stC h9 (a3.add 3) (.slice none 0 0) fun h10 => (∃ (x11 : Int), cell h10 a3 = some (.int .i64 x11) ∧ ∃ (x12 : Option Addr) (x12l : Nat) (x12c : Nat), cell h10 (a3.add 1) = some (.slice x12 x12l x12c) ∧ ∃ (x13 : Option Addr) (x13l : Nat) (x13c : Nat), cell h10 (a3.add 2) = some (.slice x13 x13l x13c) ∧ ∃ (x14 : Option Addr) (x14l : Nat) (x14c : Nat), cell h10 (a3.add 3) = some (.slice x14 x14l x14c) ∧ K x11 x12 x12l x12c x13 x13l x13c x14 x14l x14c h10))
def answer_Fail.ret (K : Int → (Option Addr) → Nat → Nat → (Option Addr) → Nat → Nat → (Option Addr) → Nat → Nat → Heap → Prop) (v : Value) (h : Heap) : Prop := match v with
  | (.agg ⟨[(.int .i64 r15), (.slice r16 r16l r16c), (.slice r17 r17l r17c), (.slice r18 r18l r18c)]⟩) => K r15 r16 r16l r16c r17 r17l r17c r18 r18l r18c h
  | _ => False
theorem answer_Fail.ret_elim {K : Int → (Option Addr) → Nat → Nat → (Option Addr) → Nat → Nat → (Option Addr) → Nat → Nat → Heap → Prop} {K' : Value → Heap → Prop} {v : Value} {h : Heap} (hk : ∀ r15 r16 r16l r16c r17 r17l r17c r18 r18l r18c h, K r15 r16 r16l r16c r17 r17l r17c r18 r18l r18c h → K' (.agg #[(.int .i64 r15), (.slice r16 r16l r16c), (.slice r17 r17l r17c), (.slice r18 r18l r18c)]) h) (hh : answer_Fail.ret K v h) : K' v h := by
  unfold answer_Fail.ret at hh
  split at hh
  · exact hk _ _ _ _ _ _ _ _ _ _ _ hh
  · exact hh.elim
def answer_Fail.call (f : FuncId) (vs : List Value) (h : Heap) (K : Value → Heap → Prop) : Prop := match f, vs with
  | 30, [(.slice a1 a1l a1c)] => callP3 (slices_Clone_Lint64_int64 a1 a1l a1c h) fun r9 r9l r9c h' => K (.slice r9 r9l r9c) h'
  | _, _ => False
noncomputable def answer_Fail.ctx : Ctx := { P := Tryz.prog, call := answer_Fail.call, qcall := fun _ _ _ _ => False, quiet := fun f => Nat.beq f 2000025, loop := fun _ _ _ _ => False }
theorem answer_Fail.ok [DKc] : answer_Fail.ctx.OK where
  mixed := by kernel_rfl
  mono := by
    intro f args h K K' hh hk
    change answer_Fail.call f args h K at hh
    change answer_Fail.call f args h K'
    unfold answer_Fail.call at hh ⊢
    split at hh
    · obtain ⟨R, h1, h2⟩ := hh
      exact ⟨R, h1, fun _ _ _ x hr => hk _ _ (h2 _ _ _ x hr)⟩
    · exact hh.elim
  call := by
    intro f args h K hh w hw
    change answer_Fail.call f args h K at hh
    unfold answer_Fail.call at hh
    split at hh
    · obtain ⟨R, h1, h2⟩ := hh
      obtain ⟨g1, g2⟩ := slices_Clone_Lint64_int64.calls h1 w hw
      exact ⟨g1, g2.mono fun e w' ⟨v, he, ho, hr⟩ => ⟨v, he, ho, slices_Clone_Lint64_int64.ret_elim h2 hr⟩⟩
    · exact hh.elim
  qmono := fun hh _ => hh.elim
  qval := fun hh => hh.elim
  qcall := fun hh => hh.elim
noncomputable def answer_Fail.code : Code := (Tryz.f10.body).getD .skip
def answer_Fail.ann : Ann := .auto
set_option maxRecDepth 100000 in
theorem answer_Fail.eq (a1 : Int) (a2 : Option Addr) (a2l : Nat) (a2c : Nat) (h : Heap) (K : Int → (Option Addr) → Nat → Nat → (Option Addr) → Nat → Nat → (Option Addr) → Nat → Nat → Heap → Prop) : evF answer_Fail.ctx Tryz.f10 answer_Fail.ann [(.int .i64 a1), (.slice a2 a2l a2c)] h (answer_Fail.ret K) = answer_Fail a1 a2 a2l a2c h K := by kernel_rfl
set_option maxRecDepth 100000 in
theorem answer_Fail.calls [DKc] {a1 : Int} {a2 : Option Addr} {a2l : Nat} {a2c : Nat} {h : Heap} {K : Int → (Option Addr) → Nat → Nat → (Option Addr) → Nat → Nat → (Option Addr) → Nat → Nat → Heap → Prop} (hh : answer_Fail a1 a2 a2l a2c h K) (w : World) (hw : w.heap = h) :
    (callFunc 10 #[(.int .i64 a1), (.slice a2 a2l a2c)]).run Tryz.prog w = .ok (.enter 10 #[(.int .i64 a1), (.slice a2 a2l a2c)]) w ∧ Calls Tryz.prog 10 #[(.int .i64 a1), (.slice a2 a2l a2c)] w fun e w' => ∃ v, e = .returned v ∧ Out w w' ∧ answer_Fail.ret K v w'.heap := by
  rw [← answer_Fail.eq] at hh
  exact fn_calls (args := [(.int .i64 a1), (.slice a2 a2l a2c)]) (c := answer_Fail.code) answer_Fail.ok Tryz.func10 (by kernel_rfl) (by kernel_rfl) (by kernel_rfl) (by kernel_rfl) (loops_ok (l := []) (by kernel_rfl) trivial) hh w hw

/-! ### strait/straitlaw49.awake: function 4 -/
section
variable [DKc]
def straitlaw49_awake (h : Heap) (K : Bool → Heap → Prop) : Prop :=
  (callP11 (answer_Parse (⟨#[111, 107, 32, 50, 32, 115, 105, 100, 101, 32, 49, 32, 51]⟩ : ByteArray) h) fun x1 x2 x2l x2c x3 x3l x3c x4 x4l x4c x5 h6 => newP h6 (.cells #[(.int .i64 0), (.slice none 0 0), (.slice none 0 0), (.slice none 0 0)] 27) fun a7 h8 => stC h8 a7 (.int .i64 x1) fun h9 => stC h9 (a7.add 1) (.slice x2 x2l x2c) fun h10 => stC h10 (a7.add 2) (.slice x3 x3l x3c) fun h11 => stC h11 (a7.add 3) (.slice x4 x4l x4c) fun h12 => (iteB x5 (∃ (x13 : Option Addr) (x13l : Nat) (x13c : Nat), cell h12 (a7.add 1) = some (.slice x13 x13l x13c) ∧ iteB ((x13l : Int) == (1 : Int)) (∃ (x14 : Option Addr) (x14l : Nat) (x14c : Nat), cell h12 (a7.add 2) = some (.slice x14 x14l x14c) ∧ iteB ((x14l : Int) == (2 : Int)) (newP h12 (.cells #[(.int .i64 2)] 2) fun a15 h16 => callP10 (answer_Fail 4 (some a15) 1 1 h16) fun x17 x18 x18l x18c x19 x19l x19c x20 x20l x20c h21 => callP1 (answer_Print x17 x18 x18l x18c x19 x19l x19c x20 x20l x20c h21) fun x22 h23 => (K (x22.toList == (⟨#[101, 114, 114, 111, 114, 32, 52, 32, 50]⟩ : ByteArray).toList) h23)) (K false h12)) (K false h12)) (K false h12)))
def straitlaw49_awake.ret (K : Bool → Heap → Prop) (v : Value) (h : Heap) : Prop := match v with
  | (.bool r26) => K r26 h
  | _ => False
theorem straitlaw49_awake.ret_elim {K : Bool → Heap → Prop} {K' : Value → Heap → Prop} {v : Value} {h : Heap} (hk : ∀ r26 h, K r26 h → K' (.bool r26) h) (hh : straitlaw49_awake.ret K v h) : K' v h := by
  unfold straitlaw49_awake.ret at hh
  split at hh
  · exact hk _ _ hh
  · exact hh.elim
def straitlaw49_awake.call (f : FuncId) (vs : List Value) (h : Heap) (K : Value → Heap → Prop) : Prop := match f, vs with
  | 5, [(.string a1)] => callP11 (answer_Parse a1 h) fun r115 r116 r116l r116c r117 r117l r117c r118 r118l r118c r119 h' => K (.tuple #[(.agg #[(.int .i64 r115), (.slice r116 r116l r116c), (.slice r117 r117l r117c), (.slice r118 r118l r118c)]), (.bool r119)]) h'
  | 7, [(.agg ⟨[(.int .i64 a1), (.slice a2 a2l a2c), (.slice a3 a3l a3c), (.slice a4 a4l a4c)]⟩)] => callP1 (answer_Print a1 a2 a2l a2c a3 a3l a3c a4 a4l a4c h) fun r56 h' => K (.string r56) h'
  | 10, [(.int .i64 a1), (.slice a2 a2l a2c)] => callP10 (answer_Fail a1 a2 a2l a2c h) fun r15 r16 r16l r16c r17 r17l r17c r18 r18l r18c h' => K (.agg #[(.int .i64 r15), (.slice r16 r16l r16c), (.slice r17 r17l r17c), (.slice r18 r18l r18c)]) h'
  | _, _ => False
noncomputable def straitlaw49_awake.ctx : Ctx := { P := Tryz.prog, call := straitlaw49_awake.call, qcall := fun _ _ _ _ => False, quiet := fun f => Nat.beq f 2000025, loop := fun _ _ _ _ => False }
theorem straitlaw49_awake.ok : straitlaw49_awake.ctx.OK where
  mixed := by kernel_rfl
  mono := by
    intro f args h K K' hh hk
    change straitlaw49_awake.call f args h K at hh
    change straitlaw49_awake.call f args h K'
    unfold straitlaw49_awake.call at hh ⊢
    split at hh
    · obtain ⟨R, h1, h2⟩ := hh
      exact ⟨R, h1, fun _ _ _ _ _ _ _ _ _ _ _ x hr => hk _ _ (h2 _ _ _ _ _ _ _ _ _ _ _ x hr)⟩
    · obtain ⟨R, h1, h2⟩ := hh
      exact ⟨R, h1, fun _ x hr => hk _ _ (h2 _ x hr)⟩
    · obtain ⟨R, h1, h2⟩ := hh
      exact ⟨R, h1, fun _ _ _ _ _ _ _ _ _ _ x hr => hk _ _ (h2 _ _ _ _ _ _ _ _ _ _ x hr)⟩
    · exact hh.elim
  call := by
    intro f args h K hh w hw
    change straitlaw49_awake.call f args h K at hh
    unfold straitlaw49_awake.call at hh
    split at hh
    · obtain ⟨R, h1, h2⟩ := hh
      obtain ⟨g1, g2⟩ := answer_Parse.calls h1 w hw
      exact ⟨g1, g2.mono fun e w' ⟨v, he, ho, hr⟩ => ⟨v, he, ho, answer_Parse.ret_elim h2 hr⟩⟩
    · obtain ⟨R, h1, h2⟩ := hh
      obtain ⟨g1, g2⟩ := answer_Print.calls h1 w hw
      exact ⟨g1, g2.mono fun e w' ⟨v, he, ho, hr⟩ => ⟨v, he, ho, answer_Print.ret_elim h2 hr⟩⟩
    · obtain ⟨R, h1, h2⟩ := hh
      obtain ⟨g1, g2⟩ := answer_Fail.calls h1 w hw
      exact ⟨g1, g2.mono fun e w' ⟨v, he, ho, hr⟩ => ⟨v, he, ho, answer_Fail.ret_elim h2 hr⟩⟩
    · exact hh.elim
  qmono := fun hh _ => hh.elim
  qval := fun hh => hh.elim
  qcall := fun hh => hh.elim
noncomputable def straitlaw49_awake.code : Code := (Tryz.f4.body).getD .skip
def straitlaw49_awake.ann : Ann := .auto
set_option maxRecDepth 100000 in
theorem straitlaw49_awake.eq (h : Heap) (K : Bool → Heap → Prop) : evF straitlaw49_awake.ctx Tryz.f4 straitlaw49_awake.ann [] h (straitlaw49_awake.ret K) = straitlaw49_awake h K := by kernel_rfl
set_option maxRecDepth 100000 in
theorem straitlaw49_awake.calls {h : Heap} {K : Bool → Heap → Prop} (hh : straitlaw49_awake h K) (w : World) (hw : w.heap = h) :
    (callFunc 4 #[]).run Tryz.prog w = .ok (.enter 4 #[]) w ∧ Calls Tryz.prog 4 #[] w fun e w' => ∃ v, e = .returned v ∧ Out w w' ∧ straitlaw49_awake.ret K v w'.heap := by
  rw [← straitlaw49_awake.eq] at hh
  exact fn_calls (args := []) (c := straitlaw49_awake.code) straitlaw49_awake.ok Tryz.func4 (by kernel_rfl) (by kernel_rfl) (by kernel_rfl) (by kernel_rfl) (loops_ok (l := []) (by kernel_rfl) trivial) hh w hw
end

/-! ### strait/straitref07.word: function 37 -/
def straitref07_word.b0 (K0 : Bool → Heap → Prop) (K2 : Heap → Prop) (cont : ByteArray → Int → Heap → Prop) (c0_1001 : ByteArray) (v3_1002 : Int) (h1003 : Heap) : Prop :=
  (iteB (decide (v3_1002 < (c0_1001.size : Int))) ((0 ≤ v3_1002 ∧ ∃ b1004 : UInt8, c0_1001[v3_1002.toNat]? = some b1004 ∧ iteB ((b1004.toNat : Int) == (10 : Int)) (K0 false h1003) (0 ≤ v3_1002 ∧ ∃ b1005 : UInt8, c0_1001[v3_1002.toNat]? = some b1005 ∧ (iteB ((b1005.toNat : Int) == (32 : Int)) (K0 false h1003) (((cont c0_1001 (IntKind.i64.wrap (v3_1002 + 1)) h1003))))))) (K2 h1003))
def straitref07_word.l0 (K0 : Bool → Heap → Prop) (K2 : Heap → Prop) : Nat → ByteArray → Int → Heap → Prop
  | 0, _, _, _ => False
  | m + 1, c0_1001, v3_1002, h => straitref07_word.b0 K0 K2 (straitref07_word.l0 K0 K2 m) c0_1001 v3_1002 h
def straitref07_word (a1 : ByteArray) (h : Heap) (K : Bool → Heap → Prop) : Prop :=
  ((∃ m5, straitref07_word.l0 (fun z2 h3 => K z2 h3) (fun h4 => (((K (decide ((a1.size : Int) > (0 : Int))) h4)))) m5 a1 0 h))
def straitref07_word.ret (K : Bool → Heap → Prop) (v : Value) (h : Heap) : Prop := match v with
  | (.bool r6) => K r6 h
  | _ => False
theorem straitref07_word.ret_elim {K : Bool → Heap → Prop} {K' : Value → Heap → Prop} {v : Value} {h : Heap} (hk : ∀ r6 h, K r6 h → K' (.bool r6) h) (hh : straitref07_word.ret K v h) : K' v h := by
  unfold straitref07_word.ret at hh
  split at hh
  · exact hk _ _ hh
  · exact hh.elim
def straitref07_word.r0 (K : Nat → List Value → Heap → Prop) (m : Nat) (vs : List Value) (h : Heap) : Prop := match vs with
  | [(.string c0_1001), (.int .i64 v3_1002)] => straitref07_word.l0 (fun z7 h' => K 0 [(.bool z7)] h') (fun h' => K 2 [(.string c0_1001)] h') m c0_1001 v3_1002 h
  | _ => False
def straitref07_word.loop (i : Nat) (vs : List Value) (h : Heap) (K : Nat → List Value → Heap → Prop) : Prop := match i with
  | 0 => ∃ m, straitref07_word.r0 K m vs h
  | _ => False
noncomputable def straitref07_word.ctx : Ctx := { P := Tryz.prog, call := fun _ _ _ _ => False, qcall := fun _ _ _ _ => False, quiet := fun f => Nat.beq f 2000025, loop := straitref07_word.loop }
theorem straitref07_word.ok [DKc] : straitref07_word.ctx.OK where
  mixed := by kernel_rfl
  mono := fun hh _ => hh.elim
  call := fun hh => hh.elim
  qmono := fun hh _ => hh.elim
  qval := fun hh => hh.elim
  qcall := fun hh => hh.elim
noncomputable def straitref07_word.code : Code := (Tryz.f37.body).getD .skip
def straitref07_word.ann : Ann := (.two .auto (.two (.two .auto (.two (.loop 0 [0, 3] [(2, [0]), (0, [2])] .auto) .auto)) .auto))
noncomputable def straitref07_word.c0 : Code := sub straitref07_word.code [1, 0, 1, 0, 0]
def straitref07_word.a0 : Ann := .auto
def straitref07_word.keep0 : List Nat := [0, 3]
def straitref07_word.outs0 : List (Nat × List Nat) := [(2, [0]), (0, [2])]
set_option maxRecDepth 100000 in
theorem straitref07_word.L0 [DKc] : LoopOK straitref07_word.ctx 23 straitref07_word.c0 0 straitref07_word.keep0 straitref07_word.outs0 := by
  refine loop_ok (n := straitref07_word.a0) straitref07_word.ok (by kernel_rfl) (loops_ok (l := []) (by kernel_rfl) ?_) straitref07_word.r0 ?_ ?_ (fun vs h K hh => hh)
  · exact trivial
  · intro K vs h hh
    unfold straitref07_word.r0 at hh
    split at hh
    · exact hh
    · exact hh
  · intro K m vs h hh
    unfold straitref07_word.r0 at hh
    split at hh
    · exact cast (by kernel_rfl) hh
    · exact hh.elim
set_option maxRecDepth 100000 in
theorem straitref07_word.eq (a1 : ByteArray) (h : Heap) (K : Bool → Heap → Prop) : evF straitref07_word.ctx Tryz.f37 straitref07_word.ann [(.string a1)] h (straitref07_word.ret K) = straitref07_word a1 h K := by kernel_rfl
set_option maxRecDepth 100000 in
theorem straitref07_word.calls [DKc] {a1 : ByteArray} {h : Heap} {K : Bool → Heap → Prop} (hh : straitref07_word a1 h K) (w : World) (hw : w.heap = h) :
    (callFunc 37 #[(.string a1)]).run Tryz.prog w = .ok (.enter 37 #[(.string a1)]) w ∧ Calls Tryz.prog 37 #[(.string a1)] w fun e w' => ∃ v, e = .returned v ∧ Out w w' ∧ straitref07_word.ret K v w'.heap := by
  rw [← straitref07_word.eq] at hh
  exact fn_calls (args := [(.string a1)]) (c := straitref07_word.code) straitref07_word.ok Tryz.func37 (by kernel_rfl) (by kernel_rfl) (by kernel_rfl) (by kernel_rfl) (loops_ok (l := [(straitref07_word.c0, none, 0, straitref07_word.keep0, straitref07_word.outs0)]) (by kernel_rfl) ⟨straitref07_word.L0, trivial⟩) hh w hw

/-! ### strait/straitref07.Words: function 18 -/
def straitref07_Words.b0 (K0 : Heap → Prop) (K2 : (Option Addr) → Nat → Nat → Heap → Prop) (cont : ByteArray → Addr → (Option Addr) → Nat → Nat → Int → Int → Heap → Prop) (c0_1001 : ByteArray) (c2_1002 : Addr) (v3_1003 : Option Addr) (v3_1003l : Nat) (v3_1003c : Nat) (v4_1004 : Int) (v5_1005 : Int) (h1006 : Heap) : Prop :=
  let j1024 : Prop := (let j1020 := (fun (y1009 : Bool) => iteB y1009 ((0 ≤ v5_1005 ∧ v5_1005 ≤ (c0_1001.size : Int)) ∧ (0 ≤ v4_1004 ∧ v4_1004 ≤ (v5_1005.toNat : Int)) ∧ qcallP1 h1006 (straitref07_word (c0_1001.extract v4_1004.toNat v5_1005.toNat) h1006) fun x1010 => (iteB (!x1010) (stC h1006 c2_1002 (.slice none 0 0) fun h1011 => stC h1011 (c2_1002.add 1) (.bool false) fun h1012 => K0 h1012) (((0 ≤ v5_1005 ∧ v5_1005 ≤ (c0_1001.size : Int)) ∧ (0 ≤ v4_1004 ∧ v4_1004 ≤ (v5_1005.toNat : Int)) ∧ newP h1006 (.cells #[(.string (c0_1001.extract v4_1004.toNat v5_1005.toNat))] 9) fun a1013 h1014 => ∃ n1019, cellsAt h1014 (some a1013) (1 * 1) n1019 ∧ appP 9 1 16 [(.string (⟨#[]⟩ : ByteArray))] v3_1003 v3_1003l v3_1003c 1 n1019 h1014 fun q1015 l1016 c1017 h1018 => (((cont c0_1001 c2_1002 q1015 l1016 c1017 (IntKind.i64.wrap (v5_1005 + 1)) (IntKind.i64.wrap (v5_1005 + 1)) h1018))))))) (((cont c0_1001 c2_1002 v3_1003 v3_1003l v3_1003c v4_1004 (IntKind.i64.wrap (v5_1005 + 1)) h1006))));
  iteB (v5_1005 == (c0_1001.size : Int)) ((j1020 true)) (0 ≤ v5_1005 ∧ ∃ b1008 : UInt8, c0_1001[v5_1005.toNat]? = some b1008 ∧ (j1020 ((b1008.toNat : Int) == (32 : Int)))));
  iteB (decide (v5_1005 ≤ (c0_1001.size : Int))) ((iteB (decide ((c0_1001.size : Int) > (0 : Int))) ((j1024)) (K2 v3_1003 v3_1003l v3_1003c h1006))) (K2 v3_1003 v3_1003l v3_1003c h1006)
def straitref07_Words.l0 (K0 : Heap → Prop) (K2 : (Option Addr) → Nat → Nat → Heap → Prop) : Nat → ByteArray → Addr → (Option Addr) → Nat → Nat → Int → Int → Heap → Prop
  | 0, _, _, _, _, _, _, _, _ => False
  | m + 1, c0_1001, c2_1002, v3_1003, v3_1003l, v3_1003c, v4_1004, v5_1005, h => straitref07_Words.b0 K0 K2 (straitref07_Words.l0 K0 K2 m) c0_1001 c2_1002 v3_1003 v3_1003l v3_1003c v4_1004 v5_1005 h
def straitref07_Words (a1 : ByteArray) (h : Heap) (K : (Option Addr) → Nat → Nat → Bool → Heap → Prop) : Prop :=
  newP h (.cells #[(.slice none 0 0), (.bool false)] 54) fun a2 h3 => ((((∃ m9, straitref07_Words.l0 (fun h4 => ∃ (x5 : Option Addr) (x5l : Nat) (x5c : Nat), cell h4 a2 = some (.slice x5 x5l x5c) ∧ ∃ (x6 : Bool), cell h4 (a2.add 1) = some (.bool x6) ∧ K x5 x5l x5c x6 h4) (fun z7 z7l z7c h8 => ((stC h8 a2 (.slice z7 z7l z7c) fun h10 => stC h10 (a2.add 1) (.bool true) fun h11 => (∃ (x12 : Option Addr) (x12l : Nat) (x12c : Nat), cell h11 a2 = some (.slice x12 x12l x12c) ∧ ∃ (x13 : Bool), cell h11 (a2.add 1) = some (.bool x13) ∧ K x12 x12l x12c x13 h11)))) m9 a1 a2 none 0 0 0 0 h3))))
def straitref07_Words.ret (K : (Option Addr) → Nat → Nat → Bool → Heap → Prop) (v : Value) (h : Heap) : Prop := match v with
  | (.agg ⟨[(.slice r14 r14l r14c), (.bool r15)]⟩) => K r14 r14l r14c r15 h
  | _ => False
theorem straitref07_Words.ret_elim {K : (Option Addr) → Nat → Nat → Bool → Heap → Prop} {K' : Value → Heap → Prop} {v : Value} {h : Heap} (hk : ∀ r14 r14l r14c r15 h, K r14 r14l r14c r15 h → K' (.agg #[(.slice r14 r14l r14c), (.bool r15)]) h) (hh : straitref07_Words.ret K v h) : K' v h := by
  unfold straitref07_Words.ret at hh
  split at hh
  · exact hk _ _ _ _ _ hh
  · exact hh.elim
def straitref07_Words.qcall (f : FuncId) (vs : List Value) (h : Heap) (K : Value → Prop) : Prop := match f, vs with
  | 37, [(.string a1)] => qcallP1 h (straitref07_word a1 h) fun r6 => K (.bool r6)
  | _, _ => False
def straitref07_Words.r0 (K : Nat → List Value → Heap → Prop) (m : Nat) (vs : List Value) (h : Heap) : Prop := match vs with
  | [(.string c0_1001), (.pointer (some c2_1002)), (.slice v3_1003 v3_1003l v3_1003c), (.int .i64 v4_1004), (.int .i64 v5_1005)] => straitref07_Words.l0 (fun h' => K 0 [(.pointer (some c2_1002))] h') (fun z16 z16l z16c h' => K 2 [(.pointer (some c2_1002)), (.slice z16 z16l z16c)] h') m c0_1001 c2_1002 v3_1003 v3_1003l v3_1003c v4_1004 v5_1005 h
  | _ => False
def straitref07_Words.loop (i : Nat) (vs : List Value) (h : Heap) (K : Nat → List Value → Heap → Prop) : Prop := match i with
  | 0 => ∃ m, straitref07_Words.r0 K m vs h
  | _ => False
noncomputable def straitref07_Words.ctx : Ctx := { P := Tryz.prog, call := fun _ _ _ _ => False, qcall := straitref07_Words.qcall, quiet := fun f => Nat.beq f 37 || Nat.beq f 2000025, loop := straitref07_Words.loop }
theorem straitref07_Words.ok [DKc] : straitref07_Words.ctx.OK where
  mixed := by kernel_rfl
  mono := fun hh _ => hh.elim
  call := fun hh => hh.elim
  qmono := by
    intro f args h K K' hh hk
    change straitref07_Words.qcall f args h K at hh
    change straitref07_Words.qcall f args h K'
    unfold straitref07_Words.qcall at hh ⊢
    split at hh
    · obtain ⟨x0, h1, h2⟩ := hh
      exact ⟨x0, h1, hk _ h2⟩
    · exact hh.elim
  qval := by
    intro f args h K hh
    change straitref07_Words.qcall f args h K at hh
    suffices H : ∃ v, K v ∧ straitref07_Words.qcall f args h (· = v) from H
    unfold straitref07_Words.qcall at hh ⊢
    split at hh
    · obtain ⟨x0, h1, h2⟩ := hh
      exact ⟨_, h2, x0, h1, rfl⟩
    · exact hh.elim
  qcall := by
    intro f args h v hh w hw
    change straitref07_Words.qcall f args h (· = v) at hh
    unfold straitref07_Words.qcall at hh
    split at hh
    · obtain ⟨x0, h1, h2⟩ := hh
      obtain ⟨g1, g2⟩ := straitref07_word.calls h1 w hw
      refine .inl ⟨g1, g2.mono fun e w' ⟨u, he, ho, hr⟩ => ?_⟩
      have hq := straitref07_word.ret_elim (K' := fun u h' => u = v ∧ h' = h) (fun _ h' hr => by obtain ⟨rfl, rfl⟩ := hr; exact ⟨h2, rfl⟩) hr
      exact ⟨hq.1 ▸ he, ho, hq.2⟩
    · exact hh.elim
noncomputable def straitref07_Words.code : Code := (Tryz.f18.body).getD .skip
def straitref07_Words.ann : Ann := (.two .auto (.two .auto (.two .auto (.two (.two .auto (.two (.loop 0 [0, 2, 3, 4, 5] [(2, [2, 3]), (0, [2])] .auto) .auto)) .auto))))
noncomputable def straitref07_Words.c0 : Code := sub straitref07_Words.code [1, 1, 1, 0, 1, 0, 0]
def straitref07_Words.a0 : Ann := .auto
def straitref07_Words.keep0 : List Nat := [0, 2, 3, 4, 5]
def straitref07_Words.outs0 : List (Nat × List Nat) := [(2, [2, 3]), (0, [2])]
set_option maxRecDepth 100000 in
theorem straitref07_Words.L0 [DKc] : LoopOK straitref07_Words.ctx 45 straitref07_Words.c0 0 straitref07_Words.keep0 straitref07_Words.outs0 := by
  refine loop_ok (n := straitref07_Words.a0) straitref07_Words.ok (by kernel_rfl) (loops_ok (l := []) (by kernel_rfl) ?_) straitref07_Words.r0 ?_ ?_ (fun vs h K hh => hh)
  · exact trivial
  · intro K vs h hh
    unfold straitref07_Words.r0 at hh
    split at hh
    · exact hh
    · exact hh
  · intro K m vs h hh
    unfold straitref07_Words.r0 at hh
    split at hh
    · exact cast (by kernel_rfl) hh
    · exact hh.elim
set_option maxRecDepth 100000 in
theorem straitref07_Words.eq (a1 : ByteArray) (h : Heap) (K : (Option Addr) → Nat → Nat → Bool → Heap → Prop) : evF straitref07_Words.ctx Tryz.f18 straitref07_Words.ann [(.string a1)] h (straitref07_Words.ret K) = straitref07_Words a1 h K := by kernel_rfl
set_option maxRecDepth 100000 in
theorem straitref07_Words.calls [DKc] {a1 : ByteArray} {h : Heap} {K : (Option Addr) → Nat → Nat → Bool → Heap → Prop} (hh : straitref07_Words a1 h K) (w : World) (hw : w.heap = h) :
    (callFunc 18 #[(.string a1)]).run Tryz.prog w = .ok (.enter 18 #[(.string a1)]) w ∧ Calls Tryz.prog 18 #[(.string a1)] w fun e w' => ∃ v, e = .returned v ∧ Out w w' ∧ straitref07_Words.ret K v w'.heap := by
  rw [← straitref07_Words.eq] at hh
  exact fn_calls (args := [(.string a1)]) (c := straitref07_Words.code) straitref07_Words.ok Tryz.func18 (by kernel_rfl) (by kernel_rfl) (by kernel_rfl) (by kernel_rfl) (loops_ok (l := [(straitref07_Words.c0, none, 0, straitref07_Words.keep0, straitref07_Words.outs0)]) (by kernel_rfl) ⟨straitref07_Words.L0, trivial⟩) hh w hw

/-! ### strait/straitref06.form: function 38 -/
def straitref06_form.b0 (K0 : Bool → Heap → Prop) (K2 : Heap → Prop) (cont : ByteArray → Int → Heap → Prop) (c0_1001 : ByteArray) (v3_1002 : Int) (h1003 : Heap) : Prop :=
  (iteB (decide (v3_1002 < (c0_1001.size : Int))) ((0 ≤ v3_1002 ∧ ∃ b1004 : UInt8, c0_1001[v3_1002.toNat]? = some b1004 ∧ iteB (decide ((b1004.toNat : Int) < (48 : Int))) (K0 false h1003) (0 ≤ v3_1002 ∧ ∃ b1005 : UInt8, c0_1001[v3_1002.toNat]? = some b1005 ∧ (iteB (decide ((b1005.toNat : Int) > (57 : Int))) (K0 false h1003) (((cont c0_1001 (IntKind.i64.wrap (v3_1002 + 1)) h1003))))))) (K2 h1003))
def straitref06_form.l0 (K0 : Bool → Heap → Prop) (K2 : Heap → Prop) : Nat → ByteArray → Int → Heap → Prop
  | 0, _, _, _ => False
  | m + 1, c0_1001, v3_1002, h => straitref06_form.b0 K0 K2 (straitref06_form.l0 K0 K2 m) c0_1001 v3_1002 h
def straitref06_form (a1 : ByteArray) (h : Heap) (K : Bool → Heap → Prop) : Prop :=
  (let j11 := (fun (y4 : ByteArray) => (∃ m8, straitref06_form.l0 (fun z5 h6 => K z5 h6) (fun h7 => ((iteB (decide ((y4.size : Int) > (0 : Int))) (iteB (y4.toList == (⟨#[48]⟩ : ByteArray).toList) (K true h7) (0 ≤ (0 : Int) ∧ ∃ b9 : UInt8, y4[(0 : Int).toNat]? = some b9 ∧ (K ((b9.toNat : Int) != (48 : Int)) h7))) (K false h7)))) m8 y4 0 h));
  iteB (decide ((a1.size : Int) > (0 : Int))) (0 ≤ (0 : Int) ∧ ∃ b2 : UInt8, a1[(0 : Int).toNat]? = some b2 ∧ (iteB ((b2.toNat : Int) == (45 : Int)) ((0 ≤ (1 : Int) ∧ (1 : Int) ≤ (a1.size : Int)) ∧ ((iteB ((a1.extract (1 : Int).toNat a1.size).toList == (⟨#[48]⟩ : ByteArray).toList) (K false h) ((j11 (a1.extract (1 : Int).toNat a1.size)))))) ((j11 a1)))) (((j11 a1))))
def straitref06_form.ret (K : Bool → Heap → Prop) (v : Value) (h : Heap) : Prop := match v with
  | (.bool r12) => K r12 h
  | _ => False
theorem straitref06_form.ret_elim {K : Bool → Heap → Prop} {K' : Value → Heap → Prop} {v : Value} {h : Heap} (hk : ∀ r12 h, K r12 h → K' (.bool r12) h) (hh : straitref06_form.ret K v h) : K' v h := by
  unfold straitref06_form.ret at hh
  split at hh
  · exact hk _ _ hh
  · exact hh.elim
def straitref06_form.r0 (K : Nat → List Value → Heap → Prop) (m : Nat) (vs : List Value) (h : Heap) : Prop := match vs with
  | [(.string c0_1001), (.int .i64 v3_1002)] => straitref06_form.l0 (fun z13 h' => K 0 [(.bool z13)] h') (fun h' => K 2 [(.string c0_1001)] h') m c0_1001 v3_1002 h
  | _ => False
def straitref06_form.loop (i : Nat) (vs : List Value) (h : Heap) (K : Nat → List Value → Heap → Prop) : Prop := match i with
  | 0 => ∃ m, straitref06_form.r0 K m vs h
  | _ => False
noncomputable def straitref06_form.ctx : Ctx := { P := Tryz.prog, call := fun _ _ _ _ => False, qcall := fun _ _ _ _ => False, quiet := fun f => Nat.beq f 2000025, loop := straitref06_form.loop }
theorem straitref06_form.ok [DKc] : straitref06_form.ctx.OK where
  mixed := by kernel_rfl
  mono := fun hh _ => hh.elim
  call := fun hh => hh.elim
  qmono := fun hh _ => hh.elim
  qval := fun hh => hh.elim
  qcall := fun hh => hh.elim
noncomputable def straitref06_form.code : Code := (Tryz.f38.body).getD .skip
def straitref06_form.ann : Ann := (.two .auto (.two .auto (.two (.two .auto (.two (.loop 0 [0, 3] [(2, [0]), (0, [2])] .auto) .auto)) .auto)))
noncomputable def straitref06_form.c0 : Code := sub straitref06_form.code [1, 1, 0, 1, 0, 0]
def straitref06_form.a0 : Ann := .auto
def straitref06_form.keep0 : List Nat := [0, 3]
def straitref06_form.outs0 : List (Nat × List Nat) := [(2, [0]), (0, [2])]
set_option maxRecDepth 100000 in
theorem straitref06_form.L0 [DKc] : LoopOK straitref06_form.ctx 44 straitref06_form.c0 0 straitref06_form.keep0 straitref06_form.outs0 := by
  refine loop_ok (n := straitref06_form.a0) straitref06_form.ok (by kernel_rfl) (loops_ok (l := []) (by kernel_rfl) ?_) straitref06_form.r0 ?_ ?_ (fun vs h K hh => hh)
  · exact trivial
  · intro K vs h hh
    unfold straitref06_form.r0 at hh
    split at hh
    · exact hh
    · exact hh
  · intro K m vs h hh
    unfold straitref06_form.r0 at hh
    split at hh
    · exact cast (by kernel_rfl) hh
    · exact hh.elim
set_option maxRecDepth 100000 in
theorem straitref06_form.eq (a1 : ByteArray) (h : Heap) (K : Bool → Heap → Prop) : evF straitref06_form.ctx Tryz.f38 straitref06_form.ann [(.string a1)] h (straitref06_form.ret K) = straitref06_form a1 h K := by kernel_rfl
set_option maxRecDepth 100000 in
theorem straitref06_form.calls [DKc] {a1 : ByteArray} {h : Heap} {K : Bool → Heap → Prop} (hh : straitref06_form a1 h K) (w : World) (hw : w.heap = h) :
    (callFunc 38 #[(.string a1)]).run Tryz.prog w = .ok (.enter 38 #[(.string a1)]) w ∧ Calls Tryz.prog 38 #[(.string a1)] w fun e w' => ∃ v, e = .returned v ∧ Out w w' ∧ straitref06_form.ret K v w'.heap := by
  rw [← straitref06_form.eq] at hh
  exact fn_calls (args := [(.string a1)]) (c := straitref06_form.code) straitref06_form.ok Tryz.func38 (by kernel_rfl) (by kernel_rfl) (by kernel_rfl) (by kernel_rfl) (loops_ok (l := [(straitref06_form.c0, none, 0, straitref06_form.keep0, straitref06_form.outs0)]) (by kernel_rfl) ⟨straitref06_form.L0, trivial⟩) hh w hw

/-! ### strait/straitref06.digits: function 52, by its contract -/
def straitref06_digits_rec.ret (K : ByteArray → Heap → Prop) (v : Value) (h : Heap) : Prop := match v with
  | (.string r2) => K r2 h
  | _ => False
theorem straitref06_digits_rec.ret_elim {K : ByteArray → Heap → Prop} {K' : Value → Heap → Prop} {v : Value} {h : Heap} (hk : ∀ r2 h, K r2 h → K' (.string r2) h) (hh : straitref06_digits_rec.ret K v h) : K' v h := by
  unfold straitref06_digits_rec.ret at hh
  split at hh
  · exact hk _ _ hh
  · exact hh.elim
def straitref06_digits_rec [DKc] (a1 : Int) (h : Heap) (K : ByteArray → Heap → Prop) : Prop := ∀ w : World, w.heap = h → (callFunc 52 #[(.int .u64 a1)]).run Tryz.prog w = .ok (.enter 52 #[(.int .u64 a1)]) w ∧ Calls Tryz.prog 52 #[(.int .u64 a1)] w fun e w' => ∃ v, e = .returned v ∧ Out w w' ∧ straitref06_digits_rec.ret K v w'.heap
theorem straitref06_digits_rec.calls [DKc] {a1 : Int} {h : Heap} {K : ByteArray → Heap → Prop} (hh : straitref06_digits_rec a1 h K) (w : World) (hw : w.heap = h) : (callFunc 52 #[(.int .u64 a1)]).run Tryz.prog w = .ok (.enter 52 #[(.int .u64 a1)]) w ∧ Calls Tryz.prog 52 #[(.int .u64 a1)] w fun e w' => ∃ v, e = .returned v ∧ Out w w' ∧ straitref06_digits_rec.ret K v w'.heap := hh w hw

/-! ### strait/straitref06.digits: function 52 -/
section
variable [DKc]
def straitref06_digits (a1 : Int) (h : Heap) (K : ByteArray → Heap → Prop) : Prop :=
  ((iteB (decide (a1 < (10 : Int))) (bindV (IntKind.u8.wrap (IntKind.u64.wrap (48 + a1))) fun n2 => newP h (.cells #[(.int .u8 n2)] 5) fun a3 h4 => ∃ l5 : List UInt8, bytesAt h4 (some a3) 1 l5 ∧ (K (⟨l5.toArray⟩ : ByteArray) h4)) (((10 : Int) ≠ 0 ∧ (10 : Int) ≠ 0 ∧ bindV (IntKind.u8.wrap (IntKind.u64.wrap (48 + (a1.tmod 10)))) fun n6 => (callP1 (straitref06_digits_rec (IntKind.u64.wrap (a1.tdiv 10)) h) fun x7 h8 => newP h8 (.cells #[(.int .u8 n6)] 5) fun a9 h10 => ∃ l11 : List UInt8, bytesAt h10 (some a9) 1 l11 ∧ (((x7.size + (⟨l11.toArray⟩ : ByteArray).size : Nat) : Int) ≤ 9223372036854775807) ∧ (K (x7 ++ (⟨l11.toArray⟩ : ByteArray)) h10)) ∧ (newP h (.cells #[(.int .u8 n6)] 5) fun a12 h13 => ∃ l14 : List UInt8, bytesAt h13 (some a12) 1 l14 ∧ callP1 (straitref06_digits_rec (IntKind.u64.wrap (a1.tdiv 10)) h13) fun x15 h16 => (∃ l17 : List UInt8, bytesAt h16 (some a12) 1 l17 ∧ ((.string (⟨l17.toArray⟩ : ByteArray)) : Value) = (.string (⟨l14.toArray⟩ : ByteArray))) ∧ (((x15.size + (⟨l14.toArray⟩ : ByteArray).size : Nat) : Int) ≤ 9223372036854775807) ∧ (K (x15 ++ (⟨l14.toArray⟩ : ByteArray)) h16))))))
def straitref06_digits.ret (K : ByteArray → Heap → Prop) (v : Value) (h : Heap) : Prop := match v with
  | (.string r20) => K r20 h
  | _ => False
theorem straitref06_digits.ret_elim {K : ByteArray → Heap → Prop} {K' : Value → Heap → Prop} {v : Value} {h : Heap} (hk : ∀ r20 h, K r20 h → K' (.string r20) h) (hh : straitref06_digits.ret K v h) : K' v h := by
  unfold straitref06_digits.ret at hh
  split at hh
  · exact hk _ _ hh
  · exact hh.elim
def straitref06_digits.call (f : FuncId) (vs : List Value) (h : Heap) (K : Value → Heap → Prop) : Prop := match f, vs with
  | 52, [(.int .u64 a1)] => callP1 (straitref06_digits_rec a1 h) fun r2 h' => K (.string r2) h'
  | _, _ => False
noncomputable def straitref06_digits.ctx : Ctx := { P := Tryz.prog, call := straitref06_digits.call, qcall := fun _ _ _ _ => False, quiet := fun f => Nat.beq f 2000025, loop := fun _ _ _ _ => False }
theorem straitref06_digits.ok : straitref06_digits.ctx.OK where
  mixed := by kernel_rfl
  mono := by
    intro f args h K K' hh hk
    change straitref06_digits.call f args h K at hh
    change straitref06_digits.call f args h K'
    unfold straitref06_digits.call at hh ⊢
    split at hh
    · obtain ⟨R, h1, h2⟩ := hh
      exact ⟨R, h1, fun _ x hr => hk _ _ (h2 _ x hr)⟩
    · exact hh.elim
  call := by
    intro f args h K hh w hw
    change straitref06_digits.call f args h K at hh
    unfold straitref06_digits.call at hh
    split at hh
    · obtain ⟨R, h1, h2⟩ := hh
      obtain ⟨g1, g2⟩ := straitref06_digits_rec.calls h1 w hw
      exact ⟨g1, g2.mono fun e w' ⟨v, he, ho, hr⟩ => ⟨v, he, ho, straitref06_digits_rec.ret_elim h2 hr⟩⟩
    · exact hh.elim
  qmono := fun hh _ => hh.elim
  qval := fun hh => hh.elim
  qcall := fun hh => hh.elim
noncomputable def straitref06_digits.code : Code := (Tryz.f52.body).getD .skip
def straitref06_digits.ann : Ann := (.two .auto (.two .auto (.two (.reg [0, 1, 3, 0, 8, 24, 56, 120, 248, 511, 1023] (.take 0 (.take 1 (.take 3 (.take 4 (.take 5 (.take 6 (.alt 2 (.alt 7 (.take 8 (.take 9 (.take 10 .done))) .noalt) (.alt 7 (.early 8 (.alt 2 (.take 9 (.take 10 .done)) .noalt)) .noalt))))))))) .auto)))
set_option maxRecDepth 100000 in
theorem straitref06_digits.eq (a1 : Int) (h : Heap) (K : ByteArray → Heap → Prop) : evF straitref06_digits.ctx Tryz.f52 straitref06_digits.ann [(.int .u64 a1)] h (straitref06_digits.ret K) = straitref06_digits a1 h K := by kernel_rfl
set_option maxRecDepth 100000 in
theorem straitref06_digits.calls {a1 : Int} {h : Heap} {K : ByteArray → Heap → Prop} (hh : straitref06_digits a1 h K) (w : World) (hw : w.heap = h) :
    (callFunc 52 #[(.int .u64 a1)]).run Tryz.prog w = .ok (.enter 52 #[(.int .u64 a1)]) w ∧ Calls Tryz.prog 52 #[(.int .u64 a1)] w fun e w' => ∃ v, e = .returned v ∧ Out w w' ∧ straitref06_digits.ret K v w'.heap := by
  rw [← straitref06_digits.eq] at hh
  exact fn_calls (args := [(.int .u64 a1)]) (c := straitref06_digits.code) straitref06_digits.ok Tryz.func52 (by kernel_rfl) (by kernel_rfl) (by kernel_rfl) (by kernel_rfl) (loops_ok (l := []) (by kernel_rfl) trivial) hh w hw
end

/-! ### strait/straitref06.Print: function 39 -/
section
variable [DKc]
def straitref06_Print (a1 : Int) (h : Heap) (K : ByteArray → Heap → Prop) : Prop :=
  ((iteB (decide (a1 < (0 : Int))) (bindV (IntKind.i64.wrap (0 - (IntKind.i64.wrap (a1 + 1)))) fun n2 => bindV (IntKind.u64.wrap ((IntKind.u64.wrap n2) + 1)) fun n3 => callP1 (straitref06_digits n3 h) fun x4 h5 => ((((⟨#[45]⟩ : ByteArray).size + x4.size : Nat) : Int) ≤ 9223372036854775807) ∧ (K ((⟨#[45]⟩ : ByteArray) ++ x4) h5)) ((callP1 (straitref06_digits (IntKind.u64.wrap a1) h) fun x6 h7 => K x6 h7))))
def straitref06_Print.ret (K : ByteArray → Heap → Prop) (v : Value) (h : Heap) : Prop := match v with
  | (.string r8) => K r8 h
  | _ => False
theorem straitref06_Print.ret_elim {K : ByteArray → Heap → Prop} {K' : Value → Heap → Prop} {v : Value} {h : Heap} (hk : ∀ r8 h, K r8 h → K' (.string r8) h) (hh : straitref06_Print.ret K v h) : K' v h := by
  unfold straitref06_Print.ret at hh
  split at hh
  · exact hk _ _ hh
  · exact hh.elim
def straitref06_Print.call (f : FuncId) (vs : List Value) (h : Heap) (K : Value → Heap → Prop) : Prop := match f, vs with
  | 52, [(.int .u64 a1)] => callP1 (straitref06_digits a1 h) fun r20 h' => K (.string r20) h'
  | _, _ => False
noncomputable def straitref06_Print.ctx : Ctx := { P := Tryz.prog, call := straitref06_Print.call, qcall := fun _ _ _ _ => False, quiet := fun f => Nat.beq f 2000025, loop := fun _ _ _ _ => False }
theorem straitref06_Print.ok : straitref06_Print.ctx.OK where
  mixed := by kernel_rfl
  mono := by
    intro f args h K K' hh hk
    change straitref06_Print.call f args h K at hh
    change straitref06_Print.call f args h K'
    unfold straitref06_Print.call at hh ⊢
    split at hh
    · obtain ⟨R, h1, h2⟩ := hh
      exact ⟨R, h1, fun _ x hr => hk _ _ (h2 _ x hr)⟩
    · exact hh.elim
  call := by
    intro f args h K hh w hw
    change straitref06_Print.call f args h K at hh
    unfold straitref06_Print.call at hh
    split at hh
    · obtain ⟨R, h1, h2⟩ := hh
      obtain ⟨g1, g2⟩ := straitref06_digits.calls h1 w hw
      exact ⟨g1, g2.mono fun e w' ⟨v, he, ho, hr⟩ => ⟨v, he, ho, straitref06_digits.ret_elim h2 hr⟩⟩
    · exact hh.elim
  qmono := fun hh _ => hh.elim
  qval := fun hh => hh.elim
  qcall := fun hh => hh.elim
noncomputable def straitref06_Print.code : Code := (Tryz.f39.body).getD .skip
def straitref06_Print.ann : Ann := .auto
set_option maxRecDepth 100000 in
theorem straitref06_Print.eq (a1 : Int) (h : Heap) (K : ByteArray → Heap → Prop) : evF straitref06_Print.ctx Tryz.f39 straitref06_Print.ann [(.int .i64 a1)] h (straitref06_Print.ret K) = straitref06_Print a1 h K := by kernel_rfl
set_option maxRecDepth 100000 in
theorem straitref06_Print.calls {a1 : Int} {h : Heap} {K : ByteArray → Heap → Prop} (hh : straitref06_Print a1 h K) (w : World) (hw : w.heap = h) :
    (callFunc 39 #[(.int .i64 a1)]).run Tryz.prog w = .ok (.enter 39 #[(.int .i64 a1)]) w ∧ Calls Tryz.prog 39 #[(.int .i64 a1)] w fun e w' => ∃ v, e = .returned v ∧ Out w w' ∧ straitref06_Print.ret K v w'.heap := by
  rw [← straitref06_Print.eq] at hh
  exact fn_calls (args := [(.int .i64 a1)]) (c := straitref06_Print.code) straitref06_Print.ok Tryz.func39 (by kernel_rfl) (by kernel_rfl) (by kernel_rfl) (by kernel_rfl) (loops_ok (l := []) (by kernel_rfl) trivial) hh w hw
end

end Go.Proofs.YtmejnpadgbdhaaaGreatDoor
