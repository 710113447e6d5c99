/- WRITTEN BY A PROGRAM OF THIS SESSION (gen.py): what each function asks of memory, and that the model's run comes to it. -/
import Derived.Test.YtfidcekobjmamaaProg
import Derived.Test.YtfidcekobjmamaaFw8
import Derived.Test.YtfidcekobjmamaaG2
namespace Go.Proofs.Ytfidcekobjmamaa
open Go.Hp
set_option linter.unusedVariables false
set_option linter.unusedSimpArgs false
set_option linter.unusedSectionVars false

/-! ### strait/matrix.Ultra: function 35 -/
def matrix_Ultra.b2 (K0 : Bool → Heap → Prop) (K6 : Heap → Prop) (cont : (Option Addr) → Nat → Nat → Int → (Option Addr) → Nat → Nat → Int → Int → (Option Addr) → Nat → Nat → Int → Int → (Option Addr) → Nat → Nat → Int → Int → Int → Int → Heap → Prop) (c0_3001 : Option Addr) (c0_3002 : Nat) (c0_3003 : Nat) (c3_3004 : Int) (c4_3005 : Option Addr) (c4_3006 : Nat) (c4_3007 : Nat) (c5_3008 : Int) (c6_3009 : Int) (c16_3010 : Option Addr) (c16_3011 : Nat) (c16_3012 : Nat) (c17_3013 : Int) (c18_3014 : Int) (c23_3015 : Option Addr) (c23_3016 : Nat) (c23_3017 : Nat) (c24_3018 : Int) (c25_3019 : Int) (c31_3020 : Int) (v32_3021 : Int) (h3022 : Heap) : Prop :=
  (iteB (decide (v32_3021 < c31_3020)) ((let j3030 : Prop := (cont c0_3001 c0_3002 c0_3003 c3_3004 c4_3005 c4_3006 c4_3007 c5_3008 c6_3009 c16_3010 c16_3011 c16_3012 c17_3013 c18_3014 c23_3015 c23_3016 c23_3017 c24_3018 c25_3019 c31_3020 (IntKind.i64.wrap (v32_3021 + 1)) h3022);
  (iteB (c3_3004 != c5_3008) (iteB (c3_3004 != v32_3021) (iteB (c5_3008 != v32_3021) (chkP c4_3005 fun a3023 => (0 ≤ v32_3021 ∧ v32_3021 < (c4_3006 : Int)) ∧ ∃ (x3024 : Int), cell h3022 (a3023.add (v32_3021.toNat * 1)) = some (.int .i64 x3024) ∧ iteB (decide (c6_3009 < x3024)) (chkP c0_3001 fun a3025 => (0 ≤ v32_3021 ∧ v32_3021 < (c0_3002 : Int)) ∧ ∃ (x3026 : Option Addr) (x3026l : Nat) (x3026c : Nat), cell h3022 (a3025.add (v32_3021.toNat * 1)) = some (.slice x3026 x3026l x3026c) ∧ chkP x3026 fun a3027 => (0 ≤ c5_3008 ∧ c5_3008 < (x3026l : Int)) ∧ ∃ (x3028 : Int), cell h3022 (a3027.add (c5_3008.toNat * 1)) = some (.int .i64 x3028) ∧ (iteB (decide (c6_3009 < x3028)) (K0 false h3022) (((j3030))))) ((((j3030))))) ((((j3030))))) ((((j3030))))) ((((j3030))))))) (K6 h3022))
def matrix_Ultra.l2 (K0 : Bool → Heap → Prop) (K6 : Heap → Prop) : Nat → (Option Addr) → Nat → Nat → Int → (Option Addr) → Nat → Nat → Int → Int → (Option Addr) → Nat → Nat → Int → Int → (Option Addr) → Nat → Nat → Int → Int → Int → Int → Heap → Prop
  | 0, _, _, _, _, _, _, _, _, _, _, _, _, _, _, _, _, _, _, _, _, _, _ => False
  | m + 1, c0_3001, c0_3002, c0_3003, c3_3004, c4_3005, c4_3006, c4_3007, c5_3008, c6_3009, c16_3010, c16_3011, c16_3012, c17_3013, c18_3014, c23_3015, c23_3016, c23_3017, c24_3018, c25_3019, c31_3020, v32_3021, h => matrix_Ultra.b2 K0 K6 (matrix_Ultra.l2 K0 K6 m) c0_3001 c0_3002 c0_3003 c3_3004 c4_3005 c4_3006 c4_3007 c5_3008 c6_3009 c16_3010 c16_3011 c16_3012 c17_3013 c18_3014 c23_3015 c23_3016 c23_3017 c24_3018 c25_3019 c31_3020 v32_3021 h
def matrix_Ultra.b1 (K0 : Bool → Heap → Prop) (K4 : Heap → Prop) (cont : (Option Addr) → Nat → Nat → Int → (Option Addr) → Nat → Nat → (Option Addr) → Nat → Nat → Int → Int → (Option Addr) → Nat → Nat → Int → Int → Heap → Prop) (c0_2001 : Option Addr) (c0_2002 : Nat) (c0_2003 : Nat) (c3_2004 : Int) (c4_2005 : Option Addr) (c4_2006 : Nat) (c4_2007 : Nat) (c16_2008 : Option Addr) (c16_2009 : Nat) (c16_2010 : Nat) (c17_2011 : Int) (c18_2012 : Int) (c23_2013 : Option Addr) (c23_2014 : Nat) (c23_2015 : Nat) (c24_2016 : Int) (v25_2017 : Int) (h2018 : Heap) : Prop :=
  (iteB (decide (v25_2017 < c24_2016)) ((chkP c23_2013 fun a2019 => (0 ≤ v25_2017 ∧ v25_2017 < (c23_2014 : Int)) ∧ ∃ (x2020 : Int), cell h2018 (a2019.add (v25_2017.toNat * 1)) = some (.int .i64 x2020) ∧ ((∃ m2024, matrix_Ultra.l2 (fun z2021 h2022 => K0 z2021 h2022) (fun h2023 => (((cont c0_2001 c0_2002 c0_2003 c3_2004 c4_2005 c4_2006 c4_2007 c16_2008 c16_2009 c16_2010 c17_2011 c18_2012 c23_2013 c23_2014 c23_2015 c24_2016 (IntKind.i64.wrap (v25_2017 + 1)) h2023)))) m2024 c0_2001 c0_2002 c0_2003 c3_2004 c4_2005 c4_2006 c4_2007 v25_2017 x2020 c16_2008 c16_2009 c16_2010 c17_2011 c18_2012 c23_2013 c23_2014 c23_2015 c24_2016 v25_2017 (c0_2002 : Int) 0 h2018)))) (K4 h2018))
def matrix_Ultra.l1 (K0 : Bool → Heap → Prop) (K4 : Heap → Prop) : Nat → (Option Addr) → Nat → Nat → Int → (Option Addr) → Nat → Nat → (Option Addr) → Nat → Nat → Int → Int → (Option Addr) → Nat → Nat → Int → Int → Heap → Prop
  | 0, _, _, _, _, _, _, _, _, _, _, _, _, _, _, _, _, _, _ => False
  | m + 1, c0_2001, c0_2002, c0_2003, c3_2004, c4_2005, c4_2006, c4_2007, c16_2008, c16_2009, c16_2010, c17_2011, c18_2012, c23_2013, c23_2014, c23_2015, c24_2016, v25_2017, h => matrix_Ultra.b1 K0 K4 (matrix_Ultra.l1 K0 K4 m) c0_2001 c0_2002 c0_2003 c3_2004 c4_2005 c4_2006 c4_2007 c16_2008 c16_2009 c16_2010 c17_2011 c18_2012 c23_2013 c23_2014 c23_2015 c24_2016 v25_2017 h
def matrix_Ultra.b0 (K0 : Bool → Heap → Prop) (K2 : Heap → Prop) (cont : (Option Addr) → Nat → Nat → (Option Addr) → Nat → Nat → Int → Int → Heap → Prop) (c0_1001 : Option Addr) (c0_1002 : Nat) (c0_1003 : Nat) (c16_1004 : Option Addr) (c16_1005 : Nat) (c16_1006 : Nat) (c17_1007 : Int) (v18_1008 : Int) (h1009 : Heap) : Prop :=
  (iteB (decide (v18_1008 < c17_1007)) ((chkP c16_1004 fun a1010 => (0 ≤ v18_1008 ∧ v18_1008 < (c16_1005 : Int)) ∧ ∃ (x1011 : Option Addr) (x1011l : Nat) (x1011c : Nat), cell h1009 (a1010.add (v18_1008.toNat * 1)) = some (.slice x1011 x1011l x1011c) ∧ ((∃ m1015, matrix_Ultra.l1 (fun z1012 h1013 => K0 z1012 h1013) (fun h1014 => (((cont c0_1001 c0_1002 c0_1003 c16_1004 c16_1005 c16_1006 c17_1007 (IntKind.i64.wrap (v18_1008 + 1)) h1014)))) m1015 c0_1001 c0_1002 c0_1003 v18_1008 x1011 x1011l x1011c c16_1004 c16_1005 c16_1006 c17_1007 v18_1008 x1011 x1011l x1011c (x1011l : Int) 0 h1009)))) (K2 h1009))
def matrix_Ultra.l0 (K0 : Bool → Heap → Prop) (K2 : Heap → Prop) : Nat → (Option Addr) → Nat → Nat → (Option Addr) → Nat → Nat → Int → Int → Heap → Prop
  | 0, _, _, _, _, _, _, _, _, _ => False
  | m + 1, c0_1001, c0_1002, c0_1003, c16_1004, c16_1005, c16_1006, c17_1007, v18_1008, h => matrix_Ultra.b0 K0 K2 (matrix_Ultra.l0 K0 K2 m) c0_1001 c0_1002 c0_1003 c16_1004 c16_1005 c16_1006 c17_1007 v18_1008 h
def matrix_Ultra (a1 : Option Addr) (a1l : Nat) (a1c : Nat) (h : Heap) (K : Bool → Heap → Prop) : Prop :=
  (iteB (decide ((a1l : Int) > (256 : Int))) (K false h) (qcallP1 h (matrix_plain a1 a1l a1c h) fun x2 => (iteB (!x2) (K false h) (((∃ m15, matrix_Ultra.l0 (fun z12 h13 => K z12 h13) (fun h14 => (K true h14)) m15 a1 a1l a1c a1 a1l a1c (a1l : Int) 0 h))))))
def matrix_Ultra.ret (K : Bool → Heap → Prop) (v : Value) (h : Heap) : Prop := match v with
  | (.bool r16) => K r16 h
  | _ => False
theorem matrix_Ultra.ret_elim {K : Bool → Heap → Prop} {K' : Value → Heap → Prop} {v : Value} {h : Heap} (hk : ∀ r16 h, K r16 h → K' (.bool r16) h) (hh : matrix_Ultra.ret K v h) : K' v h := by
  unfold matrix_Ultra.ret at hh
  split at hh
  · exact hk _ _ hh
  · exact hh.elim
def matrix_Ultra.qcall (f : FuncId) (vs : List Value) (h : Heap) (K : Value → Prop) : Prop := match f, vs with
  | 59, [(.slice a1 a1l a1c)] => qcallP1 h (matrix_plain a1 a1l a1c h) fun r6 => K (.bool r6)
  | _, _ => False
def matrix_Ultra.r0 (K : Nat → List Value → Heap → Prop) (m : Nat) (vs : List Value) (h : Heap) : Prop := match vs with
  | [(.slice c0_1001 c0_1002 c0_1003), (.slice c16_1004 c16_1005 c16_1006), (.int .i64 c17_1007), (.int .i64 v18_1008)] => matrix_Ultra.l0 (fun z17 h' => K 0 [(.bool z17)] h') (fun h' => K 2 [] h') m c0_1001 c0_1002 c0_1003 c16_1004 c16_1005 c16_1006 c17_1007 v18_1008 h
  | _ => False
def matrix_Ultra.r1 (K : Nat → List Value → Heap → Prop) (m : Nat) (vs : List Value) (h : Heap) : Prop := match vs with
  | [(.slice c0_2001 c0_2002 c0_2003), (.int .i64 c3_2004), (.slice c4_2005 c4_2006 c4_2007), (.slice c16_2008 c16_2009 c16_2010), (.int .i64 c17_2011), (.int .i64 c18_2012), (.slice c23_2013 c23_2014 c23_2015), (.int .i64 c24_2016), (.int .i64 v25_2017)] => matrix_Ultra.l1 (fun z18 h' => K 0 [(.bool z18)] h') (fun h' => K 4 [(.slice c0_2001 c0_2002 c0_2003), (.slice c16_2008 c16_2009 c16_2010), (.int .i64 c17_2011), (.int .i64 c18_2012)] h') m c0_2001 c0_2002 c0_2003 c3_2004 c4_2005 c4_2006 c4_2007 c16_2008 c16_2009 c16_2010 c17_2011 c18_2012 c23_2013 c23_2014 c23_2015 c24_2016 v25_2017 h
  | _ => False
def matrix_Ultra.r2 (K : Nat → List Value → Heap → Prop) (m : Nat) (vs : List Value) (h : Heap) : Prop := match vs with
  | [(.slice c0_3001 c0_3002 c0_3003), (.int .i64 c3_3004), (.slice c4_3005 c4_3006 c4_3007), (.int .i64 c5_3008), (.int .i64 c6_3009), (.slice c16_3010 c16_3011 c16_3012), (.int .i64 c17_3013), (.int .i64 c18_3014), (.slice c23_3015 c23_3016 c23_3017), (.int .i64 c24_3018), (.int .i64 c25_3019), (.int .i64 c31_3020), (.int .i64 v32_3021)] => matrix_Ultra.l2 (fun z19 h' => K 0 [(.bool z19)] h') (fun h' => K 6 [(.slice c0_3001 c0_3002 c0_3003), (.int .i64 c3_3004), (.slice c4_3005 c4_3006 c4_3007), (.slice c16_3010 c16_3011 c16_3012), (.int .i64 c17_3013), (.int .i64 c18_3014), (.slice c23_3015 c23_3016 c23_3017), (.int .i64 c24_3018), (.int .i64 c25_3019)] h') m c0_3001 c0_3002 c0_3003 c3_3004 c4_3005 c4_3006 c4_3007 c5_3008 c6_3009 c16_3010 c16_3011 c16_3012 c17_3013 c18_3014 c23_3015 c23_3016 c23_3017 c24_3018 c25_3019 c31_3020 v32_3021 h
  | _ => False
def matrix_Ultra.loop (i : Nat) (vs : List Value) (h : Heap) (K : Nat → List Value → Heap → Prop) : Prop := match i with
  | 0 => ∃ m, matrix_Ultra.r0 K m vs h
  | 1 => ∃ m, matrix_Ultra.r1 K m vs h
  | 2 => ∃ m, matrix_Ultra.r2 K m vs h
  | _ => False
noncomputable def matrix_Ultra.ctx : Ctx := { P := Try.prog, call := fun _ _ _ _ => False, qcall := matrix_Ultra.qcall, quiet := fun f => Nat.beq f 59 || Nat.beq f 1000069 || Nat.beq f 1000099, loop := matrix_Ultra.loop }
theorem matrix_Ultra.ok [DKc] : matrix_Ultra.ctx.OK where
  mixed := by kernel_rfl
  mono := fun hh _ => hh.elim
  call := fun hh => hh.elim
  qmono := by
    intro f args h K K' hh hk
    change matrix_Ultra.qcall f args h K at hh
    change matrix_Ultra.qcall f args h K'
    unfold matrix_Ultra.qcall at hh ⊢
    split at hh
    · obtain ⟨x0, h1, h2⟩ := hh
      exact ⟨x0, h1, hk _ h2⟩
    · exact hh.elim
  qval := by
    intro f args h K hh
    change matrix_Ultra.qcall f args h K at hh
    suffices H : ∃ v, K v ∧ matrix_Ultra.qcall f args h (· = v) from H
    unfold matrix_Ultra.qcall at hh ⊢
    split at hh
    · obtain ⟨x0, h1, h2⟩ := hh
      exact ⟨_, h2, x0, h1, rfl⟩
    · exact hh.elim
  qcall := by
    intro f args h v hh w hw
    change matrix_Ultra.qcall f args h (· = v) at hh
    unfold matrix_Ultra.qcall at hh
    split at hh
    · obtain ⟨x0, h1, h2⟩ := hh
      obtain ⟨g1, g2⟩ := matrix_plain.calls h1 w hw
      refine .inl ⟨g1, g2.mono fun e w' ⟨u, he, ho, hr⟩ => ?_⟩
      have hq := matrix_plain.ret_elim (K' := fun u h' => u = v ∧ h' = h) (fun _ h' hr => by obtain ⟨rfl, rfl⟩ := hr; exact ⟨h2, rfl⟩) hr
      exact ⟨hq.1 ▸ he, ho, hq.2⟩
    · exact hh.elim
noncomputable def matrix_Ultra.code : Code := (Try.f35.body).getD .skip
def matrix_Ultra.ann : Ann := (.two .auto (.two .auto (.two (.two .auto (.two (.loop 0 [0, 16, 17, 18] [(2, []), (0, [2])] (.two .auto (.two .auto (.two (.two (.two .auto (.two .auto (.two (.loop 1 [0, 3, 4, 16, 17, 18, 23, 24, 25] [(4, [0, 16, 17, 18]), (0, [2])] (.two .auto (.two .auto (.two (.two (.two .auto (.two .auto (.two (.loop 2 [0, 3, 4, 5, 6, 16, 17, 18, 23, 24, 25, 31, 32] [(6, [0, 3, 4, 16, 17, 18, 23, 24, 25]), (0, [2])] .auto) .auto))) .auto) .auto)))) .auto))) .auto) .auto)))) .auto)) .auto)))
noncomputable def matrix_Ultra.c2 : Code := sub matrix_Ultra.code [1, 1, 0, 1, 0, 0, 1, 1, 0, 0, 1, 1, 0, 0, 1, 1, 0, 0, 1, 1, 0, 0]
def matrix_Ultra.a2 : Ann := .auto
def matrix_Ultra.keep2 : List Nat := [0, 3, 4, 5, 6, 16, 17, 18, 23, 24, 25, 31, 32]
def matrix_Ultra.outs2 : List (Nat × List Nat) := [(6, [0, 3, 4, 16, 17, 18, 23, 24, 25]), (0, [2])]
noncomputable def matrix_Ultra.c1 : Code := sub matrix_Ultra.code [1, 1, 0, 1, 0, 0, 1, 1, 0, 0, 1, 1, 0, 0]
def matrix_Ultra.a1 : Ann := (.two .auto (.two .auto (.two (.two (.two .auto (.two .auto (.two (.loop 2 [0, 3, 4, 5, 6, 16, 17, 18, 23, 24, 25, 31, 32] [(6, [0, 3, 4, 16, 17, 18, 23, 24, 25]), (0, [2])] .auto) .auto))) .auto) .auto)))
def matrix_Ultra.keep1 : List Nat := [0, 3, 4, 16, 17, 18, 23, 24, 25]
def matrix_Ultra.outs1 : List (Nat × List Nat) := [(4, [0, 16, 17, 18]), (0, [2])]
noncomputable def matrix_Ultra.c0 : Code := sub matrix_Ultra.code [1, 1, 0, 1, 0, 0]
def matrix_Ultra.a0 : Ann := (.two .auto (.two .auto (.two (.two (.two .auto (.two .auto (.two (.loop 1 [0, 3, 4, 16, 17, 18, 23, 24, 25] [(4, [0, 16, 17, 18]), (0, [2])] (.two .auto (.two .auto (.two (.two (.two .auto (.two .auto (.two (.loop 2 [0, 3, 4, 5, 6, 16, 17, 18, 23, 24, 25, 31, 32] [(6, [0, 3, 4, 16, 17, 18, 23, 24, 25]), (0, [2])] .auto) .auto))) .auto) .auto)))) .auto))) .auto) .auto)))
def matrix_Ultra.keep0 : List Nat := [0, 16, 17, 18]
def matrix_Ultra.outs0 : List (Nat × List Nat) := [(2, []), (0, [2])]
set_option maxRecDepth 100000 in
theorem matrix_Ultra.L2 [DKc] : LoopOK matrix_Ultra.ctx 70 matrix_Ultra.c2 2 matrix_Ultra.keep2 matrix_Ultra.outs2 := by
  refine loop_ok (n := matrix_Ultra.a2) matrix_Ultra.ok (by kernel_rfl) (loops_ok (l := []) (by kernel_rfl) ?_) matrix_Ultra.r2 ?_ ?_ (fun vs h K hh => hh)
  · exact trivial
  · intro K vs h hh
    unfold matrix_Ultra.r2 at hh
    split at hh
    · exact hh
    · exact hh
  · intro K m vs h hh
    unfold matrix_Ultra.r2 at hh
    split at hh
    · exact cast (by kernel_rfl) hh
    · exact hh.elim
set_option maxRecDepth 100000 in
theorem matrix_Ultra.L1 [DKc] : LoopOK matrix_Ultra.ctx 70 matrix_Ultra.c1 1 matrix_Ultra.keep1 matrix_Ultra.outs1 := by
  refine loop_ok (n := matrix_Ultra.a1) matrix_Ultra.ok (by kernel_rfl) (loops_ok (l := [(matrix_Ultra.c2, none, 2, matrix_Ultra.keep2, matrix_Ultra.outs2)]) (by kernel_rfl) ?_) matrix_Ultra.r1 ?_ ?_ (fun vs h K hh => hh)
  · exact ⟨matrix_Ultra.L2, trivial⟩
  · intro K vs h hh
    unfold matrix_Ultra.r1 at hh
    split at hh
    · exact hh
    · exact hh
  · intro K m vs h hh
    unfold matrix_Ultra.r1 at hh
    split at hh
    · exact cast (by kernel_rfl) hh
    · exact hh.elim
set_option maxRecDepth 100000 in
theorem matrix_Ultra.L0 [DKc] : LoopOK matrix_Ultra.ctx 70 matrix_Ultra.c0 0 matrix_Ultra.keep0 matrix_Ultra.outs0 := by
  refine loop_ok (n := matrix_Ultra.a0) matrix_Ultra.ok (by kernel_rfl) (loops_ok (l := [(matrix_Ultra.c1, none, 1, matrix_Ultra.keep1, matrix_Ultra.outs1)]) (by kernel_rfl) ?_) matrix_Ultra.r0 ?_ ?_ (fun vs h K hh => hh)
  · exact ⟨matrix_Ultra.L1, trivial⟩
  · intro K vs h hh
    unfold matrix_Ultra.r0 at hh
    split at hh
    · exact hh
    · exact hh
  · intro K m vs h hh
    unfold matrix_Ultra.r0 at hh
    split at hh
    · exact cast (by kernel_rfl) hh
    · exact hh.elim
set_option maxRecDepth 100000 in
theorem matrix_Ultra.eq (a1 : Option Addr) (a1l : Nat) (a1c : Nat) (h : Heap) (K : Bool → Heap → Prop) : evF matrix_Ultra.ctx Try.f35 matrix_Ultra.ann [(.slice a1 a1l a1c)] h (matrix_Ultra.ret K) = matrix_Ultra a1 a1l a1c h K := by kernel_rfl
set_option maxRecDepth 100000 in
theorem matrix_Ultra.calls [DKc] {a1 : Option Addr} {a1l : Nat} {a1c : Nat} {h : Heap} {K : Bool → Heap → Prop} (hh : matrix_Ultra a1 a1l a1c h K) (w : World) (hw : w.heap = h) :
    (callFunc 35 #[(.slice a1 a1l a1c)]).run Try.prog w = .ok (.enter 35 #[(.slice a1 a1l a1c)]) w ∧ Calls Try.prog 35 #[(.slice a1 a1l a1c)] w fun e w' => ∃ v, e = .returned v ∧ Out w w' ∧ matrix_Ultra.ret K v w'.heap := by
  rw [← matrix_Ultra.eq] at hh
  exact fn_calls (args := [(.slice a1 a1l a1c)]) (c := matrix_Ultra.code) matrix_Ultra.ok Try.func35 (by kernel_rfl) (by kernel_rfl) (by kernel_rfl) (by kernel_rfl) (loops_ok (l := [(matrix_Ultra.c0, none, 0, matrix_Ultra.keep0, matrix_Ultra.outs0)]) (by kernel_rfl) ⟨matrix_Ultra.L0, trivial⟩) hh w hw

/-! ### maps.Keys[map[int64]bool,int64,bool]: function 61 -/
def maps_Keys_map_int64_bool_int64_bool (a1 : Option Nat) (h : Heap) (K : Value → Heap → Prop) : Prop :=
  newP h (.cells #[(.map a1)] 69) fun a2 h3 => ((K (.func (.func 76) #[] #[(.pointer (some a2))]) h3))
def maps_Keys_map_int64_bool_int64_bool.ret (K : Value → Heap → Prop) (v : Value) (h : Heap) : Prop := K v h
theorem maps_Keys_map_int64_bool_int64_bool.ret_elim {K : Value → Heap → Prop} {K' : Value → Heap → Prop} {v : Value} {h : Heap} (hk : ∀ x h, K x h → K' x h) (hh : maps_Keys_map_int64_bool_int64_bool.ret K v h) : K' v h := hk _ _ hh
noncomputable def maps_Keys_map_int64_bool_int64_bool.ctx : Ctx := { P := Try.prog, call := fun _ _ _ _ => False, qcall := fun _ _ _ _ => False, quiet := fun f => Nat.beq f 1000069 || Nat.beq f 1000099, loop := fun _ _ _ _ => False }
theorem maps_Keys_map_int64_bool_int64_bool.ok [DKc] : maps_Keys_map_int64_bool_int64_bool.ctx.OK where
  mixed := by kernel_rfl
  mono := fun hh _ => hh.elim
  call := fun hh => hh.elim
  qmono := fun hh _ => hh.elim
  qval := fun hh => hh.elim
  qcall := fun hh => hh.elim
noncomputable def maps_Keys_map_int64_bool_int64_bool.code : Code := (Try.f61.body).getD .skip
def maps_Keys_map_int64_bool_int64_bool.ann : Ann := .auto
set_option maxRecDepth 100000 in
theorem maps_Keys_map_int64_bool_int64_bool.eq (a1 : Option Nat) (h : Heap) (K : Value → Heap → Prop) : evF maps_Keys_map_int64_bool_int64_bool.ctx Try.f61 maps_Keys_map_int64_bool_int64_bool.ann [(.map a1)] h (maps_Keys_map_int64_bool_int64_bool.ret K) = maps_Keys_map_int64_bool_int64_bool a1 h K := by kernel_rfl
set_option maxRecDepth 100000 in
theorem maps_Keys_map_int64_bool_int64_bool.calls [DKc] {a1 : Option Nat} {h : Heap} {K : Value → Heap → Prop} (hh : maps_Keys_map_int64_bool_int64_bool a1 h K) (w : World) (hw : w.heap = h) :
    (callFunc 61 #[(.map a1)]).run Try.prog w = .ok (.enter 61 #[(.map a1)]) w ∧ Calls Try.prog 61 #[(.map a1)] w fun e w' => ∃ v, e = .returned v ∧ Out w w' ∧ maps_Keys_map_int64_bool_int64_bool.ret K v w'.heap := by
  rw [← maps_Keys_map_int64_bool_int64_bool.eq] at hh
  exact fn_calls (args := [(.map a1)]) (c := maps_Keys_map_int64_bool_int64_bool.code) maps_Keys_map_int64_bool_int64_bool.ok Try.func61 (by kernel_rfl) (by kernel_rfl) (by kernel_rfl) (by kernel_rfl) (loops_ok (l := []) (by kernel_rfl) trivial) hh w hw

/-! ### slices.Sorted[int64]: function 60, by its contract -/
def slices_Sorted_int64.ret (K : (Option Addr) → Nat → Nat → Heap → Prop) (v : Value) (h : Heap) : Prop := match v with
  | (.slice r2 r2l r2c) => K r2 r2l r2c h
  | _ => False
theorem slices_Sorted_int64.ret_elim {K : (Option Addr) → Nat → Nat → Heap → Prop} {K' : Value → Heap → Prop} {v : Value} {h : Heap} (hk : ∀ r2 r2l r2c h, K r2 r2l r2c h → K' (.slice r2 r2l r2c) h) (hh : slices_Sorted_int64.ret K v h) : K' v h := by
  unfold slices_Sorted_int64.ret at hh
  split at hh
  · exact hk _ _ _ _ hh
  · exact hh.elim
def slices_Sorted_int64 [DKc] (a1 : Value) (h : Heap) (K : (Option Addr) → Nat → Nat → Heap → Prop) : Prop := ∀ w : World, w.heap = h → (callFunc 60 #[a1]).run Try.prog w = .ok (.enter 60 #[a1]) w ∧ Calls Try.prog 60 #[a1] w fun e w' => ∃ v, e = .returned v ∧ Out w w' ∧ slices_Sorted_int64.ret K v w'.heap
theorem slices_Sorted_int64.calls [DKc] {a1 : Value} {h : Heap} {K : (Option Addr) → Nat → Nat → Heap → Prop} (hh : slices_Sorted_int64 a1 h K) (w : World) (hw : w.heap = h) : (callFunc 60 #[a1]).run Try.prog w = .ok (.enter 60 #[a1]) w ∧ Calls Try.prog 60 #[a1] w fun e w' => ∃ v, e = .returned v ∧ Out w w' ∧ slices_Sorted_int64.ret K v w'.heap := hh w hw

/-! ### strait/matrix.Values: function 36 -/
section
variable [DKc]
def matrix_Values.b1 (K4 : Heap → Prop) (cont : (Option Addr) → Nat → Nat → (Option Nat) → Int → (Option Addr) → Nat → Nat → Int → Int → (Option Addr) → Nat → Nat → Int → Int → Heap → Prop) (c0_2001 : Option Addr) (c0_2002 : Nat) (c0_2003 : Nat) (c3_2004 : Option Nat) (c4_2005 : Int) (c9_2006 : Option Addr) (c9_2007 : Nat) (c9_2008 : Nat) (c10_2009 : Int) (c11_2010 : Int) (c22_2011 : Option Addr) (c22_2012 : Nat) (c22_2013 : Nat) (c23_2014 : Int) (v24_2015 : Int) (h2016 : Heap) : Prop :=
  (iteB (decide (v24_2015 < c23_2014)) ((chkP c22_2011 fun a2017 => (0 ≤ v24_2015 ∧ v24_2015 < (c22_2012 : Int)) ∧ ∃ (x2018 : Int), cell h2016 (a2017.add (v24_2015.toNat * 1)) = some (.int .i64 x2018) ∧ ((iteB (decide (v24_2015 > c4_2005)) (chkM c3_2004 fun b2019 => ∃ m2020, mapIn (.int .i64) h2016 b2019 m2020 ∧ bindV (setO h2016 b2019 (mapObj (putM (.int .i64 x2018) (.bool true) m2020))) fun h2021 => ((cont c0_2001 c0_2002 c0_2003 c3_2004 c4_2005 c9_2006 c9_2007 c9_2008 c10_2009 c11_2010 c22_2011 c22_2012 c22_2013 c23_2014 (IntKind.i64.wrap (v24_2015 + 1)) h2021))) (((cont c0_2001 c0_2002 c0_2003 c3_2004 c4_2005 c9_2006 c9_2007 c9_2008 c10_2009 c11_2010 c22_2011 c22_2012 c22_2013 c23_2014 (IntKind.i64.wrap (v24_2015 + 1)) h2016))))))) (K4 h2016))
def matrix_Values.l1 (K4 : Heap → Prop) : Nat → (Option Addr) → Nat → Nat → (Option Nat) → Int → (Option Addr) → Nat → Nat → Int → Int → (Option Addr) → Nat → Nat → Int → Int → Heap → Prop
  | 0, _, _, _, _, _, _, _, _, _, _, _, _, _, _, _, _ => False
  | m + 1, c0_2001, c0_2002, c0_2003, c3_2004, c4_2005, c9_2006, c9_2007, c9_2008, c10_2009, c11_2010, c22_2011, c22_2012, c22_2013, c23_2014, v24_2015, h => matrix_Values.b1 K4 (matrix_Values.l1 K4 m) c0_2001 c0_2002 c0_2003 c3_2004 c4_2005 c9_2006 c9_2007 c9_2008 c10_2009 c11_2010 c22_2011 c22_2012 c22_2013 c23_2014 v24_2015 h
def matrix_Values.b0 (K2 : Heap → Prop) (cont : (Option Addr) → Nat → Nat → (Option Nat) → (Option Addr) → Nat → Nat → Int → Int → Heap → Prop) (c0_1001 : Option Addr) (c0_1002 : Nat) (c0_1003 : Nat) (c3_1004 : Option Nat) (c9_1005 : Option Addr) (c9_1006 : Nat) (c9_1007 : Nat) (c10_1008 : Int) (v11_1009 : Int) (h1010 : Heap) : Prop :=
  (iteB (decide (v11_1009 < c10_1008)) ((chkP c9_1005 fun a1011 => (0 ≤ v11_1009 ∧ v11_1009 < (c9_1006 : Int)) ∧ ∃ (x1012 : Option Addr) (x1012l : Nat) (x1012c : Nat), cell h1010 (a1011.add (v11_1009.toNat * 1)) = some (.slice x1012 x1012l x1012c) ∧ (bindV (if (c0_1002 : Int) < (x1012l : Int) then (c0_1002 : Int) else (x1012l : Int)) fun n1013 => (0 ≤ n1013 ∧ n1013 ≤ (x1012c : Int)) ∧ (∃ m1015, matrix_Values.l1 (fun h1014 => (((cont c0_1001 c0_1002 c0_1003 c3_1004 c9_1005 c9_1006 c9_1007 c10_1008 (IntKind.i64.wrap (v11_1009 + 1)) h1014)))) m1015 c0_1001 c0_1002 c0_1003 c3_1004 v11_1009 c9_1005 c9_1006 c9_1007 c10_1008 v11_1009 (if x1012c = 0 then x1012 else x1012.map (·.add (0 * 1))) n1013.toNat x1012c (n1013.toNat : Int) 0 h1010)))) (K2 h1010))
def matrix_Values.l0 (K2 : Heap → Prop) : Nat → (Option Addr) → Nat → Nat → (Option Nat) → (Option Addr) → Nat → Nat → Int → Int → Heap → Prop
  | 0, _, _, _, _, _, _, _, _, _, _ => False
  | m + 1, c0_1001, c0_1002, c0_1003, c3_1004, c9_1005, c9_1006, c9_1007, c10_1008, v11_1009, h => matrix_Values.b0 K2 (matrix_Values.l0 K2 m) c0_1001 c0_1002 c0_1003 c3_1004 c9_1005 c9_1006 c9_1007 c10_1008 v11_1009 h
def matrix_Values (a1 : Option Addr) (a1l : Nat) (a1c : Nat) (h : Heap) (K : (Option Addr) → Nat → Nat → Heap → Prop) : Prop :=
  (newP h (mapObj []) fun a2 h3 => ((∃ m5, matrix_Values.l0 (fun h4 => ((callP1 (maps_Keys_map_int64_bool_int64_bool (some a2.block) h4) fun x6 h7 => callP3 (slices_Sorted_int64 x6 h7) fun x8 x8l x8c h9 => K x8 x8l x8c h9))) m5 a1 a1l a1c (some a2.block) a1 a1l a1c (a1l : Int) 0 h3)))
def matrix_Values.ret (K : (Option Addr) → Nat → Nat → Heap → Prop) (v : Value) (h : Heap) : Prop := match v with
  | (.slice r10 r10l r10c) => K r10 r10l r10c h
  | _ => False
theorem matrix_Values.ret_elim {K : (Option Addr) → Nat → Nat → Heap → Prop} {K' : Value → Heap → Prop} {v : Value} {h : Heap} (hk : ∀ r10 r10l r10c h, K r10 r10l r10c h → K' (.slice r10 r10l r10c) h) (hh : matrix_Values.ret K v h) : K' v h := by
  unfold matrix_Values.ret at hh
  split at hh
  · exact hk _ _ _ _ hh
  · exact hh.elim
def matrix_Values.call (f : FuncId) (vs : List Value) (h : Heap) (K : Value → Heap → Prop) : Prop := match f, vs with
  | 60, [a1] => callP3 (slices_Sorted_int64 a1 h) fun r2 r2l r2c h' => K (.slice r2 r2l r2c) h'
  | 61, [(.map a1)] => callP1 (maps_Keys_map_int64_bool_int64_bool a1 h) fun r4 h' => K r4 h'
  | _, _ => False
def matrix_Values.r0 (K : Nat → List Value → Heap → Prop) (m : Nat) (vs : List Value) (h : Heap) : Prop := match vs with
  | [(.slice c0_1001 c0_1002 c0_1003), (.map c3_1004), (.slice c9_1005 c9_1006 c9_1007), (.int .i64 c10_1008), (.int .i64 v11_1009)] => matrix_Values.l0 (fun h' => K 2 [(.map c3_1004)] h') m c0_1001 c0_1002 c0_1003 c3_1004 c9_1005 c9_1006 c9_1007 c10_1008 v11_1009 h
  | _ => False
def matrix_Values.r1 (K : Nat → List Value → Heap → Prop) (m : Nat) (vs : List Value) (h : Heap) : Prop := match vs with
  | [(.slice c0_2001 c0_2002 c0_2003), (.map c3_2004), (.int .i64 c4_2005), (.slice c9_2006 c9_2007 c9_2008), (.int .i64 c10_2009), (.int .i64 c11_2010), (.slice c22_2011 c22_2012 c22_2013), (.int .i64 c23_2014), (.int .i64 v24_2015)] => matrix_Values.l1 (fun h' => K 4 [(.slice c0_2001 c0_2002 c0_2003), (.map c3_2004), (.slice c9_2006 c9_2007 c9_2008), (.int .i64 c10_2009), (.int .i64 c11_2010)] h') m c0_2001 c0_2002 c0_2003 c3_2004 c4_2005 c9_2006 c9_2007 c9_2008 c10_2009 c11_2010 c22_2011 c22_2012 c22_2013 c23_2014 v24_2015 h
  | _ => False
def matrix_Values.loop (i : Nat) (vs : List Value) (h : Heap) (K : Nat → List Value → Heap → Prop) : Prop := match i with
  | 0 => ∃ m, matrix_Values.r0 K m vs h
  | 1 => ∃ m, matrix_Values.r1 K m vs h
  | _ => False
noncomputable def matrix_Values.ctx : Ctx := { P := Try.prog, call := matrix_Values.call, qcall := fun _ _ _ _ => False, quiet := fun f => Nat.beq f 1000069 || Nat.beq f 1000099, loop := matrix_Values.loop }
theorem matrix_Values.ok : matrix_Values.ctx.OK where
  mixed := by kernel_rfl
  mono := by
    intro f args h K K' hh hk
    change matrix_Values.call f args h K at hh
    change matrix_Values.call f args h K'
    unfold matrix_Values.call at hh ⊢
    split at hh
    · obtain ⟨R, h1, h2⟩ := hh
      exact ⟨R, h1, fun _ _ _ x hr => hk _ _ (h2 _ _ _ x hr)⟩
    · obtain ⟨R, h1, h2⟩ := hh
      exact ⟨R, h1, fun _ x hr => hk _ _ (h2 _ x hr)⟩
    · exact hh.elim
  call := by
    intro f args h K hh w hw
    change matrix_Values.call f args h K at hh
    unfold matrix_Values.call at hh
    split at hh
    · obtain ⟨R, h1, h2⟩ := hh
      obtain ⟨g1, g2⟩ := slices_Sorted_int64.calls h1 w hw
      exact ⟨g1, g2.mono fun e w' ⟨v, he, ho, hr⟩ => ⟨v, he, ho, slices_Sorted_int64.ret_elim h2 hr⟩⟩
    · obtain ⟨R, h1, h2⟩ := hh
      obtain ⟨g1, g2⟩ := maps_Keys_map_int64_bool_int64_bool.calls h1 w hw
      exact ⟨g1, g2.mono fun e w' ⟨v, he, ho, hr⟩ => ⟨v, he, ho, maps_Keys_map_int64_bool_int64_bool.ret_elim h2 hr⟩⟩
    · exact hh.elim
  qmono := fun hh _ => hh.elim
  qval := fun hh => hh.elim
  qcall := fun hh => hh.elim
noncomputable def matrix_Values.code : Code := (Try.f36.body).getD .skip
def matrix_Values.ann : Ann := (.two .auto (.two .auto (.two (.two .auto (.two (.loop 0 [0, 3, 9, 10, 11] [(2, [3])] (.two .auto (.two .auto (.two (.two (.two .auto (.two .auto (.two (.loop 1 [0, 3, 4, 9, 10, 11, 22, 23, 24] [(4, [0, 3, 9, 10, 11])] .auto) .auto))) .auto) .auto)))) .auto)) .auto)))
noncomputable def matrix_Values.c1 : Code := sub matrix_Values.code [1, 1, 0, 1, 0, 0, 1, 1, 0, 0, 1, 1, 0, 0]
def matrix_Values.a1 : Ann := .auto
def matrix_Values.keep1 : List Nat := [0, 3, 4, 9, 10, 11, 22, 23, 24]
def matrix_Values.outs1 : List (Nat × List Nat) := [(4, [0, 3, 9, 10, 11])]
noncomputable def matrix_Values.c0 : Code := sub matrix_Values.code [1, 1, 0, 1, 0, 0]
def matrix_Values.a0 : Ann := (.two .auto (.two .auto (.two (.two (.two .auto (.two .auto (.two (.loop 1 [0, 3, 4, 9, 10, 11, 22, 23, 24] [(4, [0, 3, 9, 10, 11])] .auto) .auto))) .auto) .auto)))
def matrix_Values.keep0 : List Nat := [0, 3, 9, 10, 11]
def matrix_Values.outs0 : List (Nat × List Nat) := [(2, [3])]
set_option maxRecDepth 100000 in
theorem matrix_Values.L1 : LoopOK matrix_Values.ctx 39 matrix_Values.c1 1 matrix_Values.keep1 matrix_Values.outs1 := by
  refine loop_ok (n := matrix_Values.a1) matrix_Values.ok (by kernel_rfl) (loops_ok (l := []) (by kernel_rfl) ?_) matrix_Values.r1 ?_ ?_ (fun vs h K hh => hh)
  · exact trivial
  · intro K vs h hh
    unfold matrix_Values.r1 at hh
    split at hh
    · exact hh
    · exact hh
  · intro K m vs h hh
    unfold matrix_Values.r1 at hh
    split at hh
    · exact cast (by kernel_rfl) hh
    · exact hh.elim
set_option maxRecDepth 100000 in
theorem matrix_Values.L0 : LoopOK matrix_Values.ctx 39 matrix_Values.c0 0 matrix_Values.keep0 matrix_Values.outs0 := by
  refine loop_ok (n := matrix_Values.a0) matrix_Values.ok (by kernel_rfl) (loops_ok (l := [(matrix_Values.c1, none, 1, matrix_Values.keep1, matrix_Values.outs1)]) (by kernel_rfl) ?_) matrix_Values.r0 ?_ ?_ (fun vs h K hh => hh)
  · exact ⟨matrix_Values.L1, trivial⟩
  · intro K vs h hh
    unfold matrix_Values.r0 at hh
    split at hh
    · exact hh
    · exact hh
  · intro K m vs h hh
    unfold matrix_Values.r0 at hh
    split at hh
    · exact cast (by kernel_rfl) hh
    · exact hh.elim
set_option maxRecDepth 100000 in
theorem matrix_Values.eq (a1 : Option Addr) (a1l : Nat) (a1c : Nat) (h : Heap) (K : (Option Addr) → Nat → Nat → Heap → Prop) : evF matrix_Values.ctx Try.f36 matrix_Values.ann [(.slice a1 a1l a1c)] h (matrix_Values.ret K) = matrix_Values a1 a1l a1c h K := by kernel_rfl
set_option maxRecDepth 100000 in
theorem matrix_Values.calls {a1 : Option Addr} {a1l : Nat} {a1c : Nat} {h : Heap} {K : (Option Addr) → Nat → Nat → Heap → Prop} (hh : matrix_Values a1 a1l a1c h K) (w : World) (hw : w.heap = h) :
    (callFunc 36 #[(.slice a1 a1l a1c)]).run Try.prog w = .ok (.enter 36 #[(.slice a1 a1l a1c)]) w ∧ Calls Try.prog 36 #[(.slice a1 a1l a1c)] w fun e w' => ∃ v, e = .returned v ∧ Out w w' ∧ matrix_Values.ret K v w'.heap := by
  rw [← matrix_Values.eq] at hh
  exact fn_calls (args := [(.slice a1 a1l a1c)]) (c := matrix_Values.code) matrix_Values.ok Try.func36 (by kernel_rfl) (by kernel_rfl) (by kernel_rfl) (by kernel_rfl) (loops_ok (l := [(matrix_Values.c0, none, 0, matrix_Values.keep0, matrix_Values.outs0)]) (by kernel_rfl) ⟨matrix_Values.L0, trivial⟩) hh w hw
end

/-! ### strait/straitref04.Same: function 40 -/
def straitref04_Same.b0 (K0 : Bool → Heap → Prop) (K2 : Heap → Prop) (cont : (Option Addr) → Nat → Nat → (Option Addr) → Nat → Nat → Int → Heap → Prop) (c0_1001 : Option Addr) (c0_1002 : Nat) (c0_1003 : Nat) (c1_1004 : Option Addr) (c1_1005 : Nat) (c1_1006 : Nat) (v5_1007 : Int) (h1008 : Heap) : Prop :=
  (iteB (decide (v5_1007 < (c0_1002 : Int))) ((chkP c0_1001 fun a1009 => (0 ≤ v5_1007 ∧ v5_1007 < (c0_1002 : Int)) ∧ ∃ (x1010 : Int), cell h1008 (a1009.add (v5_1007.toNat * 1)) = some (.int .i64 x1010) ∧ chkP c1_1004 fun a1011 => (0 ≤ v5_1007 ∧ v5_1007 < (c1_1005 : Int)) ∧ ∃ (x1012 : Int), cell h1008 (a1011.add (v5_1007.toNat * 1)) = some (.int .i64 x1012) ∧ (iteB (x1010 != x1012) (K0 false h1008) (((cont c0_1001 c0_1002 c0_1003 c1_1004 c1_1005 c1_1006 (IntKind.i64.wrap (v5_1007 + 1)) h1008)))))) (K2 h1008))
def straitref04_Same.l0 (K0 : Bool → Heap → Prop) (K2 : Heap → Prop) : Nat → (Option Addr) → Nat → Nat → (Option Addr) → Nat → Nat → Int → Heap → Prop
  | 0, _, _, _, _, _, _, _, _ => False
  | m + 1, c0_1001, c0_1002, c0_1003, c1_1004, c1_1005, c1_1006, v5_1007, h => straitref04_Same.b0 K0 K2 (straitref04_Same.l0 K0 K2 m) c0_1001 c0_1002 c0_1003 c1_1004 c1_1005 c1_1006 v5_1007 h
def straitref04_Same (a1 : Option Addr) (a1l : Nat) (a1c : Nat) (a2 : Option Addr) (a2l : Nat) (a2c : Nat) (h : Heap) (K : Bool → Heap → Prop) : Prop :=
  ((iteB ((a1l : Int) != (a2l : Int)) (K false h) (((∃ m6, straitref04_Same.l0 (fun z3 h4 => K z3 h4) (fun h5 => (K true h5)) m6 a1 a1l a1c a2 a2l a2c 0 h)))))
def straitref04_Same.ret (K : Bool → Heap → Prop) (v : Value) (h : Heap) : Prop := match v with
  | (.bool r7) => K r7 h
  | _ => False
theorem straitref04_Same.ret_elim {K : Bool → Heap → Prop} {K' : Value → Heap → Prop} {v : Value} {h : Heap} (hk : ∀ r7 h, K r7 h → K' (.bool r7) h) (hh : straitref04_Same.ret K v h) : K' v h := by
  unfold straitref04_Same.ret at hh
  split at hh
  · exact hk _ _ hh
  · exact hh.elim
def straitref04_Same.r0 (K : Nat → List Value → Heap → Prop) (m : Nat) (vs : List Value) (h : Heap) : Prop := match vs with
  | [(.slice c0_1001 c0_1002 c0_1003), (.slice c1_1004 c1_1005 c1_1006), (.int .i64 v5_1007)] => straitref04_Same.l0 (fun z8 h' => K 0 [(.bool z8)] h') (fun h' => K 2 [] h') m c0_1001 c0_1002 c0_1003 c1_1004 c1_1005 c1_1006 v5_1007 h
  | _ => False
def straitref04_Same.loop (i : Nat) (vs : List Value) (h : Heap) (K : Nat → List Value → Heap → Prop) : Prop := match i with
  | 0 => ∃ m, straitref04_Same.r0 K m vs h
  | _ => False
noncomputable def straitref04_Same.ctx : Ctx := { P := Try.prog, call := fun _ _ _ _ => False, qcall := fun _ _ _ _ => False, quiet := fun f => Nat.beq f 1000069 || Nat.beq f 1000099, loop := straitref04_Same.loop }
theorem straitref04_Same.ok [DKc] : straitref04_Same.ctx.OK where
  mixed := by kernel_rfl
  mono := fun hh _ => hh.elim
  call := fun hh => hh.elim
  qmono := fun hh _ => hh.elim
  qval := fun hh => hh.elim
  qcall := fun hh => hh.elim
noncomputable def straitref04_Same.code : Code := (Try.f40.body).getD .skip
def straitref04_Same.ann : Ann := (.two .auto (.two .auto (.two (.two .auto (.two (.loop 0 [0, 1, 5] [(2, []), (0, [4])] (.two .auto (.two (.two (.two (.reg [0, 0, 3, 7, 0, 0, 48, 112, 255] (.take 0 (.take 1 (.take 2 (.take 3 (.take 4 (.take 5 (.take 6 (.take 7 (.take 8 .done)))))))))) .auto) .auto) .auto))) .auto)) .auto)))
noncomputable def straitref04_Same.c0 : Code := sub straitref04_Same.code [1, 1, 0, 1, 0, 0]
def straitref04_Same.a0 : Ann := (.two .auto (.two (.two (.two (.reg [0, 0, 3, 7, 0, 0, 48, 112, 255] (.take 0 (.take 1 (.take 2 (.take 3 (.take 4 (.take 5 (.take 6 (.take 7 (.take 8 .done)))))))))) .auto) .auto) .auto))
def straitref04_Same.keep0 : List Nat := [0, 1, 5]
def straitref04_Same.outs0 : List (Nat × List Nat) := [(2, []), (0, [4])]
set_option maxRecDepth 100000 in
theorem straitref04_Same.L0 [DKc] : LoopOK straitref04_Same.ctx 26 straitref04_Same.c0 0 straitref04_Same.keep0 straitref04_Same.outs0 := by
  refine loop_ok (n := straitref04_Same.a0) straitref04_Same.ok (by kernel_rfl) (loops_ok (l := []) (by kernel_rfl) ?_) straitref04_Same.r0 ?_ ?_ (fun vs h K hh => hh)
  · exact trivial
  · intro K vs h hh
    unfold straitref04_Same.r0 at hh
    split at hh
    · exact hh
    · exact hh
  · intro K m vs h hh
    unfold straitref04_Same.r0 at hh
    split at hh
    · exact cast (by kernel_rfl) hh
    · exact hh.elim
set_option maxRecDepth 100000 in
theorem straitref04_Same.eq (a1 : Option Addr) (a1l : Nat) (a1c : Nat) (a2 : Option Addr) (a2l : Nat) (a2c : Nat) (h : Heap) (K : Bool → Heap → Prop) : evF straitref04_Same.ctx Try.f40 straitref04_Same.ann [(.slice a1 a1l a1c), (.slice a2 a2l a2c)] h (straitref04_Same.ret K) = straitref04_Same a1 a1l a1c a2 a2l a2c h K := by kernel_rfl
set_option maxRecDepth 100000 in
theorem straitref04_Same.calls [DKc] {a1 : Option Addr} {a1l : Nat} {a1c : Nat} {a2 : Option Addr} {a2l : Nat} {a2c : Nat} {h : Heap} {K : Bool → Heap → Prop} (hh : straitref04_Same a1 a1l a1c a2 a2l a2c h K) (w : World) (hw : w.heap = h) :
    (callFunc 40 #[(.slice a1 a1l a1c), (.slice a2 a2l a2c)]).run Try.prog w = .ok (.enter 40 #[(.slice a1 a1l a1c), (.slice a2 a2l a2c)]) w ∧ Calls Try.prog 40 #[(.slice a1 a1l a1c), (.slice a2 a2l a2c)] w fun e w' => ∃ v, e = .returned v ∧ Out w w' ∧ straitref04_Same.ret K v w'.heap := by
  rw [← straitref04_Same.eq] at hh
  exact fn_calls (args := [(.slice a1 a1l a1c), (.slice a2 a2l a2c)]) (c := straitref04_Same.code) straitref04_Same.ok Try.func40 (by kernel_rfl) (by kernel_rfl) (by kernel_rfl) (by kernel_rfl) (loops_ok (l := [(straitref04_Same.c0, none, 0, straitref04_Same.keep0, straitref04_Same.outs0)]) (by kernel_rfl) ⟨straitref04_Same.L0, trivial⟩) hh w hw

/-! ### strait/straitlaw35.awake: function 30 -/
section
variable [DKc]
def straitlaw35_awake (h : Heap) (K : Bool → Heap → Prop) : Prop :=
  (newP h (.cells #[(.int .i64 (-1)), (.int .i64 0), (.int .i64 1)] 3) fun a1 h2 => newP h2 (.cells #[(.int .i64 0), (.int .i64 3), (.int .i64 2)] 2) fun a3 h4 => callP4 (matrix_Of (some a1) 3 3 (some a3) 3 3 h4) fun x5 x5l x5c x6 h7 => (iteB (x6 == (0 : Int)) (qcallP1 h7 (matrix_Ultra x5 x5l x5c h7) fun x8 => iteB x8 (newP h7 (.cells #[(.int .i64 1)] 2) fun a9 h10 => newP h10 (.cells #[(.slice (some a9) 1 1)] 23) fun a11 h12 => qcallP1 h12 (matrix_Ultra (some a11) 1 1 h12) fun x13 => iteB (!x13) (callP3 (matrix_Values x5 x5l x5c h12) fun x14 x14l x14c h15 => newP h15 (.cells #[(.int .i64 2), (.int .i64 3)] 2) fun a16 h17 => qcallP1 h17 (straitref04_Same x14 x14l x14c (some a16) 2 2 h17) fun x18 => K x18 h17) (K false h12)) (K false h7)) (K false h7)))
def straitlaw35_awake.ret (K : Bool → Heap → Prop) (v : Value) (h : Heap) : Prop := match v with
  | (.bool r21) => K r21 h
  | _ => False
theorem straitlaw35_awake.ret_elim {K : Bool → Heap → Prop} {K' : Value → Heap → Prop} {v : Value} {h : Heap} (hk : ∀ r21 h, K r21 h → K' (.bool r21) h) (hh : straitlaw35_awake.ret K v h) : K' v h := by
  unfold straitlaw35_awake.ret at hh
  split at hh
  · exact hk _ _ hh
  · exact hh.elim
def straitlaw35_awake.call (f : FuncId) (vs : List Value) (h : Heap) (K : Value → Heap → Prop) : Prop := match f, vs with
  | 31, [(.agg ⟨[(.slice a1 a1l a1c), (.slice a2 a2l a2c)]⟩)] => callP4 (matrix_Of a1 a1l a1c a2 a2l a2c h) fun r18 r18l r18c r19 h' => K (.tuple #[(.slice r18 r18l r18c), (.int .i64 r19)]) h'
  | 36, [(.slice a1 a1l a1c)] => callP3 (matrix_Values a1 a1l a1c h) fun r10 r10l r10c h' => K (.slice r10 r10l r10c) h'
  | _, _ => False
def straitlaw35_awake.qcall (f : FuncId) (vs : List Value) (h : Heap) (K : Value → Prop) : Prop := match f, vs with
  | 35, [(.slice a1 a1l a1c)] => qcallP1 h (matrix_Ultra a1 a1l a1c h) fun r16 => K (.bool r16)
  | 40, [(.slice a1 a1l a1c), (.slice a2 a2l a2c)] => qcallP1 h (straitref04_Same a1 a1l a1c a2 a2l a2c h) fun r7 => K (.bool r7)
  | _, _ => False
noncomputable def straitlaw35_awake.ctx : Ctx := { P := Try.prog, call := straitlaw35_awake.call, qcall := straitlaw35_awake.qcall, quiet := fun f => Nat.beq f 35 || Nat.beq f 40 || Nat.beq f 1000069 || Nat.beq f 1000099, loop := fun _ _ _ _ => False }
theorem straitlaw35_awake.ok : straitlaw35_awake.ctx.OK where
  mixed := by kernel_rfl
  mono := by
    intro f args h K K' hh hk
    change straitlaw35_awake.call f args h K at hh
    change straitlaw35_awake.call f args h K'
    unfold straitlaw35_awake.call at hh ⊢
    split at hh
    · obtain ⟨R, h1, h2⟩ := hh
      exact ⟨R, h1, fun _ _ _ _ x hr => hk _ _ (h2 _ _ _ _ x hr)⟩
    · obtain ⟨R, h1, h2⟩ := hh
      exact ⟨R, h1, fun _ _ _ x hr => hk _ _ (h2 _ _ _ x hr)⟩
    · exact hh.elim
  call := by
    intro f args h K hh w hw
    change straitlaw35_awake.call f args h K at hh
    unfold straitlaw35_awake.call at hh
    split at hh
    · obtain ⟨R, h1, h2⟩ := hh
      obtain ⟨g1, g2⟩ := matrix_Of.calls h1 w hw
      exact ⟨g1, g2.mono fun e w' ⟨v, he, ho, hr⟩ => ⟨v, he, ho, matrix_Of.ret_elim h2 hr⟩⟩
    · obtain ⟨R, h1, h2⟩ := hh
      obtain ⟨g1, g2⟩ := matrix_Values.calls h1 w hw
      exact ⟨g1, g2.mono fun e w' ⟨v, he, ho, hr⟩ => ⟨v, he, ho, matrix_Values.ret_elim h2 hr⟩⟩
    · exact hh.elim
  qmono := by
    intro f args h K K' hh hk
    change straitlaw35_awake.qcall f args h K at hh
    change straitlaw35_awake.qcall f args h K'
    unfold straitlaw35_awake.qcall at hh ⊢
    split at hh
    · obtain ⟨x0, h1, h2⟩ := hh
      exact ⟨x0, h1, hk _ h2⟩
    · obtain ⟨x0, h1, h2⟩ := hh
      exact ⟨x0, h1, hk _ h2⟩
    · exact hh.elim
  qval := by
    intro f args h K hh
    change straitlaw35_awake.qcall f args h K at hh
    suffices H : ∃ v, K v ∧ straitlaw35_awake.qcall f args h (· = v) from H
    unfold straitlaw35_awake.qcall at hh ⊢
    split at hh
    · obtain ⟨x0, h1, h2⟩ := hh
      exact ⟨_, h2, x0, h1, rfl⟩
    · obtain ⟨x0, h1, h2⟩ := hh
      exact ⟨_, h2, x0, h1, rfl⟩
    · exact hh.elim
  qcall := by
    intro f args h v hh w hw
    change straitlaw35_awake.qcall f args h (· = v) at hh
    unfold straitlaw35_awake.qcall at hh
    split at hh
    · obtain ⟨x0, h1, h2⟩ := hh
      obtain ⟨g1, g2⟩ := matrix_Ultra.calls h1 w hw
      refine .inl ⟨g1, g2.mono fun e w' ⟨u, he, ho, hr⟩ => ?_⟩
      have hq := matrix_Ultra.ret_elim (K' := fun u h' => u = v ∧ h' = h) (fun _ h' hr => by obtain ⟨rfl, rfl⟩ := hr; exact ⟨h2, rfl⟩) hr
      exact ⟨hq.1 ▸ he, ho, hq.2⟩
    · obtain ⟨x0, h1, h2⟩ := hh
      obtain ⟨g1, g2⟩ := straitref04_Same.calls h1 w hw
      refine .inl ⟨g1, g2.mono fun e w' ⟨u, he, ho, hr⟩ => ?_⟩
      have hq := straitref04_Same.ret_elim (K' := fun u h' => u = v ∧ h' = h) (fun _ h' hr => by obtain ⟨rfl, rfl⟩ := hr; exact ⟨h2, rfl⟩) hr
      exact ⟨hq.1 ▸ he, ho, hq.2⟩
    · exact hh.elim
noncomputable def straitlaw35_awake.code : Code := (Try.f30.body).getD .skip
def straitlaw35_awake.ann : Ann := .auto
set_option maxRecDepth 100000 in
theorem straitlaw35_awake.eq (h : Heap) (K : Bool → Heap → Prop) : evF straitlaw35_awake.ctx Try.f30 straitlaw35_awake.ann [] h (straitlaw35_awake.ret K) = straitlaw35_awake h K := by kernel_rfl
set_option maxRecDepth 100000 in
theorem straitlaw35_awake.calls {h : Heap} {K : Bool → Heap → Prop} (hh : straitlaw35_awake h K) (w : World) (hw : w.heap = h) :
    (callFunc 30 #[]).run Try.prog w = .ok (.enter 30 #[]) w ∧ Calls Try.prog 30 #[] w fun e w' => ∃ v, e = .returned v ∧ Out w w' ∧ straitlaw35_awake.ret K v w'.heap := by
  rw [← straitlaw35_awake.eq] at hh
  exact fn_calls (args := []) (c := straitlaw35_awake.code) straitlaw35_awake.ok Try.func30 (by kernel_rfl) (by kernel_rfl) (by kernel_rfl) (by kernel_rfl) (loops_ok (l := []) (by kernel_rfl) trivial) hh w hw
end

/-! ### strait/straitref35.Of: function 32 -/
def straitref35_Of.b1 (K4 : Heap → Prop) (cont : Addr → (Option Addr) → Nat → Nat → Int → Addr → Nat → Nat → Int → Heap → Prop) (c1_2001 : Addr) (c3_2002 : Option Addr) (c3_2003 : Nat) (c3_2004 : Nat) (c4_2005 : Int) (c5_2006 : Addr) (c5_2007 : Nat) (c5_2008 : Nat) (v6_2009 : Int) (h2010 : Heap) : Prop :=
  ∃ (x2011 : Option Addr) (x2011l : Nat) (x2011c : Nat), cell h2010 c1_2001 = some (.slice x2011 x2011l x2011c) ∧ (iteB (decide (v6_2009 < (x2011l : Int))) ((∃ (x2012 : Option Addr) (x2012l : Nat) (x2012c : Nat), cell h2010 c1_2001 = some (.slice x2012 x2012l x2012c) ∧ ∃ (x2013 : Option Addr) (x2013l : Nat) (x2013c : Nat), cell h2010 (c1_2001.add 1) = some (.slice x2013 x2013l x2013c) ∧ callP2 (straitref29_Least x2012 x2012l x2012c x2013 x2013l x2013c c4_2005 v6_2009 h2010) fun x2014 x2015 h2016 => newP h2016 (.cells #[(.int .i64 0), (.bool false)] 40) fun a2017 h2018 => stC h2018 a2017 (.int .i64 x2014) fun h2019 => stC h2019 (a2017.add 1) (.bool x2015) fun h2020 => (∃ (x2021 : Bool), cell h2020 (a2017.add 1) = some (.bool x2021) ∧ (iteB x2021 (∃ (x2022 : Option Addr) (x2022l : Nat) (x2022c : Nat), cell h2020 (c1_2001.add 1) = some (.slice x2022 x2022l x2022c) ∧ ∃ (x2023 : Int), cell h2020 a2017 = some (.int .i64 x2023) ∧ chkP x2022 fun a2024 => (0 ≤ x2023 ∧ x2023 < (x2022l : Int)) ∧ ∃ (x2025 : Int), cell h2020 (a2024.add (x2023.toNat * 1)) = some (.int .i64 x2025) ∧ (0 ≤ v6_2009 ∧ v6_2009 < (c5_2007 : Int)) ∧ stC h2020 (c5_2006.add (v6_2009.toNat * 1)) (.int .i64 x2025) fun h2026 => ((cont c1_2001 c3_2002 c3_2003 c3_2004 c4_2005 c5_2006 c5_2007 c5_2008 (IntKind.i64.wrap (v6_2009 + 1)) h2026))) (((cont c1_2001 c3_2002 c3_2003 c3_2004 c4_2005 c5_2006 c5_2007 c5_2008 (IntKind.i64.wrap (v6_2009 + 1)) h2020))))))) (K4 h2010))
def straitref35_Of.l1 (K4 : Heap → Prop) : Nat → Addr → (Option Addr) → Nat → Nat → Int → Addr → Nat → Nat → Int → Heap → Prop
  | 0, _, _, _, _, _, _, _, _, _, _ => False
  | m + 1, c1_2001, c3_2002, c3_2003, c3_2004, c4_2005, c5_2006, c5_2007, c5_2008, v6_2009, h => straitref35_Of.b1 K4 (straitref35_Of.l1 K4 m) c1_2001 c3_2002 c3_2003 c3_2004 c4_2005 c5_2006 c5_2007 c5_2008 v6_2009 h
def straitref35_Of.b0 (K2 : (Option Addr) → Nat → Nat → Heap → Prop) (cont : Addr → (Option Addr) → Nat → Nat → Int → Heap → Prop) (c1_1001 : Addr) (v3_1002 : Option Addr) (v3_1002l : Nat) (v3_1002c : Nat) (v4_1003 : Int) (h1004 : Heap) : Prop :=
  ∃ (x1005 : Option Addr) (x1005l : Nat) (x1005c : Nat), cell h1004 c1_1001 = some (.slice x1005 x1005l x1005c) ∧ (iteB (decide (v4_1003 < (x1005l : Int))) ((∃ (x1006 : Option Addr) (x1006l : Nat) (x1006c : Nat), cell h1004 c1_1001 = some (.slice x1006 x1006l x1006c) ∧ (0 ≤ (x1006l : Int) ∧ (x1006l : Int) ≤ (x1006l : Int) ∧ (x1006l : Int) * (8 : Nat) ≤ 2 ^ 47 ∧ (x1006l : Int) ≤ 2 ^ 47) ∧ newP h1004 (.cells (zeroRow [(.int .i64 0)] (x1006l : Int).toNat).toArray 2) fun a1007 h1008 => ((∃ m1010, straitref35_Of.l1 (fun h1009 => ((newP h1009 (.cells #[(.slice (some a1007) ((x1006l : Int).toNat) ((x1006l : Int).toNat))] 23) fun a1011 h1012 => ∃ n1017, cellsAt h1012 (some a1011) (1 * 1) n1017 ∧ appP 23 1 24 [(.slice none 0 0)] v3_1002 v3_1002l v3_1002c 1 n1017 h1012 fun q1013 l1014 c1015 h1016 => ((cont c1_1001 q1013 l1014 c1015 (IntKind.i64.wrap (v4_1003 + 1)) h1016))))) m1010 c1_1001 v3_1002 v3_1002l v3_1002c v4_1003 a1007 ((x1006l : Int).toNat) ((x1006l : Int).toNat) 0 h1008)))) (K2 v3_1002 v3_1002l v3_1002c h1004))
def straitref35_Of.l0 (K2 : (Option Addr) → Nat → Nat → Heap → Prop) : Nat → Addr → (Option Addr) → Nat → Nat → Int → Heap → Prop
  | 0, _, _, _, _, _, _ => False
  | m + 1, c1_1001, v3_1002, v3_1002l, v3_1002c, v4_1003, h => straitref35_Of.b0 K2 (straitref35_Of.l0 K2 m) c1_1001 v3_1002 v3_1002l v3_1002c v4_1003 h
def straitref35_Of (a1 : Option Addr) (a1l : Nat) (a1c : Nat) (a2 : Option Addr) (a2l : Nat) (a2c : Nat) (h : Heap) (K : (Option Addr) → Nat → Nat → Heap → Prop) : Prop :=
  newP h (.cells #[(.slice a1 a1l a1c), (.slice a2 a2l a2c)] 25) fun a3 h4 => (((∃ m7, straitref35_Of.l0 (fun z5 z5l z5c h6 => (K z5 z5l z5c h6)) m7 a3 none 0 0 0 h4)))
def straitref35_Of.ret (K : (Option Addr) → Nat → Nat → Heap → Prop) (v : Value) (h : Heap) : Prop := match v with
  | (.slice r8 r8l r8c) => K r8 r8l r8c h
  | _ => False
theorem straitref35_Of.ret_elim {K : (Option Addr) → Nat → Nat → Heap → Prop} {K' : Value → Heap → Prop} {v : Value} {h : Heap} (hk : ∀ r8 r8l r8c h, K r8 r8l r8c h → K' (.slice r8 r8l r8c) h) (hh : straitref35_Of.ret K v h) : K' v h := by
  unfold straitref35_Of.ret at hh
  split at hh
  · exact hk _ _ _ _ hh
  · exact hh.elim
def straitref35_Of.call (f : FuncId) (vs : List Value) (h : Heap) (K : Value → Heap → Prop) : Prop := match f, vs with
  | 28, [(.agg ⟨[(.slice a1 a1l a1c), (.slice a2 a2l a2c)]⟩), (.int .i64 a3), (.int .i64 a4)] => callP2 (straitref29_Least a1 a1l a1c a2 a2l a2c a3 a4 h) fun r36 r37 h' => K (.agg #[(.int .i64 r36), (.bool r37)]) h'
  | _, _ => False
def straitref35_Of.r0 (K : Nat → List Value → Heap → Prop) (m : Nat) (vs : List Value) (h : Heap) : Prop := match vs with
  | [(.pointer (some c1_1001)), (.slice v3_1002 v3_1002l v3_1002c), (.int .i64 v4_1003)] => straitref35_Of.l0 (fun z9 z9l z9c h' => K 2 [(.slice z9 z9l z9c)] h') m c1_1001 v3_1002 v3_1002l v3_1002c v4_1003 h
  | _ => False
def straitref35_Of.r1 (K : Nat → List Value → Heap → Prop) (m : Nat) (vs : List Value) (h : Heap) : Prop := match vs with
  | [(.pointer (some c1_2001)), (.slice c3_2002 c3_2003 c3_2004), (.int .i64 c4_2005), (.slice (some c5_2006) c5_2007 c5_2008), (.int .i64 v6_2009)] => straitref35_Of.l1 (fun h' => K 4 [(.pointer (some c1_2001)), (.slice c3_2002 c3_2003 c3_2004), (.int .i64 c4_2005), (.slice (some c5_2006) c5_2007 c5_2008)] h') m c1_2001 c3_2002 c3_2003 c3_2004 c4_2005 c5_2006 c5_2007 c5_2008 v6_2009 h
  | _ => False
def straitref35_Of.loop (i : Nat) (vs : List Value) (h : Heap) (K : Nat → List Value → Heap → Prop) : Prop := match i with
  | 0 => ∃ m, straitref35_Of.r0 K m vs h
  | 1 => ∃ m, straitref35_Of.r1 K m vs h
  | _ => False
noncomputable def straitref35_Of.ctx : Ctx := { P := Try.prog, call := straitref35_Of.call, qcall := fun _ _ _ _ => False, quiet := fun f => Nat.beq f 1000069 || Nat.beq f 1000099, loop := straitref35_Of.loop }
theorem straitref35_Of.ok [DKc] : straitref35_Of.ctx.OK where
  mixed := by kernel_rfl
  mono := by
    intro f args h K K' hh hk
    change straitref35_Of.call f args h K at hh
    change straitref35_Of.call f args h K'
    unfold straitref35_Of.call at hh ⊢
    split at hh
    · obtain ⟨R, h1, h2⟩ := hh
      exact ⟨R, h1, fun _ _ x hr => hk _ _ (h2 _ _ x hr)⟩
    · exact hh.elim
  call := by
    intro f args h K hh w hw
    change straitref35_Of.call f args h K at hh
    unfold straitref35_Of.call at hh
    split at hh
    · obtain ⟨R, h1, h2⟩ := hh
      obtain ⟨g1, g2⟩ := straitref29_Least.calls h1 w hw
      exact ⟨g1, g2.mono fun e w' ⟨v, he, ho, hr⟩ => ⟨v, he, ho, straitref29_Least.ret_elim h2 hr⟩⟩
    · exact hh.elim
  qmono := fun hh _ => hh.elim
  qval := fun hh => hh.elim
  qcall := fun hh => hh.elim
noncomputable def straitref35_Of.code : Code := (Try.f32.body).getD .skip
def straitref35_Of.ann : Ann := (.two .auto (.two .auto (.two (.two .auto (.two (.loop 0 [1, 3, 4] [(2, [3])] (.two .auto (.two (.two (.two .auto (.two (.two .auto (.two (.loop 1 [1, 3, 4, 5, 6] [(4, [1, 3, 4, 5])] .auto) .auto)) .auto)) .auto) .auto))) .auto)) .auto)))
noncomputable def straitref35_Of.c1 : Code := sub straitref35_Of.code [1, 1, 0, 1, 0, 0, 1, 0, 0, 1, 0, 1, 0, 0]
def straitref35_Of.a1 : Ann := .auto
def straitref35_Of.keep1 : List Nat := [1, 3, 4, 5, 6]
def straitref35_Of.outs1 : List (Nat × List Nat) := [(4, [1, 3, 4, 5])]
noncomputable def straitref35_Of.c0 : Code := sub straitref35_Of.code [1, 1, 0, 1, 0, 0]
def straitref35_Of.a0 : Ann := (.two .auto (.two (.two (.two .auto (.two (.two .auto (.two (.loop 1 [1, 3, 4, 5, 6] [(4, [1, 3, 4, 5])] .auto) .auto)) .auto)) .auto) .auto))
def straitref35_Of.keep0 : List Nat := [1, 3, 4]
def straitref35_Of.outs0 : List (Nat × List Nat) := [(2, [3])]
set_option maxRecDepth 100000 in
theorem straitref35_Of.L1 [DKc] : LoopOK straitref35_Of.ctx 46 straitref35_Of.c1 1 straitref35_Of.keep1 straitref35_Of.outs1 := by
  refine loop_ok (n := straitref35_Of.a1) straitref35_Of.ok (by kernel_rfl) (loops_ok (l := []) (by kernel_rfl) ?_) straitref35_Of.r1 ?_ ?_ (fun vs h K hh => hh)
  · exact trivial
  · intro K vs h hh
    unfold straitref35_Of.r1 at hh
    split at hh
    · exact hh
    · exact hh
  · intro K m vs h hh
    unfold straitref35_Of.r1 at hh
    split at hh
    · exact cast (by kernel_rfl) hh
    · exact hh.elim
set_option maxRecDepth 100000 in
theorem straitref35_Of.L0 [DKc] : LoopOK straitref35_Of.ctx 46 straitref35_Of.c0 0 straitref35_Of.keep0 straitref35_Of.outs0 := by
  refine loop_ok (n := straitref35_Of.a0) straitref35_Of.ok (by kernel_rfl) (loops_ok (l := [(straitref35_Of.c1, none, 1, straitref35_Of.keep1, straitref35_Of.outs1)]) (by kernel_rfl) ?_) straitref35_Of.r0 ?_ ?_ (fun vs h K hh => hh)
  · exact ⟨straitref35_Of.L1, trivial⟩
  · intro K vs h hh
    unfold straitref35_Of.r0 at hh
    split at hh
    · exact hh
    · exact hh
  · intro K m vs h hh
    unfold straitref35_Of.r0 at hh
    split at hh
    · exact cast (by kernel_rfl) hh
    · exact hh.elim
set_option maxRecDepth 100000 in
theorem straitref35_Of.eq (a1 : Option Addr) (a1l : Nat) (a1c : Nat) (a2 : Option Addr) (a2l : Nat) (a2c : Nat) (h : Heap) (K : (Option Addr) → Nat → Nat → Heap → Prop) : evF straitref35_Of.ctx Try.f32 straitref35_Of.ann [(.agg #[(.slice a1 a1l a1c), (.slice a2 a2l a2c)])] h (straitref35_Of.ret K) = straitref35_Of a1 a1l a1c a2 a2l a2c h K := by kernel_rfl
set_option maxRecDepth 100000 in
theorem straitref35_Of.calls [DKc] {a1 : Option Addr} {a1l : Nat} {a1c : Nat} {a2 : Option Addr} {a2l : Nat} {a2c : Nat} {h : Heap} {K : (Option Addr) → Nat → Nat → Heap → Prop} (hh : straitref35_Of a1 a1l a1c a2 a2l a2c h K) (w : World) (hw : w.heap = h) :
    (callFunc 32 #[(.agg #[(.slice a1 a1l a1c), (.slice a2 a2l a2c)])]).run Try.prog w = .ok (.enter 32 #[(.agg #[(.slice a1 a1l a1c), (.slice a2 a2l a2c)])]) w ∧ Calls Try.prog 32 #[(.agg #[(.slice a1 a1l a1c), (.slice a2 a2l a2c)])] w fun e w' => ∃ v, e = .returned v ∧ Out w w' ∧ straitref35_Of.ret K v w'.heap := by
  rw [← straitref35_Of.eq] at hh
  exact fn_calls (args := [(.agg #[(.slice a1 a1l a1c), (.slice a2 a2l a2c)])]) (c := straitref35_Of.code) straitref35_Of.ok Try.func32 (by kernel_rfl) (by kernel_rfl) (by kernel_rfl) (by kernel_rfl) (loops_ok (l := [(straitref35_Of.c0, none, 0, straitref35_Of.keep0, straitref35_Of.outs0)]) (by kernel_rfl) ⟨straitref35_Of.L0, trivial⟩) hh w hw

/-! ### strait/straitref35.Same: function 34 -/
def straitref35_Same.b0 (K0 : Bool → Heap → Prop) (K2 : Heap → Prop) (cont : (Option Addr) → Nat → Nat → (Option Addr) → Nat → Nat → Int → Heap → Prop) (c0_1001 : Option Addr) (c0_1002 : Nat) (c0_1003 : Nat) (c1_1004 : Option Addr) (c1_1005 : Nat) (c1_1006 : Nat) (v5_1007 : Int) (h1008 : Heap) : Prop :=
  (iteB (decide (v5_1007 < (c0_1002 : Int))) ((chkP c0_1001 fun a1009 => (0 ≤ v5_1007 ∧ v5_1007 < (c0_1002 : Int)) ∧ ∃ (x1010 : Option Addr) (x1010l : Nat) (x1010c : Nat), cell h1008 (a1009.add (v5_1007.toNat * 1)) = some (.slice x1010 x1010l x1010c) ∧ chkP c1_1004 fun a1011 => (0 ≤ v5_1007 ∧ v5_1007 < (c1_1005 : Int)) ∧ ∃ (x1012 : Option Addr) (x1012l : Nat) (x1012c : Nat), cell h1008 (a1011.add (v5_1007.toNat * 1)) = some (.slice x1012 x1012l x1012c) ∧ qcallP1 h1008 (straitref04_Same x1010 x1010l x1010c x1012 x1012l x1012c h1008) fun x1013 => (iteB (!x1013) (K0 false h1008) (((cont c0_1001 c0_1002 c0_1003 c1_1004 c1_1005 c1_1006 (IntKind.i64.wrap (v5_1007 + 1)) h1008)))))) (K2 h1008))
def straitref35_Same.l0 (K0 : Bool → Heap → Prop) (K2 : Heap → Prop) : Nat → (Option Addr) → Nat → Nat → (Option Addr) → Nat → Nat → Int → Heap → Prop
  | 0, _, _, _, _, _, _, _, _ => False
  | m + 1, c0_1001, c0_1002, c0_1003, c1_1004, c1_1005, c1_1006, v5_1007, h => straitref35_Same.b0 K0 K2 (straitref35_Same.l0 K0 K2 m) c0_1001 c0_1002 c0_1003 c1_1004 c1_1005 c1_1006 v5_1007 h
def straitref35_Same (a1 : Option Addr) (a1l : Nat) (a1c : Nat) (a2 : Option Addr) (a2l : Nat) (a2c : Nat) (h : Heap) (K : Bool → Heap → Prop) : Prop :=
  ((iteB ((a1l : Int) != (a2l : Int)) (K false h) (((∃ m6, straitref35_Same.l0 (fun z3 h4 => K z3 h4) (fun h5 => (K true h5)) m6 a1 a1l a1c a2 a2l a2c 0 h)))))
def straitref35_Same.ret (K : Bool → Heap → Prop) (v : Value) (h : Heap) : Prop := match v with
  | (.bool r7) => K r7 h
  | _ => False
theorem straitref35_Same.ret_elim {K : Bool → Heap → Prop} {K' : Value → Heap → Prop} {v : Value} {h : Heap} (hk : ∀ r7 h, K r7 h → K' (.bool r7) h) (hh : straitref35_Same.ret K v h) : K' v h := by
  unfold straitref35_Same.ret at hh
  split at hh
  · exact hk _ _ hh
  · exact hh.elim
def straitref35_Same.qcall (f : FuncId) (vs : List Value) (h : Heap) (K : Value → Prop) : Prop := match f, vs with
  | 40, [(.slice a1 a1l a1c), (.slice a2 a2l a2c)] => qcallP1 h (straitref04_Same a1 a1l a1c a2 a2l a2c h) fun r7 => K (.bool r7)
  | _, _ => False
def straitref35_Same.r0 (K : Nat → List Value → Heap → Prop) (m : Nat) (vs : List Value) (h : Heap) : Prop := match vs with
  | [(.slice c0_1001 c0_1002 c0_1003), (.slice c1_1004 c1_1005 c1_1006), (.int .i64 v5_1007)] => straitref35_Same.l0 (fun z8 h' => K 0 [(.bool z8)] h') (fun h' => K 2 [] h') m c0_1001 c0_1002 c0_1003 c1_1004 c1_1005 c1_1006 v5_1007 h
  | _ => False
def straitref35_Same.loop (i : Nat) (vs : List Value) (h : Heap) (K : Nat → List Value → Heap → Prop) : Prop := match i with
  | 0 => ∃ m, straitref35_Same.r0 K m vs h
  | _ => False
noncomputable def straitref35_Same.ctx : Ctx := { P := Try.prog, call := fun _ _ _ _ => False, qcall := straitref35_Same.qcall, quiet := fun f => Nat.beq f 40 || Nat.beq f 1000069 || Nat.beq f 1000099, loop := straitref35_Same.loop }
theorem straitref35_Same.ok [DKc] : straitref35_Same.ctx.OK where
  mixed := by kernel_rfl
  mono := fun hh _ => hh.elim
  call := fun hh => hh.elim
  qmono := by
    intro f args h K K' hh hk
    change straitref35_Same.qcall f args h K at hh
    change straitref35_Same.qcall f args h K'
    unfold straitref35_Same.qcall at hh ⊢
    split at hh
    · obtain ⟨x0, h1, h2⟩ := hh
      exact ⟨x0, h1, hk _ h2⟩
    · exact hh.elim
  qval := by
    intro f args h K hh
    change straitref35_Same.qcall f args h K at hh
    suffices H : ∃ v, K v ∧ straitref35_Same.qcall f args h (· = v) from H
    unfold straitref35_Same.qcall at hh ⊢
    split at hh
    · obtain ⟨x0, h1, h2⟩ := hh
      exact ⟨_, h2, x0, h1, rfl⟩
    · exact hh.elim
  qcall := by
    intro f args h v hh w hw
    change straitref35_Same.qcall f args h (· = v) at hh
    unfold straitref35_Same.qcall at hh
    split at hh
    · obtain ⟨x0, h1, h2⟩ := hh
      obtain ⟨g1, g2⟩ := straitref04_Same.calls h1 w hw
      refine .inl ⟨g1, g2.mono fun e w' ⟨u, he, ho, hr⟩ => ?_⟩
      have hq := straitref04_Same.ret_elim (K' := fun u h' => u = v ∧ h' = h) (fun _ h' hr => by obtain ⟨rfl, rfl⟩ := hr; exact ⟨h2, rfl⟩) hr
      exact ⟨hq.1 ▸ he, ho, hq.2⟩
    · exact hh.elim
noncomputable def straitref35_Same.code : Code := (Try.f34.body).getD .skip
def straitref35_Same.ann : Ann := (.two .auto (.two .auto (.two (.two .auto (.two (.loop 0 [0, 1, 5] [(2, []), (0, [4])] (.two .auto (.two (.two (.two (.reg [0, 0, 3, 7, 0, 0, 48, 112, 255, 511] (.take 0 (.take 1 (.take 2 (.take 3 (.take 4 (.take 5 (.take 6 (.take 7 (.take 8 (.take 9 .done))))))))))) .auto) .auto) .auto))) .auto)) .auto)))
noncomputable def straitref35_Same.c0 : Code := sub straitref35_Same.code [1, 1, 0, 1, 0, 0]
def straitref35_Same.a0 : Ann := (.two .auto (.two (.two (.two (.reg [0, 0, 3, 7, 0, 0, 48, 112, 255, 511] (.take 0 (.take 1 (.take 2 (.take 3 (.take 4 (.take 5 (.take 6 (.take 7 (.take 8 (.take 9 .done))))))))))) .auto) .auto) .auto))
def straitref35_Same.keep0 : List Nat := [0, 1, 5]
def straitref35_Same.outs0 : List (Nat × List Nat) := [(2, []), (0, [4])]
set_option maxRecDepth 100000 in
theorem straitref35_Same.L0 [DKc] : LoopOK straitref35_Same.ctx 27 straitref35_Same.c0 0 straitref35_Same.keep0 straitref35_Same.outs0 := by
  refine loop_ok (n := straitref35_Same.a0) straitref35_Same.ok (by kernel_rfl) (loops_ok (l := []) (by kernel_rfl) ?_) straitref35_Same.r0 ?_ ?_ (fun vs h K hh => hh)
  · exact trivial
  · intro K vs h hh
    unfold straitref35_Same.r0 at hh
    split at hh
    · exact hh
    · exact hh
  · intro K m vs h hh
    unfold straitref35_Same.r0 at hh
    split at hh
    · exact cast (by kernel_rfl) hh
    · exact hh.elim
set_option maxRecDepth 100000 in
theorem straitref35_Same.eq (a1 : Option Addr) (a1l : Nat) (a1c : Nat) (a2 : Option Addr) (a2l : Nat) (a2c : Nat) (h : Heap) (K : Bool → Heap → Prop) : evF straitref35_Same.ctx Try.f34 straitref35_Same.ann [(.slice a1 a1l a1c), (.slice a2 a2l a2c)] h (straitref35_Same.ret K) = straitref35_Same a1 a1l a1c a2 a2l a2c h K := by kernel_rfl
set_option maxRecDepth 100000 in
theorem straitref35_Same.calls [DKc] {a1 : Option Addr} {a1l : Nat} {a1c : Nat} {a2 : Option Addr} {a2l : Nat} {a2c : Nat} {h : Heap} {K : Bool → Heap → Prop} (hh : straitref35_Same a1 a1l a1c a2 a2l a2c h K) (w : World) (hw : w.heap = h) :
    (callFunc 34 #[(.slice a1 a1l a1c), (.slice a2 a2l a2c)]).run Try.prog w = .ok (.enter 34 #[(.slice a1 a1l a1c), (.slice a2 a2l a2c)]) w ∧ Calls Try.prog 34 #[(.slice a1 a1l a1c), (.slice a2 a2l a2c)] w fun e w' => ∃ v, e = .returned v ∧ Out w w' ∧ straitref35_Same.ret K v w'.heap := by
  rw [← straitref35_Same.eq] at hh
  exact fn_calls (args := [(.slice a1 a1l a1c), (.slice a2 a2l a2c)]) (c := straitref35_Same.code) straitref35_Same.ok Try.func34 (by kernel_rfl) (by kernel_rfl) (by kernel_rfl) (by kernel_rfl) (loops_ok (l := [(straitref35_Same.c0, none, 0, straitref35_Same.keep0, straitref35_Same.outs0)]) (by kernel_rfl) ⟨straitref35_Same.L0, trivial⟩) hh w hw

/-! ### strait/straitlaw35.MatrixTells: function 7 -/
section
variable [DKc]
def straitlaw35_MatrixTells (a1 : Option Addr) (a1l : Nat) (a1c : Nat) (a2 : Option Addr) (a2l : Nat) (a2c : Nat) (h : Heap) (K : Bool → Heap → Prop) : Prop :=
  newP h (.cells #[(.slice a1 a1l a1c), (.slice a2 a2l a2c)] 25) fun a3 h4 => (let j42 : Prop := (∃ (x14 : Option Addr) (x14l : Nat) (x14c : Nat), cell h4 a3 = some (.slice x14 x14l x14c) ∧ ∃ (x15 : Option Addr) (x15l : Nat) (x15c : Nat), cell h4 (a3.add 1) = some (.slice x15 x15l x15c) ∧ callP4 (matrix_Of x14 x14l x14c x15 x15l x15c h4) fun x16 x16l x16c x17 h18 => (∃ (x19 : Option Addr) (x19l : Nat) (x19c : Nat), cell h18 a3 = some (.slice x19 x19l x19c) ∧ ∃ (x20 : Option Addr) (x20l : Nat) (x20c : Nat), cell h18 (a3.add 1) = some (.slice x20 x20l x20c) ∧ callP1 (straitref29_Right x19 x19l x19c x20 x20l x20c h18) fun x21 h22 => (iteB (!x21) (iteB (x17 == (15 : Int)) (iteB ((x16l : Int) == (0 : Int)) (callP1 (straitlaw35_awake h22) fun x23 h24 => K x23 h24) (K false h22)) (K false h22)) ((∃ (x27 : Option Addr) (x27l : Nat) (x27c : Nat), cell h22 a3 = some (.slice x27 x27l x27c) ∧ ∃ (x28 : Option Addr) (x28l : Nat) (x28c : Nat), cell h22 (a3.add 1) = some (.slice x28 x28l x28c) ∧ callP3 (straitref35_Of x27 x27l x27c x28 x28l x28c h22) fun x29 x29l x29c h30 => (iteB (x17 == (0 : Int)) (callP1 (matrix_Same x16 x16l x16c x29 x29l x29c h30) fun x31 h32 => iteB x31 (qcallP1 h32 (straitref35_Same x16 x16l x16c x29 x29l x29c h32) fun x33 => iteB x33 (qcallP1 h32 (matrix_Ultra x16 x16l x16c h32) fun x34 => iteB x34 (callP3 (matrix_Values x16 x16l x16c h32) fun x35 x35l x35c h36 => bindV (if (x16l : Int) > 1 then (x16l : Int) else 1) fun n37 => iteB (decide ((x35l : Int) < n37)) (callP1 (straitlaw35_awake h36) fun x38 h39 => K x38 h39) (K false h36)) (K false h32)) (K false h32)) (K false h32)) (K false h30)))))));
  ∃ (x5 : Option Addr) (x5l : Nat) (x5c : Nat), cell h4 a3 = some (.slice x5 x5l x5c) ∧ iteB (decide ((x5l : Int) > (40 : Int))) ((callP1 (straitlaw35_awake h4) fun x10 h11 => K x10 h11)) (∃ (x6 : Option Addr) (x6l : Nat) (x6c : Nat), cell h4 (a3.add 1) = some (.slice x6 x6l x6c) ∧ (iteB (decide ((x6l : Int) > (5000 : Int))) (callP1 (straitlaw35_awake h4) fun x12 h13 => K x12 h13) ((j42)))))
def straitlaw35_MatrixTells.ret (K : Bool → Heap → Prop) (v : Value) (h : Heap) : Prop := match v with
  | (.bool r43) => K r43 h
  | _ => False
theorem straitlaw35_MatrixTells.ret_elim {K : Bool → Heap → Prop} {K' : Value → Heap → Prop} {v : Value} {h : Heap} (hk : ∀ r43 h, K r43 h → K' (.bool r43) h) (hh : straitlaw35_MatrixTells.ret K v h) : K' v h := by
  unfold straitlaw35_MatrixTells.ret at hh
  split at hh
  · exact hk _ _ hh
  · exact hh.elim
def straitlaw35_MatrixTells.call (f : FuncId) (vs : List Value) (h : Heap) (K : Value → Heap → Prop) : Prop := match f, vs with
  | 15, [(.agg ⟨[(.slice a1 a1l a1c), (.slice a2 a2l a2c)]⟩)] => callP1 (straitref29_Right a1 a1l a1c a2 a2l a2c h) fun r33 h' => K (.bool r33) h'
  | 30, [] => callP1 (straitlaw35_awake h) fun r21 h' => K (.bool r21) h'
  | 31, [(.agg ⟨[(.slice a1 a1l a1c), (.slice a2 a2l a2c)]⟩)] => callP4 (matrix_Of a1 a1l a1c a2 a2l a2c h) fun r18 r18l r18c r19 h' => K (.tuple #[(.slice r18 r18l r18c), (.int .i64 r19)]) h'
  | 32, [(.agg ⟨[(.slice a1 a1l a1c), (.slice a2 a2l a2c)]⟩)] => callP3 (straitref35_Of a1 a1l a1c a2 a2l a2c h) fun r8 r8l r8c h' => K (.slice r8 r8l r8c) h'
  | 33, [(.slice a1 a1l a1c), (.slice a2 a2l a2c)] => callP1 (matrix_Same a1 a1l a1c a2 a2l a2c h) fun r5 h' => K (.bool r5) h'
  | 36, [(.slice a1 a1l a1c)] => callP3 (matrix_Values a1 a1l a1c h) fun r10 r10l r10c h' => K (.slice r10 r10l r10c) h'
  | _, _ => False
def straitlaw35_MatrixTells.qcall (f : FuncId) (vs : List Value) (h : Heap) (K : Value → Prop) : Prop := match f, vs with
  | 34, [(.slice a1 a1l a1c), (.slice a2 a2l a2c)] => qcallP1 h (straitref35_Same a1 a1l a1c a2 a2l a2c h) fun r7 => K (.bool r7)
  | 35, [(.slice a1 a1l a1c)] => qcallP1 h (matrix_Ultra a1 a1l a1c h) fun r16 => K (.bool r16)
  | _, _ => False
noncomputable def straitlaw35_MatrixTells.ctx : Ctx := { P := Try.prog, call := straitlaw35_MatrixTells.call, qcall := straitlaw35_MatrixTells.qcall, quiet := fun f => Nat.beq f 34 || Nat.beq f 35 || Nat.beq f 1000069 || Nat.beq f 1000099, loop := fun _ _ _ _ => False }
theorem straitlaw35_MatrixTells.ok : straitlaw35_MatrixTells.ctx.OK where
  mixed := by kernel_rfl
  mono := by
    intro f args h K K' hh hk
    change straitlaw35_MatrixTells.call f args h K at hh
    change straitlaw35_MatrixTells.call f args h K'
    unfold straitlaw35_MatrixTells.call at hh ⊢
    split at hh
    · obtain ⟨R, h1, h2⟩ := hh
      exact ⟨R, h1, fun _ x hr => hk _ _ (h2 _ x hr)⟩
    · obtain ⟨R, h1, h2⟩ := hh
      exact ⟨R, h1, fun _ x hr => hk _ _ (h2 _ x hr)⟩
    · obtain ⟨R, h1, h2⟩ := hh
      exact ⟨R, h1, fun _ _ _ _ x hr => hk _ _ (h2 _ _ _ _ x hr)⟩
    · obtain ⟨R, h1, h2⟩ := hh
      exact ⟨R, h1, fun _ _ _ x hr => hk _ _ (h2 _ _ _ x hr)⟩
    · obtain ⟨R, h1, h2⟩ := hh
      exact ⟨R, h1, fun _ x hr => hk _ _ (h2 _ x hr)⟩
    · obtain ⟨R, h1, h2⟩ := hh
      exact ⟨R, h1, fun _ _ _ x hr => hk _ _ (h2 _ _ _ x hr)⟩
    · exact hh.elim
  call := by
    intro f args h K hh w hw
    change straitlaw35_MatrixTells.call f args h K at hh
    unfold straitlaw35_MatrixTells.call at hh
    split at hh
    · obtain ⟨R, h1, h2⟩ := hh
      obtain ⟨g1, g2⟩ := straitref29_Right.calls h1 w hw
      exact ⟨g1, g2.mono fun e w' ⟨v, he, ho, hr⟩ => ⟨v, he, ho, straitref29_Right.ret_elim h2 hr⟩⟩
    · obtain ⟨R, h1, h2⟩ := hh
      obtain ⟨g1, g2⟩ := straitlaw35_awake.calls h1 w hw
      exact ⟨g1, g2.mono fun e w' ⟨v, he, ho, hr⟩ => ⟨v, he, ho, straitlaw35_awake.ret_elim h2 hr⟩⟩
    · obtain ⟨R, h1, h2⟩ := hh
      obtain ⟨g1, g2⟩ := matrix_Of.calls h1 w hw
      exact ⟨g1, g2.mono fun e w' ⟨v, he, ho, hr⟩ => ⟨v, he, ho, matrix_Of.ret_elim h2 hr⟩⟩
    · obtain ⟨R, h1, h2⟩ := hh
      obtain ⟨g1, g2⟩ := straitref35_Of.calls h1 w hw
      exact ⟨g1, g2.mono fun e w' ⟨v, he, ho, hr⟩ => ⟨v, he, ho, straitref35_Of.ret_elim h2 hr⟩⟩
    · obtain ⟨R, h1, h2⟩ := hh
      obtain ⟨g1, g2⟩ := matrix_Same.calls h1 w hw
      exact ⟨g1, g2.mono fun e w' ⟨v, he, ho, hr⟩ => ⟨v, he, ho, matrix_Same.ret_elim h2 hr⟩⟩
    · obtain ⟨R, h1, h2⟩ := hh
      obtain ⟨g1, g2⟩ := matrix_Values.calls h1 w hw
      exact ⟨g1, g2.mono fun e w' ⟨v, he, ho, hr⟩ => ⟨v, he, ho, matrix_Values.ret_elim h2 hr⟩⟩
    · exact hh.elim
  qmono := by
    intro f args h K K' hh hk
    change straitlaw35_MatrixTells.qcall f args h K at hh
    change straitlaw35_MatrixTells.qcall f args h K'
    unfold straitlaw35_MatrixTells.qcall at hh ⊢
    split at hh
    · obtain ⟨x0, h1, h2⟩ := hh
      exact ⟨x0, h1, hk _ h2⟩
    · obtain ⟨x0, h1, h2⟩ := hh
      exact ⟨x0, h1, hk _ h2⟩
    · exact hh.elim
  qval := by
    intro f args h K hh
    change straitlaw35_MatrixTells.qcall f args h K at hh
    suffices H : ∃ v, K v ∧ straitlaw35_MatrixTells.qcall f args h (· = v) from H
    unfold straitlaw35_MatrixTells.qcall at hh ⊢
    split at hh
    · obtain ⟨x0, h1, h2⟩ := hh
      exact ⟨_, h2, x0, h1, rfl⟩
    · obtain ⟨x0, h1, h2⟩ := hh
      exact ⟨_, h2, x0, h1, rfl⟩
    · exact hh.elim
  qcall := by
    intro f args h v hh w hw
    change straitlaw35_MatrixTells.qcall f args h (· = v) at hh
    unfold straitlaw35_MatrixTells.qcall at hh
    split at hh
    · obtain ⟨x0, h1, h2⟩ := hh
      obtain ⟨g1, g2⟩ := straitref35_Same.calls h1 w hw
      refine .inl ⟨g1, g2.mono fun e w' ⟨u, he, ho, hr⟩ => ?_⟩
      have hq := straitref35_Same.ret_elim (K' := fun u h' => u = v ∧ h' = h) (fun _ h' hr => by obtain ⟨rfl, rfl⟩ := hr; exact ⟨h2, rfl⟩) hr
      exact ⟨hq.1 ▸ he, ho, hq.2⟩
    · obtain ⟨x0, h1, h2⟩ := hh
      obtain ⟨g1, g2⟩ := matrix_Ultra.calls h1 w hw
      refine .inl ⟨g1, g2.mono fun e w' ⟨u, he, ho, hr⟩ => ?_⟩
      have hq := matrix_Ultra.ret_elim (K' := fun u h' => u = v ∧ h' = h) (fun _ h' hr => by obtain ⟨rfl, rfl⟩ := hr; exact ⟨h2, rfl⟩) hr
      exact ⟨hq.1 ▸ he, ho, hq.2⟩
    · exact hh.elim
noncomputable def straitlaw35_MatrixTells.code : Code := (Try.f7.body).getD .skip
def straitlaw35_MatrixTells.ann : Ann := .auto
set_option maxRecDepth 100000 in
theorem straitlaw35_MatrixTells.eq (a1 : Option Addr) (a1l : Nat) (a1c : Nat) (a2 : Option Addr) (a2l : Nat) (a2c : Nat) (h : Heap) (K : Bool → Heap → Prop) : evF straitlaw35_MatrixTells.ctx Try.f7 straitlaw35_MatrixTells.ann [(.agg #[(.slice a1 a1l a1c), (.slice a2 a2l a2c)])] h (straitlaw35_MatrixTells.ret K) = straitlaw35_MatrixTells a1 a1l a1c a2 a2l a2c h K := by kernel_rfl
set_option maxRecDepth 100000 in
theorem straitlaw35_MatrixTells.calls {a1 : Option Addr} {a1l : Nat} {a1c : Nat} {a2 : Option Addr} {a2l : Nat} {a2c : Nat} {h : Heap} {K : Bool → Heap → Prop} (hh : straitlaw35_MatrixTells a1 a1l a1c a2 a2l a2c h K) (w : World) (hw : w.heap = h) :
    (callFunc 7 #[(.agg #[(.slice a1 a1l a1c), (.slice a2 a2l a2c)])]).run Try.prog w = .ok (.enter 7 #[(.agg #[(.slice a1 a1l a1c), (.slice a2 a2l a2c)])]) w ∧ Calls Try.prog 7 #[(.agg #[(.slice a1 a1l a1c), (.slice a2 a2l a2c)])] w fun e w' => ∃ v, e = .returned v ∧ Out w w' ∧ straitlaw35_MatrixTells.ret K v w'.heap := by
  rw [← straitlaw35_MatrixTells.eq] at hh
  exact fn_calls (args := [(.agg #[(.slice a1 a1l a1c), (.slice a2 a2l a2c)])]) (c := straitlaw35_MatrixTells.code) straitlaw35_MatrixTells.ok Try.func7 (by kernel_rfl) (by kernel_rfl) (by kernel_rfl) (by kernel_rfl) (loops_ok (l := []) (by kernel_rfl) trivial) hh w hw
end

end Go.Proofs.Ytfidcekobjmamaa
