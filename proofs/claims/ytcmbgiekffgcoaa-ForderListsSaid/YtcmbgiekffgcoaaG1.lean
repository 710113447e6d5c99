/- WRITTEN BY A PROGRAM OF THIS SESSION (gen.py): what each function asks of memory, and that the model's run comes to it. -/
import Derived.Test.YtcmbgiekffgcoaaProg
import Derived.Test.YtcmbgiekffgcoaaFw8
import Derived.Test.YtcmbgiekffgcoaaG0
namespace Go.Proofs.Ytcmbgiekffgcoaa
open Go.Hp
set_option linter.unusedVariables false
set_option linter.unusedSimpArgs false

/-! ### slices.CompactFunc[[]float64,float64]: function 33 -/
def slices_CompactFunc_Lfloat64_float64_forder_Count_c1.b1 (K4 : Int → Heap → Prop) (cont : (Option Addr) → Nat → Nat → Int → (Option Addr) → Nat → Nat → Int → Heap → Prop) (c0_2001 : Option Addr) (c0_2002 : Nat) (c0_2003 : Nat) (v5_2004 : Int) (c6_2005 : Option Addr) (c6_2006 : Nat) (c6_2007 : Nat) (v7_2008 : Int) (h2009 : Heap) : Prop :=
  (iteB (decide (v7_2008 < (c6_2006 : Int))) ((chkP c6_2005 fun a2010 => (0 ≤ v7_2008 ∧ v7_2008 < (c6_2006 : Int)) ∧ ∃ (x2011 : Nat), cell h2009 (a2010.add (v7_2008.toNat * 1)) = some (.float .f64 x2011) ∧ chkP c6_2005 fun a2012 => (0 ≤ (IntKind.i64.wrap (v7_2008 - 1)) ∧ (IntKind.i64.wrap (v7_2008 - 1)) < (c6_2006 : Int)) ∧ ∃ (x2013 : Nat), cell h2009 (a2012.add ((IntKind.i64.wrap (v7_2008 - 1)).toNat * 1)) = some (.float .f64 x2013) ∧ callP1 (forder_Count_c1 x2011 x2013 h2009) fun x2014 h2015 => (iteB (!x2014) (chkP c6_2005 fun a2016 => (0 ≤ v7_2008 ∧ v7_2008 < (c6_2006 : Int)) ∧ ∃ (x2017 : Nat), cell h2015 (a2016.add (v7_2008.toNat * 1)) = some (.float .f64 x2017) ∧ chkP c0_2001 fun a2018 => (0 ≤ v5_2004 ∧ v5_2004 < (c0_2002 : Int)) ∧ stC h2015 (a2018.add (v5_2004.toNat * 1)) (.float .f64 x2017) fun h2019 => (((cont c0_2001 c0_2002 c0_2003 (IntKind.i64.wrap (v5_2004 + 1)) c6_2005 c6_2006 c6_2007 (IntKind.i64.wrap (v7_2008 + 1)) h2019)))) (((cont c0_2001 c0_2002 c0_2003 v5_2004 c6_2005 c6_2006 c6_2007 (IntKind.i64.wrap (v7_2008 + 1)) h2015)))))) (K4 v5_2004 h2009))
def slices_CompactFunc_Lfloat64_float64_forder_Count_c1.l1 (K4 : Int → Heap → Prop) : Nat → (Option Addr) → Nat → Nat → Int → (Option Addr) → Nat → Nat → Int → Heap → Prop
  | 0, _, _, _, _, _, _, _, _, _ => False
  | m + 1, c0_2001, c0_2002, c0_2003, v5_2004, c6_2005, c6_2006, c6_2007, v7_2008, h => slices_CompactFunc_Lfloat64_float64_forder_Count_c1.b1 K4 (slices_CompactFunc_Lfloat64_float64_forder_Count_c1.l1 K4 m) c0_2001 c0_2002 c0_2003 v5_2004 c6_2005 c6_2006 c6_2007 v7_2008 h
def slices_CompactFunc_Lfloat64_float64_forder_Count_c1.b0 (K0 : (Option Addr) → Nat → Nat → Heap → Prop) (K2 : Heap → Prop) (cont : (Option Addr) → Nat → Nat → Int → Heap → Prop) (c0_1001 : Option Addr) (c0_1002 : Nat) (c0_1003 : Nat) (v5_1004 : Int) (h1005 : Heap) : Prop :=
  (iteB (decide (v5_1004 < (c0_1002 : Int))) ((chkP c0_1001 fun a1006 => (0 ≤ v5_1004 ∧ v5_1004 < (c0_1002 : Int)) ∧ ∃ (x1007 : Nat), cell h1005 (a1006.add (v5_1004.toNat * 1)) = some (.float .f64 x1007) ∧ chkP c0_1001 fun a1008 => (0 ≤ (IntKind.i64.wrap (v5_1004 - 1)) ∧ (IntKind.i64.wrap (v5_1004 - 1)) < (c0_1002 : Int)) ∧ ∃ (x1009 : Nat), cell h1005 (a1008.add ((IntKind.i64.wrap (v5_1004 - 1)).toNat * 1)) = some (.float .f64 x1009) ∧ callP1 (forder_Count_c1 x1007 x1009 h1005) fun x1010 h1011 => (iteB x1010 ((0 ≤ v5_1004 ∧ v5_1004 ≤ (c0_1002 : Int)) ∧ ((∃ m1014, slices_CompactFunc_Lfloat64_float64_forder_Count_c1.l1 (fun z1012 h1013 => (((0 ≤ z1012 ∧ z1012 ≤ (c0_1002 : Int)) ∧ clearP [(.float .f64 0)] (if c0_1003 = z1012.toNat then c0_1001 else c0_1001.map (·.add (z1012.toNat * 1))) (c0_1002 - z1012.toNat) h1013 fun h1015 => ((0 ≤ z1012 ∧ z1012 ≤ (c0_1003 : Int)) ∧ (K0 (if c0_1003 = 0 then c0_1001 else c0_1001.map (·.add (0 * 1))) z1012.toNat c0_1003 h1015))))) m1014 c0_1001 c0_1002 c0_1003 v5_1004 (if c0_1003 = v5_1004.toNat then c0_1001 else c0_1001.map (·.add (v5_1004.toNat * 1))) (c0_1002 - v5_1004.toNat) (c0_1003 - v5_1004.toNat) 1 h1011))) (((cont c0_1001 c0_1002 c0_1003 (IntKind.i64.wrap (v5_1004 + 1)) h1011)))))) (K2 h1005))
def slices_CompactFunc_Lfloat64_float64_forder_Count_c1.l0 (K0 : (Option Addr) → Nat → Nat → Heap → Prop) (K2 : Heap → Prop) : Nat → (Option Addr) → Nat → Nat → Int → Heap → Prop
  | 0, _, _, _, _, _ => False
  | m + 1, c0_1001, c0_1002, c0_1003, v5_1004, h => slices_CompactFunc_Lfloat64_float64_forder_Count_c1.b0 K0 K2 (slices_CompactFunc_Lfloat64_float64_forder_Count_c1.l0 K0 K2 m) c0_1001 c0_1002 c0_1003 v5_1004 h
def slices_CompactFunc_Lfloat64_float64_forder_Count_c1 (a1 : Option Addr) (a1l : Nat) (a1c : Nat) (h : Heap) (K : (Option Addr) → Nat → Nat → Heap → Prop) : Prop :=
  ((iteB (decide ((a1l : Int) < (2 : Int))) (K a1 a1l a1c h) (((∃ m5, slices_CompactFunc_Lfloat64_float64_forder_Count_c1.l0 (fun z2 z2l z2c h3 => K z2 z2l z2c h3) (fun h4 => (K a1 a1l a1c h4)) m5 a1 a1l a1c 1 h)))))
def slices_CompactFunc_Lfloat64_float64_forder_Count_c1.ret (K : (Option Addr) → Nat → Nat → Heap → Prop) (v : Value) (h : Heap) : Prop := match v with
  | (.slice r6 r6l r6c) => K r6 r6l r6c h
  | _ => False
theorem slices_CompactFunc_Lfloat64_float64_forder_Count_c1.ret_elim {K : (Option Addr) → Nat → Nat → Heap → Prop} {K' : Value → Heap → Prop} {v : Value} {h : Heap} (hk : ∀ r6 r6l r6c h, K r6 r6l r6c h → K' (.slice r6 r6l r6c) h) (hh : slices_CompactFunc_Lfloat64_float64_forder_Count_c1.ret K v h) : K' v h := by
  unfold slices_CompactFunc_Lfloat64_float64_forder_Count_c1.ret at hh
  split at hh
  · exact hk _ _ _ _ hh
  · exact hh.elim
def slices_CompactFunc_Lfloat64_float64_forder_Count_c1.call (f : FuncId) (vs : List Value) (h : Heap) (K : Value → Heap → Prop) : Prop := match f, vs with
  | 34, [(.float .f64 a1), (.float .f64 a2)] => callP1 (forder_Count_c1 a1 a2 h) fun r4 h' => K (.bool r4) h'
  | _, _ => False
def slices_CompactFunc_Lfloat64_float64_forder_Count_c1.r0 (K : Nat → List Value → Heap → Prop) (m : Nat) (vs : List Value) (h : Heap) : Prop := match vs with
  | [(.slice c0_1001 c0_1002 c0_1003), (.func (.func 34) ⟨[]⟩ ⟨[]⟩), (.int .i64 v5_1004)] => slices_CompactFunc_Lfloat64_float64_forder_Count_c1.l0 (fun z7 z7l z7c h' => K 0 [(.slice z7 z7l z7c)] h') (fun h' => K 2 [(.slice c0_1001 c0_1002 c0_1003)] h') m c0_1001 c0_1002 c0_1003 v5_1004 h
  | _ => False
def slices_CompactFunc_Lfloat64_float64_forder_Count_c1.r1 (K : Nat → List Value → Heap → Prop) (m : Nat) (vs : List Value) (h : Heap) : Prop := match vs with
  | [(.slice c0_2001 c0_2002 c0_2003), (.func (.func 34) ⟨[]⟩ ⟨[]⟩), (.int .i64 v5_2004), (.slice c6_2005 c6_2006 c6_2007), (.int .i64 v7_2008)] => slices_CompactFunc_Lfloat64_float64_forder_Count_c1.l1 (fun z8 h' => K 4 [(.slice c0_2001 c0_2002 c0_2003), (.int .i64 z8)] h') m c0_2001 c0_2002 c0_2003 v5_2004 c6_2005 c6_2006 c6_2007 v7_2008 h
  | _ => False
def slices_CompactFunc_Lfloat64_float64_forder_Count_c1.loop (i : Nat) (vs : List Value) (h : Heap) (K : Nat → List Value → Heap → Prop) : Prop := match i with
  | 0 => ∃ m, slices_CompactFunc_Lfloat64_float64_forder_Count_c1.r0 K m vs h
  | 1 => ∃ m, slices_CompactFunc_Lfloat64_float64_forder_Count_c1.r1 K m vs h
  | _ => False
noncomputable def slices_CompactFunc_Lfloat64_float64_forder_Count_c1.ctx : Ctx := { P := Try.prog, call := slices_CompactFunc_Lfloat64_float64_forder_Count_c1.call, qcall := fun _ _ _ _ => False, quiet := fun f => false, loop := slices_CompactFunc_Lfloat64_float64_forder_Count_c1.loop }
theorem slices_CompactFunc_Lfloat64_float64_forder_Count_c1.ok : slices_CompactFunc_Lfloat64_float64_forder_Count_c1.ctx.OK where
  mixed := by kernel_rfl
  mono := by
    intro f args h K K' hh hk
    change slices_CompactFunc_Lfloat64_float64_forder_Count_c1.call f args h K at hh
    change slices_CompactFunc_Lfloat64_float64_forder_Count_c1.call f args h K'
    unfold slices_CompactFunc_Lfloat64_float64_forder_Count_c1.call at hh ⊢
    split at hh
    · obtain ⟨R, h1, h2⟩ := hh
      exact ⟨R, h1, fun _ x hr => hk _ _ (h2 _ x hr)⟩
    · exact hh.elim
  call := by
    intro f args h K hh w hw
    change slices_CompactFunc_Lfloat64_float64_forder_Count_c1.call f args h K at hh
    unfold slices_CompactFunc_Lfloat64_float64_forder_Count_c1.call at hh
    split at hh
    · obtain ⟨R, h1, h2⟩ := hh
      obtain ⟨g1, g2⟩ := forder_Count_c1.calls h1 w hw
      exact ⟨g1, g2.mono fun e w' ⟨v, he, ho, hr⟩ => ⟨v, he, ho, forder_Count_c1.ret_elim h2 hr⟩⟩
    · exact hh.elim
  qmono := fun hh _ => hh.elim
  qval := fun hh => hh.elim
  qcall := fun hh => hh.elim
noncomputable def slices_CompactFunc_Lfloat64_float64_forder_Count_c1.code : Code := (Try.f33.body).getD .skip
def slices_CompactFunc_Lfloat64_float64_forder_Count_c1.ann : Ann := (.two .auto (.two .auto (.two (.two .auto (.two (.loop 0 [0, 1, 5] [(2, [0]), (0, [4])] (.two .auto (.two (.two (.two (.reg [0, 0, 0, 6, 14, 0, 0, 64, 224, 480, 1023] (.take 0 (.take 1 (.take 2 (.take 3 (.take 4 (.take 5 (.take 6 (.take 7 (.take 8 (.take 9 (.alt 10 .done .noalt)))))))))))) (.two (.two .auto (.two (.two .auto (.two (.loop 1 [0, 1, 5, 6, 7] [(4, [0, 5])] (.two .auto (.two (.two (.two (.reg [0, 0, 0, 6, 14, 0, 0, 64, 224, 480, 1023, 2047] (.take 0 (.take 1 (.take 2 (.take 3 (.take 4 (.take 5 (.take 6 (.take 7 (.take 8 (.take 9 (.alt 10 (.take 11 .done) .noalt)))))))))))) .auto) .auto) .auto))) .auto)) .auto)) .auto)) .auto) .auto))) .auto)) .auto)))
noncomputable def slices_CompactFunc_Lfloat64_float64_forder_Count_c1.c1 : Code := sub slices_CompactFunc_Lfloat64_float64_forder_Count_c1.code [1, 1, 0, 1, 0, 0, 1, 0, 0, 1, 0, 1, 0, 1, 0, 0]
def slices_CompactFunc_Lfloat64_float64_forder_Count_c1.a1 : Ann := (.two .auto (.two (.two (.two (.reg [0, 0, 0, 6, 14, 0, 0, 64, 224, 480, 1023, 2047] (.take 0 (.take 1 (.take 2 (.take 3 (.take 4 (.take 5 (.take 6 (.take 7 (.take 8 (.take 9 (.alt 10 (.take 11 .done) .noalt)))))))))))) .auto) .auto) .auto))
def slices_CompactFunc_Lfloat64_float64_forder_Count_c1.keep1 : List Nat := [0, 1, 5, 6, 7]
def slices_CompactFunc_Lfloat64_float64_forder_Count_c1.outs1 : List (Nat × List Nat) := [(4, [0, 5])]
noncomputable def slices_CompactFunc_Lfloat64_float64_forder_Count_c1.c0 : Code := sub slices_CompactFunc_Lfloat64_float64_forder_Count_c1.code [1, 1, 0, 1, 0, 0]
def slices_CompactFunc_Lfloat64_float64_forder_Count_c1.a0 : Ann := (.two .auto (.two (.two (.two (.reg [0, 0, 0, 6, 14, 0, 0, 64, 224, 480, 1023] (.take 0 (.take 1 (.take 2 (.take 3 (.take 4 (.take 5 (.take 6 (.take 7 (.take 8 (.take 9 (.alt 10 .done .noalt)))))))))))) (.two (.two .auto (.two (.two .auto (.two (.loop 1 [0, 1, 5, 6, 7] [(4, [0, 5])] (.two .auto (.two (.two (.two (.reg [0, 0, 0, 6, 14, 0, 0, 64, 224, 480, 1023, 2047] (.take 0 (.take 1 (.take 2 (.take 3 (.take 4 (.take 5 (.take 6 (.take 7 (.take 8 (.take 9 (.alt 10 (.take 11 .done) .noalt)))))))))))) .auto) .auto) .auto))) .auto)) .auto)) .auto)) .auto) .auto))
def slices_CompactFunc_Lfloat64_float64_forder_Count_c1.keep0 : List Nat := [0, 1, 5]
def slices_CompactFunc_Lfloat64_float64_forder_Count_c1.outs0 : List (Nat × List Nat) := [(2, [0]), (0, [4])]
set_option maxRecDepth 100000 in
theorem slices_CompactFunc_Lfloat64_float64_forder_Count_c1.L1 : LoopOK slices_CompactFunc_Lfloat64_float64_forder_Count_c1.ctx 66 slices_CompactFunc_Lfloat64_float64_forder_Count_c1.c1 1 slices_CompactFunc_Lfloat64_float64_forder_Count_c1.keep1 slices_CompactFunc_Lfloat64_float64_forder_Count_c1.outs1 := by
  refine loop_ok (n := slices_CompactFunc_Lfloat64_float64_forder_Count_c1.a1) slices_CompactFunc_Lfloat64_float64_forder_Count_c1.ok (by kernel_rfl) (loops_ok (l := []) (by kernel_rfl) ?_) slices_CompactFunc_Lfloat64_float64_forder_Count_c1.r1 ?_ ?_ (fun vs h K hh => hh)
  · exact trivial
  · intro K vs h hh
    unfold slices_CompactFunc_Lfloat64_float64_forder_Count_c1.r1 at hh
    split at hh
    · exact hh
    · exact hh
  · intro K m vs h hh
    unfold slices_CompactFunc_Lfloat64_float64_forder_Count_c1.r1 at hh
    split at hh
    · exact cast (by kernel_rfl) hh
    · exact hh.elim
set_option maxRecDepth 100000 in
theorem slices_CompactFunc_Lfloat64_float64_forder_Count_c1.L0 : LoopOK slices_CompactFunc_Lfloat64_float64_forder_Count_c1.ctx 66 slices_CompactFunc_Lfloat64_float64_forder_Count_c1.c0 0 slices_CompactFunc_Lfloat64_float64_forder_Count_c1.keep0 slices_CompactFunc_Lfloat64_float64_forder_Count_c1.outs0 := by
  refine loop_ok (n := slices_CompactFunc_Lfloat64_float64_forder_Count_c1.a0) slices_CompactFunc_Lfloat64_float64_forder_Count_c1.ok (by kernel_rfl) (loops_ok (l := [(slices_CompactFunc_Lfloat64_float64_forder_Count_c1.c1, none, 1, slices_CompactFunc_Lfloat64_float64_forder_Count_c1.keep1, slices_CompactFunc_Lfloat64_float64_forder_Count_c1.outs1)]) (by kernel_rfl) ?_) slices_CompactFunc_Lfloat64_float64_forder_Count_c1.r0 ?_ ?_ (fun vs h K hh => hh)
  · exact ⟨slices_CompactFunc_Lfloat64_float64_forder_Count_c1.L1, trivial⟩
  · intro K vs h hh
    unfold slices_CompactFunc_Lfloat64_float64_forder_Count_c1.r0 at hh
    split at hh
    · exact hh
    · exact hh
  · intro K m vs h hh
    unfold slices_CompactFunc_Lfloat64_float64_forder_Count_c1.r0 at hh
    split at hh
    · exact cast (by kernel_rfl) hh
    · exact hh.elim
set_option maxRecDepth 100000 in
theorem slices_CompactFunc_Lfloat64_float64_forder_Count_c1.eq (a1 : Option Addr) (a1l : Nat) (a1c : Nat) (h : Heap) (K : (Option Addr) → Nat → Nat → Heap → Prop) : evF slices_CompactFunc_Lfloat64_float64_forder_Count_c1.ctx Try.f33 slices_CompactFunc_Lfloat64_float64_forder_Count_c1.ann [(.slice a1 a1l a1c), (.func (.func 34) #[] #[])] h (slices_CompactFunc_Lfloat64_float64_forder_Count_c1.ret K) = slices_CompactFunc_Lfloat64_float64_forder_Count_c1 a1 a1l a1c h K := by kernel_rfl
set_option maxRecDepth 100000 in
theorem slices_CompactFunc_Lfloat64_float64_forder_Count_c1.calls {a1 : Option Addr} {a1l : Nat} {a1c : Nat} {h : Heap} {K : (Option Addr) → Nat → Nat → Heap → Prop} (hh : slices_CompactFunc_Lfloat64_float64_forder_Count_c1 a1 a1l a1c h K) (w : World) (hw : w.heap = h) :
    (callFunc 33 #[(.slice a1 a1l a1c), (.func (.func 34) #[] #[])]).run Try.prog w = .ok (.enter 33 #[(.slice a1 a1l a1c), (.func (.func 34) #[] #[])]) w ∧ Calls Try.prog 33 #[(.slice a1 a1l a1c), (.func (.func 34) #[] #[])] w fun e w' => ∃ v, e = .returned v ∧ Out w w' ∧ slices_CompactFunc_Lfloat64_float64_forder_Count_c1.ret K v w'.heap := by
  rw [← slices_CompactFunc_Lfloat64_float64_forder_Count_c1.eq] at hh
  exact fn_calls (args := [(.slice a1 a1l a1c), (.func (.func 34) #[] #[])]) (c := slices_CompactFunc_Lfloat64_float64_forder_Count_c1.code) slices_CompactFunc_Lfloat64_float64_forder_Count_c1.ok Try.func33 (by kernel_rfl) (by kernel_rfl) (by kernel_rfl) (by kernel_rfl) (loops_ok (l := [(slices_CompactFunc_Lfloat64_float64_forder_Count_c1.c0, none, 0, slices_CompactFunc_Lfloat64_float64_forder_Count_c1.keep0, slices_CompactFunc_Lfloat64_float64_forder_Count_c1.outs0)]) (by kernel_rfl) ⟨slices_CompactFunc_Lfloat64_float64_forder_Count_c1.L0, trivial⟩) hh w hw

/-! ### strait/forder.Count: function 20 -/
def forder_Count (a1 : Option Addr) (a1l : Nat) (a1c : Nat) (h : Heap) (K : Int → Heap → Prop) : Prop :=
  (callP3 (forder_Sort a1 a1l a1c h) fun x2 x2l x2c h3 => callP3 (slices_CompactFunc_Lfloat64_float64_forder_Count_c1 x2 x2l x2c h3) fun x4 x4l x4c h5 => (K (x4l : Int) h5))
def forder_Count.ret (K : Int → Heap → Prop) (v : Value) (h : Heap) : Prop := match v with
  | (.int .i64 r6) => K r6 h
  | _ => False
theorem forder_Count.ret_elim {K : Int → Heap → Prop} {K' : Value → Heap → Prop} {v : Value} {h : Heap} (hk : ∀ r6 h, K r6 h → K' (.int .i64 r6) h) (hh : forder_Count.ret K v h) : K' v h := by
  unfold forder_Count.ret at hh
  split at hh
  · exact hk _ _ hh
  · exact hh.elim
def forder_Count.call (f : FuncId) (vs : List Value) (h : Heap) (K : Value → Heap → Prop) : Prop := match f, vs with
  | 12, [(.slice a1 a1l a1c)] => callP3 (forder_Sort a1 a1l a1c h) fun r7 r7l r7c h' => K (.slice r7 r7l r7c) h'
  | 33, [(.slice a1 a1l a1c), (.func (.func 34) ⟨[]⟩ ⟨[]⟩)] => callP3 (slices_CompactFunc_Lfloat64_float64_forder_Count_c1 a1 a1l a1c h) fun r6 r6l r6c h' => K (.slice r6 r6l r6c) h'
  | _, _ => False
noncomputable def forder_Count.ctx : Ctx := { P := Try.prog, call := forder_Count.call, qcall := fun _ _ _ _ => False, quiet := fun f => false, loop := fun _ _ _ _ => False }
theorem forder_Count.ok : forder_Count.ctx.OK where
  mixed := by kernel_rfl
  mono := by
    intro f args h K K' hh hk
    change forder_Count.call f args h K at hh
    change forder_Count.call f args h K'
    unfold forder_Count.call at hh ⊢
    split at hh
    · obtain ⟨R, h1, h2⟩ := hh
      exact ⟨R, h1, fun _ _ _ x hr => hk _ _ (h2 _ _ _ x hr)⟩
    · obtain ⟨R, h1, h2⟩ := hh
      exact ⟨R, h1, fun _ _ _ x hr => hk _ _ (h2 _ _ _ x hr)⟩
    · exact hh.elim
  call := by
    intro f args h K hh w hw
    change forder_Count.call f args h K at hh
    unfold forder_Count.call at hh
    split at hh
    · obtain ⟨R, h1, h2⟩ := hh
      obtain ⟨g1, g2⟩ := forder_Sort.calls h1 w hw
      exact ⟨g1, g2.mono fun e w' ⟨v, he, ho, hr⟩ => ⟨v, he, ho, forder_Sort.ret_elim h2 hr⟩⟩
    · obtain ⟨R, h1, h2⟩ := hh
      obtain ⟨g1, g2⟩ := slices_CompactFunc_Lfloat64_float64_forder_Count_c1.calls h1 w hw
      exact ⟨g1, g2.mono fun e w' ⟨v, he, ho, hr⟩ => ⟨v, he, ho, slices_CompactFunc_Lfloat64_float64_forder_Count_c1.ret_elim h2 hr⟩⟩
    · exact hh.elim
  qmono := fun hh _ => hh.elim
  qval := fun hh => hh.elim
  qcall := fun hh => hh.elim
noncomputable def forder_Count.code : Code := (Try.f20.body).getD .skip
def forder_Count.ann : Ann := .auto
set_option maxRecDepth 100000 in
theorem forder_Count.eq (a1 : Option Addr) (a1l : Nat) (a1c : Nat) (h : Heap) (K : Int → Heap → Prop) : evF forder_Count.ctx Try.f20 forder_Count.ann [(.slice a1 a1l a1c)] h (forder_Count.ret K) = forder_Count a1 a1l a1c h K := by kernel_rfl
set_option maxRecDepth 100000 in
theorem forder_Count.calls {a1 : Option Addr} {a1l : Nat} {a1c : Nat} {h : Heap} {K : Int → Heap → Prop} (hh : forder_Count a1 a1l a1c h K) (w : World) (hw : w.heap = h) :
    (callFunc 20 #[(.slice a1 a1l a1c)]).run Try.prog w = .ok (.enter 20 #[(.slice a1 a1l a1c)]) w ∧ Calls Try.prog 20 #[(.slice a1 a1l a1c)] w fun e w' => ∃ v, e = .returned v ∧ Out w w' ∧ forder_Count.ret K v w'.heap := by
  rw [← forder_Count.eq] at hh
  exact fn_calls (args := [(.slice a1 a1l a1c)]) (c := forder_Count.code) forder_Count.ok Try.func20 (by kernel_rfl) (by kernel_rfl) (by kernel_rfl) (by kernel_rfl) (loops_ok (l := []) (by kernel_rfl) trivial) hh w hw

/-! ### strait/straitlaw03.awake: function 10 -/
def straitlaw03_awake (h : Heap) (K : Bool → Heap → Prop) : Prop :=
  (qcallP1 h (fbit_Of 9223372036854775808 h) fun x1 => newP h (.cells #[(.float .f64 x1), (.float .f64 0), (.float .f64 13830554455654793216)] 23) fun a2 h3 => (callP1 (forder_Least (some a2) 3 3 h3) fun x4 h5 => iteB (x4 == (2 : Int)) (callP1 (forder_Most (some a2) 3 3 h5) fun x6 h7 => iteB (x6 == (1 : Int)) ((0 ≤ (0 : Int) ∧ (0 : Int) < (3 : Int)) ∧ ∃ (x8 : Nat), cell h7 (a2.add ((0 : Int).toNat * 1)) = some (.float .f64 x8) ∧ (0 ≤ (1 : Int) ∧ (1 : Int) < (3 : Int)) ∧ ∃ (x9 : Nat), cell h7 (a2.add ((1 : Int).toNat * 1)) = some (.float .f64 x9) ∧ qcallP1 h7 (forder_Less x8 x9 h7) fun x10 => iteB x10 (callP1 (forder_Count (some a2) 3 3 h7) fun x11 h12 => (K (x11 == (3 : Int)) h12)) (K false h7)) (K false h7)) (K false h5)))
def straitlaw03_awake.ret (K : Bool → Heap → Prop) (v : Value) (h : Heap) : Prop := match v with
  | (.bool r15) => K r15 h
  | _ => False
theorem straitlaw03_awake.ret_elim {K : Bool → Heap → Prop} {K' : Value → Heap → Prop} {v : Value} {h : Heap} (hk : ∀ r15 h, K r15 h → K' (.bool r15) h) (hh : straitlaw03_awake.ret K v h) : K' v h := by
  unfold straitlaw03_awake.ret at hh
  split at hh
  · exact hk _ _ hh
  · exact hh.elim
def straitlaw03_awake.call (f : FuncId) (vs : List Value) (h : Heap) (K : Value → Heap → Prop) : Prop := match f, vs with
  | 16, [(.slice a1 a1l a1c)] => callP1 (forder_Least a1 a1l a1c h) fun r4 h' => K (.int .i64 r4) h'
  | 18, [(.slice a1 a1l a1c)] => callP1 (forder_Most a1 a1l a1c h) fun r4 h' => K (.int .i64 r4) h'
  | 20, [(.slice a1 a1l a1c)] => callP1 (forder_Count a1 a1l a1c h) fun r6 h' => K (.int .i64 r6) h'
  | _, _ => False
def straitlaw03_awake.qcall (f : FuncId) (vs : List Value) (h : Heap) (K : Value → Prop) : Prop := match f, vs with
  | 6, [(.int .u64 a1)] => qcallP1 h (fbit_Of a1 h) fun r2 => K (.float .f64 r2)
  | 9, [(.float .f64 a1), (.float .f64 a2)] => qcallP1 h (forder_Less a1 a2 h) fun r4 => K (.bool r4)
  | _, _ => False
noncomputable def straitlaw03_awake.ctx : Ctx := { P := Try.prog, call := straitlaw03_awake.call, qcall := straitlaw03_awake.qcall, quiet := fun f => Nat.beq f 6 || Nat.beq f 9, loop := fun _ _ _ _ => False }
theorem straitlaw03_awake.ok : straitlaw03_awake.ctx.OK where
  mixed := by kernel_rfl
  mono := by
    intro f args h K K' hh hk
    change straitlaw03_awake.call f args h K at hh
    change straitlaw03_awake.call f args h K'
    unfold straitlaw03_awake.call at hh ⊢
    split at hh
    · obtain ⟨R, h1, h2⟩ := hh
      exact ⟨R, h1, fun _ x hr => hk _ _ (h2 _ x hr)⟩
    · obtain ⟨R, h1, h2⟩ := hh
      exact ⟨R, h1, fun _ x hr => hk _ _ (h2 _ x hr)⟩
    · obtain ⟨R, h1, h2⟩ := hh
      exact ⟨R, h1, fun _ x hr => hk _ _ (h2 _ x hr)⟩
    · exact hh.elim
  call := by
    intro f args h K hh w hw
    change straitlaw03_awake.call f args h K at hh
    unfold straitlaw03_awake.call at hh
    split at hh
    · obtain ⟨R, h1, h2⟩ := hh
      obtain ⟨g1, g2⟩ := forder_Least.calls h1 w hw
      exact ⟨g1, g2.mono fun e w' ⟨v, he, ho, hr⟩ => ⟨v, he, ho, forder_Least.ret_elim h2 hr⟩⟩
    · obtain ⟨R, h1, h2⟩ := hh
      obtain ⟨g1, g2⟩ := forder_Most.calls h1 w hw
      exact ⟨g1, g2.mono fun e w' ⟨v, he, ho, hr⟩ => ⟨v, he, ho, forder_Most.ret_elim h2 hr⟩⟩
    · obtain ⟨R, h1, h2⟩ := hh
      obtain ⟨g1, g2⟩ := forder_Count.calls h1 w hw
      exact ⟨g1, g2.mono fun e w' ⟨v, he, ho, hr⟩ => ⟨v, he, ho, forder_Count.ret_elim h2 hr⟩⟩
    · exact hh.elim
  qmono := by
    intro f args h K K' hh hk
    change straitlaw03_awake.qcall f args h K at hh
    change straitlaw03_awake.qcall f args h K'
    unfold straitlaw03_awake.qcall at hh ⊢
    split at hh
    · obtain ⟨x0, h1, h2⟩ := hh
      exact ⟨x0, h1, hk _ h2⟩
    · obtain ⟨x0, h1, h2⟩ := hh
      exact ⟨x0, h1, hk _ h2⟩
    · exact hh.elim
  qval := by
    intro f args h K hh
    change straitlaw03_awake.qcall f args h K at hh
    suffices H : ∃ v, K v ∧ straitlaw03_awake.qcall f args h (· = v) from H
    unfold straitlaw03_awake.qcall at hh ⊢
    split at hh
    · obtain ⟨x0, h1, h2⟩ := hh
      exact ⟨_, h2, x0, h1, rfl⟩
    · obtain ⟨x0, h1, h2⟩ := hh
      exact ⟨_, h2, x0, h1, rfl⟩
    · exact hh.elim
  qcall := by
    intro f args h v hh w hw
    change straitlaw03_awake.qcall f args h (· = v) at hh
    unfold straitlaw03_awake.qcall at hh
    split at hh
    · obtain ⟨x0, h1, h2⟩ := hh
      obtain ⟨g1, g2⟩ := fbit_Of.calls h1 w hw
      refine .inl ⟨g1, g2.mono fun e w' ⟨u, he, ho, hr⟩ => ?_⟩
      have hq := fbit_Of.ret_elim (K' := fun u h' => u = v ∧ h' = h) (fun _ h' hr => by obtain ⟨rfl, rfl⟩ := hr; exact ⟨h2, rfl⟩) hr
      exact ⟨hq.1 ▸ he, ho, hq.2⟩
    · obtain ⟨x0, h1, h2⟩ := hh
      obtain ⟨g1, g2⟩ := forder_Less.calls h1 w hw
      refine .inl ⟨g1, g2.mono fun e w' ⟨u, he, ho, hr⟩ => ?_⟩
      have hq := forder_Less.ret_elim (K' := fun u h' => u = v ∧ h' = h) (fun _ h' hr => by obtain ⟨rfl, rfl⟩ := hr; exact ⟨h2, rfl⟩) hr
      exact ⟨hq.1 ▸ he, ho, hq.2⟩
    · exact hh.elim
noncomputable def straitlaw03_awake.code : Code := (Try.f10.body).getD .skip
def straitlaw03_awake.ann : Ann := (.two .auto (.two .auto (.two (.reg [0, 1, 3, 7, 15, 31, 63, 127, 255, 511, 1023, 2047, 511, 4607, 12799, 32767, 65535, 131071, 262143, 524287, 1048575, 2097151, 4194303] (.take 0 (.alt 1 (.take 2 (.take 3 (.take 4 (.alt 5 (.take 6 (.take 7 (.take 8 (.take 9 (.take 10 (.take 11 (.take 12 (.take 13 (.take 14 (.take 15 (.take 16 (.take 17 (.take 18 (.alt 19 (.take 20 (.take 21 (.take 22 .done))) .noalt)))))))))))))) .noalt)))) .noalt))) .auto)))
set_option maxRecDepth 100000 in
theorem straitlaw03_awake.eq (h : Heap) (K : Bool → Heap → Prop) : evF straitlaw03_awake.ctx Try.f10 straitlaw03_awake.ann [] h (straitlaw03_awake.ret K) = straitlaw03_awake h K := by kernel_rfl
set_option maxRecDepth 100000 in
theorem straitlaw03_awake.calls {h : Heap} {K : Bool → Heap → Prop} (hh : straitlaw03_awake h K) (w : World) (hw : w.heap = h) :
    (callFunc 10 #[]).run Try.prog w = .ok (.enter 10 #[]) w ∧ Calls Try.prog 10 #[] w fun e w' => ∃ v, e = .returned v ∧ Out w w' ∧ straitlaw03_awake.ret K v w'.heap := by
  rw [← straitlaw03_awake.eq] at hh
  exact fn_calls (args := []) (c := straitlaw03_awake.code) straitlaw03_awake.ok Try.func10 (by kernel_rfl) (by kernel_rfl) (by kernel_rfl) (by kernel_rfl) (loops_ok (l := []) (by kernel_rfl) trivial) hh w hw

/-! ### strait/straitlaw03.ForderTells: function 3 -/
def straitlaw03_ForderTells (a1 : Int) (a2 : Int) (h : Heap) (K : Bool → Heap → Prop) : Prop :=
  (qcallP1 h (fbit_Of a1 h) fun x3 => qcallP1 h (fbit_Of a2 h) fun x4 => (qcallP1 h (forder_Cmp x3 x4 h) fun x5 => (qcallP1 h (straitref03_Cmp a1 a2 h) fun x6 => iteB (x5 == x6) (qcallP1 h (forder_Less x3 x4 h) fun x7 => iteB (x7 == (decide (x5 < (0 : Int)))) (qcallP1 h (forder_Cmp x4 x3 h) fun x8 => iteB (x8 == (IntKind.i64.wrap (0 - x5))) (callP1 (straitlaw03_awake h) fun x9 h10 => K x9 h10) (K false h)) (K false h)) (K false h))))
def straitlaw03_ForderTells.ret (K : Bool → Heap → Prop) (v : Value) (h : Heap) : Prop := match v with
  | (.bool r13) => K r13 h
  | _ => False
theorem straitlaw03_ForderTells.ret_elim {K : Bool → Heap → Prop} {K' : Value → Heap → Prop} {v : Value} {h : Heap} (hk : ∀ r13 h, K r13 h → K' (.bool r13) h) (hh : straitlaw03_ForderTells.ret K v h) : K' v h := by
  unfold straitlaw03_ForderTells.ret at hh
  split at hh
  · exact hk _ _ hh
  · exact hh.elim
def straitlaw03_ForderTells.call (f : FuncId) (vs : List Value) (h : Heap) (K : Value → Heap → Prop) : Prop := match f, vs with
  | 10, [] => callP1 (straitlaw03_awake h) fun r15 h' => K (.bool r15) h'
  | _, _ => False
def straitlaw03_ForderTells.qcall (f : FuncId) (vs : List Value) (h : Heap) (K : Value → Prop) : Prop := match f, vs with
  | 6, [(.int .u64 a1)] => qcallP1 h (fbit_Of a1 h) fun r2 => K (.float .f64 r2)
  | 7, [(.float .f64 a1), (.float .f64 a2)] => qcallP1 h (forder_Cmp a1 a2 h) fun r6 => K (.int .i64 r6)
  | 8, [(.int .u64 a1), (.int .u64 a2)] => qcallP1 h (straitref03_Cmp a1 a2 h) fun r5 => K (.int .i64 r5)
  | 9, [(.float .f64 a1), (.float .f64 a2)] => qcallP1 h (forder_Less a1 a2 h) fun r4 => K (.bool r4)
  | _, _ => False
noncomputable def straitlaw03_ForderTells.ctx : Ctx := { P := Try.prog, call := straitlaw03_ForderTells.call, qcall := straitlaw03_ForderTells.qcall, quiet := fun f => Nat.beq f 6 || Nat.beq f 7 || Nat.beq f 8 || Nat.beq f 9, loop := fun _ _ _ _ => False }
theorem straitlaw03_ForderTells.ok : straitlaw03_ForderTells.ctx.OK where
  mixed := by kernel_rfl
  mono := by
    intro f args h K K' hh hk
    change straitlaw03_ForderTells.call f args h K at hh
    change straitlaw03_ForderTells.call f args h K'
    unfold straitlaw03_ForderTells.call at hh ⊢
    split at hh
    · obtain ⟨R, h1, h2⟩ := hh
      exact ⟨R, h1, fun _ x hr => hk _ _ (h2 _ x hr)⟩
    · exact hh.elim
  call := by
    intro f args h K hh w hw
    change straitlaw03_ForderTells.call f args h K at hh
    unfold straitlaw03_ForderTells.call at hh
    split at hh
    · obtain ⟨R, h1, h2⟩ := hh
      obtain ⟨g1, g2⟩ := straitlaw03_awake.calls h1 w hw
      exact ⟨g1, g2.mono fun e w' ⟨v, he, ho, hr⟩ => ⟨v, he, ho, straitlaw03_awake.ret_elim h2 hr⟩⟩
    · exact hh.elim
  qmono := by
    intro f args h K K' hh hk
    change straitlaw03_ForderTells.qcall f args h K at hh
    change straitlaw03_ForderTells.qcall f args h K'
    unfold straitlaw03_ForderTells.qcall at hh ⊢
    split at hh
    · obtain ⟨x0, h1, h2⟩ := hh
      exact ⟨x0, h1, hk _ h2⟩
    · obtain ⟨x0, h1, h2⟩ := hh
      exact ⟨x0, h1, hk _ h2⟩
    · obtain ⟨x0, h1, h2⟩ := hh
      exact ⟨x0, h1, hk _ h2⟩
    · obtain ⟨x0, h1, h2⟩ := hh
      exact ⟨x0, h1, hk _ h2⟩
    · exact hh.elim
  qval := by
    intro f args h K hh
    change straitlaw03_ForderTells.qcall f args h K at hh
    suffices H : ∃ v, K v ∧ straitlaw03_ForderTells.qcall f args h (· = v) from H
    unfold straitlaw03_ForderTells.qcall at hh ⊢
    split at hh
    · obtain ⟨x0, h1, h2⟩ := hh
      exact ⟨_, h2, x0, h1, rfl⟩
    · obtain ⟨x0, h1, h2⟩ := hh
      exact ⟨_, h2, x0, h1, rfl⟩
    · obtain ⟨x0, h1, h2⟩ := hh
      exact ⟨_, h2, x0, h1, rfl⟩
    · obtain ⟨x0, h1, h2⟩ := hh
      exact ⟨_, h2, x0, h1, rfl⟩
    · exact hh.elim
  qcall := by
    intro f args h v hh w hw
    change straitlaw03_ForderTells.qcall f args h (· = v) at hh
    unfold straitlaw03_ForderTells.qcall at hh
    split at hh
    · obtain ⟨x0, h1, h2⟩ := hh
      obtain ⟨g1, g2⟩ := fbit_Of.calls h1 w hw
      refine .inl ⟨g1, g2.mono fun e w' ⟨u, he, ho, hr⟩ => ?_⟩
      have hq := fbit_Of.ret_elim (K' := fun u h' => u = v ∧ h' = h) (fun _ h' hr => by obtain ⟨rfl, rfl⟩ := hr; exact ⟨h2, rfl⟩) hr
      exact ⟨hq.1 ▸ he, ho, hq.2⟩
    · obtain ⟨x0, h1, h2⟩ := hh
      obtain ⟨g1, g2⟩ := forder_Cmp.calls h1 w hw
      refine .inl ⟨g1, g2.mono fun e w' ⟨u, he, ho, hr⟩ => ?_⟩
      have hq := forder_Cmp.ret_elim (K' := fun u h' => u = v ∧ h' = h) (fun _ h' hr => by obtain ⟨rfl, rfl⟩ := hr; exact ⟨h2, rfl⟩) hr
      exact ⟨hq.1 ▸ he, ho, hq.2⟩
    · obtain ⟨x0, h1, h2⟩ := hh
      obtain ⟨g1, g2⟩ := straitref03_Cmp.calls h1 w hw
      refine .inl ⟨g1, g2.mono fun e w' ⟨u, he, ho, hr⟩ => ?_⟩
      have hq := straitref03_Cmp.ret_elim (K' := fun u h' => u = v ∧ h' = h) (fun _ h' hr => by obtain ⟨rfl, rfl⟩ := hr; exact ⟨h2, rfl⟩) hr
      exact ⟨hq.1 ▸ he, ho, hq.2⟩
    · obtain ⟨x0, h1, h2⟩ := hh
      obtain ⟨g1, g2⟩ := forder_Less.calls h1 w hw
      refine .inl ⟨g1, g2.mono fun e w' ⟨u, he, ho, hr⟩ => ?_⟩
      have hq := forder_Less.ret_elim (K' := fun u h' => u = v ∧ h' = h) (fun _ h' hr => by obtain ⟨rfl, rfl⟩ := hr; exact ⟨h2, rfl⟩) hr
      exact ⟨hq.1 ▸ he, ho, hq.2⟩
    · exact hh.elim
noncomputable def straitlaw03_ForderTells.code : Code := (Try.f3.body).getD .skip
def straitlaw03_ForderTells.ann : Ann := .auto
set_option maxRecDepth 100000 in
theorem straitlaw03_ForderTells.eq (a1 : Int) (a2 : Int) (h : Heap) (K : Bool → Heap → Prop) : evF straitlaw03_ForderTells.ctx Try.f3 straitlaw03_ForderTells.ann [(.int .u64 a1), (.int .u64 a2)] h (straitlaw03_ForderTells.ret K) = straitlaw03_ForderTells a1 a2 h K := by kernel_rfl
set_option maxRecDepth 100000 in
theorem straitlaw03_ForderTells.calls {a1 : Int} {a2 : Int} {h : Heap} {K : Bool → Heap → Prop} (hh : straitlaw03_ForderTells a1 a2 h K) (w : World) (hw : w.heap = h) :
    (callFunc 3 #[(.int .u64 a1), (.int .u64 a2)]).run Try.prog w = .ok (.enter 3 #[(.int .u64 a1), (.int .u64 a2)]) w ∧ Calls Try.prog 3 #[(.int .u64 a1), (.int .u64 a2)] w fun e w' => ∃ v, e = .returned v ∧ Out w w' ∧ straitlaw03_ForderTells.ret K v w'.heap := by
  rw [← straitlaw03_ForderTells.eq] at hh
  exact fn_calls (args := [(.int .u64 a1), (.int .u64 a2)]) (c := straitlaw03_ForderTells.code) straitlaw03_ForderTells.ok Try.func3 (by kernel_rfl) (by kernel_rfl) (by kernel_rfl) (by kernel_rfl) (loops_ok (l := []) (by kernel_rfl) trivial) hh w hw

/-! ### strait/straitlaw03.floats: function 11 -/
def straitlaw03_floats.b0 (K2 : (Option Addr) → Nat → Nat → Heap → Prop) (cont : (Option Addr) → Nat → Nat → (Option Addr) → Nat → Nat → Int → Heap → Prop) (c0_1001 : Option Addr) (c0_1002 : Nat) (c0_1003 : Nat) (v3_1004 : Option Addr) (v3_1004l : Nat) (v3_1004c : Nat) (v4_1005 : Int) (h1006 : Heap) : Prop :=
  (iteB (decide (v4_1005 < (c0_1002 : Int))) ((chkP c0_1001 fun a1007 => (0 ≤ v4_1005 ∧ v4_1005 < (c0_1002 : Int)) ∧ ∃ (x1008 : Int), cell h1006 (a1007.add (v4_1005.toNat * 1)) = some (.int .u64 x1008) ∧ qcallP1 h1006 (fbit_Of x1008 h1006) fun x1009 => newP h1006 (.cells #[(.float .f64 x1009)] 23) fun a1010 h1011 => ∃ n1016, cellsAt h1011 (some a1010) (1 * 1) n1016 ∧ appP 23 1 8 [(.float .f64 0)] v3_1004 v3_1004l v3_1004c 1 n1016 h1011 fun q1012 l1013 c1014 h1015 => ((cont c0_1001 c0_1002 c0_1003 q1012 l1013 c1014 (IntKind.i64.wrap (v4_1005 + 1)) h1015)))) (K2 v3_1004 v3_1004l v3_1004c h1006))
def straitlaw03_floats.l0 (K2 : (Option Addr) → Nat → Nat → Heap → Prop) : Nat → (Option Addr) → Nat → Nat → (Option Addr) → Nat → Nat → Int → Heap → Prop
  | 0, _, _, _, _, _, _, _, _ => False
  | m + 1, c0_1001, c0_1002, c0_1003, v3_1004, v3_1004l, v3_1004c, v4_1005, h => straitlaw03_floats.b0 K2 (straitlaw03_floats.l0 K2 m) c0_1001 c0_1002 c0_1003 v3_1004 v3_1004l v3_1004c v4_1005 h
def straitlaw03_floats (a1 : Option Addr) (a1l : Nat) (a1c : Nat) (h : Heap) (K : (Option Addr) → Nat → Nat → Heap → Prop) : Prop :=
  (((∃ m4, straitlaw03_floats.l0 (fun z2 z2l z2c h3 => (K z2 z2l z2c h3)) m4 a1 a1l a1c none 0 0 0 h)))
def straitlaw03_floats.ret (K : (Option Addr) → Nat → Nat → Heap → Prop) (v : Value) (h : Heap) : Prop := match v with
  | (.slice r5 r5l r5c) => K r5 r5l r5c h
  | _ => False
theorem straitlaw03_floats.ret_elim {K : (Option Addr) → Nat → Nat → Heap → Prop} {K' : Value → Heap → Prop} {v : Value} {h : Heap} (hk : ∀ r5 r5l r5c h, K r5 r5l r5c h → K' (.slice r5 r5l r5c) h) (hh : straitlaw03_floats.ret K v h) : K' v h := by
  unfold straitlaw03_floats.ret at hh
  split at hh
  · exact hk _ _ _ _ hh
  · exact hh.elim
def straitlaw03_floats.qcall (f : FuncId) (vs : List Value) (h : Heap) (K : Value → Prop) : Prop := match f, vs with
  | 6, [(.int .u64 a1)] => qcallP1 h (fbit_Of a1 h) fun r2 => K (.float .f64 r2)
  | _, _ => False
def straitlaw03_floats.r0 (K : Nat → List Value → Heap → Prop) (m : Nat) (vs : List Value) (h : Heap) : Prop := match vs with
  | [(.slice c0_1001 c0_1002 c0_1003), (.slice v3_1004 v3_1004l v3_1004c), (.int .i64 v4_1005)] => straitlaw03_floats.l0 (fun z6 z6l z6c h' => K 2 [(.slice z6 z6l z6c)] h') m c0_1001 c0_1002 c0_1003 v3_1004 v3_1004l v3_1004c v4_1005 h
  | _ => False
def straitlaw03_floats.loop (i : Nat) (vs : List Value) (h : Heap) (K : Nat → List Value → Heap → Prop) : Prop := match i with
  | 0 => ∃ m, straitlaw03_floats.r0 K m vs h
  | _ => False
noncomputable def straitlaw03_floats.ctx : Ctx := { P := Try.prog, call := fun _ _ _ _ => False, qcall := straitlaw03_floats.qcall, quiet := fun f => Nat.beq f 6, loop := straitlaw03_floats.loop }
theorem straitlaw03_floats.ok : straitlaw03_floats.ctx.OK where
  mixed := by kernel_rfl
  mono := fun hh _ => hh.elim
  call := fun hh => hh.elim
  qmono := by
    intro f args h K K' hh hk
    change straitlaw03_floats.qcall f args h K at hh
    change straitlaw03_floats.qcall f args h K'
    unfold straitlaw03_floats.qcall at hh ⊢
    split at hh
    · obtain ⟨x0, h1, h2⟩ := hh
      exact ⟨x0, h1, hk _ h2⟩
    · exact hh.elim
  qval := by
    intro f args h K hh
    change straitlaw03_floats.qcall f args h K at hh
    suffices H : ∃ v, K v ∧ straitlaw03_floats.qcall f args h (· = v) from H
    unfold straitlaw03_floats.qcall at hh ⊢
    split at hh
    · obtain ⟨x0, h1, h2⟩ := hh
      exact ⟨_, h2, x0, h1, rfl⟩
    · exact hh.elim
  qcall := by
    intro f args h v hh w hw
    change straitlaw03_floats.qcall f args h (· = v) at hh
    unfold straitlaw03_floats.qcall at hh
    split at hh
    · obtain ⟨x0, h1, h2⟩ := hh
      obtain ⟨g1, g2⟩ := fbit_Of.calls h1 w hw
      refine .inl ⟨g1, g2.mono fun e w' ⟨u, he, ho, hr⟩ => ?_⟩
      have hq := fbit_Of.ret_elim (K' := fun u h' => u = v ∧ h' = h) (fun _ h' hr => by obtain ⟨rfl, rfl⟩ := hr; exact ⟨h2, rfl⟩) hr
      exact ⟨hq.1 ▸ he, ho, hq.2⟩
    · exact hh.elim
noncomputable def straitlaw03_floats.code : Code := (Try.f11.body).getD .skip
def straitlaw03_floats.ann : Ann := (.two .auto (.two .auto (.two (.two .auto (.two (.loop 0 [0, 3, 4] [(2, [3])] .auto) .auto)) .auto)))
noncomputable def straitlaw03_floats.c0 : Code := sub straitlaw03_floats.code [1, 1, 0, 1, 0, 0]
def straitlaw03_floats.a0 : Ann := .auto
def straitlaw03_floats.keep0 : List Nat := [0, 3, 4]
def straitlaw03_floats.outs0 : List (Nat × List Nat) := [(2, [3])]
set_option maxRecDepth 100000 in
theorem straitlaw03_floats.L0 : LoopOK straitlaw03_floats.ctx 20 straitlaw03_floats.c0 0 straitlaw03_floats.keep0 straitlaw03_floats.outs0 := by
  refine loop_ok (n := straitlaw03_floats.a0) straitlaw03_floats.ok (by kernel_rfl) (loops_ok (l := []) (by kernel_rfl) ?_) straitlaw03_floats.r0 ?_ ?_ (fun vs h K hh => hh)
  · exact trivial
  · intro K vs h hh
    unfold straitlaw03_floats.r0 at hh
    split at hh
    · exact hh
    · exact hh
  · intro K m vs h hh
    unfold straitlaw03_floats.r0 at hh
    split at hh
    · exact cast (by kernel_rfl) hh
    · exact hh.elim
set_option maxRecDepth 100000 in
theorem straitlaw03_floats.eq (a1 : Option Addr) (a1l : Nat) (a1c : Nat) (h : Heap) (K : (Option Addr) → Nat → Nat → Heap → Prop) : evF straitlaw03_floats.ctx Try.f11 straitlaw03_floats.ann [(.slice a1 a1l a1c)] h (straitlaw03_floats.ret K) = straitlaw03_floats a1 a1l a1c h K := by kernel_rfl
set_option maxRecDepth 100000 in
theorem straitlaw03_floats.calls {a1 : Option Addr} {a1l : Nat} {a1c : Nat} {h : Heap} {K : (Option Addr) → Nat → Nat → Heap → Prop} (hh : straitlaw03_floats a1 a1l a1c h K) (w : World) (hw : w.heap = h) :
    (callFunc 11 #[(.slice a1 a1l a1c)]).run Try.prog w = .ok (.enter 11 #[(.slice a1 a1l a1c)]) w ∧ Calls Try.prog 11 #[(.slice a1 a1l a1c)] w fun e w' => ∃ v, e = .returned v ∧ Out w w' ∧ straitlaw03_floats.ret K v w'.heap := by
  rw [← straitlaw03_floats.eq] at hh
  exact fn_calls (args := [(.slice a1 a1l a1c)]) (c := straitlaw03_floats.code) straitlaw03_floats.ok Try.func11 (by kernel_rfl) (by kernel_rfl) (by kernel_rfl) (by kernel_rfl) (loops_ok (l := [(straitlaw03_floats.c0, none, 0, straitlaw03_floats.keep0, straitlaw03_floats.outs0)]) (by kernel_rfl) ⟨straitlaw03_floats.L0, trivial⟩) hh w hw

/-! ### strait/straitref02.Bits: function 15 -/
def straitref02_Bits (a1 : Int) (h : Heap) (K : Int → Heap → Prop) : Prop :=
  (qcallP1 h (straitref02_Kind a1 h) fun x2 => (iteB (x2 == (0 : Int)) (K 9221120237041090560 h) (K a1 h)))
def straitref02_Bits.ret (K : Int → Heap → Prop) (v : Value) (h : Heap) : Prop := match v with
  | (.int .u64 r3) => K r3 h
  | _ => False
theorem straitref02_Bits.ret_elim {K : Int → Heap → Prop} {K' : Value → Heap → Prop} {v : Value} {h : Heap} (hk : ∀ r3 h, K r3 h → K' (.int .u64 r3) h) (hh : straitref02_Bits.ret K v h) : K' v h := by
  unfold straitref02_Bits.ret at hh
  split at hh
  · exact hk _ _ hh
  · exact hh.elim
def straitref02_Bits.qcall (f : FuncId) (vs : List Value) (h : Heap) (K : Value → Prop) : Prop := match f, vs with
  | 30, [(.int .u64 a1)] => qcallP1 h (straitref02_Kind a1 h) fun r9 => K (.int .i64 r9)
  | _, _ => False
noncomputable def straitref02_Bits.ctx : Ctx := { P := Try.prog, call := fun _ _ _ _ => False, qcall := straitref02_Bits.qcall, quiet := fun f => Nat.beq f 30, loop := fun _ _ _ _ => False }
theorem straitref02_Bits.ok : straitref02_Bits.ctx.OK where
  mixed := by kernel_rfl
  mono := fun hh _ => hh.elim
  call := fun hh => hh.elim
  qmono := by
    intro f args h K K' hh hk
    change straitref02_Bits.qcall f args h K at hh
    change straitref02_Bits.qcall f args h K'
    unfold straitref02_Bits.qcall at hh ⊢
    split at hh
    · obtain ⟨x0, h1, h2⟩ := hh
      exact ⟨x0, h1, hk _ h2⟩
    · exact hh.elim
  qval := by
    intro f args h K hh
    change straitref02_Bits.qcall f args h K at hh
    suffices H : ∃ v, K v ∧ straitref02_Bits.qcall f args h (· = v) from H
    unfold straitref02_Bits.qcall at hh ⊢
    split at hh
    · obtain ⟨x0, h1, h2⟩ := hh
      exact ⟨_, h2, x0, h1, rfl⟩
    · exact hh.elim
  qcall := by
    intro f args h v hh w hw
    change straitref02_Bits.qcall f args h (· = v) at hh
    unfold straitref02_Bits.qcall at hh
    split at hh
    · obtain ⟨x0, h1, h2⟩ := hh
      obtain ⟨g1, g2⟩ := straitref02_Kind.calls h1 w hw
      refine .inl ⟨g1, g2.mono fun e w' ⟨u, he, ho, hr⟩ => ?_⟩
      have hq := straitref02_Kind.ret_elim (K' := fun u h' => u = v ∧ h' = h) (fun _ h' hr => by obtain ⟨rfl, rfl⟩ := hr; exact ⟨h2, rfl⟩) hr
      exact ⟨hq.1 ▸ he, ho, hq.2⟩
    · exact hh.elim
noncomputable def straitref02_Bits.code : Code := (Try.f15.body).getD .skip
def straitref02_Bits.ann : Ann := .auto
set_option maxRecDepth 100000 in
theorem straitref02_Bits.eq (a1 : Int) (h : Heap) (K : Int → Heap → Prop) : evF straitref02_Bits.ctx Try.f15 straitref02_Bits.ann [(.int .u64 a1)] h (straitref02_Bits.ret K) = straitref02_Bits a1 h K := by kernel_rfl
set_option maxRecDepth 100000 in
theorem straitref02_Bits.calls {a1 : Int} {h : Heap} {K : Int → Heap → Prop} (hh : straitref02_Bits a1 h K) (w : World) (hw : w.heap = h) :
    (callFunc 15 #[(.int .u64 a1)]).run Try.prog w = .ok (.enter 15 #[(.int .u64 a1)]) w ∧ Calls Try.prog 15 #[(.int .u64 a1)] w fun e w' => ∃ v, e = .returned v ∧ Out w w' ∧ straitref02_Bits.ret K v w'.heap := by
  rw [← straitref02_Bits.eq] at hh
  exact fn_calls (args := [(.int .u64 a1)]) (c := straitref02_Bits.code) straitref02_Bits.ok Try.func15 (by kernel_rfl) (by kernel_rfl) (by kernel_rfl) (by kernel_rfl) (loops_ok (l := []) (by kernel_rfl) trivial) hh w hw

/-! ### strait/straitref03.Sort: function 13 -/
def straitref03_Sort.b1 (K4 : Int → Heap → Prop) (cont : (Option Addr) → Nat → Nat → (Option Addr) → Nat → Nat → Int → Int → Int → Heap → Prop) (c0_2001 : Option Addr) (c0_2002 : Nat) (c0_2003 : Nat) (c3_2004 : Option Addr) (c3_2005 : Nat) (c3_2006 : Nat) (c4_2007 : Int) (v5_2008 : Int) (v6_2009 : Int) (h2010 : Heap) : Prop :=
  (iteB (decide (v6_2009 ≥ (0 : Int))) ((chkP c0_2001 fun a2011 => (0 ≤ c4_2007 ∧ c4_2007 < (c0_2002 : Int)) ∧ ∃ (x2012 : Int), cell h2010 (a2011.add (c4_2007.toNat * 1)) = some (.int .u64 x2012) ∧ chkP c3_2004 fun a2013 => (0 ≤ v6_2009 ∧ v6_2009 < (c3_2005 : Int)) ∧ ∃ (x2014 : Int), cell h2010 (a2013.add (v6_2009.toNat * 1)) = some (.int .u64 x2014) ∧ qcallP1 h2010 (straitref03_Cmp x2012 x2014 h2010) fun x2015 => (iteB (decide (x2015 < (0 : Int))) (((cont c0_2001 c0_2002 c0_2003 c3_2004 c3_2005 c3_2006 c4_2007 v6_2009 (IntKind.i64.wrap (v6_2009 - 1)) h2010))) (((cont c0_2001 c0_2002 c0_2003 c3_2004 c3_2005 c3_2006 c4_2007 v5_2008 (IntKind.i64.wrap (v6_2009 - 1)) h2010)))))) (K4 v5_2008 h2010))
def straitref03_Sort.l1 (K4 : Int → Heap → Prop) : Nat → (Option Addr) → Nat → Nat → (Option Addr) → Nat → Nat → Int → Int → Int → Heap → Prop
  | 0, _, _, _, _, _, _, _, _, _, _ => False
  | m + 1, c0_2001, c0_2002, c0_2003, c3_2004, c3_2005, c3_2006, c4_2007, v5_2008, v6_2009, h => straitref03_Sort.b1 K4 (straitref03_Sort.l1 K4 m) c0_2001 c0_2002 c0_2003 c3_2004 c3_2005 c3_2006 c4_2007 v5_2008 v6_2009 h
def straitref03_Sort.b0 (K2 : (Option Addr) → Nat → Nat → Heap → Prop) (cont : (Option Addr) → Nat → Nat → (Option Addr) → Nat → Nat → Int → Heap → Prop) (c0_1001 : Option Addr) (c0_1002 : Nat) (c0_1003 : Nat) (v3_1004 : Option Addr) (v3_1004l : Nat) (v3_1004c : Nat) (v4_1005 : Int) (h1006 : Heap) : Prop :=
  (iteB (decide (v4_1005 < (c0_1002 : Int))) ((((∃ m1009, straitref03_Sort.l1 (fun z1007 h1008 => ((((0 ≤ z1007 ∧ z1007 ≤ (v3_1004c : Int)) ∧ ∃ n1014, cellsAt h1008 (if v3_1004c = 0 then v3_1004 else v3_1004.map (·.add (0 * 1))) (z1007.toNat * 1) n1014 ∧ appP 22 1 8 [(.int .u64 0)] none 0 0 z1007.toNat n1014 h1008 fun q1010 l1011 c1012 h1013 => (chkP c0_1001 fun a1015 => (0 ≤ v4_1005 ∧ v4_1005 < (c0_1002 : Int)) ∧ ∃ (x1016 : Int), cell h1013 (a1015.add (v4_1005.toNat * 1)) = some (.int .u64 x1016) ∧ qcallP1 h1013 (straitref02_Bits x1016 h1013) fun x1017 => newP h1013 (.cells #[(.int .u64 x1017)] 22) fun a1018 h1019 => ∃ n1024, cellsAt h1019 (some a1018) (1 * 1) n1024 ∧ appP 22 1 8 [(.int .u64 0)] q1010 l1011 c1012 1 n1024 h1019 fun q1020 l1021 c1022 h1023 => ((0 ≤ z1007 ∧ z1007 ≤ (v3_1004l : Int)) ∧ ∃ n1029, cellsAt h1023 (if v3_1004c = z1007.toNat then v3_1004 else v3_1004.map (·.add (z1007.toNat * 1))) ((v3_1004l - z1007.toNat) * 1) n1029 ∧ appP 22 1 8 [(.int .u64 0)] q1020 l1021 c1022 (v3_1004l - z1007.toNat) n1029 h1023 fun q1025 l1026 c1027 h1028 => ((cont c0_1001 c0_1002 c0_1003 q1025 l1026 c1027 (IntKind.i64.wrap (v4_1005 + 1)) h1028)))))))) m1009 c0_1001 c0_1002 c0_1003 v3_1004 v3_1004l v3_1004c v4_1005 (v3_1004l : Int) (IntKind.i64.wrap ((v3_1004l : Int) - 1)) h1006)))) (K2 v3_1004 v3_1004l v3_1004c h1006))
def straitref03_Sort.l0 (K2 : (Option Addr) → Nat → Nat → Heap → Prop) : Nat → (Option Addr) → Nat → Nat → (Option Addr) → Nat → Nat → Int → Heap → Prop
  | 0, _, _, _, _, _, _, _, _ => False
  | m + 1, c0_1001, c0_1002, c0_1003, v3_1004, v3_1004l, v3_1004c, v4_1005, h => straitref03_Sort.b0 K2 (straitref03_Sort.l0 K2 m) c0_1001 c0_1002 c0_1003 v3_1004 v3_1004l v3_1004c v4_1005 h
def straitref03_Sort (a1 : Option Addr) (a1l : Nat) (a1c : Nat) (h : Heap) (K : (Option Addr) → Nat → Nat → Heap → Prop) : Prop :=
  (((∃ m4, straitref03_Sort.l0 (fun z2 z2l z2c h3 => (K z2 z2l z2c h3)) m4 a1 a1l a1c none 0 0 0 h)))
def straitref03_Sort.ret (K : (Option Addr) → Nat → Nat → Heap → Prop) (v : Value) (h : Heap) : Prop := match v with
  | (.slice r5 r5l r5c) => K r5 r5l r5c h
  | _ => False
theorem straitref03_Sort.ret_elim {K : (Option Addr) → Nat → Nat → Heap → Prop} {K' : Value → Heap → Prop} {v : Value} {h : Heap} (hk : ∀ r5 r5l r5c h, K r5 r5l r5c h → K' (.slice r5 r5l r5c) h) (hh : straitref03_Sort.ret K v h) : K' v h := by
  unfold straitref03_Sort.ret at hh
  split at hh
  · exact hk _ _ _ _ hh
  · exact hh.elim
def straitref03_Sort.qcall (f : FuncId) (vs : List Value) (h : Heap) (K : Value → Prop) : Prop := match f, vs with
  | 8, [(.int .u64 a1), (.int .u64 a2)] => qcallP1 h (straitref03_Cmp a1 a2 h) fun r5 => K (.int .i64 r5)
  | 15, [(.int .u64 a1)] => qcallP1 h (straitref02_Bits a1 h) fun r3 => K (.int .u64 r3)
  | _, _ => False
def straitref03_Sort.r0 (K : Nat → List Value → Heap → Prop) (m : Nat) (vs : List Value) (h : Heap) : Prop := match vs with
  | [(.slice c0_1001 c0_1002 c0_1003), (.slice v3_1004 v3_1004l v3_1004c), (.int .i64 v4_1005)] => straitref03_Sort.l0 (fun z6 z6l z6c h' => K 2 [(.slice z6 z6l z6c)] h') m c0_1001 c0_1002 c0_1003 v3_1004 v3_1004l v3_1004c v4_1005 h
  | _ => False
def straitref03_Sort.r1 (K : Nat → List Value → Heap → Prop) (m : Nat) (vs : List Value) (h : Heap) : Prop := match vs with
  | [(.slice c0_2001 c0_2002 c0_2003), (.slice c3_2004 c3_2005 c3_2006), (.int .i64 c4_2007), (.int .i64 v5_2008), (.int .i64 v6_2009)] => straitref03_Sort.l1 (fun z7 h' => K 4 [(.slice c0_2001 c0_2002 c0_2003), (.slice c3_2004 c3_2005 c3_2006), (.int .i64 c4_2007), (.int .i64 z7)] h') m c0_2001 c0_2002 c0_2003 c3_2004 c3_2005 c3_2006 c4_2007 v5_2008 v6_2009 h
  | _ => False
def straitref03_Sort.loop (i : Nat) (vs : List Value) (h : Heap) (K : Nat → List Value → Heap → Prop) : Prop := match i with
  | 0 => ∃ m, straitref03_Sort.r0 K m vs h
  | 1 => ∃ m, straitref03_Sort.r1 K m vs h
  | _ => False
noncomputable def straitref03_Sort.ctx : Ctx := { P := Try.prog, call := fun _ _ _ _ => False, qcall := straitref03_Sort.qcall, quiet := fun f => Nat.beq f 8 || Nat.beq f 15, loop := straitref03_Sort.loop }
theorem straitref03_Sort.ok : straitref03_Sort.ctx.OK where
  mixed := by kernel_rfl
  mono := fun hh _ => hh.elim
  call := fun hh => hh.elim
  qmono := by
    intro f args h K K' hh hk
    change straitref03_Sort.qcall f args h K at hh
    change straitref03_Sort.qcall f args h K'
    unfold straitref03_Sort.qcall at hh ⊢
    split at hh
    · obtain ⟨x0, h1, h2⟩ := hh
      exact ⟨x0, h1, hk _ h2⟩
    · obtain ⟨x0, h1, h2⟩ := hh
      exact ⟨x0, h1, hk _ h2⟩
    · exact hh.elim
  qval := by
    intro f args h K hh
    change straitref03_Sort.qcall f args h K at hh
    suffices H : ∃ v, K v ∧ straitref03_Sort.qcall f args h (· = v) from H
    unfold straitref03_Sort.qcall at hh ⊢
    split at hh
    · obtain ⟨x0, h1, h2⟩ := hh
      exact ⟨_, h2, x0, h1, rfl⟩
    · obtain ⟨x0, h1, h2⟩ := hh
      exact ⟨_, h2, x0, h1, rfl⟩
    · exact hh.elim
  qcall := by
    intro f args h v hh w hw
    change straitref03_Sort.qcall f args h (· = v) at hh
    unfold straitref03_Sort.qcall at hh
    split at hh
    · obtain ⟨x0, h1, h2⟩ := hh
      obtain ⟨g1, g2⟩ := straitref03_Cmp.calls h1 w hw
      refine .inl ⟨g1, g2.mono fun e w' ⟨u, he, ho, hr⟩ => ?_⟩
      have hq := straitref03_Cmp.ret_elim (K' := fun u h' => u = v ∧ h' = h) (fun _ h' hr => by obtain ⟨rfl, rfl⟩ := hr; exact ⟨h2, rfl⟩) hr
      exact ⟨hq.1 ▸ he, ho, hq.2⟩
    · obtain ⟨x0, h1, h2⟩ := hh
      obtain ⟨g1, g2⟩ := straitref02_Bits.calls h1 w hw
      refine .inl ⟨g1, g2.mono fun e w' ⟨u, he, ho, hr⟩ => ?_⟩
      have hq := straitref02_Bits.ret_elim (K' := fun u h' => u = v ∧ h' = h) (fun _ h' hr => by obtain ⟨rfl, rfl⟩ := hr; exact ⟨h2, rfl⟩) hr
      exact ⟨hq.1 ▸ he, ho, hq.2⟩
    · exact hh.elim
noncomputable def straitref03_Sort.code : Code := (Try.f13.body).getD .skip
def straitref03_Sort.ann : Ann := (.two .auto (.two .auto (.two (.two .auto (.two (.loop 0 [0, 3, 4] [(2, [3])] (.two .auto (.two (.two (.two .auto (.two (.two .auto (.two (.loop 1 [0, 3, 4, 5, 6] [(4, [0, 3, 4, 5])] (.two .auto (.two (.two (.two (.reg [0, 0, 3, 7, 0, 0, 48, 112, 255, 511] (.take 0 (.take 1 (.take 2 (.take 3 (.take 4 (.take 5 (.take 6 (.take 7 (.take 8 (.take 9 .done))))))))))) .auto) .auto) .auto))) .auto)) .auto)) .auto) .auto))) .auto)) .auto)))
noncomputable def straitref03_Sort.c1 : Code := sub straitref03_Sort.code [1, 1, 0, 1, 0, 0, 1, 0, 0, 1, 0, 1, 0, 0]
def straitref03_Sort.a1 : Ann := (.two .auto (.two (.two (.two (.reg [0, 0, 3, 7, 0, 0, 48, 112, 255, 511] (.take 0 (.take 1 (.take 2 (.take 3 (.take 4 (.take 5 (.take 6 (.take 7 (.take 8 (.take 9 .done))))))))))) .auto) .auto) .auto))
def straitref03_Sort.keep1 : List Nat := [0, 3, 4, 5, 6]
def straitref03_Sort.outs1 : List (Nat × List Nat) := [(4, [0, 3, 4, 5])]
noncomputable def straitref03_Sort.c0 : Code := sub straitref03_Sort.code [1, 1, 0, 1, 0, 0]
def straitref03_Sort.a0 : Ann := (.two .auto (.two (.two (.two .auto (.two (.two .auto (.two (.loop 1 [0, 3, 4, 5, 6] [(4, [0, 3, 4, 5])] (.two .auto (.two (.two (.two (.reg [0, 0, 3, 7, 0, 0, 48, 112, 255, 511] (.take 0 (.take 1 (.take 2 (.take 3 (.take 4 (.take 5 (.take 6 (.take 7 (.take 8 (.take 9 .done))))))))))) .auto) .auto) .auto))) .auto)) .auto)) .auto) .auto))
def straitref03_Sort.keep0 : List Nat := [0, 3, 4]
def straitref03_Sort.outs0 : List (Nat × List Nat) := [(2, [3])]
set_option maxRecDepth 100000 in
theorem straitref03_Sort.L1 : LoopOK straitref03_Sort.ctx 53 straitref03_Sort.c1 1 straitref03_Sort.keep1 straitref03_Sort.outs1 := by
  refine loop_ok (n := straitref03_Sort.a1) straitref03_Sort.ok (by kernel_rfl) (loops_ok (l := []) (by kernel_rfl) ?_) straitref03_Sort.r1 ?_ ?_ (fun vs h K hh => hh)
  · exact trivial
  · intro K vs h hh
    unfold straitref03_Sort.r1 at hh
    split at hh
    · exact hh
    · exact hh
  · intro K m vs h hh
    unfold straitref03_Sort.r1 at hh
    split at hh
    · exact cast (by kernel_rfl) hh
    · exact hh.elim
set_option maxRecDepth 100000 in
theorem straitref03_Sort.L0 : LoopOK straitref03_Sort.ctx 53 straitref03_Sort.c0 0 straitref03_Sort.keep0 straitref03_Sort.outs0 := by
  refine loop_ok (n := straitref03_Sort.a0) straitref03_Sort.ok (by kernel_rfl) (loops_ok (l := [(straitref03_Sort.c1, none, 1, straitref03_Sort.keep1, straitref03_Sort.outs1)]) (by kernel_rfl) ?_) straitref03_Sort.r0 ?_ ?_ (fun vs h K hh => hh)
  · exact ⟨straitref03_Sort.L1, trivial⟩
  · intro K vs h hh
    unfold straitref03_Sort.r0 at hh
    split at hh
    · exact hh
    · exact hh
  · intro K m vs h hh
    unfold straitref03_Sort.r0 at hh
    split at hh
    · exact cast (by kernel_rfl) hh
    · exact hh.elim
set_option maxRecDepth 100000 in
theorem straitref03_Sort.eq (a1 : Option Addr) (a1l : Nat) (a1c : Nat) (h : Heap) (K : (Option Addr) → Nat → Nat → Heap → Prop) : evF straitref03_Sort.ctx Try.f13 straitref03_Sort.ann [(.slice a1 a1l a1c)] h (straitref03_Sort.ret K) = straitref03_Sort a1 a1l a1c h K := by kernel_rfl
set_option maxRecDepth 100000 in
theorem straitref03_Sort.calls {a1 : Option Addr} {a1l : Nat} {a1c : Nat} {h : Heap} {K : (Option Addr) → Nat → Nat → Heap → Prop} (hh : straitref03_Sort a1 a1l a1c h K) (w : World) (hw : w.heap = h) :
    (callFunc 13 #[(.slice a1 a1l a1c)]).run Try.prog w = .ok (.enter 13 #[(.slice a1 a1l a1c)]) w ∧ Calls Try.prog 13 #[(.slice a1 a1l a1c)] w fun e w' => ∃ v, e = .returned v ∧ Out w w' ∧ straitref03_Sort.ret K v w'.heap := by
  rw [← straitref03_Sort.eq] at hh
  exact fn_calls (args := [(.slice a1 a1l a1c)]) (c := straitref03_Sort.code) straitref03_Sort.ok Try.func13 (by kernel_rfl) (by kernel_rfl) (by kernel_rfl) (by kernel_rfl) (loops_ok (l := [(straitref03_Sort.c0, none, 0, straitref03_Sort.keep0, straitref03_Sort.outs0)]) (by kernel_rfl) ⟨straitref03_Sort.L0, trivial⟩) hh w hw

/-! ### strait/straitref03.Least: function 17 -/
def straitref03_Least.b0 (K2 : Int → Heap → Prop) (cont : (Option Addr) → Nat → Nat → Int → Int → Heap → Prop) (c0_1001 : Option Addr) (c0_1002 : Nat) (c0_1003 : Nat) (v3_1004 : Int) (v4_1005 : Int) (h1006 : Heap) : Prop :=
  (iteB (decide (v4_1005 < (c0_1002 : Int))) ((iteB (decide (v3_1004 < (0 : Int))) ((((cont c0_1001 c0_1002 c0_1003 v4_1005 (IntKind.i64.wrap (v4_1005 + 1)) h1006)))) (chkP c0_1001 fun a1007 => (0 ≤ v4_1005 ∧ v4_1005 < (c0_1002 : Int)) ∧ ∃ (x1008 : Int), cell h1006 (a1007.add (v4_1005.toNat * 1)) = some (.int .u64 x1008) ∧ chkP c0_1001 fun a1009 => (0 ≤ v3_1004 ∧ v3_1004 < (c0_1002 : Int)) ∧ ∃ (x1010 : Int), cell h1006 (a1009.add (v3_1004.toNat * 1)) = some (.int .u64 x1010) ∧ qcallP1 h1006 (straitref03_Cmp x1008 x1010 h1006) fun x1011 => (iteB (decide (x1011 < (0 : Int))) (((cont c0_1001 c0_1002 c0_1003 v4_1005 (IntKind.i64.wrap (v4_1005 + 1)) h1006))) (((cont c0_1001 c0_1002 c0_1003 v3_1004 (IntKind.i64.wrap (v4_1005 + 1)) h1006))))))) (K2 v3_1004 h1006))
def straitref03_Least.l0 (K2 : Int → Heap → Prop) : Nat → (Option Addr) → Nat → Nat → Int → Int → Heap → Prop
  | 0, _, _, _, _, _, _ => False
  | m + 1, c0_1001, c0_1002, c0_1003, v3_1004, v4_1005, h => straitref03_Least.b0 K2 (straitref03_Least.l0 K2 m) c0_1001 c0_1002 c0_1003 v3_1004 v4_1005 h
def straitref03_Least (a1 : Option Addr) (a1l : Nat) (a1c : Nat) (h : Heap) (K : Int → Heap → Prop) : Prop :=
  (((∃ m4, straitref03_Least.l0 (fun z2 h3 => (K z2 h3)) m4 a1 a1l a1c (-1) 0 h)))
def straitref03_Least.ret (K : Int → Heap → Prop) (v : Value) (h : Heap) : Prop := match v with
  | (.int .i64 r5) => K r5 h
  | _ => False
theorem straitref03_Least.ret_elim {K : Int → Heap → Prop} {K' : Value → Heap → Prop} {v : Value} {h : Heap} (hk : ∀ r5 h, K r5 h → K' (.int .i64 r5) h) (hh : straitref03_Least.ret K v h) : K' v h := by
  unfold straitref03_Least.ret at hh
  split at hh
  · exact hk _ _ hh
  · exact hh.elim
def straitref03_Least.qcall (f : FuncId) (vs : List Value) (h : Heap) (K : Value → Prop) : Prop := match f, vs with
  | 8, [(.int .u64 a1), (.int .u64 a2)] => qcallP1 h (straitref03_Cmp a1 a2 h) fun r5 => K (.int .i64 r5)
  | _, _ => False
def straitref03_Least.r0 (K : Nat → List Value → Heap → Prop) (m : Nat) (vs : List Value) (h : Heap) : Prop := match vs with
  | [(.slice c0_1001 c0_1002 c0_1003), (.int .i64 v3_1004), (.int .i64 v4_1005)] => straitref03_Least.l0 (fun z6 h' => K 2 [(.int .i64 z6)] h') m c0_1001 c0_1002 c0_1003 v3_1004 v4_1005 h
  | _ => False
def straitref03_Least.loop (i : Nat) (vs : List Value) (h : Heap) (K : Nat → List Value → Heap → Prop) : Prop := match i with
  | 0 => ∃ m, straitref03_Least.r0 K m vs h
  | _ => False
noncomputable def straitref03_Least.ctx : Ctx := { P := Try.prog, call := fun _ _ _ _ => False, qcall := straitref03_Least.qcall, quiet := fun f => Nat.beq f 8, loop := straitref03_Least.loop }
theorem straitref03_Least.ok : straitref03_Least.ctx.OK where
  mixed := by kernel_rfl
  mono := fun hh _ => hh.elim
  call := fun hh => hh.elim
  qmono := by
    intro f args h K K' hh hk
    change straitref03_Least.qcall f args h K at hh
    change straitref03_Least.qcall f args h K'
    unfold straitref03_Least.qcall at hh ⊢
    split at hh
    · obtain ⟨x0, h1, h2⟩ := hh
      exact ⟨x0, h1, hk _ h2⟩
    · exact hh.elim
  qval := by
    intro f args h K hh
    change straitref03_Least.qcall f args h K at hh
    suffices H : ∃ v, K v ∧ straitref03_Least.qcall f args h (· = v) from H
    unfold straitref03_Least.qcall at hh ⊢
    split at hh
    · obtain ⟨x0, h1, h2⟩ := hh
      exact ⟨_, h2, x0, h1, rfl⟩
    · exact hh.elim
  qcall := by
    intro f args h v hh w hw
    change straitref03_Least.qcall f args h (· = v) at hh
    unfold straitref03_Least.qcall at hh
    split at hh
    · obtain ⟨x0, h1, h2⟩ := hh
      obtain ⟨g1, g2⟩ := straitref03_Cmp.calls h1 w hw
      refine .inl ⟨g1, g2.mono fun e w' ⟨u, he, ho, hr⟩ => ?_⟩
      have hq := straitref03_Cmp.ret_elim (K' := fun u h' => u = v ∧ h' = h) (fun _ h' hr => by obtain ⟨rfl, rfl⟩ := hr; exact ⟨h2, rfl⟩) hr
      exact ⟨hq.1 ▸ he, ho, hq.2⟩
    · exact hh.elim
noncomputable def straitref03_Least.code : Code := (Try.f17.body).getD .skip
def straitref03_Least.ann : Ann := (.two .auto (.two .auto (.two (.two .auto (.two (.loop 0 [0, 3, 4] [(2, [3])] (.two .auto (.two (.two (.two (.reg [0, 1, 3, 7, 7, 31, 63, 7, 7, 391, 903, 2047, 4095, 8191] (.take 0 (.take 1 (.take 2 (.take 3 (.take 4 (.take 5 (.take 6 (.take 7 (.take 8 (.take 9 (.take 10 (.take 11 (.take 12 (.take 13 .done))))))))))))))) .auto) .auto) .auto))) .auto)) .auto)))
noncomputable def straitref03_Least.c0 : Code := sub straitref03_Least.code [1, 1, 0, 1, 0, 0]
def straitref03_Least.a0 : Ann := (.two .auto (.two (.two (.two (.reg [0, 1, 3, 7, 7, 31, 63, 7, 7, 391, 903, 2047, 4095, 8191] (.take 0 (.take 1 (.take 2 (.take 3 (.take 4 (.take 5 (.take 6 (.take 7 (.take 8 (.take 9 (.take 10 (.take 11 (.take 12 (.take 13 .done))))))))))))))) .auto) .auto) .auto))
def straitref03_Least.keep0 : List Nat := [0, 3, 4]
def straitref03_Least.outs0 : List (Nat × List Nat) := [(2, [3])]
set_option maxRecDepth 100000 in
theorem straitref03_Least.L0 : LoopOK straitref03_Least.ctx 27 straitref03_Least.c0 0 straitref03_Least.keep0 straitref03_Least.outs0 := by
  refine loop_ok (n := straitref03_Least.a0) straitref03_Least.ok (by kernel_rfl) (loops_ok (l := []) (by kernel_rfl) ?_) straitref03_Least.r0 ?_ ?_ (fun vs h K hh => hh)
  · exact trivial
  · intro K vs h hh
    unfold straitref03_Least.r0 at hh
    split at hh
    · exact hh
    · exact hh
  · intro K m vs h hh
    unfold straitref03_Least.r0 at hh
    split at hh
    · exact cast (by kernel_rfl) hh
    · exact hh.elim
set_option maxRecDepth 100000 in
theorem straitref03_Least.eq (a1 : Option Addr) (a1l : Nat) (a1c : Nat) (h : Heap) (K : Int → Heap → Prop) : evF straitref03_Least.ctx Try.f17 straitref03_Least.ann [(.slice a1 a1l a1c)] h (straitref03_Least.ret K) = straitref03_Least a1 a1l a1c h K := by kernel_rfl
set_option maxRecDepth 100000 in
theorem straitref03_Least.calls {a1 : Option Addr} {a1l : Nat} {a1c : Nat} {h : Heap} {K : Int → Heap → Prop} (hh : straitref03_Least a1 a1l a1c h K) (w : World) (hw : w.heap = h) :
    (callFunc 17 #[(.slice a1 a1l a1c)]).run Try.prog w = .ok (.enter 17 #[(.slice a1 a1l a1c)]) w ∧ Calls Try.prog 17 #[(.slice a1 a1l a1c)] w fun e w' => ∃ v, e = .returned v ∧ Out w w' ∧ straitref03_Least.ret K v w'.heap := by
  rw [← straitref03_Least.eq] at hh
  exact fn_calls (args := [(.slice a1 a1l a1c)]) (c := straitref03_Least.code) straitref03_Least.ok Try.func17 (by kernel_rfl) (by kernel_rfl) (by kernel_rfl) (by kernel_rfl) (loops_ok (l := [(straitref03_Least.c0, none, 0, straitref03_Least.keep0, straitref03_Least.outs0)]) (by kernel_rfl) ⟨straitref03_Least.L0, trivial⟩) hh w hw

/-! ### strait/straitref03.Most: function 19 -/
def straitref03_Most.b0 (K2 : Int → Heap → Prop) (cont : (Option Addr) → Nat → Nat → Int → Int → Heap → Prop) (c0_1001 : Option Addr) (c0_1002 : Nat) (c0_1003 : Nat) (v3_1004 : Int) (v4_1005 : Int) (h1006 : Heap) : Prop :=
  (iteB (decide (v4_1005 < (c0_1002 : Int))) ((iteB (decide (v3_1004 < (0 : Int))) ((((cont c0_1001 c0_1002 c0_1003 v4_1005 (IntKind.i64.wrap (v4_1005 + 1)) h1006)))) (chkP c0_1001 fun a1007 => (0 ≤ v4_1005 ∧ v4_1005 < (c0_1002 : Int)) ∧ ∃ (x1008 : Int), cell h1006 (a1007.add (v4_1005.toNat * 1)) = some (.int .u64 x1008) ∧ chkP c0_1001 fun a1009 => (0 ≤ v3_1004 ∧ v3_1004 < (c0_1002 : Int)) ∧ ∃ (x1010 : Int), cell h1006 (a1009.add (v3_1004.toNat * 1)) = some (.int .u64 x1010) ∧ qcallP1 h1006 (straitref03_Cmp x1008 x1010 h1006) fun x1011 => (iteB (decide (x1011 > (0 : Int))) (((cont c0_1001 c0_1002 c0_1003 v4_1005 (IntKind.i64.wrap (v4_1005 + 1)) h1006))) (((cont c0_1001 c0_1002 c0_1003 v3_1004 (IntKind.i64.wrap (v4_1005 + 1)) h1006))))))) (K2 v3_1004 h1006))
def straitref03_Most.l0 (K2 : Int → Heap → Prop) : Nat → (Option Addr) → Nat → Nat → Int → Int → Heap → Prop
  | 0, _, _, _, _, _, _ => False
  | m + 1, c0_1001, c0_1002, c0_1003, v3_1004, v4_1005, h => straitref03_Most.b0 K2 (straitref03_Most.l0 K2 m) c0_1001 c0_1002 c0_1003 v3_1004 v4_1005 h
def straitref03_Most (a1 : Option Addr) (a1l : Nat) (a1c : Nat) (h : Heap) (K : Int → Heap → Prop) : Prop :=
  (((∃ m4, straitref03_Most.l0 (fun z2 h3 => (K z2 h3)) m4 a1 a1l a1c (-1) 0 h)))
def straitref03_Most.ret (K : Int → Heap → Prop) (v : Value) (h : Heap) : Prop := match v with
  | (.int .i64 r5) => K r5 h
  | _ => False
theorem straitref03_Most.ret_elim {K : Int → Heap → Prop} {K' : Value → Heap → Prop} {v : Value} {h : Heap} (hk : ∀ r5 h, K r5 h → K' (.int .i64 r5) h) (hh : straitref03_Most.ret K v h) : K' v h := by
  unfold straitref03_Most.ret at hh
  split at hh
  · exact hk _ _ hh
  · exact hh.elim
def straitref03_Most.qcall (f : FuncId) (vs : List Value) (h : Heap) (K : Value → Prop) : Prop := match f, vs with
  | 8, [(.int .u64 a1), (.int .u64 a2)] => qcallP1 h (straitref03_Cmp a1 a2 h) fun r5 => K (.int .i64 r5)
  | _, _ => False
def straitref03_Most.r0 (K : Nat → List Value → Heap → Prop) (m : Nat) (vs : List Value) (h : Heap) : Prop := match vs with
  | [(.slice c0_1001 c0_1002 c0_1003), (.int .i64 v3_1004), (.int .i64 v4_1005)] => straitref03_Most.l0 (fun z6 h' => K 2 [(.int .i64 z6)] h') m c0_1001 c0_1002 c0_1003 v3_1004 v4_1005 h
  | _ => False
def straitref03_Most.loop (i : Nat) (vs : List Value) (h : Heap) (K : Nat → List Value → Heap → Prop) : Prop := match i with
  | 0 => ∃ m, straitref03_Most.r0 K m vs h
  | _ => False
noncomputable def straitref03_Most.ctx : Ctx := { P := Try.prog, call := fun _ _ _ _ => False, qcall := straitref03_Most.qcall, quiet := fun f => Nat.beq f 8, loop := straitref03_Most.loop }
theorem straitref03_Most.ok : straitref03_Most.ctx.OK where
  mixed := by kernel_rfl
  mono := fun hh _ => hh.elim
  call := fun hh => hh.elim
  qmono := by
    intro f args h K K' hh hk
    change straitref03_Most.qcall f args h K at hh
    change straitref03_Most.qcall f args h K'
    unfold straitref03_Most.qcall at hh ⊢
    split at hh
    · obtain ⟨x0, h1, h2⟩ := hh
      exact ⟨x0, h1, hk _ h2⟩
    · exact hh.elim
  qval := by
    intro f args h K hh
    change straitref03_Most.qcall f args h K at hh
    suffices H : ∃ v, K v ∧ straitref03_Most.qcall f args h (· = v) from H
    unfold straitref03_Most.qcall at hh ⊢
    split at hh
    · obtain ⟨x0, h1, h2⟩ := hh
      exact ⟨_, h2, x0, h1, rfl⟩
    · exact hh.elim
  qcall := by
    intro f args h v hh w hw
    change straitref03_Most.qcall f args h (· = v) at hh
    unfold straitref03_Most.qcall at hh
    split at hh
    · obtain ⟨x0, h1, h2⟩ := hh
      obtain ⟨g1, g2⟩ := straitref03_Cmp.calls h1 w hw
      refine .inl ⟨g1, g2.mono fun e w' ⟨u, he, ho, hr⟩ => ?_⟩
      have hq := straitref03_Cmp.ret_elim (K' := fun u h' => u = v ∧ h' = h) (fun _ h' hr => by obtain ⟨rfl, rfl⟩ := hr; exact ⟨h2, rfl⟩) hr
      exact ⟨hq.1 ▸ he, ho, hq.2⟩
    · exact hh.elim
noncomputable def straitref03_Most.code : Code := (Try.f19.body).getD .skip
def straitref03_Most.ann : Ann := (.two .auto (.two .auto (.two (.two .auto (.two (.loop 0 [0, 3, 4] [(2, [3])] (.two .auto (.two (.two (.two (.reg [0, 1, 3, 7, 7, 31, 63, 7, 7, 391, 903, 2047, 4095, 8191] (.take 0 (.take 1 (.take 2 (.take 3 (.take 4 (.take 5 (.take 6 (.take 7 (.take 8 (.take 9 (.take 10 (.take 11 (.take 12 (.take 13 .done))))))))))))))) .auto) .auto) .auto))) .auto)) .auto)))
noncomputable def straitref03_Most.c0 : Code := sub straitref03_Most.code [1, 1, 0, 1, 0, 0]
def straitref03_Most.a0 : Ann := (.two .auto (.two (.two (.two (.reg [0, 1, 3, 7, 7, 31, 63, 7, 7, 391, 903, 2047, 4095, 8191] (.take 0 (.take 1 (.take 2 (.take 3 (.take 4 (.take 5 (.take 6 (.take 7 (.take 8 (.take 9 (.take 10 (.take 11 (.take 12 (.take 13 .done))))))))))))))) .auto) .auto) .auto))
def straitref03_Most.keep0 : List Nat := [0, 3, 4]
def straitref03_Most.outs0 : List (Nat × List Nat) := [(2, [3])]
set_option maxRecDepth 100000 in
theorem straitref03_Most.L0 : LoopOK straitref03_Most.ctx 27 straitref03_Most.c0 0 straitref03_Most.keep0 straitref03_Most.outs0 := by
  refine loop_ok (n := straitref03_Most.a0) straitref03_Most.ok (by kernel_rfl) (loops_ok (l := []) (by kernel_rfl) ?_) straitref03_Most.r0 ?_ ?_ (fun vs h K hh => hh)
  · exact trivial
  · intro K vs h hh
    unfold straitref03_Most.r0 at hh
    split at hh
    · exact hh
    · exact hh
  · intro K m vs h hh
    unfold straitref03_Most.r0 at hh
    split at hh
    · exact cast (by kernel_rfl) hh
    · exact hh.elim
set_option maxRecDepth 100000 in
theorem straitref03_Most.eq (a1 : Option Addr) (a1l : Nat) (a1c : Nat) (h : Heap) (K : Int → Heap → Prop) : evF straitref03_Most.ctx Try.f19 straitref03_Most.ann [(.slice a1 a1l a1c)] h (straitref03_Most.ret K) = straitref03_Most a1 a1l a1c h K := by kernel_rfl
set_option maxRecDepth 100000 in
theorem straitref03_Most.calls {a1 : Option Addr} {a1l : Nat} {a1c : Nat} {h : Heap} {K : Int → Heap → Prop} (hh : straitref03_Most a1 a1l a1c h K) (w : World) (hw : w.heap = h) :
    (callFunc 19 #[(.slice a1 a1l a1c)]).run Try.prog w = .ok (.enter 19 #[(.slice a1 a1l a1c)]) w ∧ Calls Try.prog 19 #[(.slice a1 a1l a1c)] w fun e w' => ∃ v, e = .returned v ∧ Out w w' ∧ straitref03_Most.ret K v w'.heap := by
  rw [← straitref03_Most.eq] at hh
  exact fn_calls (args := [(.slice a1 a1l a1c)]) (c := straitref03_Most.code) straitref03_Most.ok Try.func19 (by kernel_rfl) (by kernel_rfl) (by kernel_rfl) (by kernel_rfl) (loops_ok (l := [(straitref03_Most.c0, none, 0, straitref03_Most.keep0, straitref03_Most.outs0)]) (by kernel_rfl) ⟨straitref03_Most.L0, trivial⟩) hh w hw

/-! ### strait/straitref03.Count: function 21 -/
def straitref03_Count.b1 (K4 : Bool → Heap → Prop) (cont : (Option Addr) → Nat → Nat → Int → Int → Bool → Int → Heap → Prop) (c0_2001 : Option Addr) (c0_2002 : Nat) (c0_2003 : Nat) (c3_2004 : Int) (c4_2005 : Int) (v5_2006 : Bool) (v6_2007 : Int) (h2008 : Heap) : Prop :=
  (iteB (decide (v6_2007 < c4_2005)) ((iteB v5_2006 (((cont c0_2001 c0_2002 c0_2003 c3_2004 c4_2005 true (IntKind.i64.wrap (v6_2007 + 1)) h2008))) (chkP c0_2001 fun a2009 => (0 ≤ c4_2005 ∧ c4_2005 < (c0_2002 : Int)) ∧ ∃ (x2010 : Int), cell h2008 (a2009.add (c4_2005.toNat * 1)) = some (.int .u64 x2010) ∧ chkP c0_2001 fun a2011 => (0 ≤ v6_2007 ∧ v6_2007 < (c0_2002 : Int)) ∧ ∃ (x2012 : Int), cell h2008 (a2011.add (v6_2007.toNat * 1)) = some (.int .u64 x2012) ∧ qcallP1 h2008 (straitref03_Cmp x2010 x2012 h2008) fun x2013 => ((cont c0_2001 c0_2002 c0_2003 c3_2004 c4_2005 (x2013 == (0 : Int)) (IntKind.i64.wrap (v6_2007 + 1)) h2008))))) (K4 v5_2006 h2008))
def straitref03_Count.l1 (K4 : Bool → Heap → Prop) : Nat → (Option Addr) → Nat → Nat → Int → Int → Bool → Int → Heap → Prop
  | 0, _, _, _, _, _, _, _, _ => False
  | m + 1, c0_2001, c0_2002, c0_2003, c3_2004, c4_2005, v5_2006, v6_2007, h => straitref03_Count.b1 K4 (straitref03_Count.l1 K4 m) c0_2001 c0_2002 c0_2003 c3_2004 c4_2005 v5_2006 v6_2007 h
def straitref03_Count.b0 (K2 : Int → Heap → Prop) (cont : (Option Addr) → Nat → Nat → Int → Int → Heap → Prop) (c0_1001 : Option Addr) (c0_1002 : Nat) (c0_1003 : Nat) (v3_1004 : Int) (v4_1005 : Int) (h1006 : Heap) : Prop :=
  (iteB (decide (v4_1005 < (c0_1002 : Int))) ((((∃ m1009, straitref03_Count.l1 (fun z1007 h1008 => (((iteB (!z1007) (((cont c0_1001 c0_1002 c0_1003 (IntKind.i64.wrap (v3_1004 + 1)) (IntKind.i64.wrap (v4_1005 + 1)) h1008))) (((cont c0_1001 c0_1002 c0_1003 v3_1004 (IntKind.i64.wrap (v4_1005 + 1)) h1008))))))) m1009 c0_1001 c0_1002 c0_1003 v3_1004 v4_1005 false 0 h1006)))) (K2 v3_1004 h1006))
def straitref03_Count.l0 (K2 : Int → Heap → Prop) : Nat → (Option Addr) → Nat → Nat → Int → Int → Heap → Prop
  | 0, _, _, _, _, _, _ => False
  | m + 1, c0_1001, c0_1002, c0_1003, v3_1004, v4_1005, h => straitref03_Count.b0 K2 (straitref03_Count.l0 K2 m) c0_1001 c0_1002 c0_1003 v3_1004 v4_1005 h
def straitref03_Count (a1 : Option Addr) (a1l : Nat) (a1c : Nat) (h : Heap) (K : Int → Heap → Prop) : Prop :=
  (((∃ m4, straitref03_Count.l0 (fun z2 h3 => (K z2 h3)) m4 a1 a1l a1c 0 0 h)))
def straitref03_Count.ret (K : Int → Heap → Prop) (v : Value) (h : Heap) : Prop := match v with
  | (.int .i64 r5) => K r5 h
  | _ => False
theorem straitref03_Count.ret_elim {K : Int → Heap → Prop} {K' : Value → Heap → Prop} {v : Value} {h : Heap} (hk : ∀ r5 h, K r5 h → K' (.int .i64 r5) h) (hh : straitref03_Count.ret K v h) : K' v h := by
  unfold straitref03_Count.ret at hh
  split at hh
  · exact hk _ _ hh
  · exact hh.elim
def straitref03_Count.qcall (f : FuncId) (vs : List Value) (h : Heap) (K : Value → Prop) : Prop := match f, vs with
  | 8, [(.int .u64 a1), (.int .u64 a2)] => qcallP1 h (straitref03_Cmp a1 a2 h) fun r5 => K (.int .i64 r5)
  | _, _ => False
def straitref03_Count.r0 (K : Nat → List Value → Heap → Prop) (m : Nat) (vs : List Value) (h : Heap) : Prop := match vs with
  | [(.slice c0_1001 c0_1002 c0_1003), (.int .i64 v3_1004), (.int .i64 v4_1005)] => straitref03_Count.l0 (fun z6 h' => K 2 [(.int .i64 z6)] h') m c0_1001 c0_1002 c0_1003 v3_1004 v4_1005 h
  | _ => False
def straitref03_Count.r1 (K : Nat → List Value → Heap → Prop) (m : Nat) (vs : List Value) (h : Heap) : Prop := match vs with
  | [(.slice c0_2001 c0_2002 c0_2003), (.int .i64 c3_2004), (.int .i64 c4_2005), (.bool v5_2006), (.int .i64 v6_2007)] => straitref03_Count.l1 (fun z7 h' => K 4 [(.slice c0_2001 c0_2002 c0_2003), (.int .i64 c3_2004), (.int .i64 c4_2005), (.bool z7)] h') m c0_2001 c0_2002 c0_2003 c3_2004 c4_2005 v5_2006 v6_2007 h
  | _ => False
def straitref03_Count.loop (i : Nat) (vs : List Value) (h : Heap) (K : Nat → List Value → Heap → Prop) : Prop := match i with
  | 0 => ∃ m, straitref03_Count.r0 K m vs h
  | 1 => ∃ m, straitref03_Count.r1 K m vs h
  | _ => False
noncomputable def straitref03_Count.ctx : Ctx := { P := Try.prog, call := fun _ _ _ _ => False, qcall := straitref03_Count.qcall, quiet := fun f => Nat.beq f 8, loop := straitref03_Count.loop }
theorem straitref03_Count.ok : straitref03_Count.ctx.OK where
  mixed := by kernel_rfl
  mono := fun hh _ => hh.elim
  call := fun hh => hh.elim
  qmono := by
    intro f args h K K' hh hk
    change straitref03_Count.qcall f args h K at hh
    change straitref03_Count.qcall f args h K'
    unfold straitref03_Count.qcall at hh ⊢
    split at hh
    · obtain ⟨x0, h1, h2⟩ := hh
      exact ⟨x0, h1, hk _ h2⟩
    · exact hh.elim
  qval := by
    intro f args h K hh
    change straitref03_Count.qcall f args h K at hh
    suffices H : ∃ v, K v ∧ straitref03_Count.qcall f args h (· = v) from H
    unfold straitref03_Count.qcall at hh ⊢
    split at hh
    · obtain ⟨x0, h1, h2⟩ := hh
      exact ⟨_, h2, x0, h1, rfl⟩
    · exact hh.elim
  qcall := by
    intro f args h v hh w hw
    change straitref03_Count.qcall f args h (· = v) at hh
    unfold straitref03_Count.qcall at hh
    split at hh
    · obtain ⟨x0, h1, h2⟩ := hh
      obtain ⟨g1, g2⟩ := straitref03_Cmp.calls h1 w hw
      refine .inl ⟨g1, g2.mono fun e w' ⟨u, he, ho, hr⟩ => ?_⟩
      have hq := straitref03_Cmp.ret_elim (K' := fun u h' => u = v ∧ h' = h) (fun _ h' hr => by obtain ⟨rfl, rfl⟩ := hr; exact ⟨h2, rfl⟩) hr
      exact ⟨hq.1 ▸ he, ho, hq.2⟩
    · exact hh.elim
noncomputable def straitref03_Count.code : Code := (Try.f21.body).getD .skip
def straitref03_Count.ann : Ann := (.two .auto (.two .auto (.two (.two .auto (.two (.loop 0 [0, 3, 4] [(2, [3])] (.two .auto (.two (.two (.two .auto (.two (.two .auto (.two (.loop 1 [0, 3, 4, 5, 6] [(4, [0, 3, 4, 5])] (.two .auto (.two (.two (.reg [0, 1, 3, 3, 15, 31, 3, 3, 195, 451, 1023, 2047, 4095, 8191] (.take 0 (.take 1 (.take 2 (.take 3 (.take 4 (.take 5 (.take 6 (.take 7 (.take 8 (.take 9 (.take 10 (.take 11 (.take 12 (.take 13 .done))))))))))))))) .auto) .auto))) .auto)) .auto)) .auto) .auto))) .auto)) .auto)))
noncomputable def straitref03_Count.c1 : Code := sub straitref03_Count.code [1, 1, 0, 1, 0, 0, 1, 0, 0, 1, 0, 1, 0, 0]
def straitref03_Count.a1 : Ann := (.two .auto (.two (.two (.reg [0, 1, 3, 3, 15, 31, 3, 3, 195, 451, 1023, 2047, 4095, 8191] (.take 0 (.take 1 (.take 2 (.take 3 (.take 4 (.take 5 (.take 6 (.take 7 (.take 8 (.take 9 (.take 10 (.take 11 (.take 12 (.take 13 .done))))))))))))))) .auto) .auto))
def straitref03_Count.keep1 : List Nat := [0, 3, 4, 5, 6]
def straitref03_Count.outs1 : List (Nat × List Nat) := [(4, [0, 3, 4, 5])]
noncomputable def straitref03_Count.c0 : Code := sub straitref03_Count.code [1, 1, 0, 1, 0, 0]
def straitref03_Count.a0 : Ann := (.two .auto (.two (.two (.two .auto (.two (.two .auto (.two (.loop 1 [0, 3, 4, 5, 6] [(4, [0, 3, 4, 5])] (.two .auto (.two (.two (.reg [0, 1, 3, 3, 15, 31, 3, 3, 195, 451, 1023, 2047, 4095, 8191] (.take 0 (.take 1 (.take 2 (.take 3 (.take 4 (.take 5 (.take 6 (.take 7 (.take 8 (.take 9 (.take 10 (.take 11 (.take 12 (.take 13 .done))))))))))))))) .auto) .auto))) .auto)) .auto)) .auto) .auto))
def straitref03_Count.keep0 : List Nat := [0, 3, 4]
def straitref03_Count.outs0 : List (Nat × List Nat) := [(2, [3])]
set_option maxRecDepth 100000 in
theorem straitref03_Count.L1 : LoopOK straitref03_Count.ctx 36 straitref03_Count.c1 1 straitref03_Count.keep1 straitref03_Count.outs1 := by
  refine loop_ok (n := straitref03_Count.a1) straitref03_Count.ok (by kernel_rfl) (loops_ok (l := []) (by kernel_rfl) ?_) straitref03_Count.r1 ?_ ?_ (fun vs h K hh => hh)
  · exact trivial
  · intro K vs h hh
    unfold straitref03_Count.r1 at hh
    split at hh
    · exact hh
    · exact hh
  · intro K m vs h hh
    unfold straitref03_Count.r1 at hh
    split at hh
    · exact cast (by kernel_rfl) hh
    · exact hh.elim
set_option maxRecDepth 100000 in
theorem straitref03_Count.L0 : LoopOK straitref03_Count.ctx 36 straitref03_Count.c0 0 straitref03_Count.keep0 straitref03_Count.outs0 := by
  refine loop_ok (n := straitref03_Count.a0) straitref03_Count.ok (by kernel_rfl) (loops_ok (l := [(straitref03_Count.c1, none, 1, straitref03_Count.keep1, straitref03_Count.outs1)]) (by kernel_rfl) ?_) straitref03_Count.r0 ?_ ?_ (fun vs h K hh => hh)
  · exact ⟨straitref03_Count.L1, trivial⟩
  · intro K vs h hh
    unfold straitref03_Count.r0 at hh
    split at hh
    · exact hh
    · exact hh
  · intro K m vs h hh
    unfold straitref03_Count.r0 at hh
    split at hh
    · exact cast (by kernel_rfl) hh
    · exact hh.elim
set_option maxRecDepth 100000 in
theorem straitref03_Count.eq (a1 : Option Addr) (a1l : Nat) (a1c : Nat) (h : Heap) (K : Int → Heap → Prop) : evF straitref03_Count.ctx Try.f21 straitref03_Count.ann [(.slice a1 a1l a1c)] h (straitref03_Count.ret K) = straitref03_Count a1 a1l a1c h K := by kernel_rfl
set_option maxRecDepth 100000 in
theorem straitref03_Count.calls {a1 : Option Addr} {a1l : Nat} {a1c : Nat} {h : Heap} {K : Int → Heap → Prop} (hh : straitref03_Count a1 a1l a1c h K) (w : World) (hw : w.heap = h) :
    (callFunc 21 #[(.slice a1 a1l a1c)]).run Try.prog w = .ok (.enter 21 #[(.slice a1 a1l a1c)]) w ∧ Calls Try.prog 21 #[(.slice a1 a1l a1c)] w fun e w' => ∃ v, e = .returned v ∧ Out w w' ∧ straitref03_Count.ret K v w'.heap := by
  rw [← straitref03_Count.eq] at hh
  exact fn_calls (args := [(.slice a1 a1l a1c)]) (c := straitref03_Count.code) straitref03_Count.ok Try.func21 (by kernel_rfl) (by kernel_rfl) (by kernel_rfl) (by kernel_rfl) (loops_ok (l := [(straitref03_Count.c0, none, 0, straitref03_Count.keep0, straitref03_Count.outs0)]) (by kernel_rfl) ⟨straitref03_Count.L0, trivial⟩) hh w hw

end Go.Proofs.Ytcmbgiekffgcoaa
