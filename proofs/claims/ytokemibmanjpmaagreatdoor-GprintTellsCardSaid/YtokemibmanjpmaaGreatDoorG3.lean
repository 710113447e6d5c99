/- WRITTEN BY A PROGRAM OF THIS SESSION (gen.py): what each function asks of memory, and that the model's run comes to it. -/
import Derived.Test.YtokemibmanjpmaaGreatDoorProg
import Derived.Test.YtokemibmanjpmaaGreatDoorFw8
import Derived.Test.YtokemibmanjpmaaGreatDoorG2
namespace Go.Proofs.YtokemibmanjpmaaGreatDoor
open Go.Hp
set_option linter.unusedVariables false
set_option linter.unusedSimpArgs false
set_option linter.unusedSectionVars false

/-! ### strait/gprint.Rows: function 26 -/
section
variable [DKc]
def gprint_Rows.b1 (K4 : Heap → Prop) (cont : (Option Addr) → (Option Addr) → Addr → Int → Addr → Nat → Nat → Int → Int → (Option Addr) → Nat → Nat → Int → Int → Heap → Prop) (c0_2001 : Option Addr) (c3_2002 : Option Addr) (c4_2003 : Addr) (c5_2004 : Int) (c6_2005 : Addr) (c6_2006 : Nat) (c6_2007 : Nat) (c14_2008 : Int) (c15_2009 : Int) (c23_2010 : Option Addr) (c23_2011 : Nat) (c23_2012 : Nat) (c24_2013 : Int) (v25_2014 : Int) (h2015 : Heap) : Prop :=
  (iteB (decide (v25_2014 < c24_2013)) ((chkP c23_2010 fun a2016 => (0 ≤ v25_2014 ∧ v25_2014 < (c23_2011 : Int)) ∧ ∃ (x2017 : Int), cell h2015 (a2016.add (v25_2014.toNat * 1)) = some (.int .i64 x2017) ∧ (callP1 (net_Net_Weight c0_2001 c5_2004 x2017 h2015) fun x2018 h2019 => (0 ≤ x2017 ∧ x2017 < (c6_2006 : Int)) ∧ stC h2019 (c6_2005.add (x2017.toNat * 1)) (.int .i64 x2018) fun h2020 => ((cont c0_2001 c3_2002 c4_2003 c5_2004 c6_2005 c6_2006 c6_2007 c14_2008 c15_2009 c23_2010 c23_2011 c23_2012 c24_2013 (IntKind.i64.wrap (v25_2014 + 1)) h2020))))) (K4 h2015))
def gprint_Rows.l1 (K4 : Heap → Prop) : Nat → (Option Addr) → (Option Addr) → Addr → Int → Addr → Nat → Nat → Int → Int → (Option Addr) → Nat → Nat → Int → Int → Heap → Prop
  | 0, _, _, _, _, _, _, _, _, _, _, _, _, _, _, _ => False
  | m + 1, c0_2001, c3_2002, c4_2003, c5_2004, c6_2005, c6_2006, c6_2007, c14_2008, c15_2009, c23_2010, c23_2011, c23_2012, c24_2013, v25_2014, h => gprint_Rows.b1 K4 (gprint_Rows.l1 K4 m) c0_2001 c3_2002 c4_2003 c5_2004 c6_2005 c6_2006 c6_2007 c14_2008 c15_2009 c23_2010 c23_2011 c23_2012 c24_2013 v25_2014 h
def gprint_Rows.b0 (K2 : Heap → Prop) (cont : (Option Addr) → (Option Addr) → Addr → Int → Int → Heap → Prop) (c0_1001 : Option Addr) (c3_1002 : Option Addr) (c4_1003 : Addr) (c14_1004 : Int) (v15_1005 : Int) (h1006 : Heap) : Prop :=
  (iteB (decide (v15_1005 < c14_1004)) (((qcallP1 h1006 (net_Net_N c0_1001 h1006) fun x1007 => (0 ≤ x1007 ∧ x1007 ≤ x1007 ∧ x1007 * (8 : Nat) ≤ 2 ^ 47 ∧ x1007 ≤ 2 ^ 47) ∧ newP h1006 (.cells (zeroRow [(.int .i64 0)] x1007.toNat).toArray 2) fun a1008 h1009 => (callP3 (net_Net_Near c0_1001 v15_1005 h1009) fun x1010 x1010l x1010c h1011 => (∃ m1013, gprint_Rows.l1 (fun h1012 => ((callP1 (dec_List (some a1008) x1007.toNat x1007.toNat h1012) fun x1014 h1015 => newP h1015 (.cells #[(.string x1014)] 9) fun a1016 h1017 => callP0 (gprint_lines_c1 (some a1016) 1 1 c4_1003 h1017) fun h1018 => ((cont c0_1001 c3_1002 c4_1003 c14_1004 (IntKind.i64.wrap (v15_1005 + 1)) h1018))))) m1013 c0_1001 c3_1002 c4_1003 v15_1005 a1008 x1007.toNat x1007.toNat c14_1004 v15_1005 x1010 x1010l x1010c (x1010l : Int) 0 h1011))))) (K2 h1006))
def gprint_Rows.l0 (K2 : Heap → Prop) : Nat → (Option Addr) → (Option Addr) → Addr → Int → Int → Heap → Prop
  | 0, _, _, _, _, _, _ => False
  | m + 1, c0_1001, c3_1002, c4_1003, c14_1004, v15_1005, h => gprint_Rows.b0 K2 (gprint_Rows.l0 K2 m) c0_1001 c3_1002 c4_1003 c14_1004 v15_1005 h
def gprint_Rows (a1 : Option Addr) (h : Heap) (K : ByteArray → Heap → Prop) : Prop :=
  (callP2 (gprint_lines h) fun x2 x3 h4 => (qcallP1 h4 (net_Net_N a1 h4) fun x5 => (∃ m7, gprint_Rows.l0 (fun h6 => ((callP1 (strings_Builder_String x2 h6) fun x8 h9 => K x8 h9))) m7 a1 x2 x3 x5 0 h4)))
def gprint_Rows.ret (K : ByteArray → Heap → Prop) (v : Value) (h : Heap) : Prop := match v with
  | (.string r10) => K r10 h
  | _ => False
theorem gprint_Rows.ret_elim {K : ByteArray → Heap → Prop} {K' : Value → Heap → Prop} {v : Value} {h : Heap} (hk : ∀ r10 h, K r10 h → K' (.string r10) h) (hh : gprint_Rows.ret K v h) : K' v h := by
  unfold gprint_Rows.ret at hh
  split at hh
  · exact hk _ _ hh
  · exact hh.elim
def gprint_Rows.call (f : FuncId) (vs : List Value) (h : Heap) (K : Value → Heap → Prop) : Prop := match f, vs with
  | 54, [] => callP2 (gprint_lines h) fun r3 r4 h' => K (.tuple #[(.pointer r3), (.func (.func 95) #[] #[(.pointer (some r4))])]) h'
  | 57, [(.pointer a1), (.int .i64 a2)] => callP3 (net_Net_Near a1 a2 h) fun r12 r12l r12c h' => K (.slice r12 r12l r12c) h'
  | 58, [(.pointer a1)] => callP1 (strings_Builder_String a1 h) fun r2 h' => K (.string r2) h'
  | 59, [(.pointer a1), (.int .i64 a2), (.int .i64 a3)] => callP1 (net_Net_Weight a1 a2 a3 h) fun r25 h' => K (.int .i64 r25) h'
  | 60, [(.slice a1 a1l a1c)] => callP1 (dec_List a1 a1l a1c h) fun r8 h' => K (.string r8) h'
  | 95, [(.slice a1 a1l a1c), (.pointer (some a2))] => callP0 (gprint_lines_c1 a1 a1l a1c a2 h) fun h' => K (.tuple #[]) h'
  | _, _ => False
def gprint_Rows.qcall (f : FuncId) (vs : List Value) (h : Heap) (K : Value → Prop) : Prop := match f, vs with
  | 16, [(.pointer a1)] => qcallP1 h (net_Net_N a1 h) fun r4 => K (.int .i64 r4)
  | _, _ => False
def gprint_Rows.r0 (K : Nat → List Value → Heap → Prop) (m : Nat) (vs : List Value) (h : Heap) : Prop := match vs with
  | [(.pointer c0_1001), (.pointer c3_1002), (.func (.func 95) ⟨[]⟩ ⟨[(.pointer (some c4_1003))]⟩), (.int .i64 c14_1004), (.int .i64 v15_1005)] => gprint_Rows.l0 (fun h' => K 2 [(.pointer c3_1002)] h') m c0_1001 c3_1002 c4_1003 c14_1004 v15_1005 h
  | _ => False
def gprint_Rows.r1 (K : Nat → List Value → Heap → Prop) (m : Nat) (vs : List Value) (h : Heap) : Prop := match vs with
  | [(.pointer c0_2001), (.pointer c3_2002), (.func (.func 95) ⟨[]⟩ ⟨[(.pointer (some c4_2003))]⟩), (.int .i64 c5_2004), (.slice (some c6_2005) c6_2006 c6_2007), (.int .i64 c14_2008), (.int .i64 c15_2009), (.slice c23_2010 c23_2011 c23_2012), (.int .i64 c24_2013), (.int .i64 v25_2014)] => gprint_Rows.l1 (fun h' => K 4 [(.pointer c0_2001), (.pointer c3_2002), (.func (.func 95) #[] #[(.pointer (some c4_2003))]), (.slice (some c6_2005) c6_2006 c6_2007), (.int .i64 c14_2008), (.int .i64 c15_2009)] h') m c0_2001 c3_2002 c4_2003 c5_2004 c6_2005 c6_2006 c6_2007 c14_2008 c15_2009 c23_2010 c23_2011 c23_2012 c24_2013 v25_2014 h
  | _ => False
def gprint_Rows.loop (i : Nat) (vs : List Value) (h : Heap) (K : Nat → List Value → Heap → Prop) : Prop := match i with
  | 0 => ∃ m, gprint_Rows.r0 K m vs h
  | 1 => ∃ m, gprint_Rows.r1 K m vs h
  | _ => False
noncomputable def gprint_Rows.ctx : Ctx := { P := Tryz.prog, call := gprint_Rows.call, qcall := gprint_Rows.qcall, quiet := fun f => Nat.beq f 16 || Nat.beq f 1000138 || Nat.beq f 2000157, loop := gprint_Rows.loop }
theorem gprint_Rows.ok : gprint_Rows.ctx.OK where
  mixed := by kernel_rfl
  mono := by
    intro f args h K K' hh hk
    change gprint_Rows.call f args h K at hh
    change gprint_Rows.call f args h K'
    unfold gprint_Rows.call at hh ⊢
    split at hh
    · obtain ⟨R, h1, h2⟩ := hh
      exact ⟨R, h1, fun _ _ x hr => hk _ _ (h2 _ _ x hr)⟩
    · obtain ⟨R, h1, h2⟩ := hh
      exact ⟨R, h1, fun _ _ _ x hr => hk _ _ (h2 _ _ _ x hr)⟩
    · obtain ⟨R, h1, h2⟩ := hh
      exact ⟨R, h1, fun _ x hr => hk _ _ (h2 _ x hr)⟩
    · obtain ⟨R, h1, h2⟩ := hh
      exact ⟨R, h1, fun _ x hr => hk _ _ (h2 _ x hr)⟩
    · obtain ⟨R, h1, h2⟩ := hh
      exact ⟨R, h1, fun _ x hr => hk _ _ (h2 _ x hr)⟩
    · obtain ⟨R, h1, h2⟩ := hh
      exact ⟨R, h1, fun x hr => hk _ _ (h2 x hr)⟩
    · exact hh.elim
  call := by
    intro f args h K hh w hw
    change gprint_Rows.call f args h K at hh
    unfold gprint_Rows.call at hh
    split at hh
    · obtain ⟨R, h1, h2⟩ := hh
      obtain ⟨g1, g2⟩ := gprint_lines.calls h1 w hw
      exact ⟨g1, g2.mono fun e w' ⟨v, he, ho, hr⟩ => ⟨v, he, ho, gprint_lines.ret_elim h2 hr⟩⟩
    · obtain ⟨R, h1, h2⟩ := hh
      obtain ⟨g1, g2⟩ := net_Net_Near.calls h1 w hw
      exact ⟨g1, g2.mono fun e w' ⟨v, he, ho, hr⟩ => ⟨v, he, ho, net_Net_Near.ret_elim h2 hr⟩⟩
    · obtain ⟨R, h1, h2⟩ := hh
      obtain ⟨g1, g2⟩ := strings_Builder_String.calls h1 w hw
      exact ⟨g1, g2.mono fun e w' ⟨v, he, ho, hr⟩ => ⟨v, he, ho, strings_Builder_String.ret_elim h2 hr⟩⟩
    · obtain ⟨R, h1, h2⟩ := hh
      obtain ⟨g1, g2⟩ := net_Net_Weight.calls h1 w hw
      exact ⟨g1, g2.mono fun e w' ⟨v, he, ho, hr⟩ => ⟨v, he, ho, net_Net_Weight.ret_elim h2 hr⟩⟩
    · obtain ⟨R, h1, h2⟩ := hh
      obtain ⟨g1, g2⟩ := dec_List.calls h1 w hw
      exact ⟨g1, g2.mono fun e w' ⟨v, he, ho, hr⟩ => ⟨v, he, ho, dec_List.ret_elim h2 hr⟩⟩
    · obtain ⟨R, h1, h2⟩ := hh
      obtain ⟨g1, g2⟩ := gprint_lines_c1.calls h1 w hw
      exact ⟨g1, g2.mono fun e w' ⟨v, he, ho, hr⟩ => ⟨v, he, ho, gprint_lines_c1.ret_elim h2 hr⟩⟩
    · exact hh.elim
  qmono := by
    intro f args h K K' hh hk
    change gprint_Rows.qcall f args h K at hh
    change gprint_Rows.qcall f args h K'
    unfold gprint_Rows.qcall at hh ⊢
    split at hh
    · obtain ⟨x0, h1, h2⟩ := hh
      exact ⟨x0, h1, hk _ h2⟩
    · exact hh.elim
  qval := by
    intro f args h K hh
    change gprint_Rows.qcall f args h K at hh
    suffices H : ∃ v, K v ∧ gprint_Rows.qcall f args h (· = v) from H
    unfold gprint_Rows.qcall at hh ⊢
    split at hh
    · obtain ⟨x0, h1, h2⟩ := hh
      exact ⟨_, h2, x0, h1, rfl⟩
    · exact hh.elim
  qcall := by
    intro f args h v hh w hw
    change gprint_Rows.qcall f args h (· = v) at hh
    unfold gprint_Rows.qcall at hh
    split at hh
    · obtain ⟨x0, h1, h2⟩ := hh
      obtain ⟨g1, g2⟩ := net_Net_N.calls h1 w hw
      refine .inl ⟨g1, g2.mono fun e w' ⟨u, he, ho, hr⟩ => ?_⟩
      have hq := net_Net_N.ret_elim (K' := fun u h' => u = v ∧ h' = h) (fun _ h' hr => by obtain ⟨rfl, rfl⟩ := hr; exact ⟨h2, rfl⟩) hr
      exact ⟨hq.1 ▸ he, ho, hq.2⟩
    · exact hh.elim
noncomputable def gprint_Rows.code : Code := (Tryz.f26.body).getD .skip
def gprint_Rows.ann : Ann := (.two .auto (.two .auto (.two (.two .auto (.two (.loop 0 [0, 3, 4, 14, 15] [(2, [3])] (.two .auto (.two .auto (.two (.two (.two .auto (.two .auto (.two (.two .auto (.two (.loop 1 [0, 3, 4, 5, 6, 14, 15, 23, 24, 25] [(4, [0, 3, 4, 6, 14, 15])] .auto) .auto)) .auto))) .auto) .auto)))) .auto)) .auto)))
noncomputable def gprint_Rows.c1 : Code := sub gprint_Rows.code [1, 1, 0, 1, 0, 0, 1, 1, 0, 0, 1, 1, 0, 1, 0, 0]
def gprint_Rows.a1 : Ann := .auto
def gprint_Rows.keep1 : List Nat := [0, 3, 4, 5, 6, 14, 15, 23, 24, 25]
def gprint_Rows.outs1 : List (Nat × List Nat) := [(4, [0, 3, 4, 6, 14, 15])]
noncomputable def gprint_Rows.c0 : Code := sub gprint_Rows.code [1, 1, 0, 1, 0, 0]
def gprint_Rows.a0 : Ann := (.two .auto (.two .auto (.two (.two (.two .auto (.two .auto (.two (.two .auto (.two (.loop 1 [0, 3, 4, 5, 6, 14, 15, 23, 24, 25] [(4, [0, 3, 4, 6, 14, 15])] .auto) .auto)) .auto))) .auto) .auto)))
def gprint_Rows.keep0 : List Nat := [0, 3, 4, 14, 15]
def gprint_Rows.outs0 : List (Nat × List Nat) := [(2, [3])]
set_option maxRecDepth 100000 in
theorem gprint_Rows.L1 : LoopOK gprint_Rows.ctx 45 gprint_Rows.c1 1 gprint_Rows.keep1 gprint_Rows.outs1 := by
  refine loop_ok (n := gprint_Rows.a1) gprint_Rows.ok (by kernel_rfl) (loops_ok (l := []) (by kernel_rfl) ?_) gprint_Rows.r1 ?_ ?_ (fun vs h K hh => hh)
  · exact trivial
  · intro K vs h hh
    unfold gprint_Rows.r1 at hh
    split at hh
    · exact hh
    · exact hh
  · intro K m vs h hh
    unfold gprint_Rows.r1 at hh
    split at hh
    · exact cast (by kernel_rfl) hh
    · exact hh.elim
set_option maxRecDepth 100000 in
theorem gprint_Rows.L0 : LoopOK gprint_Rows.ctx 45 gprint_Rows.c0 0 gprint_Rows.keep0 gprint_Rows.outs0 := by
  refine loop_ok (n := gprint_Rows.a0) gprint_Rows.ok (by kernel_rfl) (loops_ok (l := [(gprint_Rows.c1, none, 1, gprint_Rows.keep1, gprint_Rows.outs1)]) (by kernel_rfl) ?_) gprint_Rows.r0 ?_ ?_ (fun vs h K hh => hh)
  · exact ⟨gprint_Rows.L1, trivial⟩
  · intro K vs h hh
    unfold gprint_Rows.r0 at hh
    split at hh
    · exact hh
    · exact hh
  · intro K m vs h hh
    unfold gprint_Rows.r0 at hh
    split at hh
    · exact cast (by kernel_rfl) hh
    · exact hh.elim
set_option maxRecDepth 100000 in
theorem gprint_Rows.eq (a1 : Option Addr) (h : Heap) (K : ByteArray → Heap → Prop) : evF gprint_Rows.ctx Tryz.f26 gprint_Rows.ann [(.pointer a1)] h (gprint_Rows.ret K) = gprint_Rows a1 h K := by kernel_rfl
set_option maxRecDepth 100000 in
theorem gprint_Rows.calls {a1 : Option Addr} {h : Heap} {K : ByteArray → Heap → Prop} (hh : gprint_Rows a1 h K) (w : World) (hw : w.heap = h) :
    (callFunc 26 #[(.pointer a1)]).run Tryz.prog w = .ok (.enter 26 #[(.pointer a1)]) w ∧ Calls Tryz.prog 26 #[(.pointer a1)] w fun e w' => ∃ v, e = .returned v ∧ Out w w' ∧ gprint_Rows.ret K v w'.heap := by
  rw [← gprint_Rows.eq] at hh
  exact fn_calls (args := [(.pointer a1)]) (c := gprint_Rows.code) gprint_Rows.ok Tryz.func26 (by kernel_rfl) (by kernel_rfl) (by kernel_rfl) (by kernel_rfl) (loops_ok (l := [(gprint_Rows.c0, none, 0, gprint_Rows.keep0, gprint_Rows.outs0)]) (by kernel_rfl) ⟨gprint_Rows.L0, trivial⟩) hh w hw
end

/-! ### strait/straitref15.Check: function 47 -/
def straitref15_Check (a1 : Int) (a2 : Int) (a3 : Int) (a4 : Int) (h : Heap) (K : Int → Heap → Prop) : Prop :=
  newP h (.cells #[(.int .i64 a2), (.int .i64 a3), (.int .i64 a4)] 27) fun a5 h6 => (∃ (x7 : Int), cell h6 a5 = some (.int .i64 x7) ∧ iteB (decide (x7 < (0 : Int))) (K 4 h6) (∃ (x8 : Int), cell h6 a5 = some (.int .i64 x8) ∧ iteB (decide (x8 ≥ a1)) (K 4 h6) (∃ (x9 : Int), cell h6 (a5.add 1) = some (.int .i64 x9) ∧ iteB (decide (x9 < (0 : Int))) (K 4 h6) (∃ (x10 : Int), cell h6 (a5.add 1) = some (.int .i64 x10) ∧ (iteB (decide (x10 ≥ a1)) (K 4 h6) ((∃ (x18 : Int), cell h6 (a5.add 2) = some (.int .i64 x18) ∧ iteB (decide (x18 < (0 : Int))) (K 5 h6) (∃ (x19 : Int), cell h6 (a5.add 2) = some (.int .i64 x19) ∧ (iteB (decide (x19 > (2147483648 : Int))) (K 5 h6) (K 0 h6))))))))))
def straitref15_Check.ret (K : Int → Heap → Prop) (v : Value) (h : Heap) : Prop := match v with
  | (.int .i64 r21) => K r21 h
  | _ => False
theorem straitref15_Check.ret_elim {K : Int → Heap → Prop} {K' : Value → Heap → Prop} {v : Value} {h : Heap} (hk : ∀ r21 h, K r21 h → K' (.int .i64 r21) h) (hh : straitref15_Check.ret K v h) : K' v h := by
  unfold straitref15_Check.ret at hh
  split at hh
  · exact hk _ _ hh
  · exact hh.elim
noncomputable def straitref15_Check.ctx : Ctx := { P := Tryz.prog, call := fun _ _ _ _ => False, qcall := fun _ _ _ _ => False, quiet := fun f => Nat.beq f 1000138 || Nat.beq f 2000157, loop := fun _ _ _ _ => False }
theorem straitref15_Check.ok [DKc] : straitref15_Check.ctx.OK where
  mixed := by kernel_rfl
  mono := fun hh _ => hh.elim
  call := fun hh => hh.elim
  qmono := fun hh _ => hh.elim
  qval := fun hh => hh.elim
  qcall := fun hh => hh.elim
noncomputable def straitref15_Check.code : Code := (Tryz.f47.body).getD .skip
def straitref15_Check.ann : Ann := .auto
set_option maxRecDepth 100000 in
theorem straitref15_Check.eq (a1 : Int) (a2 : Int) (a3 : Int) (a4 : Int) (h : Heap) (K : Int → Heap → Prop) : evF straitref15_Check.ctx Tryz.f47 straitref15_Check.ann [(.int .i64 a1), (.agg #[(.int .i64 a2), (.int .i64 a3), (.int .i64 a4)])] h (straitref15_Check.ret K) = straitref15_Check a1 a2 a3 a4 h K := by kernel_rfl
set_option maxRecDepth 100000 in
theorem straitref15_Check.calls [DKc] {a1 : Int} {a2 : Int} {a3 : Int} {a4 : Int} {h : Heap} {K : Int → Heap → Prop} (hh : straitref15_Check a1 a2 a3 a4 h K) (w : World) (hw : w.heap = h) :
    (callFunc 47 #[(.int .i64 a1), (.agg #[(.int .i64 a2), (.int .i64 a3), (.int .i64 a4)])]).run Tryz.prog w = .ok (.enter 47 #[(.int .i64 a1), (.agg #[(.int .i64 a2), (.int .i64 a3), (.int .i64 a4)])]) w ∧ Calls Tryz.prog 47 #[(.int .i64 a1), (.agg #[(.int .i64 a2), (.int .i64 a3), (.int .i64 a4)])] w fun e w' => ∃ v, e = .returned v ∧ Out w w' ∧ straitref15_Check.ret K v w'.heap := by
  rw [← straitref15_Check.eq] at hh
  exact fn_calls (args := [(.int .i64 a1), (.agg #[(.int .i64 a2), (.int .i64 a3), (.int .i64 a4)])]) (c := straitref15_Check.code) straitref15_Check.ok Tryz.func47 (by kernel_rfl) (by kernel_rfl) (by kernel_rfl) (by kernel_rfl) (loops_ok (l := []) (by kernel_rfl) trivial) hh w hw

/-! ### strait/straitref15.Checks: function 61 -/
def straitref15_Checks.b0 (K0 : Heap → Prop) (K2 : Heap → Prop) (cont : Int → (Option Addr) → Nat → Nat → Addr → Int → Heap → Prop) (c0_1001 : Int) (c1_1002 : Option Addr) (c1_1003 : Nat) (c1_1004 : Nat) (c4_1005 : Addr) (v5_1006 : Int) (h1007 : Heap) : Prop :=
  (iteB (decide (v5_1006 < (c1_1003 : Int))) ((chkP c1_1002 fun a1008 => (0 ≤ v5_1006 ∧ v5_1006 < (c1_1003 : Int)) ∧ ∃ (x1009 : Int), cell h1007 (a1008.add (v5_1006.toNat * 3)) = some (.int .i64 x1009) ∧ ∃ (x1010 : Int), cell h1007 ((a1008.add (v5_1006.toNat * 3)).add 1) = some (.int .i64 x1010) ∧ ∃ (x1011 : Int), cell h1007 ((a1008.add (v5_1006.toNat * 3)).add 2) = some (.int .i64 x1011) ∧ callP1 (straitref15_Check c0_1001 x1009 x1010 x1011 h1007) fun x1012 h1013 => ((iteB (x1012 != (0 : Int)) (stC h1013 c4_1005 (.int .i64 x1012) fun h1014 => stC h1014 (c4_1005.add 1) (.int .i64 v5_1006) fun h1015 => K0 h1015) (((cont c0_1001 c1_1002 c1_1003 c1_1004 c4_1005 (IntKind.i64.wrap (v5_1006 + 1)) h1013))))))) (K2 h1007))
def straitref15_Checks.l0 (K0 : Heap → Prop) (K2 : Heap → Prop) : Nat → Int → (Option Addr) → Nat → Nat → Addr → Int → Heap → Prop
  | 0, _, _, _, _, _, _, _ => False
  | m + 1, c0_1001, c1_1002, c1_1003, c1_1004, c4_1005, v5_1006, h => straitref15_Checks.b0 K0 K2 (straitref15_Checks.l0 K0 K2 m) c0_1001 c1_1002 c1_1003 c1_1004 c4_1005 v5_1006 h
def straitref15_Checks (a1 : Int) (a2 : Option Addr) (a2l : Nat) (a2c : Nat) (h : Heap) (K : Int → Int → Heap → Prop) : Prop :=
  newP h (.cells #[(.int .i64 0), (.int .i64 0)] 123) fun a3 h4 => ((∃ m9, straitref15_Checks.l0 (fun h5 => ∃ (x6 : Int), cell h5 a3 = some (.int .i64 x6) ∧ ∃ (x7 : Int), cell h5 (a3.add 1) = some (.int .i64 x7) ∧ K x6 x7 h5) (fun h8 => ((stC h8 a3 (.int .i64 0) fun h10 => stC h10 (a3.add 1) (.int .i64 0) fun h11 => (∃ (x12 : Int), cell h11 a3 = some (.int .i64 x12) ∧ ∃ (x13 : Int), cell h11 (a3.add 1) = some (.int .i64 x13) ∧ K x12 x13 h11)))) m9 a1 a2 a2l a2c a3 0 h4))
def straitref15_Checks.ret (K : Int → Int → Heap → Prop) (v : Value) (h : Heap) : Prop := match v with
  | (.agg ⟨[(.int .i64 r14), (.int .i64 r15)]⟩) => K r14 r15 h
  | _ => False
theorem straitref15_Checks.ret_elim {K : Int → Int → Heap → Prop} {K' : Value → Heap → Prop} {v : Value} {h : Heap} (hk : ∀ r14 r15 h, K r14 r15 h → K' (.agg #[(.int .i64 r14), (.int .i64 r15)]) h) (hh : straitref15_Checks.ret K v h) : K' v h := by
  unfold straitref15_Checks.ret at hh
  split at hh
  · exact hk _ _ _ hh
  · exact hh.elim
def straitref15_Checks.call (f : FuncId) (vs : List Value) (h : Heap) (K : Value → Heap → Prop) : Prop := match f, vs with
  | 47, [(.int .i64 a1), (.agg ⟨[(.int .i64 a2), (.int .i64 a3), (.int .i64 a4)]⟩)] => callP1 (straitref15_Check a1 a2 a3 a4 h) fun r21 h' => K (.int .i64 r21) h'
  | _, _ => False
def straitref15_Checks.r0 (K : Nat → List Value → Heap → Prop) (m : Nat) (vs : List Value) (h : Heap) : Prop := match vs with
  | [(.int .i64 c0_1001), (.slice c1_1002 c1_1003 c1_1004), (.pointer (some c4_1005)), (.int .i64 v5_1006)] => straitref15_Checks.l0 (fun h' => K 0 [(.pointer (some c4_1005))] h') (fun h' => K 2 [(.pointer (some c4_1005))] h') m c0_1001 c1_1002 c1_1003 c1_1004 c4_1005 v5_1006 h
  | _ => False
def straitref15_Checks.loop (i : Nat) (vs : List Value) (h : Heap) (K : Nat → List Value → Heap → Prop) : Prop := match i with
  | 0 => ∃ m, straitref15_Checks.r0 K m vs h
  | _ => False
noncomputable def straitref15_Checks.ctx : Ctx := { P := Tryz.prog, call := straitref15_Checks.call, qcall := fun _ _ _ _ => False, quiet := fun f => Nat.beq f 1000138 || Nat.beq f 2000157, loop := straitref15_Checks.loop }
theorem straitref15_Checks.ok [DKc] : straitref15_Checks.ctx.OK where
  mixed := by kernel_rfl
  mono := by
    intro f args h K K' hh hk
    change straitref15_Checks.call f args h K at hh
    change straitref15_Checks.call f args h K'
    unfold straitref15_Checks.call at hh ⊢
    split at hh
    · obtain ⟨R, h1, h2⟩ := hh
      exact ⟨R, h1, fun _ x hr => hk _ _ (h2 _ x hr)⟩
    · exact hh.elim
  call := by
    intro f args h K hh w hw
    change straitref15_Checks.call f args h K at hh
    unfold straitref15_Checks.call at hh
    split at hh
    · obtain ⟨R, h1, h2⟩ := hh
      obtain ⟨g1, g2⟩ := straitref15_Check.calls h1 w hw
      exact ⟨g1, g2.mono fun e w' ⟨v, he, ho, hr⟩ => ⟨v, he, ho, straitref15_Check.ret_elim h2 hr⟩⟩
    · exact hh.elim
  qmono := fun hh _ => hh.elim
  qval := fun hh => hh.elim
  qcall := fun hh => hh.elim
noncomputable def straitref15_Checks.code : Code := (Tryz.f61.body).getD .skip
def straitref15_Checks.ann : Ann := (.two .auto (.two (.two .auto (.two (.loop 0 [0, 1, 4, 5] [(2, [4]), (0, [4])] .auto) .auto)) .auto))
noncomputable def straitref15_Checks.c0 : Code := sub straitref15_Checks.code [1, 0, 1, 0, 0]
def straitref15_Checks.a0 : Ann := .auto
def straitref15_Checks.keep0 : List Nat := [0, 1, 4, 5]
def straitref15_Checks.outs0 : List (Nat × List Nat) := [(2, [4]), (0, [4])]
set_option maxRecDepth 100000 in
theorem straitref15_Checks.L0 [DKc] : LoopOK straitref15_Checks.ctx 25 straitref15_Checks.c0 0 straitref15_Checks.keep0 straitref15_Checks.outs0 := by
  refine loop_ok (n := straitref15_Checks.a0) straitref15_Checks.ok (by kernel_rfl) (loops_ok (l := []) (by kernel_rfl) ?_) straitref15_Checks.r0 ?_ ?_ (fun vs h K hh => hh)
  · exact trivial
  · intro K vs h hh
    unfold straitref15_Checks.r0 at hh
    split at hh
    · exact hh
    · exact hh
  · intro K m vs h hh
    unfold straitref15_Checks.r0 at hh
    split at hh
    · exact cast (by kernel_rfl) hh
    · exact hh.elim
set_option maxRecDepth 100000 in
theorem straitref15_Checks.eq (a1 : Int) (a2 : Option Addr) (a2l : Nat) (a2c : Nat) (h : Heap) (K : Int → Int → Heap → Prop) : evF straitref15_Checks.ctx Tryz.f61 straitref15_Checks.ann [(.int .i64 a1), (.slice a2 a2l a2c)] h (straitref15_Checks.ret K) = straitref15_Checks a1 a2 a2l a2c h K := by kernel_rfl
set_option maxRecDepth 100000 in
theorem straitref15_Checks.calls [DKc] {a1 : Int} {a2 : Option Addr} {a2l : Nat} {a2c : Nat} {h : Heap} {K : Int → Int → Heap → Prop} (hh : straitref15_Checks a1 a2 a2l a2c h K) (w : World) (hw : w.heap = h) :
    (callFunc 61 #[(.int .i64 a1), (.slice a2 a2l a2c)]).run Tryz.prog w = .ok (.enter 61 #[(.int .i64 a1), (.slice a2 a2l a2c)]) w ∧ Calls Tryz.prog 61 #[(.int .i64 a1), (.slice a2 a2l a2c)] w fun e w' => ∃ v, e = .returned v ∧ Out w w' ∧ straitref15_Checks.ret K v w'.heap := by
  rw [← straitref15_Checks.eq] at hh
  exact fn_calls (args := [(.int .i64 a1), (.slice a2 a2l a2c)]) (c := straitref15_Checks.code) straitref15_Checks.ok Tryz.func61 (by kernel_rfl) (by kernel_rfl) (by kernel_rfl) (by kernel_rfl) (loops_ok (l := [(straitref15_Checks.c0, none, 0, straitref15_Checks.keep0, straitref15_Checks.outs0)]) (by kernel_rfl) ⟨straitref15_Checks.L0, trivial⟩) hh w hw

/-! ### strait/straitref15.Normal: function 105 -/
def straitref15_Normal (a1 : Int) (a2 : Int) (a3 : Int) (h : Heap) (K : Int → Int → Int → Heap → Prop) : Prop :=
  newP h (.cells #[(.int .i64 a1), (.int .i64 a2), (.int .i64 a3)] 27) fun a4 h5 => newP h5 (.cells #[(.int .i64 0), (.int .i64 0), (.int .i64 0)] 27) fun a6 h7 => (∃ (x8 : Int), cell h7 a4 = some (.int .i64 x8) ∧ ∃ (x9 : Int), cell h7 (a4.add 1) = some (.int .i64 x9) ∧ (iteB (decide (x8 > x9)) (∃ (x10 : Int), cell h7 (a4.add 1) = some (.int .i64 x10) ∧ ∃ (x11 : Int), cell h7 a4 = some (.int .i64 x11) ∧ ∃ (x12 : Int), cell h7 (a4.add 2) = some (.int .i64 x12) ∧ stC h7 a6 (.int .i64 x10) fun h13 => stC h13 (a6.add 1) (.int .i64 x11) fun h14 => stC h14 (a6.add 2) (.int .i64 x12) fun h15 => (∃ (x16 : Int), cell h15 a6 = some (.int .i64 x16) ∧ ∃ (x17 : Int), cell h15 (a6.add 1) = some (.int .i64 x17) ∧ ∃ (x18 : Int), cell h15 (a6.add 2) = some (.int .i64 x18) ∧ K x16 x17 x18 h15)) ((∃ (x19 : Int), cell h7 a4 = some (.int .i64 x19) ∧ ∃ (x20 : Int), cell h7 (a4.add 1) = some (.int .i64 x20) ∧ ∃ (x21 : Int), cell h7 (a4.add 2) = some (.int .i64 x21) ∧ stC h7 a6 (.int .i64 x19) fun h22 => stC h22 (a6.add 1) (.int .i64 x20) fun h23 => stC h23 (a6.add 2) (.int .i64 x21) fun h24 => (∃ (x25 : Int), cell h24 a6 = some (.int .i64 x25) ∧ ∃ (x26 : Int), cell h24 (a6.add 1) = some (.int .i64 x26) ∧ ∃ (x27 : Int), cell h24 (a6.add 2) = some (.int .i64 x27) ∧ K x25 x26 x27 h24)))))
def straitref15_Normal.ret (K : Int → Int → Int → Heap → Prop) (v : Value) (h : Heap) : Prop := match v with
  | (.agg ⟨[(.int .i64 r28), (.int .i64 r29), (.int .i64 r30)]⟩) => K r28 r29 r30 h
  | _ => False
theorem straitref15_Normal.ret_elim {K : Int → Int → Int → Heap → Prop} {K' : Value → Heap → Prop} {v : Value} {h : Heap} (hk : ∀ r28 r29 r30 h, K r28 r29 r30 h → K' (.agg #[(.int .i64 r28), (.int .i64 r29), (.int .i64 r30)]) h) (hh : straitref15_Normal.ret K v h) : K' v h := by
  unfold straitref15_Normal.ret at hh
  split at hh
  · exact hk _ _ _ _ hh
  · exact hh.elim
noncomputable def straitref15_Normal.ctx : Ctx := { P := Tryz.prog, call := fun _ _ _ _ => False, qcall := fun _ _ _ _ => False, quiet := fun f => Nat.beq f 1000138 || Nat.beq f 2000157, loop := fun _ _ _ _ => False }
theorem straitref15_Normal.ok [DKc] : straitref15_Normal.ctx.OK where
  mixed := by kernel_rfl
  mono := fun hh _ => hh.elim
  call := fun hh => hh.elim
  qmono := fun hh _ => hh.elim
  qval := fun hh => hh.elim
  qcall := fun hh => hh.elim
noncomputable def straitref15_Normal.code : Code := (Tryz.f105.body).getD .skip
def straitref15_Normal.ann : Ann := .auto
set_option maxRecDepth 100000 in
theorem straitref15_Normal.eq (a1 : Int) (a2 : Int) (a3 : Int) (h : Heap) (K : Int → Int → Int → Heap → Prop) : evF straitref15_Normal.ctx Tryz.f105 straitref15_Normal.ann [(.agg #[(.int .i64 a1), (.int .i64 a2), (.int .i64 a3)])] h (straitref15_Normal.ret K) = straitref15_Normal a1 a2 a3 h K := by kernel_rfl
set_option maxRecDepth 100000 in
theorem straitref15_Normal.calls [DKc] {a1 : Int} {a2 : Int} {a3 : Int} {h : Heap} {K : Int → Int → Int → Heap → Prop} (hh : straitref15_Normal a1 a2 a3 h K) (w : World) (hw : w.heap = h) :
    (callFunc 105 #[(.agg #[(.int .i64 a1), (.int .i64 a2), (.int .i64 a3)])]).run Tryz.prog w = .ok (.enter 105 #[(.agg #[(.int .i64 a1), (.int .i64 a2), (.int .i64 a3)])]) w ∧ Calls Tryz.prog 105 #[(.agg #[(.int .i64 a1), (.int .i64 a2), (.int .i64 a3)])] w fun e w' => ∃ v, e = .returned v ∧ Out w w' ∧ straitref15_Normal.ret K v w'.heap := by
  rw [← straitref15_Normal.eq] at hh
  exact fn_calls (args := [(.agg #[(.int .i64 a1), (.int .i64 a2), (.int .i64 a3)])]) (c := straitref15_Normal.code) straitref15_Normal.ok Tryz.func105 (by kernel_rfl) (by kernel_rfl) (by kernel_rfl) (by kernel_rfl) (loops_ok (l := []) (by kernel_rfl) trivial) hh w hw

/-! ### strait/straitref01.Add: function 133 -/
def straitref01_Add (a1 : Int) (a2 : Int) (h : Heap) (K : Int → Bool → Heap → Prop) : Prop :=
  newP h (.cells #[(.int .i64 0), (.bool false)] 197) fun a3 h4 => ((let j11 := (fun (y5 : Int) (y6 : Bool) => iteB y6 (stC h4 a3 (.int .i64 0) fun h7 => stC h7 (a3.add 1) (.bool false) fun h8 => (∃ (x9 : Int), cell h8 a3 = some (.int .i64 x9) ∧ ∃ (x10 : Bool), cell h8 (a3.add 1) = some (.bool x10) ∧ K x9 x10 h8)) ((stC h4 a3 (.int .i64 y5) fun h12 => stC h12 (a3.add 1) (.bool true) fun h13 => (∃ (x14 : Int), cell h13 a3 = some (.int .i64 x14) ∧ ∃ (x15 : Bool), cell h13 (a3.add 1) = some (.bool x15) ∧ K x14 x15 h13))));
  iteB (decide (a2 ≥ (0 : Int))) (iteB (decide ((IntKind.i64.wrap (a1 + a2)) < a1)) ((j11 (IntKind.i64.wrap (a1 + a2)) true)) (iteB (decide (a2 < (0 : Int))) ((j11 (IntKind.i64.wrap (a1 + a2)) (decide ((IntKind.i64.wrap (a1 + a2)) > a1)))) ((j11 (IntKind.i64.wrap (a1 + a2)) false)))) (iteB (decide (a2 < (0 : Int))) ((j11 (IntKind.i64.wrap (a1 + a2)) (decide ((IntKind.i64.wrap (a1 + a2)) > a1)))) ((j11 (IntKind.i64.wrap (a1 + a2)) false)))))
def straitref01_Add.ret (K : Int → Bool → Heap → Prop) (v : Value) (h : Heap) : Prop := match v with
  | (.agg ⟨[(.int .i64 r16), (.bool r17)]⟩) => K r16 r17 h
  | _ => False
theorem straitref01_Add.ret_elim {K : Int → Bool → Heap → Prop} {K' : Value → Heap → Prop} {v : Value} {h : Heap} (hk : ∀ r16 r17 h, K r16 r17 h → K' (.agg #[(.int .i64 r16), (.bool r17)]) h) (hh : straitref01_Add.ret K v h) : K' v h := by
  unfold straitref01_Add.ret at hh
  split at hh
  · exact hk _ _ _ hh
  · exact hh.elim
noncomputable def straitref01_Add.ctx : Ctx := { P := Tryz.prog, call := fun _ _ _ _ => False, qcall := fun _ _ _ _ => False, quiet := fun f => Nat.beq f 1000138 || Nat.beq f 2000157, loop := fun _ _ _ _ => False }
theorem straitref01_Add.ok [DKc] : straitref01_Add.ctx.OK where
  mixed := by kernel_rfl
  mono := fun hh _ => hh.elim
  call := fun hh => hh.elim
  qmono := fun hh _ => hh.elim
  qval := fun hh => hh.elim
  qcall := fun hh => hh.elim
noncomputable def straitref01_Add.code : Code := (Tryz.f133.body).getD .skip
def straitref01_Add.ann : Ann := .auto
set_option maxRecDepth 100000 in
theorem straitref01_Add.eq (a1 : Int) (a2 : Int) (h : Heap) (K : Int → Bool → Heap → Prop) : evF straitref01_Add.ctx Tryz.f133 straitref01_Add.ann [(.int .i64 a1), (.int .i64 a2)] h (straitref01_Add.ret K) = straitref01_Add a1 a2 h K := by kernel_rfl
set_option maxRecDepth 100000 in
theorem straitref01_Add.calls [DKc] {a1 : Int} {a2 : Int} {h : Heap} {K : Int → Bool → Heap → Prop} (hh : straitref01_Add a1 a2 h K) (w : World) (hw : w.heap = h) :
    (callFunc 133 #[(.int .i64 a1), (.int .i64 a2)]).run Tryz.prog w = .ok (.enter 133 #[(.int .i64 a1), (.int .i64 a2)]) w ∧ Calls Tryz.prog 133 #[(.int .i64 a1), (.int .i64 a2)] w fun e w' => ∃ v, e = .returned v ∧ Out w w' ∧ straitref01_Add.ret K v w'.heap := by
  rw [← straitref01_Add.eq] at hh
  exact fn_calls (args := [(.int .i64 a1), (.int .i64 a2)]) (c := straitref01_Add.code) straitref01_Add.ok Tryz.func133 (by kernel_rfl) (by kernel_rfl) (by kernel_rfl) (by kernel_rfl) (loops_ok (l := []) (by kernel_rfl) trivial) hh w hw

/-! ### strait/straitref15.add: function 104 -/
def straitref15_add.b0 (K0 : Heap → Prop) (K2 : (Option Addr) → Nat → Nat → Bool → Heap → Prop) (cont : (Option Addr) → Nat → Nat → Addr → Addr → (Option Addr) → Nat → Nat → Bool → Int → Heap → Prop) (c0_1001 : Option Addr) (c0_1002 : Nat) (c0_1003 : Nat) (c3_1004 : Addr) (c4_1005 : Addr) (v5_1006 : Option Addr) (v5_1006l : Nat) (v5_1006c : Nat) (v6_1007 : Bool) (v7_1008 : Int) (h1009 : Heap) : Prop :=
  (iteB (decide (v7_1008 < (c0_1002 : Int))) ((chkP c0_1001 fun a1010 => (0 ≤ v7_1008 ∧ v7_1008 < (c0_1002 : Int)) ∧ ∃ (x1011 : Int), cell h1009 (a1010.add (v7_1008.toNat * 3)) = some (.int .i64 x1011) ∧ ∃ (x1012 : Int), cell h1009 ((a1010.add (v7_1008.toNat * 3)).add 1) = some (.int .i64 x1012) ∧ ∃ (x1013 : Int), cell h1009 ((a1010.add (v7_1008.toNat * 3)).add 2) = some (.int .i64 x1013) ∧ newP h1009 (.cells #[(.int .i64 0), (.int .i64 0), (.int .i64 0)] 27) fun a1014 h1015 => stC h1015 a1014 (.int .i64 x1011) fun h1016 => stC h1016 (a1014.add 1) (.int .i64 x1012) fun h1017 => stC h1017 (a1014.add 2) (.int .i64 x1013) fun h1018 => (let j1070 := (fun (y1057 : Option Addr) (y1057l : Nat) (y1057c : Nat) (y1058 : Bool) (h1059 : Heap) => ∃ (x1060 : Int), cell h1059 a1014 = some (.int .i64 x1060) ∧ ∃ (x1061 : Int), cell h1059 (a1014.add 1) = some (.int .i64 x1061) ∧ ∃ (x1062 : Int), cell h1059 (a1014.add 2) = some (.int .i64 x1062) ∧ newP h1059 (.cells #[(.int .i64 x1060), (.int .i64 x1061), (.int .i64 x1062)] 27) fun a1063 h1064 => ∃ n1069, cellsAt h1064 (some a1063) (1 * 3) n1069 ∧ appP 27 3 24 [(.int .i64 0), (.int .i64 0), (.int .i64 0)] y1057 y1057l y1057c 1 n1069 h1064 fun q1065 l1066 c1067 h1068 => ((cont c0_1001 c0_1002 c0_1003 c3_1004 c4_1005 q1065 l1066 c1067 y1058 (IntKind.i64.wrap (v7_1008 + 1)) h1068)));
  let j1056 := (fun (y1023 : Bool) => iteB y1023 (∃ (x1024 : Int), cell h1018 (a1014.add 2) = some (.int .i64 x1024) ∧ ∃ (x1025 : Int), cell h1018 (c3_1004.add 2) = some (.int .i64 x1025) ∧ callP2 (straitref01_Add x1024 x1025 h1018) fun x1026 x1027 h1028 => newP h1028 (.cells #[(.int .i64 0), (.bool false)] 197) fun a1029 h1030 => stC h1030 a1029 (.int .i64 x1026) fun h1031 => stC h1031 (a1029.add 1) (.bool x1027) fun h1032 => (∃ (x1033 : Bool), cell h1032 (a1029.add 1) = some (.bool x1033) ∧ (iteB (!x1033) (stC h1032 c4_1005 (.slice none 0 0) fun h1034 => stC h1034 (c4_1005.add 1) (.bool false) fun h1035 => K0 h1035) ((∃ (x1036 : Int), cell h1032 a1029 = some (.int .i64 x1036) ∧ stC h1032 (a1014.add 2) (.int .i64 x1036) fun h1037 => ((j1070 v5_1006 v5_1006l v5_1006c true h1037))))))) (let j1055 := (fun (y1044 : Bool) => iteB y1044 (∃ (x1045 : Int), cell h1018 c3_1004 = some (.int .i64 x1045) ∧ ∃ (x1046 : Int), cell h1018 (c3_1004.add 1) = some (.int .i64 x1046) ∧ ∃ (x1047 : Int), cell h1018 (c3_1004.add 2) = some (.int .i64 x1047) ∧ newP h1018 (.cells #[(.int .i64 x1045), (.int .i64 x1046), (.int .i64 x1047)] 27) fun a1048 h1049 => ∃ n1054, cellsAt h1049 (some a1048) (1 * 3) n1054 ∧ appP 27 3 24 [(.int .i64 0), (.int .i64 0), (.int .i64 0)] v5_1006 v5_1006l v5_1006c 1 n1054 h1049 fun q1050 l1051 c1052 h1053 => ((j1070 q1050 l1051 c1052 true h1053))) ((j1070 v5_1006 v5_1006l v5_1006c v6_1007 h1018)));
  iteB (!v6_1007) (∃ (x1038 : Int), cell h1018 a1014 = some (.int .i64 x1038) ∧ ∃ (x1039 : Int), cell h1018 c3_1004 = some (.int .i64 x1039) ∧ iteB (decide (x1038 > x1039)) ((j1055 true)) (∃ (x1040 : Int), cell h1018 a1014 = some (.int .i64 x1040) ∧ ∃ (x1041 : Int), cell h1018 c3_1004 = some (.int .i64 x1041) ∧ iteB (x1040 == x1041) (∃ (x1042 : Int), cell h1018 (a1014.add 1) = some (.int .i64 x1042) ∧ ∃ (x1043 : Int), cell h1018 (c3_1004.add 1) = some (.int .i64 x1043) ∧ (j1055 (decide (x1042 > x1043)))) ((j1055 false)))) ((j1055 false))));
  ∃ (x1019 : Int), cell h1018 a1014 = some (.int .i64 x1019) ∧ ∃ (x1020 : Int), cell h1018 c3_1004 = some (.int .i64 x1020) ∧ iteB (x1019 == x1020) (∃ (x1021 : Int), cell h1018 (a1014.add 1) = some (.int .i64 x1021) ∧ ∃ (x1022 : Int), cell h1018 (c3_1004.add 1) = some (.int .i64 x1022) ∧ (j1056 (x1021 == x1022))) ((j1056 false))))) (K2 v5_1006 v5_1006l v5_1006c v6_1007 h1009))
def straitref15_add.l0 (K0 : Heap → Prop) (K2 : (Option Addr) → Nat → Nat → Bool → Heap → Prop) : Nat → (Option Addr) → Nat → Nat → Addr → Addr → (Option Addr) → Nat → Nat → Bool → Int → Heap → Prop
  | 0, _, _, _, _, _, _, _, _, _, _, _ => False
  | m + 1, c0_1001, c0_1002, c0_1003, c3_1004, c4_1005, v5_1006, v5_1006l, v5_1006c, v6_1007, v7_1008, h => straitref15_add.b0 K0 K2 (straitref15_add.l0 K0 K2 m) c0_1001 c0_1002 c0_1003 c3_1004 c4_1005 v5_1006 v5_1006l v5_1006c v6_1007 v7_1008 h
def straitref15_add (a1 : Option Addr) (a1l : Nat) (a1c : Nat) (a2 : Int) (a3 : Int) (a4 : Int) (h : Heap) (K : (Option Addr) → Nat → Nat → Bool → Heap → Prop) : Prop :=
  newP h (.cells #[(.int .i64 a2), (.int .i64 a3), (.int .i64 a4)] 27) fun a5 h6 => newP h6 (.cells #[(.slice none 0 0), (.bool false)] 126) fun a7 h8 => ((((∃ m15, straitref15_add.l0 (fun h9 => ∃ (x10 : Option Addr) (x10l : Nat) (x10c : Nat), cell h9 a7 = some (.slice x10 x10l x10c) ∧ ∃ (x11 : Bool), cell h9 (a7.add 1) = some (.bool x11) ∧ K x10 x10l x10c x11 h9) (fun z12 z12l z12c z13 h14 => (((iteB (!z13) (∃ (x16 : Int), cell h14 a5 = some (.int .i64 x16) ∧ ∃ (x17 : Int), cell h14 (a5.add 1) = some (.int .i64 x17) ∧ ∃ (x18 : Int), cell h14 (a5.add 2) = some (.int .i64 x18) ∧ newP h14 (.cells #[(.int .i64 x16), (.int .i64 x17), (.int .i64 x18)] 27) fun a19 h20 => ∃ n25, cellsAt h20 (some a19) (1 * 3) n25 ∧ appP 27 3 24 [(.int .i64 0), (.int .i64 0), (.int .i64 0)] z12 z12l z12c 1 n25 h20 fun q21 l22 c23 h24 => (stC h24 a7 (.slice q21 l22 c23) fun h32 => stC h32 (a7.add 1) (.bool true) fun h33 => (∃ (x34 : Option Addr) (x34l : Nat) (x34c : Nat), cell h33 a7 = some (.slice x34 x34l x34c) ∧ ∃ (x35 : Bool), cell h33 (a7.add 1) = some (.bool x35) ∧ K x34 x34l x34c x35 h33))) ((stC h14 a7 (.slice z12 z12l z12c) fun h36 => stC h36 (a7.add 1) (.bool true) fun h37 => (∃ (x38 : Option Addr) (x38l : Nat) (x38c : Nat), cell h37 a7 = some (.slice x38 x38l x38c) ∧ ∃ (x39 : Bool), cell h37 (a7.add 1) = some (.bool x39) ∧ K x38 x38l x38c x39 h37))))))) m15 a1 a1l a1c a5 a7 none 0 0 false 0 h8))))
def straitref15_add.ret (K : (Option Addr) → Nat → Nat → Bool → Heap → Prop) (v : Value) (h : Heap) : Prop := match v with
  | (.agg ⟨[(.slice r40 r40l r40c), (.bool r41)]⟩) => K r40 r40l r40c r41 h
  | _ => False
theorem straitref15_add.ret_elim {K : (Option Addr) → Nat → Nat → Bool → Heap → Prop} {K' : Value → Heap → Prop} {v : Value} {h : Heap} (hk : ∀ r40 r40l r40c r41 h, K r40 r40l r40c r41 h → K' (.agg #[(.slice r40 r40l r40c), (.bool r41)]) h) (hh : straitref15_add.ret K v h) : K' v h := by
  unfold straitref15_add.ret at hh
  split at hh
  · exact hk _ _ _ _ _ hh
  · exact hh.elim
def straitref15_add.call (f : FuncId) (vs : List Value) (h : Heap) (K : Value → Heap → Prop) : Prop := match f, vs with
  | 133, [(.int .i64 a1), (.int .i64 a2)] => callP2 (straitref01_Add a1 a2 h) fun r16 r17 h' => K (.agg #[(.int .i64 r16), (.bool r17)]) h'
  | _, _ => False
def straitref15_add.r0 (K : Nat → List Value → Heap → Prop) (m : Nat) (vs : List Value) (h : Heap) : Prop := match vs with
  | [(.slice c0_1001 c0_1002 c0_1003), (.pointer (some c3_1004)), (.pointer (some c4_1005)), (.slice v5_1006 v5_1006l v5_1006c), (.bool v6_1007), (.int .i64 v7_1008)] => straitref15_add.l0 (fun h' => K 0 [(.pointer (some c4_1005))] h') (fun z42 z42l z42c z43 h' => K 2 [(.pointer (some c3_1004)), (.pointer (some c4_1005)), (.slice z42 z42l z42c), (.bool z43)] h') m c0_1001 c0_1002 c0_1003 c3_1004 c4_1005 v5_1006 v5_1006l v5_1006c v6_1007 v7_1008 h
  | _ => False
def straitref15_add.loop (i : Nat) (vs : List Value) (h : Heap) (K : Nat → List Value → Heap → Prop) : Prop := match i with
  | 0 => ∃ m, straitref15_add.r0 K m vs h
  | _ => False
noncomputable def straitref15_add.ctx : Ctx := { P := Tryz.prog, call := straitref15_add.call, qcall := fun _ _ _ _ => False, quiet := fun f => Nat.beq f 1000138 || Nat.beq f 2000157, loop := straitref15_add.loop }
theorem straitref15_add.ok [DKc] : straitref15_add.ctx.OK where
  mixed := by kernel_rfl
  mono := by
    intro f args h K K' hh hk
    change straitref15_add.call f args h K at hh
    change straitref15_add.call f args h K'
    unfold straitref15_add.call at hh ⊢
    split at hh
    · obtain ⟨R, h1, h2⟩ := hh
      exact ⟨R, h1, fun _ _ x hr => hk _ _ (h2 _ _ x hr)⟩
    · exact hh.elim
  call := by
    intro f args h K hh w hw
    change straitref15_add.call f args h K at hh
    unfold straitref15_add.call at hh
    split at hh
    · obtain ⟨R, h1, h2⟩ := hh
      obtain ⟨g1, g2⟩ := straitref01_Add.calls h1 w hw
      exact ⟨g1, g2.mono fun e w' ⟨v, he, ho, hr⟩ => ⟨v, he, ho, straitref01_Add.ret_elim h2 hr⟩⟩
    · exact hh.elim
  qmono := fun hh _ => hh.elim
  qval := fun hh => hh.elim
  qcall := fun hh => hh.elim
noncomputable def straitref15_add.code : Code := (Tryz.f104.body).getD .skip
def straitref15_add.ann : Ann := (.two .auto (.two .auto (.two .auto (.two (.two .auto (.two (.loop 0 [0, 3, 4, 5, 6, 7] [(2, [3, 4, 5, 6]), (0, [4])] .auto) .auto)) .auto))))
noncomputable def straitref15_add.c0 : Code := sub straitref15_add.code [1, 1, 1, 0, 1, 0, 0]
def straitref15_add.a0 : Ann := .auto
def straitref15_add.keep0 : List Nat := [0, 3, 4, 5, 6, 7]
def straitref15_add.outs0 : List (Nat × List Nat) := [(2, [3, 4, 5, 6]), (0, [4])]
set_option maxRecDepth 100000 in
theorem straitref15_add.L0 [DKc] : LoopOK straitref15_add.ctx 83 straitref15_add.c0 0 straitref15_add.keep0 straitref15_add.outs0 := by
  refine loop_ok (n := straitref15_add.a0) straitref15_add.ok (by kernel_rfl) (loops_ok (l := []) (by kernel_rfl) ?_) straitref15_add.r0 ?_ ?_ (fun vs h K hh => hh)
  · exact trivial
  · intro K vs h hh
    unfold straitref15_add.r0 at hh
    split at hh
    · exact hh
    · exact hh
  · intro K m vs h hh
    unfold straitref15_add.r0 at hh
    split at hh
    · exact cast (by kernel_rfl) hh
    · exact hh.elim
set_option maxRecDepth 100000 in
theorem straitref15_add.eq (a1 : Option Addr) (a1l : Nat) (a1c : Nat) (a2 : Int) (a3 : Int) (a4 : Int) (h : Heap) (K : (Option Addr) → Nat → Nat → Bool → Heap → Prop) : evF straitref15_add.ctx Tryz.f104 straitref15_add.ann [(.slice a1 a1l a1c), (.agg #[(.int .i64 a2), (.int .i64 a3), (.int .i64 a4)])] h (straitref15_add.ret K) = straitref15_add a1 a1l a1c a2 a3 a4 h K := by kernel_rfl
set_option maxRecDepth 100000 in
theorem straitref15_add.calls [DKc] {a1 : Option Addr} {a1l : Nat} {a1c : Nat} {a2 : Int} {a3 : Int} {a4 : Int} {h : Heap} {K : (Option Addr) → Nat → Nat → Bool → Heap → Prop} (hh : straitref15_add a1 a1l a1c a2 a3 a4 h K) (w : World) (hw : w.heap = h) :
    (callFunc 104 #[(.slice a1 a1l a1c), (.agg #[(.int .i64 a2), (.int .i64 a3), (.int .i64 a4)])]).run Tryz.prog w = .ok (.enter 104 #[(.slice a1 a1l a1c), (.agg #[(.int .i64 a2), (.int .i64 a3), (.int .i64 a4)])]) w ∧ Calls Tryz.prog 104 #[(.slice a1 a1l a1c), (.agg #[(.int .i64 a2), (.int .i64 a3), (.int .i64 a4)])] w fun e w' => ∃ v, e = .returned v ∧ Out w w' ∧ straitref15_add.ret K v w'.heap := by
  rw [← straitref15_add.eq] at hh
  exact fn_calls (args := [(.slice a1 a1l a1c), (.agg #[(.int .i64 a2), (.int .i64 a3), (.int .i64 a4)])]) (c := straitref15_add.code) straitref15_add.ok Tryz.func104 (by kernel_rfl) (by kernel_rfl) (by kernel_rfl) (by kernel_rfl) (loops_ok (l := [(straitref15_add.c0, none, 0, straitref15_add.keep0, straitref15_add.outs0)]) (by kernel_rfl) ⟨straitref15_add.L0, trivial⟩) hh w hw

/-! ### strait/straitref15.Merge: function 62 -/
def straitref15_Merge.b1 (K4 : (Option Addr) → Nat → Nat → Heap → Prop) (cont : Addr → (Option Addr) → Nat → Nat → (Option Addr) → Nat → Nat → Int → Heap → Prop) (c2_2001 : Addr) (c3_2002 : Option Addr) (c3_2003 : Nat) (c3_2004 : Nat) (v6_2005 : Option Addr) (v6_2005l : Nat) (v6_2005c : Nat) (v7_2006 : Int) (h2007 : Heap) : Prop :=
  (iteB (decide (v7_2006 < (c3_2003 : Int))) ((chkP c3_2002 fun a2008 => (0 ≤ v7_2006 ∧ v7_2006 < (c3_2003 : Int)) ∧ ∃ (x2009 : Int), cell h2007 ((a2008.add (v7_2006.toNat * 3)).add 2) = some (.int .i64 x2009) ∧ (iteB (x2009 != (0 : Int)) (chkP c3_2002 fun a2010 => (0 ≤ v7_2006 ∧ v7_2006 < (c3_2003 : Int)) ∧ ∃ (x2011 : Int), cell h2007 (a2010.add (v7_2006.toNat * 3)) = some (.int .i64 x2011) ∧ ∃ (x2012 : Int), cell h2007 ((a2010.add (v7_2006.toNat * 3)).add 1) = some (.int .i64 x2012) ∧ ∃ (x2013 : Int), cell h2007 ((a2010.add (v7_2006.toNat * 3)).add 2) = some (.int .i64 x2013) ∧ newP h2007 (.cells #[(.int .i64 x2011), (.int .i64 x2012), (.int .i64 x2013)] 27) fun a2014 h2015 => ∃ n2020, cellsAt h2015 (some a2014) (1 * 3) n2020 ∧ appP 27 3 24 [(.int .i64 0), (.int .i64 0), (.int .i64 0)] v6_2005 v6_2005l v6_2005c 1 n2020 h2015 fun q2016 l2017 c2018 h2019 => ((cont c2_2001 c3_2002 c3_2003 c3_2004 q2016 l2017 c2018 (IntKind.i64.wrap (v7_2006 + 1)) h2019))) (((cont c2_2001 c3_2002 c3_2003 c3_2004 v6_2005 v6_2005l v6_2005c (IntKind.i64.wrap (v7_2006 + 1)) h2007)))))) (K4 v6_2005 v6_2005l v6_2005c h2007))
def straitref15_Merge.l1 (K4 : (Option Addr) → Nat → Nat → Heap → Prop) : Nat → Addr → (Option Addr) → Nat → Nat → (Option Addr) → Nat → Nat → Int → Heap → Prop
  | 0, _, _, _, _, _, _, _, _, _ => False
  | m + 1, c2_2001, c3_2002, c3_2003, c3_2004, v6_2005, v6_2005l, v6_2005c, v7_2006, h => straitref15_Merge.b1 K4 (straitref15_Merge.l1 K4 m) c2_2001 c3_2002 c3_2003 c3_2004 v6_2005 v6_2005l v6_2005c v7_2006 h
def straitref15_Merge.b0 (K0 : Heap → Prop) (K2 : (Option Addr) → Nat → Nat → Heap → Prop) (cont : (Option Addr) → Nat → Nat → Addr → (Option Addr) → Nat → Nat → Int → Heap → Prop) (c0_1001 : Option Addr) (c0_1002 : Nat) (c0_1003 : Nat) (c2_1004 : Addr) (v3_1005 : Option Addr) (v3_1005l : Nat) (v3_1005c : Nat) (v4_1006 : Int) (h1007 : Heap) : Prop :=
  (iteB (decide (v4_1006 < (c0_1002 : Int))) ((chkP c0_1001 fun a1008 => (0 ≤ v4_1006 ∧ v4_1006 < (c0_1002 : Int)) ∧ ∃ (x1009 : Int), cell h1007 (a1008.add (v4_1006.toNat * 3)) = some (.int .i64 x1009) ∧ chkP c0_1001 fun a1010 => (0 ≤ v4_1006 ∧ v4_1006 < (c0_1002 : Int)) ∧ ∃ (x1011 : Int), cell h1007 ((a1010.add (v4_1006.toNat * 3)).add 1) = some (.int .i64 x1011) ∧ (iteB (x1009 != x1011) (chkP c0_1001 fun a1012 => (0 ≤ v4_1006 ∧ v4_1006 < (c0_1002 : Int)) ∧ ∃ (x1013 : Int), cell h1007 (a1012.add (v4_1006.toNat * 3)) = some (.int .i64 x1013) ∧ ∃ (x1014 : Int), cell h1007 ((a1012.add (v4_1006.toNat * 3)).add 1) = some (.int .i64 x1014) ∧ ∃ (x1015 : Int), cell h1007 ((a1012.add (v4_1006.toNat * 3)).add 2) = some (.int .i64 x1015) ∧ callP3 (straitref15_Normal x1013 x1014 x1015 h1007) fun x1016 x1017 x1018 h1019 => callP4 (straitref15_add v3_1005 v3_1005l v3_1005c x1016 x1017 x1018 h1019) fun x1020 x1020l x1020c x1021 h1022 => newP h1022 (.cells #[(.slice none 0 0), (.bool false)] 126) fun a1023 h1024 => stC h1024 a1023 (.slice x1020 x1020l x1020c) fun h1025 => stC h1025 (a1023.add 1) (.bool x1021) fun h1026 => (∃ (x1027 : Bool), cell h1026 (a1023.add 1) = some (.bool x1027) ∧ (iteB (!x1027) (stC h1026 c2_1004 (.slice none 0 0) fun h1028 => stC h1028 (c2_1004.add 1) (.bool false) fun h1029 => K0 h1029) ((∃ (x1030 : Option Addr) (x1030l : Nat) (x1030c : Nat), cell h1026 a1023 = some (.slice x1030 x1030l x1030c) ∧ ((cont c0_1001 c0_1002 c0_1003 c2_1004 x1030 x1030l x1030c (IntKind.i64.wrap (v4_1006 + 1)) h1026))))))) (((cont c0_1001 c0_1002 c0_1003 c2_1004 v3_1005 v3_1005l v3_1005c (IntKind.i64.wrap (v4_1006 + 1)) h1007)))))) (K2 v3_1005 v3_1005l v3_1005c h1007))
def straitref15_Merge.l0 (K0 : Heap → Prop) (K2 : (Option Addr) → Nat → Nat → Heap → Prop) : Nat → (Option Addr) → Nat → Nat → Addr → (Option Addr) → Nat → Nat → Int → Heap → Prop
  | 0, _, _, _, _, _, _, _, _, _ => False
  | m + 1, c0_1001, c0_1002, c0_1003, c2_1004, v3_1005, v3_1005l, v3_1005c, v4_1006, h => straitref15_Merge.b0 K0 K2 (straitref15_Merge.l0 K0 K2 m) c0_1001 c0_1002 c0_1003 c2_1004 v3_1005 v3_1005l v3_1005c v4_1006 h
def straitref15_Merge (a1 : Option Addr) (a1l : Nat) (a1c : Nat) (h : Heap) (K : (Option Addr) → Nat → Nat → Bool → Heap → Prop) : Prop :=
  newP h (.cells #[(.slice none 0 0), (.bool false)] 126) fun a2 h3 => (((∃ m9, straitref15_Merge.l0 (fun h4 => ∃ (x5 : Option Addr) (x5l : Nat) (x5c : Nat), cell h4 a2 = some (.slice x5 x5l x5c) ∧ ∃ (x6 : Bool), cell h4 (a2.add 1) = some (.bool x6) ∧ K x5 x5l x5c x6 h4) (fun z7 z7l z7c h8 => ((((∃ m12, straitref15_Merge.l1 (fun z10 z10l z10c h11 => ((stC h11 a2 (.slice z10 z10l z10c) fun h13 => stC h13 (a2.add 1) (.bool true) fun h14 => (∃ (x15 : Option Addr) (x15l : Nat) (x15c : Nat), cell h14 a2 = some (.slice x15 x15l x15c) ∧ ∃ (x16 : Bool), cell h14 (a2.add 1) = some (.bool x16) ∧ K x15 x15l x15c x16 h14)))) m12 a2 z7 z7l z7c none 0 0 0 h8))))) m9 a1 a1l a1c a2 none 0 0 0 h3)))
def straitref15_Merge.ret (K : (Option Addr) → Nat → Nat → Bool → Heap → Prop) (v : Value) (h : Heap) : Prop := match v with
  | (.agg ⟨[(.slice r17 r17l r17c), (.bool r18)]⟩) => K r17 r17l r17c r18 h
  | _ => False
theorem straitref15_Merge.ret_elim {K : (Option Addr) → Nat → Nat → Bool → Heap → Prop} {K' : Value → Heap → Prop} {v : Value} {h : Heap} (hk : ∀ r17 r17l r17c r18 h, K r17 r17l r17c r18 h → K' (.agg #[(.slice r17 r17l r17c), (.bool r18)]) h) (hh : straitref15_Merge.ret K v h) : K' v h := by
  unfold straitref15_Merge.ret at hh
  split at hh
  · exact hk _ _ _ _ _ hh
  · exact hh.elim
def straitref15_Merge.call (f : FuncId) (vs : List Value) (h : Heap) (K : Value → Heap → Prop) : Prop := match f, vs with
  | 104, [(.slice a1 a1l a1c), (.agg ⟨[(.int .i64 a2), (.int .i64 a3), (.int .i64 a4)]⟩)] => callP4 (straitref15_add a1 a1l a1c a2 a3 a4 h) fun r40 r40l r40c r41 h' => K (.agg #[(.slice r40 r40l r40c), (.bool r41)]) h'
  | 105, [(.agg ⟨[(.int .i64 a1), (.int .i64 a2), (.int .i64 a3)]⟩)] => callP3 (straitref15_Normal a1 a2 a3 h) fun r28 r29 r30 h' => K (.agg #[(.int .i64 r28), (.int .i64 r29), (.int .i64 r30)]) h'
  | _, _ => False
def straitref15_Merge.r0 (K : Nat → List Value → Heap → Prop) (m : Nat) (vs : List Value) (h : Heap) : Prop := match vs with
  | [(.slice c0_1001 c0_1002 c0_1003), (.pointer (some c2_1004)), (.slice v3_1005 v3_1005l v3_1005c), (.int .i64 v4_1006)] => straitref15_Merge.l0 (fun h' => K 0 [(.pointer (some c2_1004))] h') (fun z19 z19l z19c h' => K 2 [(.pointer (some c2_1004)), (.slice z19 z19l z19c)] h') m c0_1001 c0_1002 c0_1003 c2_1004 v3_1005 v3_1005l v3_1005c v4_1006 h
  | _ => False
def straitref15_Merge.r1 (K : Nat → List Value → Heap → Prop) (m : Nat) (vs : List Value) (h : Heap) : Prop := match vs with
  | [(.pointer (some c2_2001)), (.slice c3_2002 c3_2003 c3_2004), (.slice v6_2005 v6_2005l v6_2005c), (.int .i64 v7_2006)] => straitref15_Merge.l1 (fun z20 z20l z20c h' => K 4 [(.pointer (some c2_2001)), (.slice z20 z20l z20c)] h') m c2_2001 c3_2002 c3_2003 c3_2004 v6_2005 v6_2005l v6_2005c v7_2006 h
  | _ => False
def straitref15_Merge.loop (i : Nat) (vs : List Value) (h : Heap) (K : Nat → List Value → Heap → Prop) : Prop := match i with
  | 0 => ∃ m, straitref15_Merge.r0 K m vs h
  | 1 => ∃ m, straitref15_Merge.r1 K m vs h
  | _ => False
noncomputable def straitref15_Merge.ctx : Ctx := { P := Tryz.prog, call := straitref15_Merge.call, qcall := fun _ _ _ _ => False, quiet := fun f => Nat.beq f 1000138 || Nat.beq f 2000157, loop := straitref15_Merge.loop }
theorem straitref15_Merge.ok [DKc] : straitref15_Merge.ctx.OK where
  mixed := by kernel_rfl
  mono := by
    intro f args h K K' hh hk
    change straitref15_Merge.call f args h K at hh
    change straitref15_Merge.call f args h K'
    unfold straitref15_Merge.call at hh ⊢
    split at hh
    · obtain ⟨R, h1, h2⟩ := hh
      exact ⟨R, h1, fun _ _ _ _ x hr => hk _ _ (h2 _ _ _ _ x hr)⟩
    · obtain ⟨R, h1, h2⟩ := hh
      exact ⟨R, h1, fun _ _ _ x hr => hk _ _ (h2 _ _ _ x hr)⟩
    · exact hh.elim
  call := by
    intro f args h K hh w hw
    change straitref15_Merge.call f args h K at hh
    unfold straitref15_Merge.call at hh
    split at hh
    · obtain ⟨R, h1, h2⟩ := hh
      obtain ⟨g1, g2⟩ := straitref15_add.calls h1 w hw
      exact ⟨g1, g2.mono fun e w' ⟨v, he, ho, hr⟩ => ⟨v, he, ho, straitref15_add.ret_elim h2 hr⟩⟩
    · obtain ⟨R, h1, h2⟩ := hh
      obtain ⟨g1, g2⟩ := straitref15_Normal.calls h1 w hw
      exact ⟨g1, g2.mono fun e w' ⟨v, he, ho, hr⟩ => ⟨v, he, ho, straitref15_Normal.ret_elim h2 hr⟩⟩
    · exact hh.elim
  qmono := fun hh _ => hh.elim
  qval := fun hh => hh.elim
  qcall := fun hh => hh.elim
noncomputable def straitref15_Merge.code : Code := (Tryz.f62.body).getD .skip
def straitref15_Merge.ann : Ann := (.two .auto (.two .auto (.two (.two .auto (.two (.loop 0 [0, 2, 3, 4] [(2, [2, 3]), (0, [2])] (.two .auto (.two (.two (.two (.reg [0, 0, 3, 7, 15, 0, 0, 96, 224, 480, 1023] (.take 0 (.take 1 (.take 2 (.take 3 (.take 4 (.take 5 (.take 6 (.take 7 (.take 8 (.take 9 (.take 10 .done)))))))))))) .auto) .auto) .auto))) .auto)) (.two .auto (.two (.two .auto (.two (.loop 1 [2, 3, 6, 7] [(4, [2, 6])] .auto) .auto)) .auto)))))
noncomputable def straitref15_Merge.c1 : Code := sub straitref15_Merge.code [1, 1, 1, 1, 0, 1, 0, 0]
def straitref15_Merge.a1 : Ann := .auto
def straitref15_Merge.keep1 : List Nat := [2, 3, 6, 7]
def straitref15_Merge.outs1 : List (Nat × List Nat) := [(4, [2, 6])]
noncomputable def straitref15_Merge.c0 : Code := sub straitref15_Merge.code [1, 1, 0, 1, 0, 0]
def straitref15_Merge.a0 : Ann := (.two .auto (.two (.two (.two (.reg [0, 0, 3, 7, 15, 0, 0, 96, 224, 480, 1023] (.take 0 (.take 1 (.take 2 (.take 3 (.take 4 (.take 5 (.take 6 (.take 7 (.take 8 (.take 9 (.take 10 .done)))))))))))) .auto) .auto) .auto))
def straitref15_Merge.keep0 : List Nat := [0, 2, 3, 4]
def straitref15_Merge.outs0 : List (Nat × List Nat) := [(2, [2, 3]), (0, [2])]
set_option maxRecDepth 100000 in
theorem straitref15_Merge.L0 [DKc] : LoopOK straitref15_Merge.ctx 59 straitref15_Merge.c0 0 straitref15_Merge.keep0 straitref15_Merge.outs0 := by
  refine loop_ok (n := straitref15_Merge.a0) straitref15_Merge.ok (by kernel_rfl) (loops_ok (l := []) (by kernel_rfl) ?_) straitref15_Merge.r0 ?_ ?_ (fun vs h K hh => hh)
  · exact trivial
  · intro K vs h hh
    unfold straitref15_Merge.r0 at hh
    split at hh
    · exact hh
    · exact hh
  · intro K m vs h hh
    unfold straitref15_Merge.r0 at hh
    split at hh
    · exact cast (by kernel_rfl) hh
    · exact hh.elim
set_option maxRecDepth 100000 in
theorem straitref15_Merge.L1 [DKc] : LoopOK straitref15_Merge.ctx 59 straitref15_Merge.c1 1 straitref15_Merge.keep1 straitref15_Merge.outs1 := by
  refine loop_ok (n := straitref15_Merge.a1) straitref15_Merge.ok (by kernel_rfl) (loops_ok (l := []) (by kernel_rfl) ?_) straitref15_Merge.r1 ?_ ?_ (fun vs h K hh => hh)
  · exact trivial
  · intro K vs h hh
    unfold straitref15_Merge.r1 at hh
    split at hh
    · exact hh
    · exact hh
  · intro K m vs h hh
    unfold straitref15_Merge.r1 at hh
    split at hh
    · exact cast (by kernel_rfl) hh
    · exact hh.elim
set_option maxRecDepth 100000 in
theorem straitref15_Merge.eq (a1 : Option Addr) (a1l : Nat) (a1c : Nat) (h : Heap) (K : (Option Addr) → Nat → Nat → Bool → Heap → Prop) : evF straitref15_Merge.ctx Tryz.f62 straitref15_Merge.ann [(.slice a1 a1l a1c)] h (straitref15_Merge.ret K) = straitref15_Merge a1 a1l a1c h K := by kernel_rfl
set_option maxRecDepth 100000 in
theorem straitref15_Merge.calls [DKc] {a1 : Option Addr} {a1l : Nat} {a1c : Nat} {h : Heap} {K : (Option Addr) → Nat → Nat → Bool → Heap → Prop} (hh : straitref15_Merge a1 a1l a1c h K) (w : World) (hw : w.heap = h) :
    (callFunc 62 #[(.slice a1 a1l a1c)]).run Tryz.prog w = .ok (.enter 62 #[(.slice a1 a1l a1c)]) w ∧ Calls Tryz.prog 62 #[(.slice a1 a1l a1c)] w fun e w' => ∃ v, e = .returned v ∧ Out w w' ∧ straitref15_Merge.ret K v w'.heap := by
  rw [← straitref15_Merge.eq] at hh
  exact fn_calls (args := [(.slice a1 a1l a1c)]) (c := straitref15_Merge.code) straitref15_Merge.ok Tryz.func62 (by kernel_rfl) (by kernel_rfl) (by kernel_rfl) (by kernel_rfl) (loops_ok (l := [(straitref15_Merge.c0, none, 0, straitref15_Merge.keep0, straitref15_Merge.outs0), (straitref15_Merge.c1, none, 1, straitref15_Merge.keep1, straitref15_Merge.outs1)]) (by kernel_rfl) ⟨straitref15_Merge.L0, straitref15_Merge.L1, trivial⟩) hh w hw

/-! ### strait/straitref16.New: function 27 -/
def straitref16_New (a1 : Int) (a2 : Option Addr) (a2l : Nat) (a2c : Nat) (h : Heap) (K : Int → (Option Addr) → Nat → Nat → Int → Int → Heap → Prop) : Prop :=
  newP h (.cells #[(.int .i64 0), (.slice none 0 0), (.int .i64 0), (.int .i64 0)] 45) fun a3 h4 => ((iteB (decide (a1 < (0 : Int))) (stC h4 a3 (.int .i64 0) fun h5 => stC h5 (a3.add 1) (.slice none 0 0) fun h6 => stC h6 (a3.add 2) (.int .i64 1) fun h7 => stC h7 (a3.add 3) (.int .i64 0) fun h8 => (∃ (x9 : Int), cell h8 a3 = some (.int .i64 x9) ∧ ∃ (x10 : Option Addr) (x10l : Nat) (x10c : Nat), cell h8 (a3.add 1) = some (.slice x10 x10l x10c) ∧ ∃ (x11 : Int), cell h8 (a3.add 2) = some (.int .i64 x11) ∧ ∃ (x12 : Int), cell h8 (a3.add 3) = some (.int .i64 x12) ∧ K x9 x10 x10l x10c x11 x12 h8)) ((let j22 := (fun (y13 : Bool) => iteB y13 (stC h4 a3 (.int .i64 0) fun h14 => stC h14 (a3.add 1) (.slice none 0 0) fun h15 => stC h15 (a3.add 2) (.int .i64 3) fun h16 => stC h16 (a3.add 3) (.int .i64 0) fun h17 => (∃ (x18 : Int), cell h17 a3 = some (.int .i64 x18) ∧ ∃ (x19 : Option Addr) (x19l : Nat) (x19c : Nat), cell h17 (a3.add 1) = some (.slice x19 x19l x19c) ∧ ∃ (x20 : Int), cell h17 (a3.add 2) = some (.int .i64 x20) ∧ ∃ (x21 : Int), cell h17 (a3.add 3) = some (.int .i64 x21) ∧ K x18 x19 x19l x19c x20 x21 h17)) ((callP2 (straitref15_Checks a1 a2 a2l a2c h4) fun x23 x24 h25 => newP h25 (.cells #[(.int .i64 0), (.int .i64 0)] 123) fun a26 h27 => stC h27 a26 (.int .i64 x23) fun h28 => stC h28 (a26.add 1) (.int .i64 x24) fun h29 => (∃ (x30 : Int), cell h29 a26 = some (.int .i64 x30) ∧ (iteB (x30 != (0 : Int)) (∃ (x31 : Int), cell h29 a26 = some (.int .i64 x31) ∧ ∃ (x32 : Int), cell h29 (a26.add 1) = some (.int .i64 x32) ∧ stC h29 a3 (.int .i64 0) fun h33 => stC h33 (a3.add 1) (.slice none 0 0) fun h34 => stC h34 (a3.add 2) (.int .i64 x31) fun h35 => stC h35 (a3.add 3) (.int .i64 x32) fun h36 => (∃ (x37 : Int), cell h36 a3 = some (.int .i64 x37) ∧ ∃ (x38 : Option Addr) (x38l : Nat) (x38c : Nat), cell h36 (a3.add 1) = some (.slice x38 x38l x38c) ∧ ∃ (x39 : Int), cell h36 (a3.add 2) = some (.int .i64 x39) ∧ ∃ (x40 : Int), cell h36 (a3.add 3) = some (.int .i64 x40) ∧ K x37 x38 x38l x38c x39 x40 h36)) ((callP4 (straitref15_Merge a2 a2l a2c h29) fun x41 x41l x41c x42 h43 => stC h43 a3 (.int .i64 a1) fun h44 => stC h44 (a3.add 1) (.slice x41 x41l x41c) fun h45 => stC h45 (a3.add 2) (.int .i64 0) fun h46 => stC h46 (a3.add 3) (.int .i64 0) fun h47 => (∃ (x48 : Int), cell h47 a3 = some (.int .i64 x48) ∧ ∃ (x49 : Option Addr) (x49l : Nat) (x49c : Nat), cell h47 (a3.add 1) = some (.slice x49 x49l x49c) ∧ ∃ (x50 : Int), cell h47 (a3.add 2) = some (.int .i64 x50) ∧ ∃ (x51 : Int), cell h47 (a3.add 3) = some (.int .i64 x51) ∧ K x48 x49 x49l x49c x50 x51 h47))))))));
  iteB (decide (a1 > (4096 : Int))) ((j22 true)) ((j22 (decide ((a2l : Int) > (1048576 : Int)))))))))
def straitref16_New.ret (K : Int → (Option Addr) → Nat → Nat → Int → Int → Heap → Prop) (v : Value) (h : Heap) : Prop := match v with
  | (.agg ⟨[(.int .i64 r52), (.slice r53 r53l r53c), (.int .i64 r54), (.int .i64 r55)]⟩) => K r52 r53 r53l r53c r54 r55 h
  | _ => False
theorem straitref16_New.ret_elim {K : Int → (Option Addr) → Nat → Nat → Int → Int → Heap → Prop} {K' : Value → Heap → Prop} {v : Value} {h : Heap} (hk : ∀ r52 r53 r53l r53c r54 r55 h, K r52 r53 r53l r53c r54 r55 h → K' (.agg #[(.int .i64 r52), (.slice r53 r53l r53c), (.int .i64 r54), (.int .i64 r55)]) h) (hh : straitref16_New.ret K v h) : K' v h := by
  unfold straitref16_New.ret at hh
  split at hh
  · exact hk _ _ _ _ _ _ _ hh
  · exact hh.elim
def straitref16_New.call (f : FuncId) (vs : List Value) (h : Heap) (K : Value → Heap → Prop) : Prop := match f, vs with
  | 61, [(.int .i64 a1), (.slice a2 a2l a2c)] => callP2 (straitref15_Checks a1 a2 a2l a2c h) fun r14 r15 h' => K (.agg #[(.int .i64 r14), (.int .i64 r15)]) h'
  | 62, [(.slice a1 a1l a1c)] => callP4 (straitref15_Merge a1 a1l a1c h) fun r17 r17l r17c r18 h' => K (.agg #[(.slice r17 r17l r17c), (.bool r18)]) h'
  | _, _ => False
noncomputable def straitref16_New.ctx : Ctx := { P := Tryz.prog, call := straitref16_New.call, qcall := fun _ _ _ _ => False, quiet := fun f => Nat.beq f 1000138 || Nat.beq f 2000157, loop := fun _ _ _ _ => False }
theorem straitref16_New.ok [DKc] : straitref16_New.ctx.OK where
  mixed := by kernel_rfl
  mono := by
    intro f args h K K' hh hk
    change straitref16_New.call f args h K at hh
    change straitref16_New.call f args h K'
    unfold straitref16_New.call at hh ⊢
    split at hh
    · obtain ⟨R, h1, h2⟩ := hh
      exact ⟨R, h1, fun _ _ x hr => hk _ _ (h2 _ _ x hr)⟩
    · obtain ⟨R, h1, h2⟩ := hh
      exact ⟨R, h1, fun _ _ _ _ x hr => hk _ _ (h2 _ _ _ _ x hr)⟩
    · exact hh.elim
  call := by
    intro f args h K hh w hw
    change straitref16_New.call f args h K at hh
    unfold straitref16_New.call at hh
    split at hh
    · obtain ⟨R, h1, h2⟩ := hh
      obtain ⟨g1, g2⟩ := straitref15_Checks.calls h1 w hw
      exact ⟨g1, g2.mono fun e w' ⟨v, he, ho, hr⟩ => ⟨v, he, ho, straitref15_Checks.ret_elim h2 hr⟩⟩
    · obtain ⟨R, h1, h2⟩ := hh
      obtain ⟨g1, g2⟩ := straitref15_Merge.calls h1 w hw
      exact ⟨g1, g2.mono fun e w' ⟨v, he, ho, hr⟩ => ⟨v, he, ho, straitref15_Merge.ret_elim h2 hr⟩⟩
    · exact hh.elim
  qmono := fun hh _ => hh.elim
  qval := fun hh => hh.elim
  qcall := fun hh => hh.elim
noncomputable def straitref16_New.code : Code := (Tryz.f27.body).getD .skip
def straitref16_New.ann : Ann := .auto
set_option maxRecDepth 100000 in
theorem straitref16_New.eq (a1 : Int) (a2 : Option Addr) (a2l : Nat) (a2c : Nat) (h : Heap) (K : Int → (Option Addr) → Nat → Nat → Int → Int → Heap → Prop) : evF straitref16_New.ctx Tryz.f27 straitref16_New.ann [(.int .i64 a1), (.slice a2 a2l a2c)] h (straitref16_New.ret K) = straitref16_New a1 a2 a2l a2c h K := by kernel_rfl
set_option maxRecDepth 100000 in
theorem straitref16_New.calls [DKc] {a1 : Int} {a2 : Option Addr} {a2l : Nat} {a2c : Nat} {h : Heap} {K : Int → (Option Addr) → Nat → Nat → Int → Int → Heap → Prop} (hh : straitref16_New a1 a2 a2l a2c h K) (w : World) (hw : w.heap = h) :
    (callFunc 27 #[(.int .i64 a1), (.slice a2 a2l a2c)]).run Tryz.prog w = .ok (.enter 27 #[(.int .i64 a1), (.slice a2 a2l a2c)]) w ∧ Calls Tryz.prog 27 #[(.int .i64 a1), (.slice a2 a2l a2c)] w fun e w' => ∃ v, e = .returned v ∧ Out w w' ∧ straitref16_New.ret K v w'.heap := by
  rw [← straitref16_New.eq] at hh
  exact fn_calls (args := [(.int .i64 a1), (.slice a2 a2l a2c)]) (c := straitref16_New.code) straitref16_New.ok Tryz.func27 (by kernel_rfl) (by kernel_rfl) (by kernel_rfl) (by kernel_rfl) (loops_ok (l := []) (by kernel_rfl) trivial) hh w hw

/-! ### strait/straitref15.Split: function 63 -/
def straitref15_Split.b2 (K6 : (Option Addr) → Nat → Nat → Int → Heap → Prop) (cont : (Option Addr) → Nat → Nat → Addr → (Option Addr) → Nat → Nat → Int → Int → Heap → Prop) (c0_3001 : Option Addr) (c0_3002 : Nat) (c0_3003 : Nat) (c2_3004 : Addr) (v5_3005 : Option Addr) (v5_3005l : Nat) (v5_3005c : Nat) (c6_3006 : Int) (v7_3007 : Int) (h3008 : Heap) : Prop :=
  (iteB (decide (v7_3007 > (2147483648 : Int))) ((chkP c0_3001 fun a3009 => (0 ≤ c6_3006 ∧ c6_3006 < (c0_3002 : Int)) ∧ ∃ (x3010 : Int), cell h3008 (a3009.add (c6_3006.toNat * 3)) = some (.int .i64 x3010) ∧ chkP c0_3001 fun a3011 => (0 ≤ c6_3006 ∧ c6_3006 < (c0_3002 : Int)) ∧ ∃ (x3012 : Int), cell h3008 ((a3011.add (c6_3006.toNat * 3)).add 1) = some (.int .i64 x3012) ∧ newP h3008 (.cells #[(.int .i64 x3010), (.int .i64 x3012), (.int .i64 2147483648)] 27) fun a3013 h3014 => ∃ n3019, cellsAt h3014 (some a3013) (1 * 3) n3019 ∧ appP 27 3 24 [(.int .i64 0), (.int .i64 0), (.int .i64 0)] v5_3005 v5_3005l v5_3005c 1 n3019 h3014 fun q3015 l3016 c3017 h3018 => ((cont c0_3001 c0_3002 c0_3003 c2_3004 q3015 l3016 c3017 c6_3006 (IntKind.i64.wrap (v7_3007 - 2147483648)) h3018)))) (K6 v5_3005 v5_3005l v5_3005c v7_3007 h3008))
def straitref15_Split.l2 (K6 : (Option Addr) → Nat → Nat → Int → Heap → Prop) : Nat → (Option Addr) → Nat → Nat → Addr → (Option Addr) → Nat → Nat → Int → Int → Heap → Prop
  | 0, _, _, _, _, _, _, _, _, _, _ => False
  | m + 1, c0_3001, c0_3002, c0_3003, c2_3004, v5_3005, v5_3005l, v5_3005c, c6_3006, v7_3007, h => straitref15_Split.b2 K6 (straitref15_Split.l2 K6 m) c0_3001 c0_3002 c0_3003 c2_3004 v5_3005 v5_3005l v5_3005c c6_3006 v7_3007 h
def straitref15_Split.b1 (K4 : (Option Addr) → Nat → Nat → Heap → Prop) (cont : (Option Addr) → Nat → Nat → Addr → (Option Addr) → Nat → Nat → Int → Heap → Prop) (c0_2001 : Option Addr) (c0_2002 : Nat) (c0_2003 : Nat) (c2_2004 : Addr) (v5_2005 : Option Addr) (v5_2005l : Nat) (v5_2005c : Nat) (v6_2006 : Int) (h2007 : Heap) : Prop :=
  (iteB (decide (v6_2006 < (c0_2002 : Int))) ((chkP c0_2001 fun a2008 => (0 ≤ v6_2006 ∧ v6_2006 < (c0_2002 : Int)) ∧ ∃ (x2009 : Int), cell h2007 ((a2008.add (v6_2006.toNat * 3)).add 2) = some (.int .i64 x2009) ∧ (∃ m2013, straitref15_Split.l2 (fun z2010 z2010l z2010c z2011 h2012 => ((chkP c0_2001 fun a2014 => (0 ≤ v6_2006 ∧ v6_2006 < (c0_2002 : Int)) ∧ ∃ (x2015 : Int), cell h2012 (a2014.add (v6_2006.toNat * 3)) = some (.int .i64 x2015) ∧ chkP c0_2001 fun a2016 => (0 ≤ v6_2006 ∧ v6_2006 < (c0_2002 : Int)) ∧ ∃ (x2017 : Int), cell h2012 ((a2016.add (v6_2006.toNat * 3)).add 1) = some (.int .i64 x2017) ∧ newP h2012 (.cells #[(.int .i64 x2015), (.int .i64 x2017), (.int .i64 z2011)] 27) fun a2018 h2019 => ∃ n2024, cellsAt h2019 (some a2018) (1 * 3) n2024 ∧ appP 27 3 24 [(.int .i64 0), (.int .i64 0), (.int .i64 0)] z2010 z2010l z2010c 1 n2024 h2019 fun q2020 l2021 c2022 h2023 => ((cont c0_2001 c0_2002 c0_2003 c2_2004 q2020 l2021 c2022 (IntKind.i64.wrap (v6_2006 + 1)) h2023))))) m2013 c0_2001 c0_2002 c0_2003 c2_2004 v5_2005 v5_2005l v5_2005c v6_2006 x2009 h2007))) (K4 v5_2005 v5_2005l v5_2005c h2007))
def straitref15_Split.l1 (K4 : (Option Addr) → Nat → Nat → Heap → Prop) : Nat → (Option Addr) → Nat → Nat → Addr → (Option Addr) → Nat → Nat → Int → Heap → Prop
  | 0, _, _, _, _, _, _, _, _, _ => False
  | m + 1, c0_2001, c0_2002, c0_2003, c2_2004, v5_2005, v5_2005l, v5_2005c, v6_2006, h => straitref15_Split.b1 K4 (straitref15_Split.l1 K4 m) c0_2001 c0_2002 c0_2003 c2_2004 v5_2005 v5_2005l v5_2005c v6_2006 h
def straitref15_Split.b0 (K0 : Heap → Prop) (K2 : Heap → Prop) (cont : (Option Addr) → Nat → Nat → Addr → Int → Int → Heap → Prop) (c0_1001 : Option Addr) (c0_1002 : Nat) (c0_1003 : Nat) (c2_1004 : Addr) (v3_1005 : Int) (v4_1006 : Int) (h1007 : Heap) : Prop :=
  (iteB (decide (v4_1006 < (c0_1002 : Int))) ((let j1031 : Prop := (chkP c0_1001 fun a1019 => (0 ≤ v4_1006 ∧ v4_1006 < (c0_1002 : Int)) ∧ ∃ (x1020 : Int), cell h1007 ((a1019.add (v4_1006.toNat * 3)).add 2) = some (.int .i64 x1020) ∧ 0 ≤ (31 : Int) ∧ bindV (IntKind.i64.wrap (v3_1005 + (x1020.fdiv (2 ^ 31)))) fun n1021 => (let j1030 := (fun (y1027 : Int) => (iteB (decide (y1027 > (1048576 : Int))) (stC h1007 c2_1004 (.slice none 0 0) fun h1028 => stC h1028 (c2_1004.add 1) (.bool false) fun h1029 => K0 h1029) (((cont c0_1001 c0_1002 c0_1003 c2_1004 y1027 (IntKind.i64.wrap (v4_1006 + 1)) h1007)))));
  chkP c0_1001 fun a1022 => (0 ≤ v4_1006 ∧ v4_1006 < (c0_1002 : Int)) ∧ ∃ (x1023 : Int), cell h1007 ((a1022.add (v4_1006.toNat * 3)).add 2) = some (.int .i64 x1023) ∧ iteB (x1023 == (0 : Int)) (((j1030 (IntKind.i64.wrap (n1021 + 1))))) (chkP c0_1001 fun a1024 => (0 ≤ v4_1006 ∧ v4_1006 < (c0_1002 : Int)) ∧ ∃ (x1025 : Int), cell h1007 ((a1024.add (v4_1006.toNat * 3)).add 2) = some (.int .i64 x1025) ∧ (2147483648 : Int) ≠ 0 ∧ (iteB ((x1025.tmod 2147483648) != (0 : Int)) ((j1030 (IntKind.i64.wrap (n1021 + 1)))) ((j1030 n1021))))));
  chkP c0_1001 fun a1008 => (0 ≤ v4_1006 ∧ v4_1006 < (c0_1002 : Int)) ∧ ∃ (x1009 : Int), cell h1007 ((a1008.add (v4_1006.toNat * 3)).add 2) = some (.int .i64 x1009) ∧ iteB (decide (x1009 < (0 : Int))) ((stC h1007 c2_1004 (.slice none 0 0) fun h1015 => stC h1015 (c2_1004.add 1) (.bool false) fun h1016 => K0 h1016)) (chkP c0_1001 fun a1010 => (0 ≤ v4_1006 ∧ v4_1006 < (c0_1002 : Int)) ∧ ∃ (x1011 : Int), cell h1007 ((a1010.add (v4_1006.toNat * 3)).add 2) = some (.int .i64 x1011) ∧ 0 ≤ (31 : Int) ∧ (iteB (decide ((x1011.fdiv (2 ^ 31)) > (1048576 : Int))) (stC h1007 c2_1004 (.slice none 0 0) fun h1017 => stC h1017 (c2_1004.add 1) (.bool false) fun h1018 => K0 h1018) ((j1031)))))) (K2 h1007))
def straitref15_Split.l0 (K0 : Heap → Prop) (K2 : Heap → Prop) : Nat → (Option Addr) → Nat → Nat → Addr → Int → Int → Heap → Prop
  | 0, _, _, _, _, _, _, _ => False
  | m + 1, c0_1001, c0_1002, c0_1003, c2_1004, v3_1005, v4_1006, h => straitref15_Split.b0 K0 K2 (straitref15_Split.l0 K0 K2 m) c0_1001 c0_1002 c0_1003 c2_1004 v3_1005 v4_1006 h
def straitref15_Split (a1 : Option Addr) (a1l : Nat) (a1c : Nat) (h : Heap) (K : (Option Addr) → Nat → Nat → Bool → Heap → Prop) : Prop :=
  newP h (.cells #[(.slice none 0 0), (.bool false)] 126) fun a2 h3 => (((∃ m8, straitref15_Split.l0 (fun h4 => ∃ (x5 : Option Addr) (x5l : Nat) (x5c : Nat), cell h4 a2 = some (.slice x5 x5l x5c) ∧ ∃ (x6 : Bool), cell h4 (a2.add 1) = some (.bool x6) ∧ K x5 x5l x5c x6 h4) (fun h7 => ((((∃ m11, straitref15_Split.l1 (fun z9 z9l z9c h10 => ((stC h10 a2 (.slice z9 z9l z9c) fun h12 => stC h12 (a2.add 1) (.bool true) fun h13 => (∃ (x14 : Option Addr) (x14l : Nat) (x14c : Nat), cell h13 a2 = some (.slice x14 x14l x14c) ∧ ∃ (x15 : Bool), cell h13 (a2.add 1) = some (.bool x15) ∧ K x14 x14l x14c x15 h13)))) m11 a1 a1l a1c a2 none 0 0 0 h7))))) m8 a1 a1l a1c a2 0 0 h3)))
def straitref15_Split.ret (K : (Option Addr) → Nat → Nat → Bool → Heap → Prop) (v : Value) (h : Heap) : Prop := match v with
  | (.agg ⟨[(.slice r16 r16l r16c), (.bool r17)]⟩) => K r16 r16l r16c r17 h
  | _ => False
theorem straitref15_Split.ret_elim {K : (Option Addr) → Nat → Nat → Bool → Heap → Prop} {K' : Value → Heap → Prop} {v : Value} {h : Heap} (hk : ∀ r16 r16l r16c r17 h, K r16 r16l r16c r17 h → K' (.agg #[(.slice r16 r16l r16c), (.bool r17)]) h) (hh : straitref15_Split.ret K v h) : K' v h := by
  unfold straitref15_Split.ret at hh
  split at hh
  · exact hk _ _ _ _ _ hh
  · exact hh.elim
def straitref15_Split.r0 (K : Nat → List Value → Heap → Prop) (m : Nat) (vs : List Value) (h : Heap) : Prop := match vs with
  | [(.slice c0_1001 c0_1002 c0_1003), (.pointer (some c2_1004)), (.int .i64 v3_1005), (.int .i64 v4_1006)] => straitref15_Split.l0 (fun h' => K 0 [(.pointer (some c2_1004))] h') (fun h' => K 2 [(.slice c0_1001 c0_1002 c0_1003), (.pointer (some c2_1004))] h') m c0_1001 c0_1002 c0_1003 c2_1004 v3_1005 v4_1006 h
  | _ => False
def straitref15_Split.r1 (K : Nat → List Value → Heap → Prop) (m : Nat) (vs : List Value) (h : Heap) : Prop := match vs with
  | [(.slice c0_2001 c0_2002 c0_2003), (.pointer (some c2_2004)), (.slice v5_2005 v5_2005l v5_2005c), (.int .i64 v6_2006)] => straitref15_Split.l1 (fun z18 z18l z18c h' => K 4 [(.pointer (some c2_2004)), (.slice z18 z18l z18c)] h') m c0_2001 c0_2002 c0_2003 c2_2004 v5_2005 v5_2005l v5_2005c v6_2006 h
  | _ => False
def straitref15_Split.r2 (K : Nat → List Value → Heap → Prop) (m : Nat) (vs : List Value) (h : Heap) : Prop := match vs with
  | [(.slice c0_3001 c0_3002 c0_3003), (.pointer (some c2_3004)), (.slice v5_3005 v5_3005l v5_3005c), (.int .i64 c6_3006), (.int .i64 v7_3007)] => straitref15_Split.l2 (fun z19 z19l z19c z20 h' => K 6 [(.slice c0_3001 c0_3002 c0_3003), (.pointer (some c2_3004)), (.slice z19 z19l z19c), (.int .i64 c6_3006), (.int .i64 z20)] h') m c0_3001 c0_3002 c0_3003 c2_3004 v5_3005 v5_3005l v5_3005c c6_3006 v7_3007 h
  | _ => False
def straitref15_Split.loop (i : Nat) (vs : List Value) (h : Heap) (K : Nat → List Value → Heap → Prop) : Prop := match i with
  | 0 => ∃ m, straitref15_Split.r0 K m vs h
  | 1 => ∃ m, straitref15_Split.r1 K m vs h
  | 2 => ∃ m, straitref15_Split.r2 K m vs h
  | _ => False
noncomputable def straitref15_Split.ctx : Ctx := { P := Tryz.prog, call := fun _ _ _ _ => False, qcall := fun _ _ _ _ => False, quiet := fun f => Nat.beq f 1000138 || Nat.beq f 2000157, loop := straitref15_Split.loop }
theorem straitref15_Split.ok [DKc] : straitref15_Split.ctx.OK where
  mixed := by kernel_rfl
  mono := fun hh _ => hh.elim
  call := fun hh => hh.elim
  qmono := fun hh _ => hh.elim
  qval := fun hh => hh.elim
  qcall := fun hh => hh.elim
noncomputable def straitref15_Split.code : Code := (Tryz.f63.body).getD .skip
def straitref15_Split.ann : Ann := (.two .auto (.two .auto (.two (.two .auto (.two (.loop 0 [0, 2, 3, 4] [(2, [0, 2]), (0, [2])] .auto) .auto)) (.two .auto (.two (.two .auto (.two (.loop 1 [0, 2, 5, 6] [(4, [2, 5])] (.two .auto (.two (.two (.two .auto (.two (.two (.loop 2 [0, 2, 5, 6, 7] [(6, [0, 2, 5, 6, 7])] (.two .auto (.two (.two (.reg [0, 0, 0, 6, 14, 30, 0, 0, 192, 448, 960, 2046, 4094, 8191, 16383] (.take 0 (.take 1 (.take 2 (.take 3 (.take 4 (.take 5 (.take 6 (.take 7 (.take 8 (.take 9 (.take 10 (.take 11 (.alt 12 (.alt 13 (.take 14 .done) .noalt) .noalt)))))))))))))) .auto) .auto))) .auto) (.reg [0, 0, 0, 6, 14, 30, 0, 0, 192, 448, 960, 0, 4094, 8190, 16383, 32767] (.take 0 (.take 1 (.take 2 (.take 3 (.take 4 (.take 5 (.take 6 (.take 7 (.take 8 (.take 9 (.take 10 (.take 11 (.take 12 (.alt 13 (.alt 14 (.take 15 .done) .noalt) .noalt))))))))))))))))) .auto) .auto))) .auto)) .auto)))))
noncomputable def straitref15_Split.c2 : Code := sub straitref15_Split.code [1, 1, 1, 1, 0, 1, 0, 0, 1, 0, 0, 1, 0, 0, 0]
def straitref15_Split.a2 : Ann := (.two .auto (.two (.two (.reg [0, 0, 0, 6, 14, 30, 0, 0, 192, 448, 960, 2046, 4094, 8191, 16383] (.take 0 (.take 1 (.take 2 (.take 3 (.take 4 (.take 5 (.take 6 (.take 7 (.take 8 (.take 9 (.take 10 (.take 11 (.alt 12 (.alt 13 (.take 14 .done) .noalt) .noalt)))))))))))))) .auto) .auto))
def straitref15_Split.keep2 : List Nat := [0, 2, 5, 6, 7]
def straitref15_Split.outs2 : List (Nat × List Nat) := [(6, [0, 2, 5, 6, 7])]
noncomputable def straitref15_Split.c1 : Code := sub straitref15_Split.code [1, 1, 1, 1, 0, 1, 0, 0]
def straitref15_Split.a1 : Ann := (.two .auto (.two (.two (.two .auto (.two (.two (.loop 2 [0, 2, 5, 6, 7] [(6, [0, 2, 5, 6, 7])] (.two .auto (.two (.two (.reg [0, 0, 0, 6, 14, 30, 0, 0, 192, 448, 960, 2046, 4094, 8191, 16383] (.take 0 (.take 1 (.take 2 (.take 3 (.take 4 (.take 5 (.take 6 (.take 7 (.take 8 (.take 9 (.take 10 (.take 11 (.alt 12 (.alt 13 (.take 14 .done) .noalt) .noalt)))))))))))))) .auto) .auto))) .auto) (.reg [0, 0, 0, 6, 14, 30, 0, 0, 192, 448, 960, 0, 4094, 8190, 16383, 32767] (.take 0 (.take 1 (.take 2 (.take 3 (.take 4 (.take 5 (.take 6 (.take 7 (.take 8 (.take 9 (.take 10 (.take 11 (.take 12 (.alt 13 (.alt 14 (.take 15 .done) .noalt) .noalt))))))))))))))))) .auto) .auto))
def straitref15_Split.keep1 : List Nat := [0, 2, 5, 6]
def straitref15_Split.outs1 : List (Nat × List Nat) := [(4, [2, 5])]
noncomputable def straitref15_Split.c0 : Code := sub straitref15_Split.code [1, 1, 0, 1, 0, 0]
def straitref15_Split.a0 : Ann := .auto
def straitref15_Split.keep0 : List Nat := [0, 2, 3, 4]
def straitref15_Split.outs0 : List (Nat × List Nat) := [(2, [0, 2]), (0, [2])]
set_option maxRecDepth 100000 in
theorem straitref15_Split.L0 [DKc] : LoopOK straitref15_Split.ctx 104 straitref15_Split.c0 0 straitref15_Split.keep0 straitref15_Split.outs0 := by
  refine loop_ok (n := straitref15_Split.a0) straitref15_Split.ok (by kernel_rfl) (loops_ok (l := []) (by kernel_rfl) ?_) straitref15_Split.r0 ?_ ?_ (fun vs h K hh => hh)
  · exact trivial
  · intro K vs h hh
    unfold straitref15_Split.r0 at hh
    split at hh
    · exact hh
    · exact hh
  · intro K m vs h hh
    unfold straitref15_Split.r0 at hh
    split at hh
    · exact cast (by kernel_rfl) hh
    · exact hh.elim
set_option maxRecDepth 100000 in
theorem straitref15_Split.L2 [DKc] : LoopOK straitref15_Split.ctx 104 straitref15_Split.c2 2 straitref15_Split.keep2 straitref15_Split.outs2 := by
  refine loop_ok (n := straitref15_Split.a2) straitref15_Split.ok (by kernel_rfl) (loops_ok (l := []) (by kernel_rfl) ?_) straitref15_Split.r2 ?_ ?_ (fun vs h K hh => hh)
  · exact trivial
  · intro K vs h hh
    unfold straitref15_Split.r2 at hh
    split at hh
    · exact hh
    · exact hh
  · intro K m vs h hh
    unfold straitref15_Split.r2 at hh
    split at hh
    · exact cast (by kernel_rfl) hh
    · exact hh.elim
set_option maxRecDepth 100000 in
theorem straitref15_Split.L1 [DKc] : LoopOK straitref15_Split.ctx 104 straitref15_Split.c1 1 straitref15_Split.keep1 straitref15_Split.outs1 := by
  refine loop_ok (n := straitref15_Split.a1) straitref15_Split.ok (by kernel_rfl) (loops_ok (l := [(straitref15_Split.c2, none, 2, straitref15_Split.keep2, straitref15_Split.outs2)]) (by kernel_rfl) ?_) straitref15_Split.r1 ?_ ?_ (fun vs h K hh => hh)
  · exact ⟨straitref15_Split.L2, trivial⟩
  · intro K vs h hh
    unfold straitref15_Split.r1 at hh
    split at hh
    · exact hh
    · exact hh
  · intro K m vs h hh
    unfold straitref15_Split.r1 at hh
    split at hh
    · exact cast (by kernel_rfl) hh
    · exact hh.elim
set_option maxRecDepth 100000 in
theorem straitref15_Split.eq (a1 : Option Addr) (a1l : Nat) (a1c : Nat) (h : Heap) (K : (Option Addr) → Nat → Nat → Bool → Heap → Prop) : evF straitref15_Split.ctx Tryz.f63 straitref15_Split.ann [(.slice a1 a1l a1c)] h (straitref15_Split.ret K) = straitref15_Split a1 a1l a1c h K := by kernel_rfl
set_option maxRecDepth 100000 in
theorem straitref15_Split.calls [DKc] {a1 : Option Addr} {a1l : Nat} {a1c : Nat} {h : Heap} {K : (Option Addr) → Nat → Nat → Bool → Heap → Prop} (hh : straitref15_Split a1 a1l a1c h K) (w : World) (hw : w.heap = h) :
    (callFunc 63 #[(.slice a1 a1l a1c)]).run Tryz.prog w = .ok (.enter 63 #[(.slice a1 a1l a1c)]) w ∧ Calls Tryz.prog 63 #[(.slice a1 a1l a1c)] w fun e w' => ∃ v, e = .returned v ∧ Out w w' ∧ straitref15_Split.ret K v w'.heap := by
  rw [← straitref15_Split.eq] at hh
  exact fn_calls (args := [(.slice a1 a1l a1c)]) (c := straitref15_Split.code) straitref15_Split.ok Tryz.func63 (by kernel_rfl) (by kernel_rfl) (by kernel_rfl) (by kernel_rfl) (loops_ok (l := [(straitref15_Split.c0, none, 0, straitref15_Split.keep0, straitref15_Split.outs0), (straitref15_Split.c1, none, 1, straitref15_Split.keep1, straitref15_Split.outs1)]) (by kernel_rfl) ⟨straitref15_Split.L0, straitref15_Split.L1, trivial⟩) hh w hw

/-! ### strait/straitref06.digits: function 106, by its contract -/
def straitref06_digits_rec.ret (K : ByteArray → Heap → Prop) (v : Value) (h : Heap) : Prop := match v with
  | (.string r2) => K r2 h
  | _ => False
theorem straitref06_digits_rec.ret_elim {K : ByteArray → Heap → Prop} {K' : Value → Heap → Prop} {v : Value} {h : Heap} (hk : ∀ r2 h, K r2 h → K' (.string r2) h) (hh : straitref06_digits_rec.ret K v h) : K' v h := by
  unfold straitref06_digits_rec.ret at hh
  split at hh
  · exact hk _ _ hh
  · exact hh.elim
def straitref06_digits_rec [DKc] (a1 : Int) (h : Heap) (K : ByteArray → Heap → Prop) : Prop := ∀ w : World, w.heap = h → (callFunc 106 #[(.int .u64 a1)]).run Tryz.prog w = .ok (.enter 106 #[(.int .u64 a1)]) w ∧ Calls Tryz.prog 106 #[(.int .u64 a1)] w fun e w' => ∃ v, e = .returned v ∧ Out w w' ∧ straitref06_digits_rec.ret K v w'.heap
theorem straitref06_digits_rec.calls [DKc] {a1 : Int} {h : Heap} {K : ByteArray → Heap → Prop} (hh : straitref06_digits_rec a1 h K) (w : World) (hw : w.heap = h) : (callFunc 106 #[(.int .u64 a1)]).run Tryz.prog w = .ok (.enter 106 #[(.int .u64 a1)]) w ∧ Calls Tryz.prog 106 #[(.int .u64 a1)] w fun e w' => ∃ v, e = .returned v ∧ Out w w' ∧ straitref06_digits_rec.ret K v w'.heap := hh w hw

/-! ### strait/straitref06.digits: function 106 -/
section
variable [DKc]
def straitref06_digits (a1 : Int) (h : Heap) (K : ByteArray → Heap → Prop) : Prop :=
  ((iteB (decide (a1 < (10 : Int))) (bindV (IntKind.u8.wrap (IntKind.u64.wrap (48 + a1))) fun n2 => newP h (.cells #[(.int .u8 n2)] 5) fun a3 h4 => ∃ l5 : List UInt8, bytesAt h4 (some a3) 1 l5 ∧ (K (⟨l5.toArray⟩ : ByteArray) h4)) (((10 : Int) ≠ 0 ∧ (10 : Int) ≠ 0 ∧ bindV (IntKind.u8.wrap (IntKind.u64.wrap (48 + (a1.tmod 10)))) fun n6 => (callP1 (straitref06_digits_rec (IntKind.u64.wrap (a1.tdiv 10)) h) fun x7 h8 => newP h8 (.cells #[(.int .u8 n6)] 5) fun a9 h10 => ∃ l11 : List UInt8, bytesAt h10 (some a9) 1 l11 ∧ (((x7.size + (⟨l11.toArray⟩ : ByteArray).size : Nat) : Int) ≤ 9223372036854775807) ∧ (K (x7 ++ (⟨l11.toArray⟩ : ByteArray)) h10)) ∧ (newP h (.cells #[(.int .u8 n6)] 5) fun a12 h13 => ∃ l14 : List UInt8, bytesAt h13 (some a12) 1 l14 ∧ callP1 (straitref06_digits_rec (IntKind.u64.wrap (a1.tdiv 10)) h13) fun x15 h16 => (∃ l17 : List UInt8, bytesAt h16 (some a12) 1 l17 ∧ ((.string (⟨l17.toArray⟩ : ByteArray)) : Value) = (.string (⟨l14.toArray⟩ : ByteArray))) ∧ (((x15.size + (⟨l14.toArray⟩ : ByteArray).size : Nat) : Int) ≤ 9223372036854775807) ∧ (K (x15 ++ (⟨l14.toArray⟩ : ByteArray)) h16))))))
def straitref06_digits.ret (K : ByteArray → Heap → Prop) (v : Value) (h : Heap) : Prop := match v with
  | (.string r20) => K r20 h
  | _ => False
theorem straitref06_digits.ret_elim {K : ByteArray → Heap → Prop} {K' : Value → Heap → Prop} {v : Value} {h : Heap} (hk : ∀ r20 h, K r20 h → K' (.string r20) h) (hh : straitref06_digits.ret K v h) : K' v h := by
  unfold straitref06_digits.ret at hh
  split at hh
  · exact hk _ _ hh
  · exact hh.elim
def straitref06_digits.call (f : FuncId) (vs : List Value) (h : Heap) (K : Value → Heap → Prop) : Prop := match f, vs with
  | 106, [(.int .u64 a1)] => callP1 (straitref06_digits_rec a1 h) fun r2 h' => K (.string r2) h'
  | _, _ => False
noncomputable def straitref06_digits.ctx : Ctx := { P := Tryz.prog, call := straitref06_digits.call, qcall := fun _ _ _ _ => False, quiet := fun f => Nat.beq f 1000138 || Nat.beq f 2000157, loop := fun _ _ _ _ => False }
theorem straitref06_digits.ok : straitref06_digits.ctx.OK where
  mixed := by kernel_rfl
  mono := by
    intro f args h K K' hh hk
    change straitref06_digits.call f args h K at hh
    change straitref06_digits.call f args h K'
    unfold straitref06_digits.call at hh ⊢
    split at hh
    · obtain ⟨R, h1, h2⟩ := hh
      exact ⟨R, h1, fun _ x hr => hk _ _ (h2 _ x hr)⟩
    · exact hh.elim
  call := by
    intro f args h K hh w hw
    change straitref06_digits.call f args h K at hh
    unfold straitref06_digits.call at hh
    split at hh
    · obtain ⟨R, h1, h2⟩ := hh
      obtain ⟨g1, g2⟩ := straitref06_digits_rec.calls h1 w hw
      exact ⟨g1, g2.mono fun e w' ⟨v, he, ho, hr⟩ => ⟨v, he, ho, straitref06_digits_rec.ret_elim h2 hr⟩⟩
    · exact hh.elim
  qmono := fun hh _ => hh.elim
  qval := fun hh => hh.elim
  qcall := fun hh => hh.elim
noncomputable def straitref06_digits.code : Code := (Tryz.f106.body).getD .skip
def straitref06_digits.ann : Ann := (.two .auto (.two .auto (.two (.reg [0, 1, 3, 0, 8, 24, 56, 120, 248, 511, 1023] (.take 0 (.take 1 (.take 3 (.take 4 (.take 5 (.take 6 (.alt 2 (.alt 7 (.take 8 (.take 9 (.take 10 .done))) .noalt) (.alt 7 (.early 8 (.alt 2 (.take 9 (.take 10 .done)) .noalt)) .noalt))))))))) .auto)))
set_option maxRecDepth 100000 in
theorem straitref06_digits.eq (a1 : Int) (h : Heap) (K : ByteArray → Heap → Prop) : evF straitref06_digits.ctx Tryz.f106 straitref06_digits.ann [(.int .u64 a1)] h (straitref06_digits.ret K) = straitref06_digits a1 h K := by kernel_rfl
set_option maxRecDepth 100000 in
theorem straitref06_digits.calls {a1 : Int} {h : Heap} {K : ByteArray → Heap → Prop} (hh : straitref06_digits a1 h K) (w : World) (hw : w.heap = h) :
    (callFunc 106 #[(.int .u64 a1)]).run Tryz.prog w = .ok (.enter 106 #[(.int .u64 a1)]) w ∧ Calls Tryz.prog 106 #[(.int .u64 a1)] w fun e w' => ∃ v, e = .returned v ∧ Out w w' ∧ straitref06_digits.ret K v w'.heap := by
  rw [← straitref06_digits.eq] at hh
  exact fn_calls (args := [(.int .u64 a1)]) (c := straitref06_digits.code) straitref06_digits.ok Tryz.func106 (by kernel_rfl) (by kernel_rfl) (by kernel_rfl) (by kernel_rfl) (loops_ok (l := []) (by kernel_rfl) trivial) hh w hw
end

/-! ### strait/straitref06.Print: function 65 -/
section
variable [DKc]
def straitref06_Print (a1 : Int) (h : Heap) (K : ByteArray → Heap → Prop) : Prop :=
  ((iteB (decide (a1 < (0 : Int))) (bindV (IntKind.i64.wrap (0 - (IntKind.i64.wrap (a1 + 1)))) fun n2 => bindV (IntKind.u64.wrap ((IntKind.u64.wrap n2) + 1)) fun n3 => callP1 (straitref06_digits n3 h) fun x4 h5 => ((((⟨#[45]⟩ : ByteArray).size + x4.size : Nat) : Int) ≤ 9223372036854775807) ∧ (K ((⟨#[45]⟩ : ByteArray) ++ x4) h5)) ((callP1 (straitref06_digits (IntKind.u64.wrap a1) h) fun x6 h7 => K x6 h7))))
def straitref06_Print.ret (K : ByteArray → Heap → Prop) (v : Value) (h : Heap) : Prop := match v with
  | (.string r8) => K r8 h
  | _ => False
theorem straitref06_Print.ret_elim {K : ByteArray → Heap → Prop} {K' : Value → Heap → Prop} {v : Value} {h : Heap} (hk : ∀ r8 h, K r8 h → K' (.string r8) h) (hh : straitref06_Print.ret K v h) : K' v h := by
  unfold straitref06_Print.ret at hh
  split at hh
  · exact hk _ _ hh
  · exact hh.elim
def straitref06_Print.call (f : FuncId) (vs : List Value) (h : Heap) (K : Value → Heap → Prop) : Prop := match f, vs with
  | 106, [(.int .u64 a1)] => callP1 (straitref06_digits a1 h) fun r20 h' => K (.string r20) h'
  | _, _ => False
noncomputable def straitref06_Print.ctx : Ctx := { P := Tryz.prog, call := straitref06_Print.call, qcall := fun _ _ _ _ => False, quiet := fun f => Nat.beq f 1000138 || Nat.beq f 2000157, loop := fun _ _ _ _ => False }
theorem straitref06_Print.ok : straitref06_Print.ctx.OK where
  mixed := by kernel_rfl
  mono := by
    intro f args h K K' hh hk
    change straitref06_Print.call f args h K at hh
    change straitref06_Print.call f args h K'
    unfold straitref06_Print.call at hh ⊢
    split at hh
    · obtain ⟨R, h1, h2⟩ := hh
      exact ⟨R, h1, fun _ x hr => hk _ _ (h2 _ x hr)⟩
    · exact hh.elim
  call := by
    intro f args h K hh w hw
    change straitref06_Print.call f args h K at hh
    unfold straitref06_Print.call at hh
    split at hh
    · obtain ⟨R, h1, h2⟩ := hh
      obtain ⟨g1, g2⟩ := straitref06_digits.calls h1 w hw
      exact ⟨g1, g2.mono fun e w' ⟨v, he, ho, hr⟩ => ⟨v, he, ho, straitref06_digits.ret_elim h2 hr⟩⟩
    · exact hh.elim
  qmono := fun hh _ => hh.elim
  qval := fun hh => hh.elim
  qcall := fun hh => hh.elim
noncomputable def straitref06_Print.code : Code := (Tryz.f65.body).getD .skip
def straitref06_Print.ann : Ann := .auto
set_option maxRecDepth 100000 in
theorem straitref06_Print.eq (a1 : Int) (h : Heap) (K : ByteArray → Heap → Prop) : evF straitref06_Print.ctx Tryz.f65 straitref06_Print.ann [(.int .i64 a1)] h (straitref06_Print.ret K) = straitref06_Print a1 h K := by kernel_rfl
set_option maxRecDepth 100000 in
theorem straitref06_Print.calls {a1 : Int} {h : Heap} {K : ByteArray → Heap → Prop} (hh : straitref06_Print a1 h K) (w : World) (hw : w.heap = h) :
    (callFunc 65 #[(.int .i64 a1)]).run Tryz.prog w = .ok (.enter 65 #[(.int .i64 a1)]) w ∧ Calls Tryz.prog 65 #[(.int .i64 a1)] w fun e w' => ∃ v, e = .returned v ∧ Out w w' ∧ straitref06_Print.ret K v w'.heap := by
  rw [← straitref06_Print.eq] at hh
  exact fn_calls (args := [(.int .i64 a1)]) (c := straitref06_Print.code) straitref06_Print.ok Tryz.func65 (by kernel_rfl) (by kernel_rfl) (by kernel_rfl) (by kernel_rfl) (loops_ok (l := []) (by kernel_rfl) trivial) hh w hw
end

end Go.Proofs.YtokemibmanjpmaaGreatDoor
