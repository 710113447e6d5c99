/- WRITTEN BY A PROGRAM OF THIS SESSION (gen.py): what each function asks of memory, and that the model's run comes to it. -/
import Derived.Test.YtlfcfoodlbbbjaaProg
import Derived.Test.YtlfcfoodlbbbjaaFw8
import Derived.Test.YtlfcfoodlbbbjaaG1
namespace Go.Proofs.Ytlfcfoodlbbbjaa
open Go.Hp
set_option linter.unusedVariables false
set_option linter.unusedSimpArgs false

/-! ### strait/straitref14.By: function 8 -/
def straitref14_By.b1 (K4 : Int → Heap → Prop) (cont : (Option Addr) → Nat → Nat → (Option Addr) → Nat → Nat → Addr → Nat → Nat → Int → Int → Int → Heap → Prop) (c0_2001 : Option Addr) (c0_2002 : Nat) (c0_2003 : Nat) (c3_2004 : Option Addr) (c3_2005 : Nat) (c3_2006 : Nat) (c4_2007 : Addr) (c4_2008 : Nat) (c4_2009 : Nat) (c5_2010 : Int) (v6_2011 : Int) (v7_2012 : Int) (h2013 : Heap) : Prop :=
  (iteB (decide (v7_2012 < (c0_2002 : Int))) ((let j2021 := (fun (y2020 : Int) => cont c0_2001 c0_2002 c0_2003 c3_2004 c3_2005 c3_2006 c4_2007 c4_2008 c4_2009 c5_2010 y2020 (IntKind.i64.wrap (v7_2012 + 1)) h2013);
  (0 ≤ v7_2012 ∧ v7_2012 < (c4_2008 : Int)) ∧ ∃ (x2014 : Bool), cell h2013 (c4_2007.add (v7_2012.toNat * 1)) = some (.bool x2014) ∧ iteB (!x2014) (iteB (decide (v6_2011 < (0 : Int))) ((((j2021 v7_2012)))) (chkP c0_2001 fun a2015 => (0 ≤ v7_2012 ∧ v7_2012 < (c0_2002 : Int)) ∧ ∃ (x2016 : Int), cell h2013 (a2015.add (v7_2012.toNat * 1)) = some (.int .i64 x2016) ∧ chkP c0_2001 fun a2017 => (0 ≤ v6_2011 ∧ v6_2011 < (c0_2002 : Int)) ∧ ∃ (x2018 : Int), cell h2013 (a2017.add (v6_2011.toNat * 1)) = some (.int .i64 x2018) ∧ (iteB (decide (x2016 < x2018)) (((j2021 v7_2012))) (((j2021 v6_2011)))))) ((((j2021 v6_2011)))))) (K4 v6_2011 h2013))
def straitref14_By.l1 (K4 : Int → Heap → Prop) : Nat → (Option Addr) → Nat → Nat → (Option Addr) → Nat → Nat → Addr → Nat → Nat → Int → Int → Int → Heap → Prop
  | 0, _, _, _, _, _, _, _, _, _, _, _, _, _ => False
  | m + 1, c0_2001, c0_2002, c0_2003, c3_2004, c3_2005, c3_2006, c4_2007, c4_2008, c4_2009, c5_2010, v6_2011, v7_2012, h => straitref14_By.b1 K4 (straitref14_By.l1 K4 m) c0_2001 c0_2002 c0_2003 c3_2004 c3_2005 c3_2006 c4_2007 c4_2008 c4_2009 c5_2010 v6_2011 v7_2012 h
def straitref14_By.b0 (K2 : (Option Addr) → Nat → Nat → Heap → Prop) (cont : (Option Addr) → Nat → Nat → (Option Addr) → Nat → Nat → Addr → Nat → Nat → Int → Heap → Prop) (c0_1001 : Option Addr) (c0_1002 : Nat) (c0_1003 : Nat) (v3_1004 : Option Addr) (v3_1004l : Nat) (v3_1004c : Nat) (c4_1005 : Addr) (c4_1006 : Nat) (c4_1007 : Nat) (v5_1008 : Int) (h1009 : Heap) : Prop :=
  (iteB (decide (v5_1008 < (c0_1002 : Int))) ((((∃ m1012, straitref14_By.l1 (fun z1010 h1011 => (((0 ≤ z1010 ∧ z1010 < (c4_1006 : Int)) ∧ stC h1011 (c4_1005.add (z1010.toNat * 1)) (.bool true) fun h1013 => (newP h1013 (.cells #[(.int .i64 z1010)] 3) fun a1014 h1015 => ∃ n1020, cellsAt h1015 (some a1014) (1 * 1) n1020 ∧ appP 3 1 8 [(.int .i64 0)] v3_1004 v3_1004l v3_1004c 1 n1020 h1015 fun q1016 l1017 c1018 h1019 => ((cont c0_1001 c0_1002 c0_1003 q1016 l1017 c1018 c4_1005 c4_1006 c4_1007 (IntKind.i64.wrap (v5_1008 + 1)) h1019)))))) m1012 c0_1001 c0_1002 c0_1003 v3_1004 v3_1004l v3_1004c c4_1005 c4_1006 c4_1007 v5_1008 (-1) 0 h1009)))) (K2 v3_1004 v3_1004l v3_1004c h1009))
def straitref14_By.l0 (K2 : (Option Addr) → Nat → Nat → Heap → Prop) : Nat → (Option Addr) → Nat → Nat → (Option Addr) → Nat → Nat → Addr → Nat → Nat → Int → Heap → Prop
  | 0, _, _, _, _, _, _, _, _, _, _, _ => False
  | m + 1, c0_1001, c0_1002, c0_1003, v3_1004, v3_1004l, v3_1004c, c4_1005, c4_1006, c4_1007, v5_1008, h => straitref14_By.b0 K2 (straitref14_By.l0 K2 m) c0_1001 c0_1002 c0_1003 v3_1004 v3_1004l v3_1004c c4_1005 c4_1006 c4_1007 v5_1008 h
def straitref14_By (a1 : Option Addr) (a1l : Nat) (a1c : Nat) (h : Heap) (K : (Option Addr) → Nat → Nat → Heap → Prop) : Prop :=
  (((0 ≤ (a1l : Int) ∧ (a1l : Int) ≤ (a1l : Int) ∧ (a1l : Int) * (1 : Nat) ≤ 2 ^ 47 ∧ (a1l : Int) ≤ 2 ^ 47) ∧ newP h (.cells (zeroRow [(.bool false)] (a1l : Int).toNat).toArray 4) fun a2 h3 => ((∃ m6, straitref14_By.l0 (fun z4 z4l z4c h5 => (K z4 z4l z4c h5)) m6 a1 a1l a1c none 0 0 a2 ((a1l : Int).toNat) ((a1l : Int).toNat) 0 h3))))
def straitref14_By.ret (K : (Option Addr) → Nat → Nat → Heap → Prop) (v : Value) (h : Heap) : Prop := match v with
  | (.slice r7 r7l r7c) => K r7 r7l r7c h
  | _ => False
theorem straitref14_By.ret_elim {K : (Option Addr) → Nat → Nat → Heap → Prop} {K' : Value → Heap → Prop} {v : Value} {h : Heap} (hk : ∀ r7 r7l r7c h, K r7 r7l r7c h → K' (.slice r7 r7l r7c) h) (hh : straitref14_By.ret K v h) : K' v h := by
  unfold straitref14_By.ret at hh
  split at hh
  · exact hk _ _ _ _ hh
  · exact hh.elim
def straitref14_By.r0 (K : Nat → List Value → Heap → Prop) (m : Nat) (vs : List Value) (h : Heap) : Prop := match vs with
  | [(.slice c0_1001 c0_1002 c0_1003), (.slice v3_1004 v3_1004l v3_1004c), (.slice (some c4_1005) c4_1006 c4_1007), (.int .i64 v5_1008)] => straitref14_By.l0 (fun z8 z8l z8c h' => K 2 [(.slice z8 z8l z8c)] h') m c0_1001 c0_1002 c0_1003 v3_1004 v3_1004l v3_1004c c4_1005 c4_1006 c4_1007 v5_1008 h
  | _ => False
def straitref14_By.r1 (K : Nat → List Value → Heap → Prop) (m : Nat) (vs : List Value) (h : Heap) : Prop := match vs with
  | [(.slice c0_2001 c0_2002 c0_2003), (.slice c3_2004 c3_2005 c3_2006), (.slice (some c4_2007) c4_2008 c4_2009), (.int .i64 c5_2010), (.int .i64 v6_2011), (.int .i64 v7_2012)] => straitref14_By.l1 (fun z9 h' => K 4 [(.slice c0_2001 c0_2002 c0_2003), (.slice c3_2004 c3_2005 c3_2006), (.slice (some c4_2007) c4_2008 c4_2009), (.int .i64 c5_2010), (.int .i64 z9)] h') m c0_2001 c0_2002 c0_2003 c3_2004 c3_2005 c3_2006 c4_2007 c4_2008 c4_2009 c5_2010 v6_2011 v7_2012 h
  | _ => False
def straitref14_By.loop (i : Nat) (vs : List Value) (h : Heap) (K : Nat → List Value → Heap → Prop) : Prop := match i with
  | 0 => ∃ m, straitref14_By.r0 K m vs h
  | 1 => ∃ m, straitref14_By.r1 K m vs h
  | _ => False
noncomputable def straitref14_By.ctx : Ctx := { P := Try.prog, hint := fun t => bif Nat.beq t 44 then some 24 else none, call := fun _ _ _ _ => False, qcall := fun _ _ _ _ => False, quiet := fun f => false, loop := straitref14_By.loop }
theorem straitref14_By.ok : straitref14_By.ctx.OK where
  mixed := by kernel_rfl
  mono := fun hh _ => hh.elim
  call := fun hh => hh.elim
  qmono := fun hh _ => hh.elim
  qval := fun hh => hh.elim
  qcall := fun hh => hh.elim
noncomputable def straitref14_By.code : Code := (Try.f8.body).getD .skip
def straitref14_By.ann : Ann := (.two .auto (.two .auto (.two .auto (.two (.two .auto (.two (.loop 0 [0, 3, 4, 5] [(2, [3])] (.two .auto (.two (.two (.two .auto (.two (.two .auto (.two (.loop 1 [0, 3, 4, 5, 6, 7] [(4, [0, 3, 4, 5, 6])] (.two .auto (.two (.two (.two (.reg [0, 0, 3, 7, 15, 31, 63, 127, 255, 511, 511, 2047, 4095, 511, 511, 25087, 57855, 131071, 262143, 524287] (.take 0 (.take 1 (.take 2 (.take 3 (.take 4 (.take 5 (.take 6 (.take 7 (.take 8 (.take 9 (.take 10 (.take 11 (.take 12 (.take 13 (.take 14 (.take 15 (.take 16 (.take 17 (.take 18 (.take 19 .done))))))))))))))))))))) .auto) .auto) .auto))) .auto)) .auto)) .auto) .auto))) .auto)) .auto))))
noncomputable def straitref14_By.c1 : Code := sub straitref14_By.code [1, 1, 1, 0, 1, 0, 0, 1, 0, 0, 1, 0, 1, 0, 0]
def straitref14_By.a1 : Ann := (.two .auto (.two (.two (.two (.reg [0, 0, 3, 7, 15, 31, 63, 127, 255, 511, 511, 2047, 4095, 511, 511, 25087, 57855, 131071, 262143, 524287] (.take 0 (.take 1 (.take 2 (.take 3 (.take 4 (.take 5 (.take 6 (.take 7 (.take 8 (.take 9 (.take 10 (.take 11 (.take 12 (.take 13 (.take 14 (.take 15 (.take 16 (.take 17 (.take 18 (.take 19 .done))))))))))))))))))))) .auto) .auto) .auto))
def straitref14_By.keep1 : List Nat := [0, 3, 4, 5, 6, 7]
def straitref14_By.outs1 : List (Nat × List Nat) := [(4, [0, 3, 4, 5, 6])]
noncomputable def straitref14_By.c0 : Code := sub straitref14_By.code [1, 1, 1, 0, 1, 0, 0]
def straitref14_By.a0 : Ann := (.two .auto (.two (.two (.two .auto (.two (.two .auto (.two (.loop 1 [0, 3, 4, 5, 6, 7] [(4, [0, 3, 4, 5, 6])] (.two .auto (.two (.two (.two (.reg [0, 0, 3, 7, 15, 31, 63, 127, 255, 511, 511, 2047, 4095, 511, 511, 25087, 57855, 131071, 262143, 524287] (.take 0 (.take 1 (.take 2 (.take 3 (.take 4 (.take 5 (.take 6 (.take 7 (.take 8 (.take 9 (.take 10 (.take 11 (.take 12 (.take 13 (.take 14 (.take 15 (.take 16 (.take 17 (.take 18 (.take 19 .done))))))))))))))))))))) .auto) .auto) .auto))) .auto)) .auto)) .auto) .auto))
def straitref14_By.keep0 : List Nat := [0, 3, 4, 5]
def straitref14_By.outs0 : List (Nat × List Nat) := [(2, [3])]
set_option maxRecDepth 100000 in
theorem straitref14_By.L1 : LoopOK straitref14_By.ctx 52 straitref14_By.c1 1 straitref14_By.keep1 straitref14_By.outs1 := by
  refine loop_ok (n := straitref14_By.a1) straitref14_By.ok (by kernel_rfl) (loops_ok (l := []) (by kernel_rfl) ?_) straitref14_By.r1 ?_ ?_ (fun vs h K hh => hh)
  · exact trivial
  · intro K vs h hh
    unfold straitref14_By.r1 at hh
    split at hh
    · exact hh
    · exact hh
  · intro K m vs h hh
    unfold straitref14_By.r1 at hh
    split at hh
    · exact cast (by kernel_rfl) hh
    · exact hh.elim
set_option maxRecDepth 100000 in
theorem straitref14_By.L0 : LoopOK straitref14_By.ctx 52 straitref14_By.c0 0 straitref14_By.keep0 straitref14_By.outs0 := by
  refine loop_ok (n := straitref14_By.a0) straitref14_By.ok (by kernel_rfl) (loops_ok (l := [(straitref14_By.c1, none, 1, straitref14_By.keep1, straitref14_By.outs1)]) (by kernel_rfl) ?_) straitref14_By.r0 ?_ ?_ (fun vs h K hh => hh)
  · exact ⟨straitref14_By.L1, trivial⟩
  · intro K vs h hh
    unfold straitref14_By.r0 at hh
    split at hh
    · exact hh
    · exact hh
  · intro K m vs h hh
    unfold straitref14_By.r0 at hh
    split at hh
    · exact cast (by kernel_rfl) hh
    · exact hh.elim
set_option maxRecDepth 100000 in
theorem straitref14_By.eq (a1 : Option Addr) (a1l : Nat) (a1c : Nat) (h : Heap) (K : (Option Addr) → Nat → Nat → Heap → Prop) : evF straitref14_By.ctx Try.f8 straitref14_By.ann [(.slice a1 a1l a1c)] h (straitref14_By.ret K) = straitref14_By a1 a1l a1c h K := by kernel_rfl
set_option maxRecDepth 100000 in
theorem straitref14_By.calls {a1 : Option Addr} {a1l : Nat} {a1c : Nat} {h : Heap} {K : (Option Addr) → Nat → Nat → Heap → Prop} (hh : straitref14_By a1 a1l a1c h K) (w : World) (hw : w.heap = h) :
    (callFunc 8 #[(.slice a1 a1l a1c)]).run Try.prog w = .ok (.enter 8 #[(.slice a1 a1l a1c)]) w ∧ Calls Try.prog 8 #[(.slice a1 a1l a1c)] w fun e w' => ∃ v, e = .returned v ∧ Out w w' ∧ straitref14_By.ret K v w'.heap := by
  rw [← straitref14_By.eq] at hh
  exact fn_calls (args := [(.slice a1 a1l a1c)]) (c := straitref14_By.code) straitref14_By.ok Try.func8 (by kernel_rfl) (by kernel_rfl) (by kernel_rfl) (by kernel_rfl) (loops_ok (l := [(straitref14_By.c0, none, 0, straitref14_By.keep0, straitref14_By.outs0)]) (by kernel_rfl) ⟨straitref14_By.L0, trivial⟩) hh w hw

/-! ### strait/rank.Of: function 11 -/
def rank_Of (a1 : Option Addr) (a1l : Nat) (a1c : Nat) (h : Heap) (K : (Option Addr) → Nat → Nat → Heap → Prop) : Prop :=
  (callP3 (rank_By a1 a1l a1c h) fun x2 x2l x2c h3 => callP4 (rank_Inverse x2 x2l x2c h3) fun x4 x4l x4c x5 h6 => K x4 x4l x4c h6)
def rank_Of.ret (K : (Option Addr) → Nat → Nat → Heap → Prop) (v : Value) (h : Heap) : Prop := match v with
  | (.slice r7 r7l r7c) => K r7 r7l r7c h
  | _ => False
theorem rank_Of.ret_elim {K : (Option Addr) → Nat → Nat → Heap → Prop} {K' : Value → Heap → Prop} {v : Value} {h : Heap} (hk : ∀ r7 r7l r7c h, K r7 r7l r7c h → K' (.slice r7 r7l r7c) h) (hh : rank_Of.ret K v h) : K' v h := by
  unfold rank_Of.ret at hh
  split at hh
  · exact hk _ _ _ _ hh
  · exact hh.elim
def rank_Of.call (f : FuncId) (vs : List Value) (h : Heap) (K : Value → Heap → Prop) : Prop := match f, vs with
  | 10, [(.slice a1 a1l a1c)] => callP3 (rank_By a1 a1l a1c h) fun r7 r7l r7c h' => K (.slice r7 r7l r7c) h'
  | 16, [(.slice a1 a1l a1c)] => callP4 (rank_Inverse a1 a1l a1c h) fun r11 r11l r11c r12 h' => K (.tuple #[(.slice r11 r11l r11c), (.bool r12)]) h'
  | _, _ => False
noncomputable def rank_Of.ctx : Ctx := { P := Try.prog, hint := fun t => bif Nat.beq t 44 then some 24 else none, call := rank_Of.call, qcall := fun _ _ _ _ => False, quiet := fun f => false, loop := fun _ _ _ _ => False }
theorem rank_Of.ok : rank_Of.ctx.OK where
  mixed := by kernel_rfl
  mono := by
    intro f args h K K' hh hk
    change rank_Of.call f args h K at hh
    change rank_Of.call f args h K'
    unfold rank_Of.call at hh ⊢
    split at hh
    · obtain ⟨R, h1, h2⟩ := hh
      exact ⟨R, h1, fun _ _ _ x hr => hk _ _ (h2 _ _ _ x hr)⟩
    · obtain ⟨R, h1, h2⟩ := hh
      exact ⟨R, h1, fun _ _ _ _ x hr => hk _ _ (h2 _ _ _ _ x hr)⟩
    · exact hh.elim
  call := by
    intro f args h K hh w hw
    change rank_Of.call f args h K at hh
    unfold rank_Of.call at hh
    split at hh
    · obtain ⟨R, h1, h2⟩ := hh
      obtain ⟨g1, g2⟩ := rank_By.calls h1 w hw
      exact ⟨g1, g2.mono fun e w' ⟨v, he, ho, hr⟩ => ⟨v, he, ho, rank_By.ret_elim h2 hr⟩⟩
    · obtain ⟨R, h1, h2⟩ := hh
      obtain ⟨g1, g2⟩ := rank_Inverse.calls h1 w hw
      exact ⟨g1, g2.mono fun e w' ⟨v, he, ho, hr⟩ => ⟨v, he, ho, rank_Inverse.ret_elim h2 hr⟩⟩
    · exact hh.elim
  qmono := fun hh _ => hh.elim
  qval := fun hh => hh.elim
  qcall := fun hh => hh.elim
noncomputable def rank_Of.code : Code := (Try.f11.body).getD .skip
def rank_Of.ann : Ann := .auto
set_option maxRecDepth 100000 in
theorem rank_Of.eq (a1 : Option Addr) (a1l : Nat) (a1c : Nat) (h : Heap) (K : (Option Addr) → Nat → Nat → Heap → Prop) : evF rank_Of.ctx Try.f11 rank_Of.ann [(.slice a1 a1l a1c)] h (rank_Of.ret K) = rank_Of a1 a1l a1c h K := by kernel_rfl
set_option maxRecDepth 100000 in
theorem rank_Of.calls {a1 : Option Addr} {a1l : Nat} {a1c : Nat} {h : Heap} {K : (Option Addr) → Nat → Nat → Heap → Prop} (hh : rank_Of a1 a1l a1c h K) (w : World) (hw : w.heap = h) :
    (callFunc 11 #[(.slice a1 a1l a1c)]).run Try.prog w = .ok (.enter 11 #[(.slice a1 a1l a1c)]) w ∧ Calls Try.prog 11 #[(.slice a1 a1l a1c)] w fun e w' => ∃ v, e = .returned v ∧ Out w w' ∧ rank_Of.ret K v w'.heap := by
  rw [← rank_Of.eq] at hh
  exact fn_calls (args := [(.slice a1 a1l a1c)]) (c := rank_Of.code) rank_Of.ok Try.func11 (by kernel_rfl) (by kernel_rfl) (by kernel_rfl) (by kernel_rfl) (loops_ok (l := []) (by kernel_rfl) trivial) hh w hw

/-! ### strait/straitref14.Inverse: function 19 -/
def straitref14_Inverse.b0 (K2 : Heap → Prop) (cont : (Option Addr) → Nat → Nat → Addr → Nat → Nat → Int → Heap → Prop) (c0_1001 : Option Addr) (c0_1002 : Nat) (c0_1003 : Nat) (c3_1004 : Addr) (c3_1005 : Nat) (c3_1006 : Nat) (v4_1007 : Int) (h1008 : Heap) : Prop :=
  (iteB (decide (v4_1007 < (c0_1002 : Int))) ((chkP c0_1001 fun a1009 => (0 ≤ v4_1007 ∧ v4_1007 < (c0_1002 : Int)) ∧ ∃ (x1010 : Int), cell h1008 (a1009.add (v4_1007.toNat * 1)) = some (.int .i64 x1010) ∧ (0 ≤ x1010 ∧ x1010 < (c3_1005 : Int)) ∧ stC h1008 (c3_1004.add (x1010.toNat * 1)) (.int .i64 v4_1007) fun h1011 => ((cont c0_1001 c0_1002 c0_1003 c3_1004 c3_1005 c3_1006 (IntKind.i64.wrap (v4_1007 + 1)) h1011)))) (K2 h1008))
def straitref14_Inverse.l0 (K2 : Heap → Prop) : Nat → (Option Addr) → Nat → Nat → Addr → Nat → Nat → Int → Heap → Prop
  | 0, _, _, _, _, _, _, _, _ => False
  | m + 1, c0_1001, c0_1002, c0_1003, c3_1004, c3_1005, c3_1006, v4_1007, h => straitref14_Inverse.b0 K2 (straitref14_Inverse.l0 K2 m) c0_1001 c0_1002 c0_1003 c3_1004 c3_1005 c3_1006 v4_1007 h
def straitref14_Inverse (a1 : Option Addr) (a1l : Nat) (a1c : Nat) (h : Heap) (K : (Option Addr) → Nat → Nat → Heap → Prop) : Prop :=
  ((0 ≤ (a1l : Int) ∧ (a1l : Int) ≤ (a1l : Int) ∧ (a1l : Int) * (8 : Nat) ≤ 2 ^ 47 ∧ (a1l : Int) ≤ 2 ^ 47) ∧ newP h (.cells (zeroRow [(.int .i64 0)] (a1l : Int).toNat).toArray 3) fun a2 h3 => ((∃ m5, straitref14_Inverse.l0 (fun h4 => (((K (some a2) ((a1l : Int).toNat) ((a1l : Int).toNat) h4)))) m5 a1 a1l a1c a2 ((a1l : Int).toNat) ((a1l : Int).toNat) 0 h3)))
def straitref14_Inverse.ret (K : (Option Addr) → Nat → Nat → Heap → Prop) (v : Value) (h : Heap) : Prop := match v with
  | (.slice r6 r6l r6c) => K r6 r6l r6c h
  | _ => False
theorem straitref14_Inverse.ret_elim {K : (Option Addr) → Nat → Nat → Heap → Prop} {K' : Value → Heap → Prop} {v : Value} {h : Heap} (hk : ∀ r6 r6l r6c h, K r6 r6l r6c h → K' (.slice r6 r6l r6c) h) (hh : straitref14_Inverse.ret K v h) : K' v h := by
  unfold straitref14_Inverse.ret at hh
  split at hh
  · exact hk _ _ _ _ hh
  · exact hh.elim
def straitref14_Inverse.r0 (K : Nat → List Value → Heap → Prop) (m : Nat) (vs : List Value) (h : Heap) : Prop := match vs with
  | [(.slice c0_1001 c0_1002 c0_1003), (.slice (some c3_1004) c3_1005 c3_1006), (.int .i64 v4_1007)] => straitref14_Inverse.l0 (fun h' => K 2 [(.slice (some c3_1004) c3_1005 c3_1006)] h') m c0_1001 c0_1002 c0_1003 c3_1004 c3_1005 c3_1006 v4_1007 h
  | _ => False
def straitref14_Inverse.loop (i : Nat) (vs : List Value) (h : Heap) (K : Nat → List Value → Heap → Prop) : Prop := match i with
  | 0 => ∃ m, straitref14_Inverse.r0 K m vs h
  | _ => False
noncomputable def straitref14_Inverse.ctx : Ctx := { P := Try.prog, hint := fun t => bif Nat.beq t 44 then some 24 else none, call := fun _ _ _ _ => False, qcall := fun _ _ _ _ => False, quiet := fun f => false, loop := straitref14_Inverse.loop }
theorem straitref14_Inverse.ok : straitref14_Inverse.ctx.OK where
  mixed := by kernel_rfl
  mono := fun hh _ => hh.elim
  call := fun hh => hh.elim
  qmono := fun hh _ => hh.elim
  qval := fun hh => hh.elim
  qcall := fun hh => hh.elim
noncomputable def straitref14_Inverse.code : Code := (Try.f19.body).getD .skip
def straitref14_Inverse.ann : Ann := (.two .auto (.two .auto (.two (.two .auto (.two (.loop 0 [0, 3, 4] [(2, [3])] .auto) .auto)) .auto)))
noncomputable def straitref14_Inverse.c0 : Code := sub straitref14_Inverse.code [1, 1, 0, 1, 0, 0]
def straitref14_Inverse.a0 : Ann := .auto
def straitref14_Inverse.keep0 : List Nat := [0, 3, 4]
def straitref14_Inverse.outs0 : List (Nat × List Nat) := [(2, [3])]
set_option maxRecDepth 100000 in
theorem straitref14_Inverse.L0 : LoopOK straitref14_Inverse.ctx 22 straitref14_Inverse.c0 0 straitref14_Inverse.keep0 straitref14_Inverse.outs0 := by
  refine loop_ok (n := straitref14_Inverse.a0) straitref14_Inverse.ok (by kernel_rfl) (loops_ok (l := []) (by kernel_rfl) ?_) straitref14_Inverse.r0 ?_ ?_ (fun vs h K hh => hh)
  · exact trivial
  · intro K vs h hh
    unfold straitref14_Inverse.r0 at hh
    split at hh
    · exact hh
    · exact hh
  · intro K m vs h hh
    unfold straitref14_Inverse.r0 at hh
    split at hh
    · exact cast (by kernel_rfl) hh
    · exact hh.elim
set_option maxRecDepth 100000 in
theorem straitref14_Inverse.eq (a1 : Option Addr) (a1l : Nat) (a1c : Nat) (h : Heap) (K : (Option Addr) → Nat → Nat → Heap → Prop) : evF straitref14_Inverse.ctx Try.f19 straitref14_Inverse.ann [(.slice a1 a1l a1c)] h (straitref14_Inverse.ret K) = straitref14_Inverse a1 a1l a1c h K := by kernel_rfl
set_option maxRecDepth 100000 in
theorem straitref14_Inverse.calls {a1 : Option Addr} {a1l : Nat} {a1c : Nat} {h : Heap} {K : (Option Addr) → Nat → Nat → Heap → Prop} (hh : straitref14_Inverse a1 a1l a1c h K) (w : World) (hw : w.heap = h) :
    (callFunc 19 #[(.slice a1 a1l a1c)]).run Try.prog w = .ok (.enter 19 #[(.slice a1 a1l a1c)]) w ∧ Calls Try.prog 19 #[(.slice a1 a1l a1c)] w fun e w' => ∃ v, e = .returned v ∧ Out w w' ∧ straitref14_Inverse.ret K v w'.heap := by
  rw [← straitref14_Inverse.eq] at hh
  exact fn_calls (args := [(.slice a1 a1l a1c)]) (c := straitref14_Inverse.code) straitref14_Inverse.ok Try.func19 (by kernel_rfl) (by kernel_rfl) (by kernel_rfl) (by kernel_rfl) (loops_ok (l := [(straitref14_Inverse.c0, none, 0, straitref14_Inverse.keep0, straitref14_Inverse.outs0)]) (by kernel_rfl) ⟨straitref14_Inverse.L0, trivial⟩) hh w hw

/-! ### strait/straitref14.Of: function 12 -/
def straitref14_Of (a1 : Option Addr) (a1l : Nat) (a1c : Nat) (h : Heap) (K : (Option Addr) → Nat → Nat → Heap → Prop) : Prop :=
  (callP3 (straitref14_By a1 a1l a1c h) fun x2 x2l x2c h3 => callP3 (straitref14_Inverse x2 x2l x2c h3) fun x4 x4l x4c h5 => K x4 x4l x4c h5)
def straitref14_Of.ret (K : (Option Addr) → Nat → Nat → Heap → Prop) (v : Value) (h : Heap) : Prop := match v with
  | (.slice r6 r6l r6c) => K r6 r6l r6c h
  | _ => False
theorem straitref14_Of.ret_elim {K : (Option Addr) → Nat → Nat → Heap → Prop} {K' : Value → Heap → Prop} {v : Value} {h : Heap} (hk : ∀ r6 r6l r6c h, K r6 r6l r6c h → K' (.slice r6 r6l r6c) h) (hh : straitref14_Of.ret K v h) : K' v h := by
  unfold straitref14_Of.ret at hh
  split at hh
  · exact hk _ _ _ _ hh
  · exact hh.elim
def straitref14_Of.call (f : FuncId) (vs : List Value) (h : Heap) (K : Value → Heap → Prop) : Prop := match f, vs with
  | 8, [(.slice a1 a1l a1c)] => callP3 (straitref14_By a1 a1l a1c h) fun r7 r7l r7c h' => K (.slice r7 r7l r7c) h'
  | 19, [(.slice a1 a1l a1c)] => callP3 (straitref14_Inverse a1 a1l a1c h) fun r6 r6l r6c h' => K (.slice r6 r6l r6c) h'
  | _, _ => False
noncomputable def straitref14_Of.ctx : Ctx := { P := Try.prog, hint := fun t => bif Nat.beq t 44 then some 24 else none, call := straitref14_Of.call, qcall := fun _ _ _ _ => False, quiet := fun f => false, loop := fun _ _ _ _ => False }
theorem straitref14_Of.ok : straitref14_Of.ctx.OK where
  mixed := by kernel_rfl
  mono := by
    intro f args h K K' hh hk
    change straitref14_Of.call f args h K at hh
    change straitref14_Of.call f args h K'
    unfold straitref14_Of.call at hh ⊢
    split at hh
    · obtain ⟨R, h1, h2⟩ := hh
      exact ⟨R, h1, fun _ _ _ x hr => hk _ _ (h2 _ _ _ x hr)⟩
    · obtain ⟨R, h1, h2⟩ := hh
      exact ⟨R, h1, fun _ _ _ x hr => hk _ _ (h2 _ _ _ x hr)⟩
    · exact hh.elim
  call := by
    intro f args h K hh w hw
    change straitref14_Of.call f args h K at hh
    unfold straitref14_Of.call at hh
    split at hh
    · obtain ⟨R, h1, h2⟩ := hh
      obtain ⟨g1, g2⟩ := straitref14_By.calls h1 w hw
      exact ⟨g1, g2.mono fun e w' ⟨v, he, ho, hr⟩ => ⟨v, he, ho, straitref14_By.ret_elim h2 hr⟩⟩
    · obtain ⟨R, h1, h2⟩ := hh
      obtain ⟨g1, g2⟩ := straitref14_Inverse.calls h1 w hw
      exact ⟨g1, g2.mono fun e w' ⟨v, he, ho, hr⟩ => ⟨v, he, ho, straitref14_Inverse.ret_elim h2 hr⟩⟩
    · exact hh.elim
  qmono := fun hh _ => hh.elim
  qval := fun hh => hh.elim
  qcall := fun hh => hh.elim
noncomputable def straitref14_Of.code : Code := (Try.f12.body).getD .skip
def straitref14_Of.ann : Ann := .auto
set_option maxRecDepth 100000 in
theorem straitref14_Of.eq (a1 : Option Addr) (a1l : Nat) (a1c : Nat) (h : Heap) (K : (Option Addr) → Nat → Nat → Heap → Prop) : evF straitref14_Of.ctx Try.f12 straitref14_Of.ann [(.slice a1 a1l a1c)] h (straitref14_Of.ret K) = straitref14_Of a1 a1l a1c h K := by kernel_rfl
set_option maxRecDepth 100000 in
theorem straitref14_Of.calls {a1 : Option Addr} {a1l : Nat} {a1c : Nat} {h : Heap} {K : (Option Addr) → Nat → Nat → Heap → Prop} (hh : straitref14_Of a1 a1l a1c h K) (w : World) (hw : w.heap = h) :
    (callFunc 12 #[(.slice a1 a1l a1c)]).run Try.prog w = .ok (.enter 12 #[(.slice a1 a1l a1c)]) w ∧ Calls Try.prog 12 #[(.slice a1 a1l a1c)] w fun e w' => ∃ v, e = .returned v ∧ Out w w' ∧ straitref14_Of.ret K v w'.heap := by
  rw [← straitref14_Of.eq] at hh
  exact fn_calls (args := [(.slice a1 a1l a1c)]) (c := straitref14_Of.code) straitref14_Of.ok Try.func12 (by kernel_rfl) (by kernel_rfl) (by kernel_rfl) (by kernel_rfl) (loops_ok (l := []) (by kernel_rfl) trivial) hh w hw

/-! ### strait/straitref14.Distinct: function 15 -/
def straitref14_Distinct.b0 (K2 : (Option Addr) → Nat → Nat → Heap → Prop) (cont : (Option Addr) → Nat → Nat → (Option Addr) → Nat → Nat → (Option Addr) → Nat → Nat → Int → Heap → Prop) (c0_1001 : Option Addr) (c0_1002 : Nat) (c0_1003 : Nat) (v3_1004 : Option Addr) (v3_1004l : Nat) (v3_1004c : Nat) (c4_1005 : Option Addr) (c4_1006 : Nat) (c4_1007 : Nat) (v5_1008 : Int) (h1009 : Heap) : Prop :=
  (iteB (decide (v5_1008 < (c4_1006 : Int))) ((let j1030 := (fun (y1018 : Bool) => iteB y1018 (chkP c4_1005 fun a1019 => (0 ≤ v5_1008 ∧ v5_1008 < (c4_1006 : Int)) ∧ ∃ (x1020 : Int), cell h1009 (a1019.add (v5_1008.toNat * 1)) = some (.int .i64 x1020) ∧ chkP c0_1001 fun a1021 => (0 ≤ x1020 ∧ x1020 < (c0_1002 : Int)) ∧ ∃ (x1022 : Int), cell h1009 (a1021.add (x1020.toNat * 1)) = some (.int .i64 x1022) ∧ newP h1009 (.cells #[(.int .i64 x1022)] 2) fun a1023 h1024 => ∃ n1029, cellsAt h1024 (some a1023) (1 * 1) n1029 ∧ appP 2 1 8 [(.int .i64 0)] v3_1004 v3_1004l v3_1004c 1 n1029 h1024 fun q1025 l1026 c1027 h1028 => ((cont c0_1001 c0_1002 c0_1003 q1025 l1026 c1027 c4_1005 c4_1006 c4_1007 (IntKind.i64.wrap (v5_1008 + 1)) h1028))) (((cont c0_1001 c0_1002 c0_1003 v3_1004 v3_1004l v3_1004c c4_1005 c4_1006 c4_1007 (IntKind.i64.wrap (v5_1008 + 1)) h1009))));
  iteB (v5_1008 == (0 : Int)) ((j1030 true)) (chkP c4_1005 fun a1010 => (0 ≤ v5_1008 ∧ v5_1008 < (c4_1006 : Int)) ∧ ∃ (x1011 : Int), cell h1009 (a1010.add (v5_1008.toNat * 1)) = some (.int .i64 x1011) ∧ chkP c0_1001 fun a1012 => (0 ≤ x1011 ∧ x1011 < (c0_1002 : Int)) ∧ ∃ (x1013 : Int), cell h1009 (a1012.add (x1011.toNat * 1)) = some (.int .i64 x1013) ∧ chkP c4_1005 fun a1014 => (0 ≤ (IntKind.i64.wrap (v5_1008 - 1)) ∧ (IntKind.i64.wrap (v5_1008 - 1)) < (c4_1006 : Int)) ∧ ∃ (x1015 : Int), cell h1009 (a1014.add ((IntKind.i64.wrap (v5_1008 - 1)).toNat * 1)) = some (.int .i64 x1015) ∧ chkP c0_1001 fun a1016 => (0 ≤ x1015 ∧ x1015 < (c0_1002 : Int)) ∧ ∃ (x1017 : Int), cell h1009 (a1016.add (x1015.toNat * 1)) = some (.int .i64 x1017) ∧ (j1030 (x1013 != x1017))))) (K2 v3_1004 v3_1004l v3_1004c h1009))
def straitref14_Distinct.l0 (K2 : (Option Addr) → Nat → Nat → Heap → Prop) : Nat → (Option Addr) → Nat → Nat → (Option Addr) → Nat → Nat → (Option Addr) → Nat → Nat → Int → Heap → Prop
  | 0, _, _, _, _, _, _, _, _, _, _, _ => False
  | m + 1, c0_1001, c0_1002, c0_1003, v3_1004, v3_1004l, v3_1004c, c4_1005, c4_1006, c4_1007, v5_1008, h => straitref14_Distinct.b0 K2 (straitref14_Distinct.l0 K2 m) c0_1001 c0_1002 c0_1003 v3_1004 v3_1004l v3_1004c c4_1005 c4_1006 c4_1007 v5_1008 h
def straitref14_Distinct (a1 : Option Addr) (a1l : Nat) (a1c : Nat) (h : Heap) (K : (Option Addr) → Nat → Nat → Heap → Prop) : Prop :=
  ((callP3 (straitref14_By a1 a1l a1c h) fun x2 x2l x2c h3 => ((∃ m6, straitref14_Distinct.l0 (fun z4 z4l z4c h5 => (K z4 z4l z4c h5)) m6 a1 a1l a1c none 0 0 x2 x2l x2c 0 h3))))
def straitref14_Distinct.ret (K : (Option Addr) → Nat → Nat → Heap → Prop) (v : Value) (h : Heap) : Prop := match v with
  | (.slice r7 r7l r7c) => K r7 r7l r7c h
  | _ => False
theorem straitref14_Distinct.ret_elim {K : (Option Addr) → Nat → Nat → Heap → Prop} {K' : Value → Heap → Prop} {v : Value} {h : Heap} (hk : ∀ r7 r7l r7c h, K r7 r7l r7c h → K' (.slice r7 r7l r7c) h) (hh : straitref14_Distinct.ret K v h) : K' v h := by
  unfold straitref14_Distinct.ret at hh
  split at hh
  · exact hk _ _ _ _ hh
  · exact hh.elim
def straitref14_Distinct.call (f : FuncId) (vs : List Value) (h : Heap) (K : Value → Heap → Prop) : Prop := match f, vs with
  | 8, [(.slice a1 a1l a1c)] => callP3 (straitref14_By a1 a1l a1c h) fun r7 r7l r7c h' => K (.slice r7 r7l r7c) h'
  | _, _ => False
def straitref14_Distinct.r0 (K : Nat → List Value → Heap → Prop) (m : Nat) (vs : List Value) (h : Heap) : Prop := match vs with
  | [(.slice c0_1001 c0_1002 c0_1003), (.slice v3_1004 v3_1004l v3_1004c), (.slice c4_1005 c4_1006 c4_1007), (.int .i64 v5_1008)] => straitref14_Distinct.l0 (fun z8 z8l z8c h' => K 2 [(.slice z8 z8l z8c)] h') m c0_1001 c0_1002 c0_1003 v3_1004 v3_1004l v3_1004c c4_1005 c4_1006 c4_1007 v5_1008 h
  | _ => False
def straitref14_Distinct.loop (i : Nat) (vs : List Value) (h : Heap) (K : Nat → List Value → Heap → Prop) : Prop := match i with
  | 0 => ∃ m, straitref14_Distinct.r0 K m vs h
  | _ => False
noncomputable def straitref14_Distinct.ctx : Ctx := { P := Try.prog, hint := fun t => bif Nat.beq t 44 then some 24 else none, call := straitref14_Distinct.call, qcall := fun _ _ _ _ => False, quiet := fun f => false, loop := straitref14_Distinct.loop }
theorem straitref14_Distinct.ok : straitref14_Distinct.ctx.OK where
  mixed := by kernel_rfl
  mono := by
    intro f args h K K' hh hk
    change straitref14_Distinct.call f args h K at hh
    change straitref14_Distinct.call f args h K'
    unfold straitref14_Distinct.call at hh ⊢
    split at hh
    · obtain ⟨R, h1, h2⟩ := hh
      exact ⟨R, h1, fun _ _ _ x hr => hk _ _ (h2 _ _ _ x hr)⟩
    · exact hh.elim
  call := by
    intro f args h K hh w hw
    change straitref14_Distinct.call f args h K at hh
    unfold straitref14_Distinct.call at hh
    split at hh
    · obtain ⟨R, h1, h2⟩ := hh
      obtain ⟨g1, g2⟩ := straitref14_By.calls h1 w hw
      exact ⟨g1, g2.mono fun e w' ⟨v, he, ho, hr⟩ => ⟨v, he, ho, straitref14_By.ret_elim h2 hr⟩⟩
    · exact hh.elim
  qmono := fun hh _ => hh.elim
  qval := fun hh => hh.elim
  qcall := fun hh => hh.elim
noncomputable def straitref14_Distinct.code : Code := (Try.f15.body).getD .skip
def straitref14_Distinct.ann : Ann := (.two .auto (.two .auto (.two .auto (.two (.two .auto (.two (.loop 0 [0, 3, 4, 5] [(2, [3])] (.two .auto (.two (.two (.two (.reg [0, 1, 3, 7, 7, 7, 55, 119, 255, 511, 7, 7, 7, 4103, 14343, 30727, 64519, 130055, 262143, 524287] (.take 0 (.take 1 (.take 2 (.take 3 (.take 4 (.take 5 (.take 6 (.take 7 (.take 8 (.take 9 (.take 10 (.take 11 (.take 12 (.take 13 (.take 14 (.take 15 (.take 16 (.take 17 (.take 18 (.take 19 .done))))))))))))))))))))) .auto) .auto) .auto))) .auto)) .auto))))
noncomputable def straitref14_Distinct.c0 : Code := sub straitref14_Distinct.code [1, 1, 1, 0, 1, 0, 0]
def straitref14_Distinct.a0 : Ann := (.two .auto (.two (.two (.two (.reg [0, 1, 3, 7, 7, 7, 55, 119, 255, 511, 7, 7, 7, 4103, 14343, 30727, 64519, 130055, 262143, 524287] (.take 0 (.take 1 (.take 2 (.take 3 (.take 4 (.take 5 (.take 6 (.take 7 (.take 8 (.take 9 (.take 10 (.take 11 (.take 12 (.take 13 (.take 14 (.take 15 (.take 16 (.take 17 (.take 18 (.take 19 .done))))))))))))))))))))) .auto) .auto) .auto))
def straitref14_Distinct.keep0 : List Nat := [0, 3, 4, 5]
def straitref14_Distinct.outs0 : List (Nat × List Nat) := [(2, [3])]
set_option maxRecDepth 100000 in
theorem straitref14_Distinct.L0 : LoopOK straitref14_Distinct.ctx 45 straitref14_Distinct.c0 0 straitref14_Distinct.keep0 straitref14_Distinct.outs0 := by
  refine loop_ok (n := straitref14_Distinct.a0) straitref14_Distinct.ok (by kernel_rfl) (loops_ok (l := []) (by kernel_rfl) ?_) straitref14_Distinct.r0 ?_ ?_ (fun vs h K hh => hh)
  · exact trivial
  · intro K vs h hh
    unfold straitref14_Distinct.r0 at hh
    split at hh
    · exact hh
    · exact hh
  · intro K m vs h hh
    unfold straitref14_Distinct.r0 at hh
    split at hh
    · exact cast (by kernel_rfl) hh
    · exact hh.elim
set_option maxRecDepth 100000 in
theorem straitref14_Distinct.eq (a1 : Option Addr) (a1l : Nat) (a1c : Nat) (h : Heap) (K : (Option Addr) → Nat → Nat → Heap → Prop) : evF straitref14_Distinct.ctx Try.f15 straitref14_Distinct.ann [(.slice a1 a1l a1c)] h (straitref14_Distinct.ret K) = straitref14_Distinct a1 a1l a1c h K := by kernel_rfl
set_option maxRecDepth 100000 in
theorem straitref14_Distinct.calls {a1 : Option Addr} {a1l : Nat} {a1c : Nat} {h : Heap} {K : (Option Addr) → Nat → Nat → Heap → Prop} (hh : straitref14_Distinct a1 a1l a1c h K) (w : World) (hw : w.heap = h) :
    (callFunc 15 #[(.slice a1 a1l a1c)]).run Try.prog w = .ok (.enter 15 #[(.slice a1 a1l a1c)]) w ∧ Calls Try.prog 15 #[(.slice a1 a1l a1c)] w fun e w' => ∃ v, e = .returned v ∧ Out w w' ∧ straitref14_Distinct.ret K v w'.heap := by
  rw [← straitref14_Distinct.eq] at hh
  exact fn_calls (args := [(.slice a1 a1l a1c)]) (c := straitref14_Distinct.code) straitref14_Distinct.ok Try.func15 (by kernel_rfl) (by kernel_rfl) (by kernel_rfl) (by kernel_rfl) (loops_ok (l := [(straitref14_Distinct.c0, none, 0, straitref14_Distinct.keep0, straitref14_Distinct.outs0)]) (by kernel_rfl) ⟨straitref14_Distinct.L0, trivial⟩) hh w hw

/-! ### strait/straitref04.Same: function 13 -/
def straitref04_Same.b0 (K0 : Bool → Heap → Prop) (K2 : Heap → Prop) (cont : (Option Addr) → Nat → Nat → (Option Addr) → Nat → Nat → Int → Heap → Prop) (c0_1001 : Option Addr) (c0_1002 : Nat) (c0_1003 : Nat) (c1_1004 : Option Addr) (c1_1005 : Nat) (c1_1006 : Nat) (v5_1007 : Int) (h1008 : Heap) : Prop :=
  (iteB (decide (v5_1007 < (c0_1002 : Int))) ((chkP c0_1001 fun a1009 => (0 ≤ v5_1007 ∧ v5_1007 < (c0_1002 : Int)) ∧ ∃ (x1010 : Int), cell h1008 (a1009.add (v5_1007.toNat * 1)) = some (.int .i64 x1010) ∧ chkP c1_1004 fun a1011 => (0 ≤ v5_1007 ∧ v5_1007 < (c1_1005 : Int)) ∧ ∃ (x1012 : Int), cell h1008 (a1011.add (v5_1007.toNat * 1)) = some (.int .i64 x1012) ∧ (iteB (x1010 != x1012) (K0 false h1008) (((cont c0_1001 c0_1002 c0_1003 c1_1004 c1_1005 c1_1006 (IntKind.i64.wrap (v5_1007 + 1)) h1008)))))) (K2 h1008))
def straitref04_Same.l0 (K0 : Bool → Heap → Prop) (K2 : Heap → Prop) : Nat → (Option Addr) → Nat → Nat → (Option Addr) → Nat → Nat → Int → Heap → Prop
  | 0, _, _, _, _, _, _, _, _ => False
  | m + 1, c0_1001, c0_1002, c0_1003, c1_1004, c1_1005, c1_1006, v5_1007, h => straitref04_Same.b0 K0 K2 (straitref04_Same.l0 K0 K2 m) c0_1001 c0_1002 c0_1003 c1_1004 c1_1005 c1_1006 v5_1007 h
def straitref04_Same (a1 : Option Addr) (a1l : Nat) (a1c : Nat) (a2 : Option Addr) (a2l : Nat) (a2c : Nat) (h : Heap) (K : Bool → Heap → Prop) : Prop :=
  ((iteB ((a1l : Int) != (a2l : Int)) (K false h) (((∃ m6, straitref04_Same.l0 (fun z3 h4 => K z3 h4) (fun h5 => (K true h5)) m6 a1 a1l a1c a2 a2l a2c 0 h)))))
def straitref04_Same.ret (K : Bool → Heap → Prop) (v : Value) (h : Heap) : Prop := match v with
  | (.bool r7) => K r7 h
  | _ => False
theorem straitref04_Same.ret_elim {K : Bool → Heap → Prop} {K' : Value → Heap → Prop} {v : Value} {h : Heap} (hk : ∀ r7 h, K r7 h → K' (.bool r7) h) (hh : straitref04_Same.ret K v h) : K' v h := by
  unfold straitref04_Same.ret at hh
  split at hh
  · exact hk _ _ hh
  · exact hh.elim
def straitref04_Same.r0 (K : Nat → List Value → Heap → Prop) (m : Nat) (vs : List Value) (h : Heap) : Prop := match vs with
  | [(.slice c0_1001 c0_1002 c0_1003), (.slice c1_1004 c1_1005 c1_1006), (.int .i64 v5_1007)] => straitref04_Same.l0 (fun z8 h' => K 0 [(.bool z8)] h') (fun h' => K 2 [] h') m c0_1001 c0_1002 c0_1003 c1_1004 c1_1005 c1_1006 v5_1007 h
  | _ => False
def straitref04_Same.loop (i : Nat) (vs : List Value) (h : Heap) (K : Nat → List Value → Heap → Prop) : Prop := match i with
  | 0 => ∃ m, straitref04_Same.r0 K m vs h
  | _ => False
noncomputable def straitref04_Same.ctx : Ctx := { P := Try.prog, hint := fun t => bif Nat.beq t 44 then some 24 else none, call := fun _ _ _ _ => False, qcall := fun _ _ _ _ => False, quiet := fun f => false, loop := straitref04_Same.loop }
theorem straitref04_Same.ok : straitref04_Same.ctx.OK where
  mixed := by kernel_rfl
  mono := fun hh _ => hh.elim
  call := fun hh => hh.elim
  qmono := fun hh _ => hh.elim
  qval := fun hh => hh.elim
  qcall := fun hh => hh.elim
noncomputable def straitref04_Same.code : Code := (Try.f13.body).getD .skip
def straitref04_Same.ann : Ann := (.two .auto (.two .auto (.two (.two .auto (.two (.loop 0 [0, 1, 5] [(2, []), (0, [4])] (.two .auto (.two (.two (.two (.reg [0, 0, 3, 7, 0, 0, 48, 112, 255] (.take 0 (.take 1 (.take 2 (.take 3 (.take 4 (.take 5 (.take 6 (.take 7 (.take 8 .done)))))))))) .auto) .auto) .auto))) .auto)) .auto)))
noncomputable def straitref04_Same.c0 : Code := sub straitref04_Same.code [1, 1, 0, 1, 0, 0]
def straitref04_Same.a0 : Ann := (.two .auto (.two (.two (.two (.reg [0, 0, 3, 7, 0, 0, 48, 112, 255] (.take 0 (.take 1 (.take 2 (.take 3 (.take 4 (.take 5 (.take 6 (.take 7 (.take 8 .done)))))))))) .auto) .auto) .auto))
def straitref04_Same.keep0 : List Nat := [0, 1, 5]
def straitref04_Same.outs0 : List (Nat × List Nat) := [(2, []), (0, [4])]
set_option maxRecDepth 100000 in
theorem straitref04_Same.L0 : LoopOK straitref04_Same.ctx 26 straitref04_Same.c0 0 straitref04_Same.keep0 straitref04_Same.outs0 := by
  refine loop_ok (n := straitref04_Same.a0) straitref04_Same.ok (by kernel_rfl) (loops_ok (l := []) (by kernel_rfl) ?_) straitref04_Same.r0 ?_ ?_ (fun vs h K hh => hh)
  · exact trivial
  · intro K vs h hh
    unfold straitref04_Same.r0 at hh
    split at hh
    · exact hh
    · exact hh
  · intro K m vs h hh
    unfold straitref04_Same.r0 at hh
    split at hh
    · exact cast (by kernel_rfl) hh
    · exact hh.elim
set_option maxRecDepth 100000 in
theorem straitref04_Same.eq (a1 : Option Addr) (a1l : Nat) (a1c : Nat) (a2 : Option Addr) (a2l : Nat) (a2c : Nat) (h : Heap) (K : Bool → Heap → Prop) : evF straitref04_Same.ctx Try.f13 straitref04_Same.ann [(.slice a1 a1l a1c), (.slice a2 a2l a2c)] h (straitref04_Same.ret K) = straitref04_Same a1 a1l a1c a2 a2l a2c h K := by kernel_rfl
set_option maxRecDepth 100000 in
theorem straitref04_Same.calls {a1 : Option Addr} {a1l : Nat} {a1c : Nat} {a2 : Option Addr} {a2l : Nat} {a2c : Nat} {h : Heap} {K : Bool → Heap → Prop} (hh : straitref04_Same a1 a1l a1c a2 a2l a2c h K) (w : World) (hw : w.heap = h) :
    (callFunc 13 #[(.slice a1 a1l a1c), (.slice a2 a2l a2c)]).run Try.prog w = .ok (.enter 13 #[(.slice a1 a1l a1c), (.slice a2 a2l a2c)]) w ∧ Calls Try.prog 13 #[(.slice a1 a1l a1c), (.slice a2 a2l a2c)] w fun e w' => ∃ v, e = .returned v ∧ Out w w' ∧ straitref04_Same.ret K v w'.heap := by
  rw [← straitref04_Same.eq] at hh
  exact fn_calls (args := [(.slice a1 a1l a1c), (.slice a2 a2l a2c)]) (c := straitref04_Same.code) straitref04_Same.ok Try.func13 (by kernel_rfl) (by kernel_rfl) (by kernel_rfl) (by kernel_rfl) (loops_ok (l := [(straitref04_Same.c0, none, 0, straitref04_Same.keep0, straitref04_Same.outs0)]) (by kernel_rfl) ⟨straitref04_Same.L0, trivial⟩) hh w hw

/-! ### strait/straitlaw14.RankTells: function 3 -/
def straitlaw14_RankTells (a1 : Option Addr) (a1l : Nat) (a1c : Nat) (h : Heap) (K : Bool → Heap → Prop) : Prop :=
  ((iteB (decide ((a1l : Int) > (200 : Int))) (callP1 (straitlaw14_awake h) fun x2 h3 => K x2 h3) ((callP2 (rank_Median a1 a1l a1c h) fun x4 x5 h6 => (callP3 (straitref14_By a1 a1l a1c h6) fun x7 x7l x7c h8 => ((let j32 := (fun (y14 : Int) => callP3 (rank_By a1 a1l a1c h8) fun x15 x15l x15c h16 => qcallP1 h16 (straitref09_Ints x15 x15l x15c x7 x7l x7c h16) fun x17 => iteB x17 (callP3 (rank_Of a1 a1l a1c h16) fun x18 x18l x18c h19 => callP3 (straitref14_Of a1 a1l a1c h19) fun x20 x20l x20c h21 => qcallP1 h21 (straitref09_Ints x18 x18l x18c x20 x20l x20c h21) fun x22 => iteB x22 (iteB (x4 == y14) (iteB (x5 == (decide ((a1l : Int) > (0 : Int)))) (callP3 (rank_Distinct a1 a1l a1c h21) fun x23 x23l x23c h24 => callP3 (straitref14_Distinct a1 a1l a1c h24) fun x25 x25l x25c h26 => qcallP1 h26 (straitref04_Same x23 x23l x23c x25 x25l x25c h26) fun x27 => iteB x27 (callP1 (straitlaw14_awake h26) fun x28 h29 => K x28 h29) (K false h26)) (K false h21)) (K false h21)) (K false h21)) (K false h16));
  (iteB (decide ((x7l : Int) > (0 : Int))) ((2 : Int) ≠ 0 ∧ bindV (IntKind.i64.wrap ((IntKind.i64.wrap ((x7l : Int) - 1)).tdiv 2)) fun n9 => chkP x7 fun a10 => (0 ≤ n9 ∧ n9 < (x7l : Int)) ∧ ∃ (x11 : Int), cell h8 (a10.add (n9.toNat * 1)) = some (.int .i64 x11) ∧ chkP a1 fun a12 => (0 ≤ x11 ∧ x11 < (a1l : Int)) ∧ ∃ (x13 : Int), cell h8 (a12.add (x11.toNat * 1)) = some (.int .i64 x13) ∧ (j32 x13)) ((j32 0))))))))))
def straitlaw14_RankTells.ret (K : Bool → Heap → Prop) (v : Value) (h : Heap) : Prop := match v with
  | (.bool r33) => K r33 h
  | _ => False
theorem straitlaw14_RankTells.ret_elim {K : Bool → Heap → Prop} {K' : Value → Heap → Prop} {v : Value} {h : Heap} (hk : ∀ r33 h, K r33 h → K' (.bool r33) h) (hh : straitlaw14_RankTells.ret K v h) : K' v h := by
  unfold straitlaw14_RankTells.ret at hh
  split at hh
  · exact hk _ _ hh
  · exact hh.elim
def straitlaw14_RankTells.call (f : FuncId) (vs : List Value) (h : Heap) (K : Value → Heap → Prop) : Prop := match f, vs with
  | 6, [] => callP1 (straitlaw14_awake h) fun r20 h' => K (.bool r20) h'
  | 7, [(.slice a1 a1l a1c)] => callP2 (rank_Median a1 a1l a1c h) fun r9 r10 h' => K (.tuple #[(.int .i64 r9), (.bool r10)]) h'
  | 8, [(.slice a1 a1l a1c)] => callP3 (straitref14_By a1 a1l a1c h) fun r7 r7l r7c h' => K (.slice r7 r7l r7c) h'
  | 10, [(.slice a1 a1l a1c)] => callP3 (rank_By a1 a1l a1c h) fun r7 r7l r7c h' => K (.slice r7 r7l r7c) h'
  | 11, [(.slice a1 a1l a1c)] => callP3 (rank_Of a1 a1l a1c h) fun r7 r7l r7c h' => K (.slice r7 r7l r7c) h'
  | 12, [(.slice a1 a1l a1c)] => callP3 (straitref14_Of a1 a1l a1c h) fun r6 r6l r6c h' => K (.slice r6 r6l r6c) h'
  | 14, [(.slice a1 a1l a1c)] => callP3 (rank_Distinct a1 a1l a1c h) fun r8 r8l r8c h' => K (.slice r8 r8l r8c) h'
  | 15, [(.slice a1 a1l a1c)] => callP3 (straitref14_Distinct a1 a1l a1c h) fun r7 r7l r7c h' => K (.slice r7 r7l r7c) h'
  | _, _ => False
def straitlaw14_RankTells.qcall (f : FuncId) (vs : List Value) (h : Heap) (K : Value → Prop) : Prop := match f, vs with
  | 9, [(.slice a1 a1l a1c), (.slice a2 a2l a2c)] => qcallP1 h (straitref09_Ints a1 a1l a1c a2 a2l a2c h) fun r7 => K (.bool r7)
  | 13, [(.slice a1 a1l a1c), (.slice a2 a2l a2c)] => qcallP1 h (straitref04_Same a1 a1l a1c a2 a2l a2c h) fun r7 => K (.bool r7)
  | _, _ => False
noncomputable def straitlaw14_RankTells.ctx : Ctx := { P := Try.prog, hint := fun t => bif Nat.beq t 44 then some 24 else none, call := straitlaw14_RankTells.call, qcall := straitlaw14_RankTells.qcall, quiet := fun f => Nat.beq f 9 || Nat.beq f 13, loop := fun _ _ _ _ => False }
theorem straitlaw14_RankTells.ok : straitlaw14_RankTells.ctx.OK where
  mixed := by kernel_rfl
  mono := by
    intro f args h K K' hh hk
    change straitlaw14_RankTells.call f args h K at hh
    change straitlaw14_RankTells.call f args h K'
    unfold straitlaw14_RankTells.call at hh ⊢
    split at hh
    · obtain ⟨R, h1, h2⟩ := hh
      exact ⟨R, h1, fun _ x hr => hk _ _ (h2 _ x hr)⟩
    · obtain ⟨R, h1, h2⟩ := hh
      exact ⟨R, h1, fun _ _ x hr => hk _ _ (h2 _ _ x hr)⟩
    · obtain ⟨R, h1, h2⟩ := hh
      exact ⟨R, h1, fun _ _ _ x hr => hk _ _ (h2 _ _ _ x hr)⟩
    · obtain ⟨R, h1, h2⟩ := hh
      exact ⟨R, h1, fun _ _ _ x hr => hk _ _ (h2 _ _ _ x hr)⟩
    · obtain ⟨R, h1, h2⟩ := hh
      exact ⟨R, h1, fun _ _ _ x hr => hk _ _ (h2 _ _ _ x hr)⟩
    · obtain ⟨R, h1, h2⟩ := hh
      exact ⟨R, h1, fun _ _ _ x hr => hk _ _ (h2 _ _ _ x hr)⟩
    · obtain ⟨R, h1, h2⟩ := hh
      exact ⟨R, h1, fun _ _ _ x hr => hk _ _ (h2 _ _ _ x hr)⟩
    · obtain ⟨R, h1, h2⟩ := hh
      exact ⟨R, h1, fun _ _ _ x hr => hk _ _ (h2 _ _ _ x hr)⟩
    · exact hh.elim
  call := by
    intro f args h K hh w hw
    change straitlaw14_RankTells.call f args h K at hh
    unfold straitlaw14_RankTells.call at hh
    split at hh
    · obtain ⟨R, h1, h2⟩ := hh
      obtain ⟨g1, g2⟩ := straitlaw14_awake.calls h1 w hw
      exact ⟨g1, g2.mono fun e w' ⟨v, he, ho, hr⟩ => ⟨v, he, ho, straitlaw14_awake.ret_elim h2 hr⟩⟩
    · obtain ⟨R, h1, h2⟩ := hh
      obtain ⟨g1, g2⟩ := rank_Median.calls h1 w hw
      exact ⟨g1, g2.mono fun e w' ⟨v, he, ho, hr⟩ => ⟨v, he, ho, rank_Median.ret_elim h2 hr⟩⟩
    · obtain ⟨R, h1, h2⟩ := hh
      obtain ⟨g1, g2⟩ := straitref14_By.calls h1 w hw
      exact ⟨g1, g2.mono fun e w' ⟨v, he, ho, hr⟩ => ⟨v, he, ho, straitref14_By.ret_elim h2 hr⟩⟩
    · obtain ⟨R, h1, h2⟩ := hh
      obtain ⟨g1, g2⟩ := rank_By.calls h1 w hw
      exact ⟨g1, g2.mono fun e w' ⟨v, he, ho, hr⟩ => ⟨v, he, ho, rank_By.ret_elim h2 hr⟩⟩
    · obtain ⟨R, h1, h2⟩ := hh
      obtain ⟨g1, g2⟩ := rank_Of.calls h1 w hw
      exact ⟨g1, g2.mono fun e w' ⟨v, he, ho, hr⟩ => ⟨v, he, ho, rank_Of.ret_elim h2 hr⟩⟩
    · obtain ⟨R, h1, h2⟩ := hh
      obtain ⟨g1, g2⟩ := straitref14_Of.calls h1 w hw
      exact ⟨g1, g2.mono fun e w' ⟨v, he, ho, hr⟩ => ⟨v, he, ho, straitref14_Of.ret_elim h2 hr⟩⟩
    · obtain ⟨R, h1, h2⟩ := hh
      obtain ⟨g1, g2⟩ := rank_Distinct.calls h1 w hw
      exact ⟨g1, g2.mono fun e w' ⟨v, he, ho, hr⟩ => ⟨v, he, ho, rank_Distinct.ret_elim h2 hr⟩⟩
    · obtain ⟨R, h1, h2⟩ := hh
      obtain ⟨g1, g2⟩ := straitref14_Distinct.calls h1 w hw
      exact ⟨g1, g2.mono fun e w' ⟨v, he, ho, hr⟩ => ⟨v, he, ho, straitref14_Distinct.ret_elim h2 hr⟩⟩
    · exact hh.elim
  qmono := by
    intro f args h K K' hh hk
    change straitlaw14_RankTells.qcall f args h K at hh
    change straitlaw14_RankTells.qcall f args h K'
    unfold straitlaw14_RankTells.qcall at hh ⊢
    split at hh
    · obtain ⟨x0, h1, h2⟩ := hh
      exact ⟨x0, h1, hk _ h2⟩
    · obtain ⟨x0, h1, h2⟩ := hh
      exact ⟨x0, h1, hk _ h2⟩
    · exact hh.elim
  qval := by
    intro f args h K hh
    change straitlaw14_RankTells.qcall f args h K at hh
    suffices H : ∃ v, K v ∧ straitlaw14_RankTells.qcall f args h (· = v) from H
    unfold straitlaw14_RankTells.qcall at hh ⊢
    split at hh
    · obtain ⟨x0, h1, h2⟩ := hh
      exact ⟨_, h2, x0, h1, rfl⟩
    · obtain ⟨x0, h1, h2⟩ := hh
      exact ⟨_, h2, x0, h1, rfl⟩
    · exact hh.elim
  qcall := by
    intro f args h v hh w hw
    change straitlaw14_RankTells.qcall f args h (· = v) at hh
    unfold straitlaw14_RankTells.qcall at hh
    split at hh
    · obtain ⟨x0, h1, h2⟩ := hh
      obtain ⟨g1, g2⟩ := straitref09_Ints.calls h1 w hw
      refine .inl ⟨g1, g2.mono fun e w' ⟨u, he, ho, hr⟩ => ?_⟩
      have hq := straitref09_Ints.ret_elim (K' := fun u h' => u = v ∧ h' = h) (fun _ h' hr => by obtain ⟨rfl, rfl⟩ := hr; exact ⟨h2, rfl⟩) hr
      exact ⟨hq.1 ▸ he, ho, hq.2⟩
    · obtain ⟨x0, h1, h2⟩ := hh
      obtain ⟨g1, g2⟩ := straitref04_Same.calls h1 w hw
      refine .inl ⟨g1, g2.mono fun e w' ⟨u, he, ho, hr⟩ => ?_⟩
      have hq := straitref04_Same.ret_elim (K' := fun u h' => u = v ∧ h' = h) (fun _ h' hr => by obtain ⟨rfl, rfl⟩ := hr; exact ⟨h2, rfl⟩) hr
      exact ⟨hq.1 ▸ he, ho, hq.2⟩
    · exact hh.elim
noncomputable def straitlaw14_RankTells.code : Code := (Try.f3.body).getD .skip
def straitlaw14_RankTells.ann : Ann := .auto
set_option maxRecDepth 100000 in
theorem straitlaw14_RankTells.eq (a1 : Option Addr) (a1l : Nat) (a1c : Nat) (h : Heap) (K : Bool → Heap → Prop) : evF straitlaw14_RankTells.ctx Try.f3 straitlaw14_RankTells.ann [(.slice a1 a1l a1c)] h (straitlaw14_RankTells.ret K) = straitlaw14_RankTells a1 a1l a1c h K := by kernel_rfl
set_option maxRecDepth 100000 in
theorem straitlaw14_RankTells.calls {a1 : Option Addr} {a1l : Nat} {a1c : Nat} {h : Heap} {K : Bool → Heap → Prop} (hh : straitlaw14_RankTells a1 a1l a1c h K) (w : World) (hw : w.heap = h) :
    (callFunc 3 #[(.slice a1 a1l a1c)]).run Try.prog w = .ok (.enter 3 #[(.slice a1 a1l a1c)]) w ∧ Calls Try.prog 3 #[(.slice a1 a1l a1c)] w fun e w' => ∃ v, e = .returned v ∧ Out w w' ∧ straitlaw14_RankTells.ret K v w'.heap := by
  rw [← straitlaw14_RankTells.eq] at hh
  exact fn_calls (args := [(.slice a1 a1l a1c)]) (c := straitlaw14_RankTells.code) straitlaw14_RankTells.ok Try.func3 (by kernel_rfl) (by kernel_rfl) (by kernel_rfl) (by kernel_rfl) (loops_ok (l := []) (by kernel_rfl) trivial) hh w hw

/-! ### strait/rank.Apply: function 17 -/
def rank_Apply.b0 (K2 : Heap → Prop) (cont : (Option Addr) → Nat → Nat → Addr → Nat → Nat → (Option Addr) → Nat → Nat → Int → Int → Heap → Prop) (c1_1001 : Option Addr) (c1_1002 : Nat) (c1_1003 : Nat) (c8_1004 : Addr) (c8_1005 : Nat) (c8_1006 : Nat) (c28_1007 : Option Addr) (c28_1008 : Nat) (c28_1009 : Nat) (c29_1010 : Int) (v30_1011 : Int) (h1012 : Heap) : Prop :=
  (iteB (decide (v30_1011 < c29_1010)) ((chkP c28_1007 fun a1013 => (0 ≤ v30_1011 ∧ v30_1011 < (c28_1008 : Int)) ∧ ∃ (x1014 : Int), cell h1012 (a1013.add (v30_1011.toNat * 1)) = some (.int .i64 x1014) ∧ (chkP c1_1001 fun a1015 => (0 ≤ x1014 ∧ x1014 < (c1_1002 : Int)) ∧ ∃ (x1016 : Int), cell h1012 (a1015.add (x1014.toNat * 1)) = some (.int .i64 x1016) ∧ (0 ≤ v30_1011 ∧ v30_1011 < (c8_1005 : Int)) ∧ stC h1012 (c8_1004.add (v30_1011.toNat * 1)) (.int .i64 x1016) fun h1017 => ((cont c1_1001 c1_1002 c1_1003 c8_1004 c8_1005 c8_1006 c28_1007 c28_1008 c28_1009 c29_1010 (IntKind.i64.wrap (v30_1011 + 1)) h1017))))) (K2 h1012))
def rank_Apply.l0 (K2 : Heap → Prop) : Nat → (Option Addr) → Nat → Nat → Addr → Nat → Nat → (Option Addr) → Nat → Nat → Int → Int → Heap → Prop
  | 0, _, _, _, _, _, _, _, _, _, _, _, _ => False
  | m + 1, c1_1001, c1_1002, c1_1003, c8_1004, c8_1005, c8_1006, c28_1007, c28_1008, c28_1009, c29_1010, v30_1011, h => rank_Apply.b0 K2 (rank_Apply.l0 K2 m) c1_1001 c1_1002 c1_1003 c8_1004 c8_1005 c8_1006 c28_1007 c28_1008 c28_1009 c29_1010 v30_1011 h
def rank_Apply (a1 : Option Addr) (a1l : Nat) (a1c : Nat) (a2 : Option Addr) (a2l : Nat) (a2c : Nat) (h : Heap) (K : (Option Addr) → Nat → Nat → Bool → Heap → Prop) : Prop :=
  (let j12 := (fun (h7 : Heap) => (0 ≤ (a1l : Int) ∧ (a1l : Int) ≤ (a1l : Int) ∧ (a1l : Int) * (8 : Nat) ≤ 2 ^ 47 ∧ (a1l : Int) ≤ 2 ^ 47) ∧ newP h7 (.cells (zeroRow [(.int .i64 0)] (a1l : Int).toNat).toArray 3) fun a8 h9 => ((∃ m11, rank_Apply.l0 (fun h10 => (((K (some a8) ((a1l : Int).toNat) ((a1l : Int).toNat) true h10)))) m11 a2 a2l a2c a8 ((a1l : Int).toNat) ((a1l : Int).toNat) a1 a1l a1c (a1l : Int) 0 h9)));
  callP4 (rank_Inverse a1 a1l a1c h) fun x3 x3l x3c x4 h5 => (iteB (!x4) (K none 0 0 false h5) ((iteB ((a2l : Int) != (a1l : Int)) (K none 0 0 false h5) ((j12 h5))))))
def rank_Apply.ret (K : (Option Addr) → Nat → Nat → Bool → Heap → Prop) (v : Value) (h : Heap) : Prop := match v with
  | (.tuple ⟨[(.slice r13 r13l r13c), (.bool r14)]⟩) => K r13 r13l r13c r14 h
  | _ => False
theorem rank_Apply.ret_elim {K : (Option Addr) → Nat → Nat → Bool → Heap → Prop} {K' : Value → Heap → Prop} {v : Value} {h : Heap} (hk : ∀ r13 r13l r13c r14 h, K r13 r13l r13c r14 h → K' (.tuple #[(.slice r13 r13l r13c), (.bool r14)]) h) (hh : rank_Apply.ret K v h) : K' v h := by
  unfold rank_Apply.ret at hh
  split at hh
  · exact hk _ _ _ _ _ hh
  · exact hh.elim
def rank_Apply.call (f : FuncId) (vs : List Value) (h : Heap) (K : Value → Heap → Prop) : Prop := match f, vs with
  | 16, [(.slice a1 a1l a1c)] => callP4 (rank_Inverse a1 a1l a1c h) fun r11 r11l r11c r12 h' => K (.tuple #[(.slice r11 r11l r11c), (.bool r12)]) h'
  | _, _ => False
def rank_Apply.r0 (K : Nat → List Value → Heap → Prop) (m : Nat) (vs : List Value) (h : Heap) : Prop := match vs with
  | [(.slice c1_1001 c1_1002 c1_1003), (.slice (some c8_1004) c8_1005 c8_1006), (.slice c28_1007 c28_1008 c28_1009), (.int .i64 c29_1010), (.int .i64 v30_1011)] => rank_Apply.l0 (fun h' => K 2 [(.slice (some c8_1004) c8_1005 c8_1006)] h') m c1_1001 c1_1002 c1_1003 c8_1004 c8_1005 c8_1006 c28_1007 c28_1008 c28_1009 c29_1010 v30_1011 h
  | _ => False
def rank_Apply.loop (i : Nat) (vs : List Value) (h : Heap) (K : Nat → List Value → Heap → Prop) : Prop := match i with
  | 0 => ∃ m, rank_Apply.r0 K m vs h
  | _ => False
noncomputable def rank_Apply.ctx : Ctx := { P := Try.prog, hint := fun t => bif Nat.beq t 44 then some 24 else none, call := rank_Apply.call, qcall := fun _ _ _ _ => False, quiet := fun f => false, loop := rank_Apply.loop }
theorem rank_Apply.ok : rank_Apply.ctx.OK where
  mixed := by kernel_rfl
  mono := by
    intro f args h K K' hh hk
    change rank_Apply.call f args h K at hh
    change rank_Apply.call f args h K'
    unfold rank_Apply.call at hh ⊢
    split at hh
    · obtain ⟨R, h1, h2⟩ := hh
      exact ⟨R, h1, fun _ _ _ _ x hr => hk _ _ (h2 _ _ _ _ x hr)⟩
    · exact hh.elim
  call := by
    intro f args h K hh w hw
    change rank_Apply.call f args h K at hh
    unfold rank_Apply.call at hh
    split at hh
    · obtain ⟨R, h1, h2⟩ := hh
      obtain ⟨g1, g2⟩ := rank_Inverse.calls h1 w hw
      exact ⟨g1, g2.mono fun e w' ⟨v, he, ho, hr⟩ => ⟨v, he, ho, rank_Inverse.ret_elim h2 hr⟩⟩
    · exact hh.elim
  qmono := fun hh _ => hh.elim
  qval := fun hh => hh.elim
  qcall := fun hh => hh.elim
noncomputable def rank_Apply.code : Code := (Try.f17.body).getD .skip
def rank_Apply.ann : Ann := (.two .auto (.two .auto (.two .auto (.two (.two .auto (.two (.loop 0 [1, 8, 28, 29, 30] [(2, [8])] .auto) .auto)) .auto))))
noncomputable def rank_Apply.c0 : Code := sub rank_Apply.code [1, 1, 1, 0, 1, 0, 0]
def rank_Apply.a0 : Ann := .auto
def rank_Apply.keep0 : List Nat := [1, 8, 28, 29, 30]
def rank_Apply.outs0 : List (Nat × List Nat) := [(2, [8])]
set_option maxRecDepth 100000 in
theorem rank_Apply.L0 : LoopOK rank_Apply.ctx 44 rank_Apply.c0 0 rank_Apply.keep0 rank_Apply.outs0 := by
  refine loop_ok (n := rank_Apply.a0) rank_Apply.ok (by kernel_rfl) (loops_ok (l := []) (by kernel_rfl) ?_) rank_Apply.r0 ?_ ?_ (fun vs h K hh => hh)
  · exact trivial
  · intro K vs h hh
    unfold rank_Apply.r0 at hh
    split at hh
    · exact hh
    · exact hh
  · intro K m vs h hh
    unfold rank_Apply.r0 at hh
    split at hh
    · exact cast (by kernel_rfl) hh
    · exact hh.elim
set_option maxRecDepth 100000 in
theorem rank_Apply.eq (a1 : Option Addr) (a1l : Nat) (a1c : Nat) (a2 : Option Addr) (a2l : Nat) (a2c : Nat) (h : Heap) (K : (Option Addr) → Nat → Nat → Bool → Heap → Prop) : evF rank_Apply.ctx Try.f17 rank_Apply.ann [(.slice a1 a1l a1c), (.slice a2 a2l a2c)] h (rank_Apply.ret K) = rank_Apply a1 a1l a1c a2 a2l a2c h K := by kernel_rfl
set_option maxRecDepth 100000 in
theorem rank_Apply.calls {a1 : Option Addr} {a1l : Nat} {a1c : Nat} {a2 : Option Addr} {a2l : Nat} {a2c : Nat} {h : Heap} {K : (Option Addr) → Nat → Nat → Bool → Heap → Prop} (hh : rank_Apply a1 a1l a1c a2 a2l a2c h K) (w : World) (hw : w.heap = h) :
    (callFunc 17 #[(.slice a1 a1l a1c), (.slice a2 a2l a2c)]).run Try.prog w = .ok (.enter 17 #[(.slice a1 a1l a1c), (.slice a2 a2l a2c)]) w ∧ Calls Try.prog 17 #[(.slice a1 a1l a1c), (.slice a2 a2l a2c)] w fun e w' => ∃ v, e = .returned v ∧ Out w w' ∧ rank_Apply.ret K v w'.heap := by
  rw [← rank_Apply.eq] at hh
  exact fn_calls (args := [(.slice a1 a1l a1c), (.slice a2 a2l a2c)]) (c := rank_Apply.code) rank_Apply.ok Try.func17 (by kernel_rfl) (by kernel_rfl) (by kernel_rfl) (by kernel_rfl) (loops_ok (l := [(rank_Apply.c0, none, 0, rank_Apply.keep0, rank_Apply.outs0)]) (by kernel_rfl) ⟨rank_Apply.L0, trivial⟩) hh w hw

/-! ### strait/straitref14.Order: function 18 -/
def straitref14_Order.b1 (K0 : Bool → Heap → Prop) (K4 : Heap → Prop) (cont : (Option Addr) → Nat → Nat → Int → Int → Heap → Prop) (c0_2001 : Option Addr) (c0_2002 : Nat) (c0_2003 : Nat) (c3_2004 : Int) (v4_2005 : Int) (h2006 : Heap) : Prop :=
  (iteB (decide (v4_2005 < c3_2004)) ((chkP c0_2001 fun a2007 => (0 ≤ v4_2005 ∧ v4_2005 < (c0_2002 : Int)) ∧ ∃ (x2008 : Int), cell h2006 (a2007.add (v4_2005.toNat * 1)) = some (.int .i64 x2008) ∧ chkP c0_2001 fun a2009 => (0 ≤ c3_2004 ∧ c3_2004 < (c0_2002 : Int)) ∧ ∃ (x2010 : Int), cell h2006 (a2009.add (c3_2004.toNat * 1)) = some (.int .i64 x2010) ∧ (iteB (x2008 == x2010) (K0 false h2006) (((cont c0_2001 c0_2002 c0_2003 c3_2004 (IntKind.i64.wrap (v4_2005 + 1)) h2006)))))) (K4 h2006))
def straitref14_Order.l1 (K0 : Bool → Heap → Prop) (K4 : Heap → Prop) : Nat → (Option Addr) → Nat → Nat → Int → Int → Heap → Prop
  | 0, _, _, _, _, _, _ => False
  | m + 1, c0_2001, c0_2002, c0_2003, c3_2004, v4_2005, h => straitref14_Order.b1 K0 K4 (straitref14_Order.l1 K0 K4 m) c0_2001 c0_2002 c0_2003 c3_2004 v4_2005 h
def straitref14_Order.b0 (K0 : Bool → Heap → Prop) (K2 : Heap → Prop) (cont : (Option Addr) → Nat → Nat → Int → Heap → Prop) (c0_1001 : Option Addr) (c0_1002 : Nat) (c0_1003 : Nat) (v3_1004 : Int) (h1005 : Heap) : Prop :=
  (iteB (decide (v3_1004 < (c0_1002 : Int))) ((chkP c0_1001 fun a1006 => (0 ≤ v3_1004 ∧ v3_1004 < (c0_1002 : Int)) ∧ ∃ (x1007 : Int), cell h1005 (a1006.add (v3_1004.toNat * 1)) = some (.int .i64 x1007) ∧ iteB (decide (x1007 < (0 : Int))) (K0 false h1005) (chkP c0_1001 fun a1008 => (0 ≤ v3_1004 ∧ v3_1004 < (c0_1002 : Int)) ∧ ∃ (x1009 : Int), cell h1005 (a1008.add (v3_1004.toNat * 1)) = some (.int .i64 x1009) ∧ (iteB (decide (x1009 ≥ (c0_1002 : Int))) (K0 false h1005) (((∃ m1022, straitref14_Order.l1 (fun z1019 h1020 => K0 z1019 h1020) (fun h1021 => (((cont c0_1001 c0_1002 c0_1003 (IntKind.i64.wrap (v3_1004 + 1)) h1021)))) m1022 c0_1001 c0_1002 c0_1003 v3_1004 0 h1005))))))) (K2 h1005))
def straitref14_Order.l0 (K0 : Bool → Heap → Prop) (K2 : Heap → Prop) : Nat → (Option Addr) → Nat → Nat → Int → Heap → Prop
  | 0, _, _, _, _, _ => False
  | m + 1, c0_1001, c0_1002, c0_1003, v3_1004, h => straitref14_Order.b0 K0 K2 (straitref14_Order.l0 K0 K2 m) c0_1001 c0_1002 c0_1003 v3_1004 h
def straitref14_Order (a1 : Option Addr) (a1l : Nat) (a1c : Nat) (h : Heap) (K : Bool → Heap → Prop) : Prop :=
  ((∃ m5, straitref14_Order.l0 (fun z2 h3 => K z2 h3) (fun h4 => (K true h4)) m5 a1 a1l a1c 0 h))
def straitref14_Order.ret (K : Bool → Heap → Prop) (v : Value) (h : Heap) : Prop := match v with
  | (.bool r6) => K r6 h
  | _ => False
theorem straitref14_Order.ret_elim {K : Bool → Heap → Prop} {K' : Value → Heap → Prop} {v : Value} {h : Heap} (hk : ∀ r6 h, K r6 h → K' (.bool r6) h) (hh : straitref14_Order.ret K v h) : K' v h := by
  unfold straitref14_Order.ret at hh
  split at hh
  · exact hk _ _ hh
  · exact hh.elim
def straitref14_Order.r0 (K : Nat → List Value → Heap → Prop) (m : Nat) (vs : List Value) (h : Heap) : Prop := match vs with
  | [(.slice c0_1001 c0_1002 c0_1003), (.int .i64 v3_1004)] => straitref14_Order.l0 (fun z7 h' => K 0 [(.bool z7)] h') (fun h' => K 2 [] h') m c0_1001 c0_1002 c0_1003 v3_1004 h
  | _ => False
def straitref14_Order.r1 (K : Nat → List Value → Heap → Prop) (m : Nat) (vs : List Value) (h : Heap) : Prop := match vs with
  | [(.slice c0_2001 c0_2002 c0_2003), (.int .i64 c3_2004), (.int .i64 v4_2005)] => straitref14_Order.l1 (fun z8 h' => K 0 [(.bool z8)] h') (fun h' => K 4 [(.slice c0_2001 c0_2002 c0_2003), (.int .i64 c3_2004)] h') m c0_2001 c0_2002 c0_2003 c3_2004 v4_2005 h
  | _ => False
def straitref14_Order.loop (i : Nat) (vs : List Value) (h : Heap) (K : Nat → List Value → Heap → Prop) : Prop := match i with
  | 0 => ∃ m, straitref14_Order.r0 K m vs h
  | 1 => ∃ m, straitref14_Order.r1 K m vs h
  | _ => False
noncomputable def straitref14_Order.ctx : Ctx := { P := Try.prog, hint := fun t => bif Nat.beq t 44 then some 24 else none, call := fun _ _ _ _ => False, qcall := fun _ _ _ _ => False, quiet := fun f => false, loop := straitref14_Order.loop }
theorem straitref14_Order.ok : straitref14_Order.ctx.OK where
  mixed := by kernel_rfl
  mono := fun hh _ => hh.elim
  call := fun hh => hh.elim
  qmono := fun hh _ => hh.elim
  qval := fun hh => hh.elim
  qcall := fun hh => hh.elim
noncomputable def straitref14_Order.code : Code := (Try.f18.body).getD .skip
def straitref14_Order.ann : Ann := (.two .auto (.two (.two .auto (.two (.loop 0 [0, 3] [(2, []), (0, [2])] (.two .auto (.two (.two (.two .auto (.two .auto (.two (.loop 1 [0, 3, 4] [(4, [0, 3]), (0, [2])] (.two .auto (.two (.two (.two (.reg [0, 0, 3, 7, 0, 0, 48, 112, 255] (.take 0 (.take 1 (.take 2 (.take 3 (.take 4 (.take 5 (.take 6 (.take 7 (.take 8 .done)))))))))) .auto) .auto) .auto))) .auto))) .auto) .auto))) .auto)) .auto))
noncomputable def straitref14_Order.c1 : Code := sub straitref14_Order.code [1, 0, 1, 0, 0, 1, 0, 0, 1, 1, 0, 0]
def straitref14_Order.a1 : Ann := (.two .auto (.two (.two (.two (.reg [0, 0, 3, 7, 0, 0, 48, 112, 255] (.take 0 (.take 1 (.take 2 (.take 3 (.take 4 (.take 5 (.take 6 (.take 7 (.take 8 .done)))))))))) .auto) .auto) .auto))
def straitref14_Order.keep1 : List Nat := [0, 3, 4]
def straitref14_Order.outs1 : List (Nat × List Nat) := [(4, [0, 3]), (0, [2])]
noncomputable def straitref14_Order.c0 : Code := sub straitref14_Order.code [1, 0, 1, 0, 0]
def straitref14_Order.a0 : Ann := (.two .auto (.two (.two (.two .auto (.two .auto (.two (.loop 1 [0, 3, 4] [(4, [0, 3]), (0, [2])] (.two .auto (.two (.two (.two (.reg [0, 0, 3, 7, 0, 0, 48, 112, 255] (.take 0 (.take 1 (.take 2 (.take 3 (.take 4 (.take 5 (.take 6 (.take 7 (.take 8 .done)))))))))) .auto) .auto) .auto))) .auto))) .auto) .auto))
def straitref14_Order.keep0 : List Nat := [0, 3]
def straitref14_Order.outs0 : List (Nat × List Nat) := [(2, []), (0, [2])]
set_option maxRecDepth 100000 in
theorem straitref14_Order.L1 : LoopOK straitref14_Order.ctx 39 straitref14_Order.c1 1 straitref14_Order.keep1 straitref14_Order.outs1 := by
  refine loop_ok (n := straitref14_Order.a1) straitref14_Order.ok (by kernel_rfl) (loops_ok (l := []) (by kernel_rfl) ?_) straitref14_Order.r1 ?_ ?_ (fun vs h K hh => hh)
  · exact trivial
  · intro K vs h hh
    unfold straitref14_Order.r1 at hh
    split at hh
    · exact hh
    · exact hh
  · intro K m vs h hh
    unfold straitref14_Order.r1 at hh
    split at hh
    · exact cast (by kernel_rfl) hh
    · exact hh.elim
set_option maxRecDepth 100000 in
theorem straitref14_Order.L0 : LoopOK straitref14_Order.ctx 39 straitref14_Order.c0 0 straitref14_Order.keep0 straitref14_Order.outs0 := by
  refine loop_ok (n := straitref14_Order.a0) straitref14_Order.ok (by kernel_rfl) (loops_ok (l := [(straitref14_Order.c1, none, 1, straitref14_Order.keep1, straitref14_Order.outs1)]) (by kernel_rfl) ?_) straitref14_Order.r0 ?_ ?_ (fun vs h K hh => hh)
  · exact ⟨straitref14_Order.L1, trivial⟩
  · intro K vs h hh
    unfold straitref14_Order.r0 at hh
    split at hh
    · exact hh
    · exact hh
  · intro K m vs h hh
    unfold straitref14_Order.r0 at hh
    split at hh
    · exact cast (by kernel_rfl) hh
    · exact hh.elim
set_option maxRecDepth 100000 in
theorem straitref14_Order.eq (a1 : Option Addr) (a1l : Nat) (a1c : Nat) (h : Heap) (K : Bool → Heap → Prop) : evF straitref14_Order.ctx Try.f18 straitref14_Order.ann [(.slice a1 a1l a1c)] h (straitref14_Order.ret K) = straitref14_Order a1 a1l a1c h K := by kernel_rfl
set_option maxRecDepth 100000 in
theorem straitref14_Order.calls {a1 : Option Addr} {a1l : Nat} {a1c : Nat} {h : Heap} {K : Bool → Heap → Prop} (hh : straitref14_Order a1 a1l a1c h K) (w : World) (hw : w.heap = h) :
    (callFunc 18 #[(.slice a1 a1l a1c)]).run Try.prog w = .ok (.enter 18 #[(.slice a1 a1l a1c)]) w ∧ Calls Try.prog 18 #[(.slice a1 a1l a1c)] w fun e w' => ∃ v, e = .returned v ∧ Out w w' ∧ straitref14_Order.ret K v w'.heap := by
  rw [← straitref14_Order.eq] at hh
  exact fn_calls (args := [(.slice a1 a1l a1c)]) (c := straitref14_Order.code) straitref14_Order.ok Try.func18 (by kernel_rfl) (by kernel_rfl) (by kernel_rfl) (by kernel_rfl) (loops_ok (l := [(straitref14_Order.c0, none, 0, straitref14_Order.keep0, straitref14_Order.outs0)]) (by kernel_rfl) ⟨straitref14_Order.L0, trivial⟩) hh w hw

/-! ### strait/straitref14.Apply: function 20 -/
def straitref14_Apply.b0 (K2 : (Option Addr) → Nat → Nat → Heap → Prop) (cont : (Option Addr) → Nat → Nat → (Option Addr) → Nat → Nat → (Option Addr) → Nat → Nat → Int → Heap → Prop) (c0_1001 : Option Addr) (c0_1002 : Nat) (c0_1003 : Nat) (c1_1004 : Option Addr) (c1_1005 : Nat) (c1_1006 : Nat) (v5_1007 : Option Addr) (v5_1007l : Nat) (v5_1007c : Nat) (v6_1008 : Int) (h1009 : Heap) : Prop :=
  (iteB (decide (v6_1008 < (c0_1002 : Int))) ((chkP c0_1001 fun a1010 => (0 ≤ v6_1008 ∧ v6_1008 < (c0_1002 : Int)) ∧ ∃ (x1011 : Int), cell h1009 (a1010.add (v6_1008.toNat * 1)) = some (.int .i64 x1011) ∧ chkP c1_1004 fun a1012 => (0 ≤ x1011 ∧ x1011 < (c1_1005 : Int)) ∧ ∃ (x1013 : Int), cell h1009 (a1012.add (x1011.toNat * 1)) = some (.int .i64 x1013) ∧ newP h1009 (.cells #[(.int .i64 x1013)] 3) fun a1014 h1015 => ∃ n1020, cellsAt h1015 (some a1014) (1 * 1) n1020 ∧ appP 3 1 8 [(.int .i64 0)] v5_1007 v5_1007l v5_1007c 1 n1020 h1015 fun q1016 l1017 c1018 h1019 => ((cont c0_1001 c0_1002 c0_1003 c1_1004 c1_1005 c1_1006 q1016 l1017 c1018 (IntKind.i64.wrap (v6_1008 + 1)) h1019)))) (K2 v5_1007 v5_1007l v5_1007c h1009))
def straitref14_Apply.l0 (K2 : (Option Addr) → Nat → Nat → Heap → Prop) : Nat → (Option Addr) → Nat → Nat → (Option Addr) → Nat → Nat → (Option Addr) → Nat → Nat → Int → Heap → Prop
  | 0, _, _, _, _, _, _, _, _, _, _, _ => False
  | m + 1, c0_1001, c0_1002, c0_1003, c1_1004, c1_1005, c1_1006, v5_1007, v5_1007l, v5_1007c, v6_1008, h => straitref14_Apply.b0 K2 (straitref14_Apply.l0 K2 m) c0_1001 c0_1002 c0_1003 c1_1004 c1_1005 c1_1006 v5_1007 v5_1007l v5_1007c v6_1008 h
def straitref14_Apply (a1 : Option Addr) (a1l : Nat) (a1c : Nat) (a2 : Option Addr) (a2l : Nat) (a2c : Nat) (h : Heap) (K : (Option Addr) → Nat → Nat → Heap → Prop) : Prop :=
  (((∃ m5, straitref14_Apply.l0 (fun z3 z3l z3c h4 => (K z3 z3l z3c h4)) m5 a1 a1l a1c a2 a2l a2c none 0 0 0 h)))
def straitref14_Apply.ret (K : (Option Addr) → Nat → Nat → Heap → Prop) (v : Value) (h : Heap) : Prop := match v with
  | (.slice r6 r6l r6c) => K r6 r6l r6c h
  | _ => False
theorem straitref14_Apply.ret_elim {K : (Option Addr) → Nat → Nat → Heap → Prop} {K' : Value → Heap → Prop} {v : Value} {h : Heap} (hk : ∀ r6 r6l r6c h, K r6 r6l r6c h → K' (.slice r6 r6l r6c) h) (hh : straitref14_Apply.ret K v h) : K' v h := by
  unfold straitref14_Apply.ret at hh
  split at hh
  · exact hk _ _ _ _ hh
  · exact hh.elim
def straitref14_Apply.r0 (K : Nat → List Value → Heap → Prop) (m : Nat) (vs : List Value) (h : Heap) : Prop := match vs with
  | [(.slice c0_1001 c0_1002 c0_1003), (.slice c1_1004 c1_1005 c1_1006), (.slice v5_1007 v5_1007l v5_1007c), (.int .i64 v6_1008)] => straitref14_Apply.l0 (fun z7 z7l z7c h' => K 2 [(.slice z7 z7l z7c)] h') m c0_1001 c0_1002 c0_1003 c1_1004 c1_1005 c1_1006 v5_1007 v5_1007l v5_1007c v6_1008 h
  | _ => False
def straitref14_Apply.loop (i : Nat) (vs : List Value) (h : Heap) (K : Nat → List Value → Heap → Prop) : Prop := match i with
  | 0 => ∃ m, straitref14_Apply.r0 K m vs h
  | _ => False
noncomputable def straitref14_Apply.ctx : Ctx := { P := Try.prog, hint := fun t => bif Nat.beq t 44 then some 24 else none, call := fun _ _ _ _ => False, qcall := fun _ _ _ _ => False, quiet := fun f => false, loop := straitref14_Apply.loop }
theorem straitref14_Apply.ok : straitref14_Apply.ctx.OK where
  mixed := by kernel_rfl
  mono := fun hh _ => hh.elim
  call := fun hh => hh.elim
  qmono := fun hh _ => hh.elim
  qval := fun hh => hh.elim
  qcall := fun hh => hh.elim
noncomputable def straitref14_Apply.code : Code := (Try.f20.body).getD .skip
def straitref14_Apply.ann : Ann := (.two .auto (.two .auto (.two (.two .auto (.two (.loop 0 [0, 1, 5, 6] [(2, [5])] .auto) .auto)) .auto)))
noncomputable def straitref14_Apply.c0 : Code := sub straitref14_Apply.code [1, 1, 0, 1, 0, 0]
def straitref14_Apply.a0 : Ann := .auto
def straitref14_Apply.keep0 : List Nat := [0, 1, 5, 6]
def straitref14_Apply.outs0 : List (Nat × List Nat) := [(2, [5])]
set_option maxRecDepth 100000 in
theorem straitref14_Apply.L0 : LoopOK straitref14_Apply.ctx 24 straitref14_Apply.c0 0 straitref14_Apply.keep0 straitref14_Apply.outs0 := by
  refine loop_ok (n := straitref14_Apply.a0) straitref14_Apply.ok (by kernel_rfl) (loops_ok (l := []) (by kernel_rfl) ?_) straitref14_Apply.r0 ?_ ?_ (fun vs h K hh => hh)
  · exact trivial
  · intro K vs h hh
    unfold straitref14_Apply.r0 at hh
    split at hh
    · exact hh
    · exact hh
  · intro K m vs h hh
    unfold straitref14_Apply.r0 at hh
    split at hh
    · exact cast (by kernel_rfl) hh
    · exact hh.elim
set_option maxRecDepth 100000 in
theorem straitref14_Apply.eq (a1 : Option Addr) (a1l : Nat) (a1c : Nat) (a2 : Option Addr) (a2l : Nat) (a2c : Nat) (h : Heap) (K : (Option Addr) → Nat → Nat → Heap → Prop) : evF straitref14_Apply.ctx Try.f20 straitref14_Apply.ann [(.slice a1 a1l a1c), (.slice a2 a2l a2c)] h (straitref14_Apply.ret K) = straitref14_Apply a1 a1l a1c a2 a2l a2c h K := by kernel_rfl
set_option maxRecDepth 100000 in
theorem straitref14_Apply.calls {a1 : Option Addr} {a1l : Nat} {a1c : Nat} {a2 : Option Addr} {a2l : Nat} {a2c : Nat} {h : Heap} {K : (Option Addr) → Nat → Nat → Heap → Prop} (hh : straitref14_Apply a1 a1l a1c a2 a2l a2c h K) (w : World) (hw : w.heap = h) :
    (callFunc 20 #[(.slice a1 a1l a1c), (.slice a2 a2l a2c)]).run Try.prog w = .ok (.enter 20 #[(.slice a1 a1l a1c), (.slice a2 a2l a2c)]) w ∧ Calls Try.prog 20 #[(.slice a1 a1l a1c), (.slice a2 a2l a2c)] w fun e w' => ∃ v, e = .returned v ∧ Out w w' ∧ straitref14_Apply.ret K v w'.heap := by
  rw [← straitref14_Apply.eq] at hh
  exact fn_calls (args := [(.slice a1 a1l a1c), (.slice a2 a2l a2c)]) (c := straitref14_Apply.code) straitref14_Apply.ok Try.func20 (by kernel_rfl) (by kernel_rfl) (by kernel_rfl) (by kernel_rfl) (loops_ok (l := [(straitref14_Apply.c0, none, 0, straitref14_Apply.keep0, straitref14_Apply.outs0)]) (by kernel_rfl) ⟨straitref14_Apply.L0, trivial⟩) hh w hw

/-! ### strait/straitlaw14.RankTurns: function 4 -/
def straitlaw14_RankTurns (a1 : Option Addr) (a1l : Nat) (a1c : Nat) (a2 : Option Addr) (a2l : Nat) (a2c : Nat) (h : Heap) (K : Bool → Heap → Prop) : Prop :=
  (let j38 : Prop := (callP4 (rank_Inverse a1 a1l a1c h) fun x10 x10l x10c x11 h12 => (callP4 (rank_Apply a1 a1l a1c a2 a2l a2c h12) fun x13 x13l x13c x14 h15 => (qcallP1 h15 (straitref14_Order a1 a1l a1c h15) fun x16 => (let j18 := (fun (y17 : Bool) => iteB y17 (K false h15) ((iteB (!x11) (iteB (!x14) (callP1 (straitlaw14_awake h15) fun x19 h20 => K x19 h20) (callP3 (straitref14_Apply a1 a1l a1c a2 a2l a2c h15) fun x21 x21l x21c h22 => qcallP1 h22 (straitref09_Ints x13 x13l x13c x21 x21l x21c h22) fun x23 => iteB x23 (callP1 (straitlaw14_awake h22) fun x24 h25 => K x24 h25) (K false h22))) (callP3 (straitref14_Inverse a1 a1l a1c h15) fun x26 x26l x26c h27 => qcallP1 h27 (straitref09_Ints x10 x10l x10c x26 x26l x26c h27) fun x28 => iteB x28 (iteB (!x14) (callP1 (straitlaw14_awake h27) fun x29 h30 => K x29 h30) (callP3 (straitref14_Apply a1 a1l a1c a2 a2l a2c h27) fun x31 x31l x31c h32 => qcallP1 h32 (straitref09_Ints x13 x13l x13c x31 x31l x31c h32) fun x33 => iteB x33 (callP1 (straitlaw14_awake h32) fun x34 h35 => K x34 h35) (K false h32))) (K false h27)))));
  iteB (!(x11 == x16)) ((j18 true)) (iteB x16 (iteB (!(x14 == ((a2l : Int) == (a1l : Int)))) ((j18 true)) (iteB (!x11) (iteB ((x10l : Int) != (0 : Int)) ((j18 true)) (iteB (!x14) ((j18 ((x13l : Int) != (0 : Int)))) ((j18 false)))) (iteB (!x14) ((j18 ((x13l : Int) != (0 : Int)))) ((j18 false))))) (iteB (!(x14 == false)) ((j18 true)) (iteB (!x11) (iteB ((x10l : Int) != (0 : Int)) ((j18 true)) (iteB (!x14) ((j18 ((x13l : Int) != (0 : Int)))) ((j18 false)))) (iteB (!x14) ((j18 ((x13l : Int) != (0 : Int)))) ((j18 false))))))))));
  iteB (decide ((a1l : Int) > (200 : Int))) ((callP1 (straitlaw14_awake h) fun x6 h7 => K x6 h7)) ((iteB (decide ((a2l : Int) > (200 : Int))) (callP1 (straitlaw14_awake h) fun x8 h9 => K x8 h9) ((j38)))))
def straitlaw14_RankTurns.ret (K : Bool → Heap → Prop) (v : Value) (h : Heap) : Prop := match v with
  | (.bool r39) => K r39 h
  | _ => False
theorem straitlaw14_RankTurns.ret_elim {K : Bool → Heap → Prop} {K' : Value → Heap → Prop} {v : Value} {h : Heap} (hk : ∀ r39 h, K r39 h → K' (.bool r39) h) (hh : straitlaw14_RankTurns.ret K v h) : K' v h := by
  unfold straitlaw14_RankTurns.ret at hh
  split at hh
  · exact hk _ _ hh
  · exact hh.elim
def straitlaw14_RankTurns.call (f : FuncId) (vs : List Value) (h : Heap) (K : Value → Heap → Prop) : Prop := match f, vs with
  | 6, [] => callP1 (straitlaw14_awake h) fun r20 h' => K (.bool r20) h'
  | 16, [(.slice a1 a1l a1c)] => callP4 (rank_Inverse a1 a1l a1c h) fun r11 r11l r11c r12 h' => K (.tuple #[(.slice r11 r11l r11c), (.bool r12)]) h'
  | 17, [(.slice a1 a1l a1c), (.slice a2 a2l a2c)] => callP4 (rank_Apply a1 a1l a1c a2 a2l a2c h) fun r13 r13l r13c r14 h' => K (.tuple #[(.slice r13 r13l r13c), (.bool r14)]) h'
  | 19, [(.slice a1 a1l a1c)] => callP3 (straitref14_Inverse a1 a1l a1c h) fun r6 r6l r6c h' => K (.slice r6 r6l r6c) h'
  | 20, [(.slice a1 a1l a1c), (.slice a2 a2l a2c)] => callP3 (straitref14_Apply a1 a1l a1c a2 a2l a2c h) fun r6 r6l r6c h' => K (.slice r6 r6l r6c) h'
  | _, _ => False
def straitlaw14_RankTurns.qcall (f : FuncId) (vs : List Value) (h : Heap) (K : Value → Prop) : Prop := match f, vs with
  | 9, [(.slice a1 a1l a1c), (.slice a2 a2l a2c)] => qcallP1 h (straitref09_Ints a1 a1l a1c a2 a2l a2c h) fun r7 => K (.bool r7)
  | 18, [(.slice a1 a1l a1c)] => qcallP1 h (straitref14_Order a1 a1l a1c h) fun r6 => K (.bool r6)
  | _, _ => False
noncomputable def straitlaw14_RankTurns.ctx : Ctx := { P := Try.prog, hint := fun t => bif Nat.beq t 44 then some 24 else none, call := straitlaw14_RankTurns.call, qcall := straitlaw14_RankTurns.qcall, quiet := fun f => Nat.beq f 9 || Nat.beq f 18, loop := fun _ _ _ _ => False }
theorem straitlaw14_RankTurns.ok : straitlaw14_RankTurns.ctx.OK where
  mixed := by kernel_rfl
  mono := by
    intro f args h K K' hh hk
    change straitlaw14_RankTurns.call f args h K at hh
    change straitlaw14_RankTurns.call f args h K'
    unfold straitlaw14_RankTurns.call at hh ⊢
    split at hh
    · obtain ⟨R, h1, h2⟩ := hh
      exact ⟨R, h1, fun _ x hr => hk _ _ (h2 _ x hr)⟩
    · obtain ⟨R, h1, h2⟩ := hh
      exact ⟨R, h1, fun _ _ _ _ x hr => hk _ _ (h2 _ _ _ _ x hr)⟩
    · obtain ⟨R, h1, h2⟩ := hh
      exact ⟨R, h1, fun _ _ _ _ x hr => hk _ _ (h2 _ _ _ _ x hr)⟩
    · obtain ⟨R, h1, h2⟩ := hh
      exact ⟨R, h1, fun _ _ _ x hr => hk _ _ (h2 _ _ _ x hr)⟩
    · obtain ⟨R, h1, h2⟩ := hh
      exact ⟨R, h1, fun _ _ _ x hr => hk _ _ (h2 _ _ _ x hr)⟩
    · exact hh.elim
  call := by
    intro f args h K hh w hw
    change straitlaw14_RankTurns.call f args h K at hh
    unfold straitlaw14_RankTurns.call at hh
    split at hh
    · obtain ⟨R, h1, h2⟩ := hh
      obtain ⟨g1, g2⟩ := straitlaw14_awake.calls h1 w hw
      exact ⟨g1, g2.mono fun e w' ⟨v, he, ho, hr⟩ => ⟨v, he, ho, straitlaw14_awake.ret_elim h2 hr⟩⟩
    · obtain ⟨R, h1, h2⟩ := hh
      obtain ⟨g1, g2⟩ := rank_Inverse.calls h1 w hw
      exact ⟨g1, g2.mono fun e w' ⟨v, he, ho, hr⟩ => ⟨v, he, ho, rank_Inverse.ret_elim h2 hr⟩⟩
    · obtain ⟨R, h1, h2⟩ := hh
      obtain ⟨g1, g2⟩ := rank_Apply.calls h1 w hw
      exact ⟨g1, g2.mono fun e w' ⟨v, he, ho, hr⟩ => ⟨v, he, ho, rank_Apply.ret_elim h2 hr⟩⟩
    · obtain ⟨R, h1, h2⟩ := hh
      obtain ⟨g1, g2⟩ := straitref14_Inverse.calls h1 w hw
      exact ⟨g1, g2.mono fun e w' ⟨v, he, ho, hr⟩ => ⟨v, he, ho, straitref14_Inverse.ret_elim h2 hr⟩⟩
    · obtain ⟨R, h1, h2⟩ := hh
      obtain ⟨g1, g2⟩ := straitref14_Apply.calls h1 w hw
      exact ⟨g1, g2.mono fun e w' ⟨v, he, ho, hr⟩ => ⟨v, he, ho, straitref14_Apply.ret_elim h2 hr⟩⟩
    · exact hh.elim
  qmono := by
    intro f args h K K' hh hk
    change straitlaw14_RankTurns.qcall f args h K at hh
    change straitlaw14_RankTurns.qcall f args h K'
    unfold straitlaw14_RankTurns.qcall at hh ⊢
    split at hh
    · obtain ⟨x0, h1, h2⟩ := hh
      exact ⟨x0, h1, hk _ h2⟩
    · obtain ⟨x0, h1, h2⟩ := hh
      exact ⟨x0, h1, hk _ h2⟩
    · exact hh.elim
  qval := by
    intro f args h K hh
    change straitlaw14_RankTurns.qcall f args h K at hh
    suffices H : ∃ v, K v ∧ straitlaw14_RankTurns.qcall f args h (· = v) from H
    unfold straitlaw14_RankTurns.qcall at hh ⊢
    split at hh
    · obtain ⟨x0, h1, h2⟩ := hh
      exact ⟨_, h2, x0, h1, rfl⟩
    · obtain ⟨x0, h1, h2⟩ := hh
      exact ⟨_, h2, x0, h1, rfl⟩
    · exact hh.elim
  qcall := by
    intro f args h v hh w hw
    change straitlaw14_RankTurns.qcall f args h (· = v) at hh
    unfold straitlaw14_RankTurns.qcall at hh
    split at hh
    · obtain ⟨x0, h1, h2⟩ := hh
      obtain ⟨g1, g2⟩ := straitref09_Ints.calls h1 w hw
      refine .inl ⟨g1, g2.mono fun e w' ⟨u, he, ho, hr⟩ => ?_⟩
      have hq := straitref09_Ints.ret_elim (K' := fun u h' => u = v ∧ h' = h) (fun _ h' hr => by obtain ⟨rfl, rfl⟩ := hr; exact ⟨h2, rfl⟩) hr
      exact ⟨hq.1 ▸ he, ho, hq.2⟩
    · obtain ⟨x0, h1, h2⟩ := hh
      obtain ⟨g1, g2⟩ := straitref14_Order.calls h1 w hw
      refine .inl ⟨g1, g2.mono fun e w' ⟨u, he, ho, hr⟩ => ?_⟩
      have hq := straitref14_Order.ret_elim (K' := fun u h' => u = v ∧ h' = h) (fun _ h' hr => by obtain ⟨rfl, rfl⟩ := hr; exact ⟨h2, rfl⟩) hr
      exact ⟨hq.1 ▸ he, ho, hq.2⟩
    · exact hh.elim
noncomputable def straitlaw14_RankTurns.code : Code := (Try.f4.body).getD .skip
def straitlaw14_RankTurns.ann : Ann := .auto
set_option maxRecDepth 100000 in
theorem straitlaw14_RankTurns.eq (a1 : Option Addr) (a1l : Nat) (a1c : Nat) (a2 : Option Addr) (a2l : Nat) (a2c : Nat) (h : Heap) (K : Bool → Heap → Prop) : evF straitlaw14_RankTurns.ctx Try.f4 straitlaw14_RankTurns.ann [(.slice a1 a1l a1c), (.slice a2 a2l a2c)] h (straitlaw14_RankTurns.ret K) = straitlaw14_RankTurns a1 a1l a1c a2 a2l a2c h K := by kernel_rfl
set_option maxRecDepth 100000 in
theorem straitlaw14_RankTurns.calls {a1 : Option Addr} {a1l : Nat} {a1c : Nat} {a2 : Option Addr} {a2l : Nat} {a2c : Nat} {h : Heap} {K : Bool → Heap → Prop} (hh : straitlaw14_RankTurns a1 a1l a1c a2 a2l a2c h K) (w : World) (hw : w.heap = h) :
    (callFunc 4 #[(.slice a1 a1l a1c), (.slice a2 a2l a2c)]).run Try.prog w = .ok (.enter 4 #[(.slice a1 a1l a1c), (.slice a2 a2l a2c)]) w ∧ Calls Try.prog 4 #[(.slice a1 a1l a1c), (.slice a2 a2l a2c)] w fun e w' => ∃ v, e = .returned v ∧ Out w w' ∧ straitlaw14_RankTurns.ret K v w'.heap := by
  rw [← straitlaw14_RankTurns.eq] at hh
  exact fn_calls (args := [(.slice a1 a1l a1c), (.slice a2 a2l a2c)]) (c := straitlaw14_RankTurns.code) straitlaw14_RankTurns.ok Try.func4 (by kernel_rfl) (by kernel_rfl) (by kernel_rfl) (by kernel_rfl) (loops_ok (l := []) (by kernel_rfl) trivial) hh w hw

/-! ### strait/straitlaw14.RankBack: function 5 -/
def straitlaw14_RankBack (a1 : Option Addr) (a1l : Nat) (a1c : Nat) (h : Heap) (K : Bool → Heap → Prop) : Prop :=
  ((iteB (decide ((a1l : Int) > (200 : Int))) (callP1 (straitlaw14_awake h) fun x2 h3 => K x2 h3) ((callP3 (rank_By a1 a1l a1c h) fun x4 x4l x4c h5 => (callP4 (rank_Inverse x4 x4l x4c h5) fun x6 x6l x6c x7 h8 => (callP4 (rank_Inverse x6 x6l x6c h8) fun x9 x9l x9c x10 h11 => (callP4 (rank_Apply x4 x4l x4c x4 x4l x4c h11) fun x12 x12l x12c x13 h14 => (callP4 (rank_Apply x6 x6l x6c x12 x12l x12c h14) fun x15 x15l x15c x16 h17 => (iteB x7 (iteB x10 (iteB x13 (iteB x16 (qcallP1 h17 (straitref09_Ints x9 x9l x9c x4 x4l x4c h17) fun x18 => iteB x18 (qcallP1 h17 (straitref09_Ints x15 x15l x15c x4 x4l x4c h17) fun x19 => iteB x19 (callP3 (rank_Of a1 a1l a1c h17) fun x20 x20l x20c h21 => qcallP1 h21 (straitref09_Ints x6 x6l x6c x20 x20l x20c h21) fun x22 => iteB x22 (callP1 (straitlaw14_awake h21) fun x23 h24 => K x23 h24) (K false h21)) (K false h17)) (K false h17)) (K false h17)) (K false h17)) (K false h17)) (K false h17))))))))))
def straitlaw14_RankBack.ret (K : Bool → Heap → Prop) (v : Value) (h : Heap) : Prop := match v with
  | (.bool r27) => K r27 h
  | _ => False
theorem straitlaw14_RankBack.ret_elim {K : Bool → Heap → Prop} {K' : Value → Heap → Prop} {v : Value} {h : Heap} (hk : ∀ r27 h, K r27 h → K' (.bool r27) h) (hh : straitlaw14_RankBack.ret K v h) : K' v h := by
  unfold straitlaw14_RankBack.ret at hh
  split at hh
  · exact hk _ _ hh
  · exact hh.elim
def straitlaw14_RankBack.call (f : FuncId) (vs : List Value) (h : Heap) (K : Value → Heap → Prop) : Prop := match f, vs with
  | 6, [] => callP1 (straitlaw14_awake h) fun r20 h' => K (.bool r20) h'
  | 10, [(.slice a1 a1l a1c)] => callP3 (rank_By a1 a1l a1c h) fun r7 r7l r7c h' => K (.slice r7 r7l r7c) h'
  | 11, [(.slice a1 a1l a1c)] => callP3 (rank_Of a1 a1l a1c h) fun r7 r7l r7c h' => K (.slice r7 r7l r7c) h'
  | 16, [(.slice a1 a1l a1c)] => callP4 (rank_Inverse a1 a1l a1c h) fun r11 r11l r11c r12 h' => K (.tuple #[(.slice r11 r11l r11c), (.bool r12)]) h'
  | 17, [(.slice a1 a1l a1c), (.slice a2 a2l a2c)] => callP4 (rank_Apply a1 a1l a1c a2 a2l a2c h) fun r13 r13l r13c r14 h' => K (.tuple #[(.slice r13 r13l r13c), (.bool r14)]) h'
  | _, _ => False
def straitlaw14_RankBack.qcall (f : FuncId) (vs : List Value) (h : Heap) (K : Value → Prop) : Prop := match f, vs with
  | 9, [(.slice a1 a1l a1c), (.slice a2 a2l a2c)] => qcallP1 h (straitref09_Ints a1 a1l a1c a2 a2l a2c h) fun r7 => K (.bool r7)
  | _, _ => False
noncomputable def straitlaw14_RankBack.ctx : Ctx := { P := Try.prog, hint := fun t => bif Nat.beq t 44 then some 24 else none, call := straitlaw14_RankBack.call, qcall := straitlaw14_RankBack.qcall, quiet := fun f => Nat.beq f 9, loop := fun _ _ _ _ => False }
theorem straitlaw14_RankBack.ok : straitlaw14_RankBack.ctx.OK where
  mixed := by kernel_rfl
  mono := by
    intro f args h K K' hh hk
    change straitlaw14_RankBack.call f args h K at hh
    change straitlaw14_RankBack.call f args h K'
    unfold straitlaw14_RankBack.call at hh ⊢
    split at hh
    · obtain ⟨R, h1, h2⟩ := hh
      exact ⟨R, h1, fun _ x hr => hk _ _ (h2 _ x hr)⟩
    · obtain ⟨R, h1, h2⟩ := hh
      exact ⟨R, h1, fun _ _ _ x hr => hk _ _ (h2 _ _ _ x hr)⟩
    · obtain ⟨R, h1, h2⟩ := hh
      exact ⟨R, h1, fun _ _ _ x hr => hk _ _ (h2 _ _ _ x hr)⟩
    · obtain ⟨R, h1, h2⟩ := hh
      exact ⟨R, h1, fun _ _ _ _ x hr => hk _ _ (h2 _ _ _ _ x hr)⟩
    · obtain ⟨R, h1, h2⟩ := hh
      exact ⟨R, h1, fun _ _ _ _ x hr => hk _ _ (h2 _ _ _ _ x hr)⟩
    · exact hh.elim
  call := by
    intro f args h K hh w hw
    change straitlaw14_RankBack.call f args h K at hh
    unfold straitlaw14_RankBack.call at hh
    split at hh
    · obtain ⟨R, h1, h2⟩ := hh
      obtain ⟨g1, g2⟩ := straitlaw14_awake.calls h1 w hw
      exact ⟨g1, g2.mono fun e w' ⟨v, he, ho, hr⟩ => ⟨v, he, ho, straitlaw14_awake.ret_elim h2 hr⟩⟩
    · obtain ⟨R, h1, h2⟩ := hh
      obtain ⟨g1, g2⟩ := rank_By.calls h1 w hw
      exact ⟨g1, g2.mono fun e w' ⟨v, he, ho, hr⟩ => ⟨v, he, ho, rank_By.ret_elim h2 hr⟩⟩
    · obtain ⟨R, h1, h2⟩ := hh
      obtain ⟨g1, g2⟩ := rank_Of.calls h1 w hw
      exact ⟨g1, g2.mono fun e w' ⟨v, he, ho, hr⟩ => ⟨v, he, ho, rank_Of.ret_elim h2 hr⟩⟩
    · obtain ⟨R, h1, h2⟩ := hh
      obtain ⟨g1, g2⟩ := rank_Inverse.calls h1 w hw
      exact ⟨g1, g2.mono fun e w' ⟨v, he, ho, hr⟩ => ⟨v, he, ho, rank_Inverse.ret_elim h2 hr⟩⟩
    · obtain ⟨R, h1, h2⟩ := hh
      obtain ⟨g1, g2⟩ := rank_Apply.calls h1 w hw
      exact ⟨g1, g2.mono fun e w' ⟨v, he, ho, hr⟩ => ⟨v, he, ho, rank_Apply.ret_elim h2 hr⟩⟩
    · exact hh.elim
  qmono := by
    intro f args h K K' hh hk
    change straitlaw14_RankBack.qcall f args h K at hh
    change straitlaw14_RankBack.qcall f args h K'
    unfold straitlaw14_RankBack.qcall at hh ⊢
    split at hh
    · obtain ⟨x0, h1, h2⟩ := hh
      exact ⟨x0, h1, hk _ h2⟩
    · exact hh.elim
  qval := by
    intro f args h K hh
    change straitlaw14_RankBack.qcall f args h K at hh
    suffices H : ∃ v, K v ∧ straitlaw14_RankBack.qcall f args h (· = v) from H
    unfold straitlaw14_RankBack.qcall at hh ⊢
    split at hh
    · obtain ⟨x0, h1, h2⟩ := hh
      exact ⟨_, h2, x0, h1, rfl⟩
    · exact hh.elim
  qcall := by
    intro f args h v hh w hw
    change straitlaw14_RankBack.qcall f args h (· = v) at hh
    unfold straitlaw14_RankBack.qcall at hh
    split at hh
    · obtain ⟨x0, h1, h2⟩ := hh
      obtain ⟨g1, g2⟩ := straitref09_Ints.calls h1 w hw
      refine .inl ⟨g1, g2.mono fun e w' ⟨u, he, ho, hr⟩ => ?_⟩
      have hq := straitref09_Ints.ret_elim (K' := fun u h' => u = v ∧ h' = h) (fun _ h' hr => by obtain ⟨rfl, rfl⟩ := hr; exact ⟨h2, rfl⟩) hr
      exact ⟨hq.1 ▸ he, ho, hq.2⟩
    · exact hh.elim
noncomputable def straitlaw14_RankBack.code : Code := (Try.f5.body).getD .skip
def straitlaw14_RankBack.ann : Ann := .auto
set_option maxRecDepth 100000 in
theorem straitlaw14_RankBack.eq (a1 : Option Addr) (a1l : Nat) (a1c : Nat) (h : Heap) (K : Bool → Heap → Prop) : evF straitlaw14_RankBack.ctx Try.f5 straitlaw14_RankBack.ann [(.slice a1 a1l a1c)] h (straitlaw14_RankBack.ret K) = straitlaw14_RankBack a1 a1l a1c h K := by kernel_rfl
set_option maxRecDepth 100000 in
theorem straitlaw14_RankBack.calls {a1 : Option Addr} {a1l : Nat} {a1c : Nat} {h : Heap} {K : Bool → Heap → Prop} (hh : straitlaw14_RankBack a1 a1l a1c h K) (w : World) (hw : w.heap = h) :
    (callFunc 5 #[(.slice a1 a1l a1c)]).run Try.prog w = .ok (.enter 5 #[(.slice a1 a1l a1c)]) w ∧ Calls Try.prog 5 #[(.slice a1 a1l a1c)] w fun e w' => ∃ v, e = .returned v ∧ Out w w' ∧ straitlaw14_RankBack.ret K v w'.heap := by
  rw [← straitlaw14_RankBack.eq] at hh
  exact fn_calls (args := [(.slice a1 a1l a1c)]) (c := straitlaw14_RankBack.code) straitlaw14_RankBack.ok Try.func5 (by kernel_rfl) (by kernel_rfl) (by kernel_rfl) (by kernel_rfl) (loops_ok (l := []) (by kernel_rfl) trivial) hh w hw

end Go.Proofs.Ytlfcfoodlbbbjaa
