/- WRITTEN BY A PROGRAM OF THIS SESSION (gen.py): what each function asks of memory, and that the model's run comes to it. -/
import Derived.Test.YtapjbmfgmnhpdaaProg
import Derived.Test.YtapjbmfgmnhpdaaFw8
import Derived.Test.YtapjbmfgmnhpdaaG0
namespace Go.Proofs.Ytapjbmfgmnhpdaa
open Go.Hp
set_option linter.unusedVariables false
set_option linter.unusedSimpArgs false

/-! ### strait/edge.Checks: function 7 -/
def edge_Checks.b0 (K0 : Int → Int → Heap → Prop) (K2 : Heap → Prop) (cont : Int → (Option Addr) → Nat → Nat → Int → Int → Heap → Prop) (c0_1001 : Int) (c9_1002 : Option Addr) (c9_1003 : Nat) (c9_1004 : Nat) (c10_1005 : Int) (v11_1006 : Int) (h1007 : Heap) : Prop :=
  (iteB (decide (v11_1006 < c10_1005)) ((chkP c9_1002 fun a1008 => (0 ≤ v11_1006 ∧ v11_1006 < (c9_1003 : Int)) ∧ ∃ (x1009 : Int), cell h1007 (a1008.add (v11_1006.toNat * 3)) = some (.int .i64 x1009) ∧ ∃ (x1010 : Int), cell h1007 ((a1008.add (v11_1006.toNat * 3)).add 1) = some (.int .i64 x1010) ∧ ∃ (x1011 : Int), cell h1007 ((a1008.add (v11_1006.toNat * 3)).add 2) = some (.int .i64 x1011) ∧ newP h1007 (.cells #[(.int .i64 0), (.int .i64 0), (.int .i64 0)] 24) fun a1012 h1013 => stC h1013 a1012 (.int .i64 x1009) fun h1014 => stC h1014 (a1012.add 1) (.int .i64 x1010) fun h1015 => stC h1015 (a1012.add 2) (.int .i64 x1011) fun h1016 => (∃ (x1017 : Int), cell h1016 a1012 = some (.int .i64 x1017) ∧ ∃ (x1018 : Int), cell h1016 (a1012.add 1) = some (.int .i64 x1018) ∧ ∃ (x1019 : Int), cell h1016 (a1012.add 2) = some (.int .i64 x1019) ∧ callP1 (edge_Check c0_1001 x1017 x1018 x1019 h1016) fun x1020 h1021 => ((iteB (x1020 != (0 : Int)) (K0 x1020 v11_1006 h1021) (((cont c0_1001 c9_1002 c9_1003 c9_1004 c10_1005 (IntKind.i64.wrap (v11_1006 + 1)) h1021)))))))) (K2 h1007))
def edge_Checks.l0 (K0 : Int → Int → Heap → Prop) (K2 : Heap → Prop) : Nat → Int → (Option Addr) → Nat → Nat → Int → Int → Heap → Prop
  | 0, _, _, _, _, _, _, _ => False
  | m + 1, c0_1001, c9_1002, c9_1003, c9_1004, c10_1005, v11_1006, h => edge_Checks.b0 K0 K2 (edge_Checks.l0 K0 K2 m) c0_1001 c9_1002 c9_1003 c9_1004 c10_1005 v11_1006 h
def edge_Checks (a1 : Int) (a2 : Option Addr) (a2l : Nat) (a2c : Nat) (h : Heap) (K : Int → Int → Heap → Prop) : Prop :=
  ((∃ m7, edge_Checks.l0 (fun z3 z4 h5 => K z3 z4 h5) (fun h6 => (K 0 0 h6)) m7 a1 a2 a2l a2c (a2l : Int) 0 h))
def edge_Checks.ret (K : Int → Int → Heap → Prop) (v : Value) (h : Heap) : Prop := match v with
  | (.tuple ⟨[(.int .i64 r8), (.int .i64 r9)]⟩) => K r8 r9 h
  | _ => False
theorem edge_Checks.ret_elim {K : Int → Int → Heap → Prop} {K' : Value → Heap → Prop} {v : Value} {h : Heap} (hk : ∀ r8 r9 h, K r8 r9 h → K' (.tuple #[(.int .i64 r8), (.int .i64 r9)]) h) (hh : edge_Checks.ret K v h) : K' v h := by
  unfold edge_Checks.ret at hh
  split at hh
  · exact hk _ _ _ hh
  · exact hh.elim
def edge_Checks.call (f : FuncId) (vs : List Value) (h : Heap) (K : Value → Heap → Prop) : Prop := match f, vs with
  | 9, [(.int .i64 a1), (.agg ⟨[(.int .i64 a2), (.int .i64 a3), (.int .i64 a4)]⟩)] => callP1 (edge_Check a1 a2 a3 a4 h) fun r16 h' => K (.int .i64 r16) h'
  | _, _ => False
def edge_Checks.r0 (K : Nat → List Value → Heap → Prop) (m : Nat) (vs : List Value) (h : Heap) : Prop := match vs with
  | [(.int .i64 c0_1001), (.slice c9_1002 c9_1003 c9_1004), (.int .i64 c10_1005), (.int .i64 v11_1006)] => edge_Checks.l0 (fun z10 z11 h' => K 0 [(.int .i64 z10), (.int .i64 z11)] h') (fun h' => K 2 [] h') m c0_1001 c9_1002 c9_1003 c9_1004 c10_1005 v11_1006 h
  | _ => False
def edge_Checks.loop (i : Nat) (vs : List Value) (h : Heap) (K : Nat → List Value → Heap → Prop) : Prop := match i with
  | 0 => ∃ m, edge_Checks.r0 K m vs h
  | _ => False
noncomputable def edge_Checks.ctx : Ctx := { P := Try.prog, call := edge_Checks.call, qcall := fun _ _ _ _ => False, quiet := fun f => Nat.beq f 1000062, loop := edge_Checks.loop }
theorem edge_Checks.ok : edge_Checks.ctx.OK where
  mixed := by kernel_rfl
  mono := by
    intro f args h K K' hh hk
    change edge_Checks.call f args h K at hh
    change edge_Checks.call f args h K'
    unfold edge_Checks.call at hh ⊢
    split at hh
    · obtain ⟨R, h1, h2⟩ := hh
      exact ⟨R, h1, fun _ x hr => hk _ _ (h2 _ x hr)⟩
    · exact hh.elim
  call := by
    intro f args h K hh w hw
    change edge_Checks.call f args h K at hh
    unfold edge_Checks.call at hh
    split at hh
    · obtain ⟨R, h1, h2⟩ := hh
      obtain ⟨g1, g2⟩ := edge_Check.calls h1 w hw
      exact ⟨g1, g2.mono fun e w' ⟨v, he, ho, hr⟩ => ⟨v, he, ho, edge_Check.ret_elim h2 hr⟩⟩
    · exact hh.elim
  qmono := fun hh _ => hh.elim
  qval := fun hh => hh.elim
  qcall := fun hh => hh.elim
noncomputable def edge_Checks.code : Code := (Try.f7.body).getD .skip
def edge_Checks.ann : Ann := (.two .auto (.two (.two .auto (.two (.loop 0 [0, 9, 10, 11] [(2, []), (0, [4, 5])] .auto) .auto)) .auto))
noncomputable def edge_Checks.c0 : Code := sub edge_Checks.code [1, 0, 1, 0, 0]
def edge_Checks.a0 : Ann := .auto
def edge_Checks.keep0 : List Nat := [0, 9, 10, 11]
def edge_Checks.outs0 : List (Nat × List Nat) := [(2, []), (0, [4, 5])]
set_option maxRecDepth 100000 in
theorem edge_Checks.L0 : LoopOK edge_Checks.ctx 24 edge_Checks.c0 0 edge_Checks.keep0 edge_Checks.outs0 := by
  refine loop_ok (n := edge_Checks.a0) edge_Checks.ok (by kernel_rfl) (loops_ok (l := []) (by kernel_rfl) ?_) edge_Checks.r0 ?_ ?_ (fun vs h K hh => hh)
  · exact trivial
  · intro K vs h hh
    unfold edge_Checks.r0 at hh
    split at hh
    · exact hh
    · exact hh
  · intro K m vs h hh
    unfold edge_Checks.r0 at hh
    split at hh
    · exact cast (by kernel_rfl) hh
    · exact hh.elim
set_option maxRecDepth 100000 in
theorem edge_Checks.eq (a1 : Int) (a2 : Option Addr) (a2l : Nat) (a2c : Nat) (h : Heap) (K : Int → Int → Heap → Prop) : evF edge_Checks.ctx Try.f7 edge_Checks.ann [(.int .i64 a1), (.slice a2 a2l a2c)] h (edge_Checks.ret K) = edge_Checks a1 a2 a2l a2c h K := by kernel_rfl
set_option maxRecDepth 100000 in
theorem edge_Checks.calls {a1 : Int} {a2 : Option Addr} {a2l : Nat} {a2c : Nat} {h : Heap} {K : Int → Int → Heap → Prop} (hh : edge_Checks a1 a2 a2l a2c h K) (w : World) (hw : w.heap = h) :
    (callFunc 7 #[(.int .i64 a1), (.slice a2 a2l a2c)]).run Try.prog w = .ok (.enter 7 #[(.int .i64 a1), (.slice a2 a2l a2c)]) w ∧ Calls Try.prog 7 #[(.int .i64 a1), (.slice a2 a2l a2c)] w fun e w' => ∃ v, e = .returned v ∧ Out w w' ∧ edge_Checks.ret K v w'.heap := by
  rw [← edge_Checks.eq] at hh
  exact fn_calls (args := [(.int .i64 a1), (.slice a2 a2l a2c)]) (c := edge_Checks.code) edge_Checks.ok Try.func7 (by kernel_rfl) (by kernel_rfl) (by kernel_rfl) (by kernel_rfl) (loops_ok (l := [(edge_Checks.c0, none, 0, edge_Checks.keep0, edge_Checks.outs0)]) (by kernel_rfl) ⟨edge_Checks.L0, trivial⟩) hh w hw

/-! ### strait/straitref15.Check: function 10 -/
def straitref15_Check (a1 : Int) (a2 : Int) (a3 : Int) (a4 : Int) (h : Heap) (K : Int → Heap → Prop) : Prop :=
  newP h (.cells #[(.int .i64 a2), (.int .i64 a3), (.int .i64 a4)] 24) fun a5 h6 => (∃ (x7 : Int), cell h6 a5 = some (.int .i64 x7) ∧ iteB (decide (x7 < (0 : Int))) (K 4 h6) (∃ (x8 : Int), cell h6 a5 = some (.int .i64 x8) ∧ iteB (decide (x8 ≥ a1)) (K 4 h6) (∃ (x9 : Int), cell h6 (a5.add 1) = some (.int .i64 x9) ∧ iteB (decide (x9 < (0 : Int))) (K 4 h6) (∃ (x10 : Int), cell h6 (a5.add 1) = some (.int .i64 x10) ∧ (iteB (decide (x10 ≥ a1)) (K 4 h6) ((∃ (x18 : Int), cell h6 (a5.add 2) = some (.int .i64 x18) ∧ iteB (decide (x18 < (0 : Int))) (K 5 h6) (∃ (x19 : Int), cell h6 (a5.add 2) = some (.int .i64 x19) ∧ (iteB (decide (x19 > (2147483648 : Int))) (K 5 h6) (K 0 h6))))))))))
def straitref15_Check.ret (K : Int → Heap → Prop) (v : Value) (h : Heap) : Prop := match v with
  | (.int .i64 r21) => K r21 h
  | _ => False
theorem straitref15_Check.ret_elim {K : Int → Heap → Prop} {K' : Value → Heap → Prop} {v : Value} {h : Heap} (hk : ∀ r21 h, K r21 h → K' (.int .i64 r21) h) (hh : straitref15_Check.ret K v h) : K' v h := by
  unfold straitref15_Check.ret at hh
  split at hh
  · exact hk _ _ hh
  · exact hh.elim
noncomputable def straitref15_Check.ctx : Ctx := { P := Try.prog, call := fun _ _ _ _ => False, qcall := fun _ _ _ _ => False, quiet := fun f => Nat.beq f 1000062, loop := fun _ _ _ _ => False }
theorem straitref15_Check.ok : straitref15_Check.ctx.OK where
  mixed := by kernel_rfl
  mono := fun hh _ => hh.elim
  call := fun hh => hh.elim
  qmono := fun hh _ => hh.elim
  qval := fun hh => hh.elim
  qcall := fun hh => hh.elim
noncomputable def straitref15_Check.code : Code := (Try.f10.body).getD .skip
def straitref15_Check.ann : Ann := .auto
set_option maxRecDepth 100000 in
theorem straitref15_Check.eq (a1 : Int) (a2 : Int) (a3 : Int) (a4 : Int) (h : Heap) (K : Int → Heap → Prop) : evF straitref15_Check.ctx Try.f10 straitref15_Check.ann [(.int .i64 a1), (.agg #[(.int .i64 a2), (.int .i64 a3), (.int .i64 a4)])] h (straitref15_Check.ret K) = straitref15_Check a1 a2 a3 a4 h K := by kernel_rfl
set_option maxRecDepth 100000 in
theorem straitref15_Check.calls {a1 : Int} {a2 : Int} {a3 : Int} {a4 : Int} {h : Heap} {K : Int → Heap → Prop} (hh : straitref15_Check a1 a2 a3 a4 h K) (w : World) (hw : w.heap = h) :
    (callFunc 10 #[(.int .i64 a1), (.agg #[(.int .i64 a2), (.int .i64 a3), (.int .i64 a4)])]).run Try.prog w = .ok (.enter 10 #[(.int .i64 a1), (.agg #[(.int .i64 a2), (.int .i64 a3), (.int .i64 a4)])]) w ∧ Calls Try.prog 10 #[(.int .i64 a1), (.agg #[(.int .i64 a2), (.int .i64 a3), (.int .i64 a4)])] w fun e w' => ∃ v, e = .returned v ∧ Out w w' ∧ straitref15_Check.ret K v w'.heap := by
  rw [← straitref15_Check.eq] at hh
  exact fn_calls (args := [(.int .i64 a1), (.agg #[(.int .i64 a2), (.int .i64 a3), (.int .i64 a4)])]) (c := straitref15_Check.code) straitref15_Check.ok Try.func10 (by kernel_rfl) (by kernel_rfl) (by kernel_rfl) (by kernel_rfl) (loops_ok (l := []) (by kernel_rfl) trivial) hh w hw

/-! ### strait/straitref15.Checks: function 8 -/
def straitref15_Checks.b0 (K0 : Heap → Prop) (K2 : Heap → Prop) (cont : Int → (Option Addr) → Nat → Nat → Addr → Int → Heap → Prop) (c0_1001 : Int) (c1_1002 : Option Addr) (c1_1003 : Nat) (c1_1004 : Nat) (c4_1005 : Addr) (v5_1006 : Int) (h1007 : Heap) : Prop :=
  (iteB (decide (v5_1006 < (c1_1003 : Int))) ((chkP c1_1002 fun a1008 => (0 ≤ v5_1006 ∧ v5_1006 < (c1_1003 : Int)) ∧ ∃ (x1009 : Int), cell h1007 (a1008.add (v5_1006.toNat * 3)) = some (.int .i64 x1009) ∧ ∃ (x1010 : Int), cell h1007 ((a1008.add (v5_1006.toNat * 3)).add 1) = some (.int .i64 x1010) ∧ ∃ (x1011 : Int), cell h1007 ((a1008.add (v5_1006.toNat * 3)).add 2) = some (.int .i64 x1011) ∧ callP1 (straitref15_Check c0_1001 x1009 x1010 x1011 h1007) fun x1012 h1013 => ((iteB (x1012 != (0 : Int)) (stC h1013 c4_1005 (.int .i64 x1012) fun h1014 => stC h1014 (c4_1005.add 1) (.int .i64 v5_1006) fun h1015 => K0 h1015) (((cont c0_1001 c1_1002 c1_1003 c1_1004 c4_1005 (IntKind.i64.wrap (v5_1006 + 1)) h1013))))))) (K2 h1007))
def straitref15_Checks.l0 (K0 : Heap → Prop) (K2 : Heap → Prop) : Nat → Int → (Option Addr) → Nat → Nat → Addr → Int → Heap → Prop
  | 0, _, _, _, _, _, _, _ => False
  | m + 1, c0_1001, c1_1002, c1_1003, c1_1004, c4_1005, v5_1006, h => straitref15_Checks.b0 K0 K2 (straitref15_Checks.l0 K0 K2 m) c0_1001 c1_1002 c1_1003 c1_1004 c4_1005 v5_1006 h
def straitref15_Checks (a1 : Int) (a2 : Option Addr) (a2l : Nat) (a2c : Nat) (h : Heap) (K : Int → Int → Heap → Prop) : Prop :=
  newP h (.cells #[(.int .i64 0), (.int .i64 0)] 30) fun a3 h4 => ((∃ m9, straitref15_Checks.l0 (fun h5 => ∃ (x6 : Int), cell h5 a3 = some (.int .i64 x6) ∧ ∃ (x7 : Int), cell h5 (a3.add 1) = some (.int .i64 x7) ∧ K x6 x7 h5) (fun h8 => ((stC h8 a3 (.int .i64 0) fun h10 => stC h10 (a3.add 1) (.int .i64 0) fun h11 => (∃ (x12 : Int), cell h11 a3 = some (.int .i64 x12) ∧ ∃ (x13 : Int), cell h11 (a3.add 1) = some (.int .i64 x13) ∧ K x12 x13 h11)))) m9 a1 a2 a2l a2c a3 0 h4))
def straitref15_Checks.ret (K : Int → Int → Heap → Prop) (v : Value) (h : Heap) : Prop := match v with
  | (.agg ⟨[(.int .i64 r14), (.int .i64 r15)]⟩) => K r14 r15 h
  | _ => False
theorem straitref15_Checks.ret_elim {K : Int → Int → Heap → Prop} {K' : Value → Heap → Prop} {v : Value} {h : Heap} (hk : ∀ r14 r15 h, K r14 r15 h → K' (.agg #[(.int .i64 r14), (.int .i64 r15)]) h) (hh : straitref15_Checks.ret K v h) : K' v h := by
  unfold straitref15_Checks.ret at hh
  split at hh
  · exact hk _ _ _ hh
  · exact hh.elim
def straitref15_Checks.call (f : FuncId) (vs : List Value) (h : Heap) (K : Value → Heap → Prop) : Prop := match f, vs with
  | 10, [(.int .i64 a1), (.agg ⟨[(.int .i64 a2), (.int .i64 a3), (.int .i64 a4)]⟩)] => callP1 (straitref15_Check a1 a2 a3 a4 h) fun r21 h' => K (.int .i64 r21) h'
  | _, _ => False
def straitref15_Checks.r0 (K : Nat → List Value → Heap → Prop) (m : Nat) (vs : List Value) (h : Heap) : Prop := match vs with
  | [(.int .i64 c0_1001), (.slice c1_1002 c1_1003 c1_1004), (.pointer (some c4_1005)), (.int .i64 v5_1006)] => straitref15_Checks.l0 (fun h' => K 0 [(.pointer (some c4_1005))] h') (fun h' => K 2 [(.pointer (some c4_1005))] h') m c0_1001 c1_1002 c1_1003 c1_1004 c4_1005 v5_1006 h
  | _ => False
def straitref15_Checks.loop (i : Nat) (vs : List Value) (h : Heap) (K : Nat → List Value → Heap → Prop) : Prop := match i with
  | 0 => ∃ m, straitref15_Checks.r0 K m vs h
  | _ => False
noncomputable def straitref15_Checks.ctx : Ctx := { P := Try.prog, call := straitref15_Checks.call, qcall := fun _ _ _ _ => False, quiet := fun f => Nat.beq f 1000062, loop := straitref15_Checks.loop }
theorem straitref15_Checks.ok : straitref15_Checks.ctx.OK where
  mixed := by kernel_rfl
  mono := by
    intro f args h K K' hh hk
    change straitref15_Checks.call f args h K at hh
    change straitref15_Checks.call f args h K'
    unfold straitref15_Checks.call at hh ⊢
    split at hh
    · obtain ⟨R, h1, h2⟩ := hh
      exact ⟨R, h1, fun _ x hr => hk _ _ (h2 _ x hr)⟩
    · exact hh.elim
  call := by
    intro f args h K hh w hw
    change straitref15_Checks.call f args h K at hh
    unfold straitref15_Checks.call at hh
    split at hh
    · obtain ⟨R, h1, h2⟩ := hh
      obtain ⟨g1, g2⟩ := straitref15_Check.calls h1 w hw
      exact ⟨g1, g2.mono fun e w' ⟨v, he, ho, hr⟩ => ⟨v, he, ho, straitref15_Check.ret_elim h2 hr⟩⟩
    · exact hh.elim
  qmono := fun hh _ => hh.elim
  qval := fun hh => hh.elim
  qcall := fun hh => hh.elim
noncomputable def straitref15_Checks.code : Code := (Try.f8.body).getD .skip
def straitref15_Checks.ann : Ann := (.two .auto (.two (.two .auto (.two (.loop 0 [0, 1, 4, 5] [(2, [4]), (0, [4])] .auto) .auto)) .auto))
noncomputable def straitref15_Checks.c0 : Code := sub straitref15_Checks.code [1, 0, 1, 0, 0]
def straitref15_Checks.a0 : Ann := .auto
def straitref15_Checks.keep0 : List Nat := [0, 1, 4, 5]
def straitref15_Checks.outs0 : List (Nat × List Nat) := [(2, [4]), (0, [4])]
set_option maxRecDepth 100000 in
theorem straitref15_Checks.L0 : LoopOK straitref15_Checks.ctx 25 straitref15_Checks.c0 0 straitref15_Checks.keep0 straitref15_Checks.outs0 := by
  refine loop_ok (n := straitref15_Checks.a0) straitref15_Checks.ok (by kernel_rfl) (loops_ok (l := []) (by kernel_rfl) ?_) straitref15_Checks.r0 ?_ ?_ (fun vs h K hh => hh)
  · exact trivial
  · intro K vs h hh
    unfold straitref15_Checks.r0 at hh
    split at hh
    · exact hh
    · exact hh
  · intro K m vs h hh
    unfold straitref15_Checks.r0 at hh
    split at hh
    · exact cast (by kernel_rfl) hh
    · exact hh.elim
set_option maxRecDepth 100000 in
theorem straitref15_Checks.eq (a1 : Int) (a2 : Option Addr) (a2l : Nat) (a2c : Nat) (h : Heap) (K : Int → Int → Heap → Prop) : evF straitref15_Checks.ctx Try.f8 straitref15_Checks.ann [(.int .i64 a1), (.slice a2 a2l a2c)] h (straitref15_Checks.ret K) = straitref15_Checks a1 a2 a2l a2c h K := by kernel_rfl
set_option maxRecDepth 100000 in
theorem straitref15_Checks.calls {a1 : Int} {a2 : Option Addr} {a2l : Nat} {a2c : Nat} {h : Heap} {K : Int → Int → Heap → Prop} (hh : straitref15_Checks a1 a2 a2l a2c h K) (w : World) (hw : w.heap = h) :
    (callFunc 8 #[(.int .i64 a1), (.slice a2 a2l a2c)]).run Try.prog w = .ok (.enter 8 #[(.int .i64 a1), (.slice a2 a2l a2c)]) w ∧ Calls Try.prog 8 #[(.int .i64 a1), (.slice a2 a2l a2c)] w fun e w' => ∃ v, e = .returned v ∧ Out w w' ∧ straitref15_Checks.ret K v w'.heap := by
  rw [← straitref15_Checks.eq] at hh
  exact fn_calls (args := [(.int .i64 a1), (.slice a2 a2l a2c)]) (c := straitref15_Checks.code) straitref15_Checks.ok Try.func8 (by kernel_rfl) (by kernel_rfl) (by kernel_rfl) (by kernel_rfl) (loops_ok (l := [(straitref15_Checks.c0, none, 0, straitref15_Checks.keep0, straitref15_Checks.outs0)]) (by kernel_rfl) ⟨straitref15_Checks.L0, trivial⟩) hh w hw

/-! ### strait/straitref15.Normal: function 12 -/
def straitref15_Normal (a1 : Int) (a2 : Int) (a3 : Int) (h : Heap) (K : Int → Int → Int → Heap → Prop) : Prop :=
  newP h (.cells #[(.int .i64 a1), (.int .i64 a2), (.int .i64 a3)] 24) fun a4 h5 => newP h5 (.cells #[(.int .i64 0), (.int .i64 0), (.int .i64 0)] 24) fun a6 h7 => (∃ (x8 : Int), cell h7 a4 = some (.int .i64 x8) ∧ ∃ (x9 : Int), cell h7 (a4.add 1) = some (.int .i64 x9) ∧ (iteB (decide (x8 > x9)) (∃ (x10 : Int), cell h7 (a4.add 1) = some (.int .i64 x10) ∧ ∃ (x11 : Int), cell h7 a4 = some (.int .i64 x11) ∧ ∃ (x12 : Int), cell h7 (a4.add 2) = some (.int .i64 x12) ∧ stC h7 a6 (.int .i64 x10) fun h13 => stC h13 (a6.add 1) (.int .i64 x11) fun h14 => stC h14 (a6.add 2) (.int .i64 x12) fun h15 => (∃ (x16 : Int), cell h15 a6 = some (.int .i64 x16) ∧ ∃ (x17 : Int), cell h15 (a6.add 1) = some (.int .i64 x17) ∧ ∃ (x18 : Int), cell h15 (a6.add 2) = some (.int .i64 x18) ∧ K x16 x17 x18 h15)) ((∃ (x19 : Int), cell h7 a4 = some (.int .i64 x19) ∧ ∃ (x20 : Int), cell h7 (a4.add 1) = some (.int .i64 x20) ∧ ∃ (x21 : Int), cell h7 (a4.add 2) = some (.int .i64 x21) ∧ stC h7 a6 (.int .i64 x19) fun h22 => stC h22 (a6.add 1) (.int .i64 x20) fun h23 => stC h23 (a6.add 2) (.int .i64 x21) fun h24 => (∃ (x25 : Int), cell h24 a6 = some (.int .i64 x25) ∧ ∃ (x26 : Int), cell h24 (a6.add 1) = some (.int .i64 x26) ∧ ∃ (x27 : Int), cell h24 (a6.add 2) = some (.int .i64 x27) ∧ K x25 x26 x27 h24)))))
def straitref15_Normal.ret (K : Int → Int → Int → Heap → Prop) (v : Value) (h : Heap) : Prop := match v with
  | (.agg ⟨[(.int .i64 r28), (.int .i64 r29), (.int .i64 r30)]⟩) => K r28 r29 r30 h
  | _ => False
theorem straitref15_Normal.ret_elim {K : Int → Int → Int → Heap → Prop} {K' : Value → Heap → Prop} {v : Value} {h : Heap} (hk : ∀ r28 r29 r30 h, K r28 r29 r30 h → K' (.agg #[(.int .i64 r28), (.int .i64 r29), (.int .i64 r30)]) h) (hh : straitref15_Normal.ret K v h) : K' v h := by
  unfold straitref15_Normal.ret at hh
  split at hh
  · exact hk _ _ _ _ hh
  · exact hh.elim
noncomputable def straitref15_Normal.ctx : Ctx := { P := Try.prog, call := fun _ _ _ _ => False, qcall := fun _ _ _ _ => False, quiet := fun f => Nat.beq f 1000062, loop := fun _ _ _ _ => False }
theorem straitref15_Normal.ok : straitref15_Normal.ctx.OK where
  mixed := by kernel_rfl
  mono := fun hh _ => hh.elim
  call := fun hh => hh.elim
  qmono := fun hh _ => hh.elim
  qval := fun hh => hh.elim
  qcall := fun hh => hh.elim
noncomputable def straitref15_Normal.code : Code := (Try.f12.body).getD .skip
def straitref15_Normal.ann : Ann := .auto
set_option maxRecDepth 100000 in
theorem straitref15_Normal.eq (a1 : Int) (a2 : Int) (a3 : Int) (h : Heap) (K : Int → Int → Int → Heap → Prop) : evF straitref15_Normal.ctx Try.f12 straitref15_Normal.ann [(.agg #[(.int .i64 a1), (.int .i64 a2), (.int .i64 a3)])] h (straitref15_Normal.ret K) = straitref15_Normal a1 a2 a3 h K := by kernel_rfl
set_option maxRecDepth 100000 in
theorem straitref15_Normal.calls {a1 : Int} {a2 : Int} {a3 : Int} {h : Heap} {K : Int → Int → Int → Heap → Prop} (hh : straitref15_Normal a1 a2 a3 h K) (w : World) (hw : w.heap = h) :
    (callFunc 12 #[(.agg #[(.int .i64 a1), (.int .i64 a2), (.int .i64 a3)])]).run Try.prog w = .ok (.enter 12 #[(.agg #[(.int .i64 a1), (.int .i64 a2), (.int .i64 a3)])]) w ∧ Calls Try.prog 12 #[(.agg #[(.int .i64 a1), (.int .i64 a2), (.int .i64 a3)])] w fun e w' => ∃ v, e = .returned v ∧ Out w w' ∧ straitref15_Normal.ret K v w'.heap := by
  rw [← straitref15_Normal.eq] at hh
  exact fn_calls (args := [(.agg #[(.int .i64 a1), (.int .i64 a2), (.int .i64 a3)])]) (c := straitref15_Normal.code) straitref15_Normal.ok Try.func12 (by kernel_rfl) (by kernel_rfl) (by kernel_rfl) (by kernel_rfl) (loops_ok (l := []) (by kernel_rfl) trivial) hh w hw

/-! ### strait/straitref15.Cmp: function 14 -/
def straitref15_Cmp.b0 (K0 : Int → Heap → Prop) (K2 : Heap → Prop) (cont : Addr → Addr → Int → Heap → Prop) (c5_1001 : Addr) (c6_1002 : Addr) (v7_1003 : Int) (h1004 : Heap) : Prop :=
  (iteB (decide (v7_1003 < (3 : Int))) (((0 ≤ v7_1003 ∧ v7_1003 < (3 : Int)) ∧ ∃ (x1005 : Int), cell h1004 (c5_1001.add (v7_1003.toNat * 1)) = some (.int .i64 x1005) ∧ (0 ≤ v7_1003 ∧ v7_1003 < (3 : Int)) ∧ ∃ (x1006 : Int), cell h1004 (c6_1002.add (v7_1003.toNat * 1)) = some (.int .i64 x1006) ∧ (iteB (decide (x1005 < x1006)) ((K0 (-1) h1004)) (((0 ≤ v7_1003 ∧ v7_1003 < (3 : Int)) ∧ ∃ (x1007 : Int), cell h1004 (c5_1001.add (v7_1003.toNat * 1)) = some (.int .i64 x1007) ∧ (0 ≤ v7_1003 ∧ v7_1003 < (3 : Int)) ∧ ∃ (x1008 : Int), cell h1004 (c6_1002.add (v7_1003.toNat * 1)) = some (.int .i64 x1008) ∧ (iteB (decide (x1007 > x1008)) (K0 1 h1004) (((cont c5_1001 c6_1002 (IntKind.i64.wrap (v7_1003 + 1)) h1004))))))))) (K2 h1004))
def straitref15_Cmp.l0 (K0 : Int → Heap → Prop) (K2 : Heap → Prop) : Nat → Addr → Addr → Int → Heap → Prop
  | 0, _, _, _, _ => False
  | m + 1, c5_1001, c6_1002, v7_1003, h => straitref15_Cmp.b0 K0 K2 (straitref15_Cmp.l0 K0 K2 m) c5_1001 c6_1002 v7_1003 h
def straitref15_Cmp (a1 : Int) (a2 : Int) (a3 : Int) (a4 : Int) (a5 : Int) (a6 : Int) (h : Heap) (K : Int → Heap → Prop) : Prop :=
  newP h (.cells #[(.int .i64 a1), (.int .i64 a2), (.int .i64 a3)] 24) fun a7 h8 => newP h8 (.cells #[(.int .i64 a4), (.int .i64 a5), (.int .i64 a6)] 24) fun a9 h10 => (∃ (x11 : Int), cell h10 a7 = some (.int .i64 x11) ∧ ∃ (x12 : Int), cell h10 (a7.add 1) = some (.int .i64 x12) ∧ ∃ (x13 : Int), cell h10 (a7.add 2) = some (.int .i64 x13) ∧ ∃ (x14 : Int), cell h10 a9 = some (.int .i64 x14) ∧ ∃ (x15 : Int), cell h10 (a9.add 1) = some (.int .i64 x15) ∧ ∃ (x16 : Int), cell h10 (a9.add 2) = some (.int .i64 x16) ∧ (newP h10 (.cells #[(.int .i64 0), (.int .i64 0), (.int .i64 0)] 53) fun a17 h18 => (∃ (x19 : Int), cell h18 (a9.add 2) = some (.int .i64 x19) ∧ ((.int .i64 x19) : Value) = (.int .i64 x16)) ∧ (∃ (x20 : Int), cell h18 (a9.add 1) = some (.int .i64 x20) ∧ ((.int .i64 x20) : Value) = (.int .i64 x15)) ∧ (∃ (x21 : Int), cell h18 a9 = some (.int .i64 x21) ∧ ((.int .i64 x21) : Value) = (.int .i64 x14)) ∧ (∃ (x22 : Int), cell h18 (a7.add 2) = some (.int .i64 x22) ∧ ((.int .i64 x22) : Value) = (.int .i64 x13)) ∧ (∃ (x23 : Int), cell h18 (a7.add 1) = some (.int .i64 x23) ∧ ((.int .i64 x23) : Value) = (.int .i64 x12)) ∧ (∃ (x24 : Int), cell h18 a7 = some (.int .i64 x24) ∧ ((.int .i64 x24) : Value) = (.int .i64 x11)) ∧ newP h18 (.cells #[(.int .i64 0), (.int .i64 0), (.int .i64 0)] 53) fun a25 h26 => (∃ (x27 : Int), cell h26 (a9.add 2) = some (.int .i64 x27) ∧ ((.int .i64 x27) : Value) = (.int .i64 x16)) ∧ (∃ (x28 : Int), cell h26 (a9.add 1) = some (.int .i64 x28) ∧ ((.int .i64 x28) : Value) = (.int .i64 x15)) ∧ (∃ (x29 : Int), cell h26 a9 = some (.int .i64 x29) ∧ ((.int .i64 x29) : Value) = (.int .i64 x14)) ∧ (∃ (x30 : Int), cell h26 (a7.add 2) = some (.int .i64 x30) ∧ ((.int .i64 x30) : Value) = (.int .i64 x13)) ∧ (∃ (x31 : Int), cell h26 (a7.add 1) = some (.int .i64 x31) ∧ ((.int .i64 x31) : Value) = (.int .i64 x12)) ∧ (∃ (x32 : Int), cell h26 a7 = some (.int .i64 x32) ∧ ((.int .i64 x32) : Value) = (.int .i64 x11)) ∧ stC h26 a17 (.int .i64 x11) fun h33 => stC h33 (a17.add 1) (.int .i64 x12) fun h34 => stC h34 (a17.add 2) (.int .i64 x13) fun h35 => (∃ (x36 : Int), cell h35 (a9.add 2) = some (.int .i64 x36) ∧ ((.int .i64 x36) : Value) = (.int .i64 x16)) ∧ (∃ (x37 : Int), cell h35 (a9.add 1) = some (.int .i64 x37) ∧ ((.int .i64 x37) : Value) = (.int .i64 x15)) ∧ (∃ (x38 : Int), cell h35 a9 = some (.int .i64 x38) ∧ ((.int .i64 x38) : Value) = (.int .i64 x14)) ∧ stC h35 a25 (.int .i64 x14) fun h39 => stC h39 (a25.add 1) (.int .i64 x15) fun h40 => stC h40 (a25.add 2) (.int .i64 x16) fun h41 => ((∃ m77, straitref15_Cmp.l0 (fun z74 h75 => K z74 h75) (fun h76 => (K 0 h76)) m77 a17 a25 0 h41))) ∧ (newP h10 (.cells #[(.int .i64 0), (.int .i64 0), (.int .i64 0)] 53) fun a42 h43 => (∃ (x44 : Int), cell h43 (a9.add 2) = some (.int .i64 x44) ∧ ((.int .i64 x44) : Value) = (.int .i64 x16)) ∧ (∃ (x45 : Int), cell h43 (a9.add 1) = some (.int .i64 x45) ∧ ((.int .i64 x45) : Value) = (.int .i64 x15)) ∧ (∃ (x46 : Int), cell h43 a9 = some (.int .i64 x46) ∧ ((.int .i64 x46) : Value) = (.int .i64 x14)) ∧ (∃ (x47 : Int), cell h43 (a7.add 2) = some (.int .i64 x47) ∧ ((.int .i64 x47) : Value) = (.int .i64 x13)) ∧ (∃ (x48 : Int), cell h43 (a7.add 1) = some (.int .i64 x48) ∧ ((.int .i64 x48) : Value) = (.int .i64 x12)) ∧ (∃ (x49 : Int), cell h43 a7 = some (.int .i64 x49) ∧ ((.int .i64 x49) : Value) = (.int .i64 x11)) ∧ newP h43 (.cells #[(.int .i64 0), (.int .i64 0), (.int .i64 0)] 53) fun a50 h51 => (∃ (x52 : Int), cell h51 (a9.add 2) = some (.int .i64 x52) ∧ ((.int .i64 x52) : Value) = (.int .i64 x16)) ∧ (∃ (x53 : Int), cell h51 (a9.add 1) = some (.int .i64 x53) ∧ ((.int .i64 x53) : Value) = (.int .i64 x15)) ∧ (∃ (x54 : Int), cell h51 a9 = some (.int .i64 x54) ∧ ((.int .i64 x54) : Value) = (.int .i64 x14)) ∧ (∃ (x55 : Int), cell h51 (a7.add 2) = some (.int .i64 x55) ∧ ((.int .i64 x55) : Value) = (.int .i64 x13)) ∧ (∃ (x56 : Int), cell h51 (a7.add 1) = some (.int .i64 x56) ∧ ((.int .i64 x56) : Value) = (.int .i64 x12)) ∧ (∃ (x57 : Int), cell h51 a7 = some (.int .i64 x57) ∧ ((.int .i64 x57) : Value) = (.int .i64 x11)) ∧ stC h51 a50 (.int .i64 x11) fun h58 => stC h58 (a50.add 1) (.int .i64 x12) fun h59 => stC h59 (a50.add 2) (.int .i64 x13) fun h60 => (∃ (x61 : Int), cell h60 (a9.add 2) = some (.int .i64 x61) ∧ ((.int .i64 x61) : Value) = (.int .i64 x16)) ∧ (∃ (x62 : Int), cell h60 (a9.add 1) = some (.int .i64 x62) ∧ ((.int .i64 x62) : Value) = (.int .i64 x15)) ∧ (∃ (x63 : Int), cell h60 a9 = some (.int .i64 x63) ∧ ((.int .i64 x63) : Value) = (.int .i64 x14)) ∧ stC h60 a42 (.int .i64 x14) fun h64 => stC h64 (a42.add 1) (.int .i64 x15) fun h65 => stC h65 (a42.add 2) (.int .i64 x16) fun h66 => ((∃ m81, straitref15_Cmp.l0 (fun z78 h79 => K z78 h79) (fun h80 => (K 0 h80)) m81 a50 a42 0 h66))))
def straitref15_Cmp.ret (K : Int → Heap → Prop) (v : Value) (h : Heap) : Prop := match v with
  | (.int .i64 r82) => K r82 h
  | _ => False
theorem straitref15_Cmp.ret_elim {K : Int → Heap → Prop} {K' : Value → Heap → Prop} {v : Value} {h : Heap} (hk : ∀ r82 h, K r82 h → K' (.int .i64 r82) h) (hh : straitref15_Cmp.ret K v h) : K' v h := by
  unfold straitref15_Cmp.ret at hh
  split at hh
  · exact hk _ _ hh
  · exact hh.elim
def straitref15_Cmp.r0 (K : Nat → List Value → Heap → Prop) (m : Nat) (vs : List Value) (h : Heap) : Prop := match vs with
  | [(.pointer (some c5_1001)), (.pointer (some c6_1002)), (.int .i64 v7_1003)] => straitref15_Cmp.l0 (fun z83 h' => K 0 [(.int .i64 z83)] h') (fun h' => K 2 [] h') m c5_1001 c6_1002 v7_1003 h
  | _ => False
def straitref15_Cmp.loop (i : Nat) (vs : List Value) (h : Heap) (K : Nat → List Value → Heap → Prop) : Prop := match i with
  | 0 => ∃ m, straitref15_Cmp.r0 K m vs h
  | _ => False
noncomputable def straitref15_Cmp.ctx : Ctx := { P := Try.prog, call := fun _ _ _ _ => False, qcall := fun _ _ _ _ => False, quiet := fun f => Nat.beq f 1000062, loop := straitref15_Cmp.loop }
theorem straitref15_Cmp.ok : straitref15_Cmp.ctx.OK where
  mixed := by kernel_rfl
  mono := fun hh _ => hh.elim
  call := fun hh => hh.elim
  qmono := fun hh _ => hh.elim
  qval := fun hh => hh.elim
  qcall := fun hh => hh.elim
noncomputable def straitref15_Cmp.code : Code := (Try.f14.body).getD .skip
def straitref15_Cmp.ann : Ann := (.two .auto (.two (.reg [0, 1, 0, 4, 0, 16, 63, 0, 128, 0, 512, 0, 2048, 8064, 0, 0, 49279, 131071] (.take 0 (.take 2 (.take 4 (.take 7 (.take 9 (.take 11 (.early 1 (.early 3 (.early 5 (.take 6 (.early 8 (.early 10 (.early 12 (.take 13 (.alt 14 (.alt 15 (.alt 16 (.alt 17 .done .noalt) .noalt) .noalt) (.alt 15 (.alt 14 (.alt 16 (.alt 17 .done .noalt) .noalt) .noalt) .noalt))))))))))))))))) (.two (.two .auto (.two (.loop 0 [5, 6, 7] [(2, []), (0, [4])] (.two .auto (.two (.two (.two (.two (.reg [0, 1, 3, 0, 8, 24, 63] (.take 0 (.take 1 (.take 2 (.take 3 (.take 4 (.take 5 (.take 6 .done)))))))) .auto) (.two (.reg [0, 1, 3, 0, 8, 24, 63] (.take 0 (.take 1 (.take 2 (.take 3 (.take 4 (.take 5 (.take 6 .done)))))))) .auto)) .auto) .auto))) .auto)) .auto)))
noncomputable def straitref15_Cmp.c0 : Code := sub straitref15_Cmp.code [1, 1, 0, 1, 0, 0]
def straitref15_Cmp.a0 : Ann := (.two .auto (.two (.two (.two (.two (.reg [0, 1, 3, 0, 8, 24, 63] (.take 0 (.take 1 (.take 2 (.take 3 (.take 4 (.take 5 (.take 6 .done)))))))) .auto) (.two (.reg [0, 1, 3, 0, 8, 24, 63] (.take 0 (.take 1 (.take 2 (.take 3 (.take 4 (.take 5 (.take 6 .done)))))))) .auto)) .auto) .auto))
def straitref15_Cmp.keep0 : List Nat := [5, 6, 7]
def straitref15_Cmp.outs0 : List (Nat × List Nat) := [(2, []), (0, [4])]
set_option maxRecDepth 100000 in
theorem straitref15_Cmp.L0 : LoopOK straitref15_Cmp.ctx 40 straitref15_Cmp.c0 0 straitref15_Cmp.keep0 straitref15_Cmp.outs0 := by
  refine loop_ok (n := straitref15_Cmp.a0) straitref15_Cmp.ok (by kernel_rfl) (loops_ok (l := []) (by kernel_rfl) ?_) straitref15_Cmp.r0 ?_ ?_ (fun vs h K hh => hh)
  · exact trivial
  · intro K vs h hh
    unfold straitref15_Cmp.r0 at hh
    split at hh
    · exact hh
    · exact hh
  · intro K m vs h hh
    unfold straitref15_Cmp.r0 at hh
    split at hh
    · exact cast (by kernel_rfl) hh
    · exact hh.elim
set_option maxRecDepth 100000 in
theorem straitref15_Cmp.eq (a1 : Int) (a2 : Int) (a3 : Int) (a4 : Int) (a5 : Int) (a6 : Int) (h : Heap) (K : Int → Heap → Prop) : evF straitref15_Cmp.ctx Try.f14 straitref15_Cmp.ann [(.agg #[(.int .i64 a1), (.int .i64 a2), (.int .i64 a3)]), (.agg #[(.int .i64 a4), (.int .i64 a5), (.int .i64 a6)])] h (straitref15_Cmp.ret K) = straitref15_Cmp a1 a2 a3 a4 a5 a6 h K := by kernel_rfl
set_option maxRecDepth 100000 in
theorem straitref15_Cmp.calls {a1 : Int} {a2 : Int} {a3 : Int} {a4 : Int} {a5 : Int} {a6 : Int} {h : Heap} {K : Int → Heap → Prop} (hh : straitref15_Cmp a1 a2 a3 a4 a5 a6 h K) (w : World) (hw : w.heap = h) :
    (callFunc 14 #[(.agg #[(.int .i64 a1), (.int .i64 a2), (.int .i64 a3)]), (.agg #[(.int .i64 a4), (.int .i64 a5), (.int .i64 a6)])]).run Try.prog w = .ok (.enter 14 #[(.agg #[(.int .i64 a1), (.int .i64 a2), (.int .i64 a3)]), (.agg #[(.int .i64 a4), (.int .i64 a5), (.int .i64 a6)])]) w ∧ Calls Try.prog 14 #[(.agg #[(.int .i64 a1), (.int .i64 a2), (.int .i64 a3)]), (.agg #[(.int .i64 a4), (.int .i64 a5), (.int .i64 a6)])] w fun e w' => ∃ v, e = .returned v ∧ Out w w' ∧ straitref15_Cmp.ret K v w'.heap := by
  rw [← straitref15_Cmp.eq] at hh
  exact fn_calls (args := [(.agg #[(.int .i64 a1), (.int .i64 a2), (.int .i64 a3)]), (.agg #[(.int .i64 a4), (.int .i64 a5), (.int .i64 a6)])]) (c := straitref15_Cmp.code) straitref15_Cmp.ok Try.func14 (by kernel_rfl) (by kernel_rfl) (by kernel_rfl) (by kernel_rfl) (loops_ok (l := [(straitref15_Cmp.c0, none, 0, straitref15_Cmp.keep0, straitref15_Cmp.outs0)]) (by kernel_rfl) ⟨straitref15_Cmp.L0, trivial⟩) hh w hw

/-! ### (*strait/num.Acc).Put: function 27 -/
def num_Acc_Put (a1 : Option Addr) (a2 : Int) (h : Heap) (K : Bool → Heap → Prop) : Prop :=
  (iteB a1.isNone (K false h) (chkP a1 fun a3 => ∃ (x4 : Bool), cell h (a3.add 1) = some (.bool x4) ∧ (iteB x4 (K false h) ((chkP a1 fun a22 => ∃ (x23 : Int), cell h a22 = some (.int .i64 x23) ∧ qcallP2 h (num_Add x23 a2 h) fun x24 x25 => (chkP a1 fun a26 => stC h a26 (.int .i64 x24) fun h27 => chkP a1 fun a28 => stC h27 (a28.add 1) (.bool (!x25)) fun h29 => K x25 h29))))))
def num_Acc_Put.ret (K : Bool → Heap → Prop) (v : Value) (h : Heap) : Prop := match v with
  | (.bool r30) => K r30 h
  | _ => False
theorem num_Acc_Put.ret_elim {K : Bool → Heap → Prop} {K' : Value → Heap → Prop} {v : Value} {h : Heap} (hk : ∀ r30 h, K r30 h → K' (.bool r30) h) (hh : num_Acc_Put.ret K v h) : K' v h := by
  unfold num_Acc_Put.ret at hh
  split at hh
  · exact hk _ _ hh
  · exact hh.elim
def num_Acc_Put.qcall (f : FuncId) (vs : List Value) (h : Heap) (K : Value → Prop) : Prop := match f, vs with
  | 32, [(.int .i64 a1), (.int .i64 a2)] => qcallP2 h (num_Add a1 a2 h) fun r5 r6 => K (.tuple #[(.int .i64 r5), (.bool r6)])
  | _, _ => False
noncomputable def num_Acc_Put.ctx : Ctx := { P := Try.prog, call := fun _ _ _ _ => False, qcall := num_Acc_Put.qcall, quiet := fun f => Nat.beq f 32 || Nat.beq f 1000062, loop := fun _ _ _ _ => False }
theorem num_Acc_Put.ok : num_Acc_Put.ctx.OK where
  mixed := by kernel_rfl
  mono := fun hh _ => hh.elim
  call := fun hh => hh.elim
  qmono := by
    intro f args h K K' hh hk
    change num_Acc_Put.qcall f args h K at hh
    change num_Acc_Put.qcall f args h K'
    unfold num_Acc_Put.qcall at hh ⊢
    split at hh
    · obtain ⟨x0, x1, h1, h2⟩ := hh
      exact ⟨x0, x1, h1, hk _ h2⟩
    · exact hh.elim
  qval := by
    intro f args h K hh
    change num_Acc_Put.qcall f args h K at hh
    suffices H : ∃ v, K v ∧ num_Acc_Put.qcall f args h (· = v) from H
    unfold num_Acc_Put.qcall at hh ⊢
    split at hh
    · obtain ⟨x0, x1, h1, h2⟩ := hh
      exact ⟨_, h2, x0, x1, h1, rfl⟩
    · exact hh.elim
  qcall := by
    intro f args h v hh w hw
    change num_Acc_Put.qcall f args h (· = v) at hh
    unfold num_Acc_Put.qcall at hh
    split at hh
    · obtain ⟨x0, x1, h1, h2⟩ := hh
      obtain ⟨g1, g2⟩ := num_Add.calls h1 w hw
      refine .inl ⟨g1, g2.mono fun e w' ⟨u, he, ho, hr⟩ => ?_⟩
      have hq := num_Add.ret_elim (K' := fun u h' => u = v ∧ h' = h) (fun _ _ h' hr => by obtain ⟨rfl, rfl, rfl⟩ := hr; exact ⟨h2, rfl⟩) hr
      exact ⟨hq.1 ▸ he, ho, hq.2⟩
    · exact hh.elim
noncomputable def num_Acc_Put.code : Code := (Try.f27.body).getD .skip
def num_Acc_Put.ann : Ann := .auto
set_option maxRecDepth 100000 in
theorem num_Acc_Put.eq (a1 : Option Addr) (a2 : Int) (h : Heap) (K : Bool → Heap → Prop) : evF num_Acc_Put.ctx Try.f27 num_Acc_Put.ann [(.pointer a1), (.int .i64 a2)] h (num_Acc_Put.ret K) = num_Acc_Put a1 a2 h K := by kernel_rfl
set_option maxRecDepth 100000 in
theorem num_Acc_Put.calls {a1 : Option Addr} {a2 : Int} {h : Heap} {K : Bool → Heap → Prop} (hh : num_Acc_Put a1 a2 h K) (w : World) (hw : w.heap = h) :
    (callFunc 27 #[(.pointer a1), (.int .i64 a2)]).run Try.prog w = .ok (.enter 27 #[(.pointer a1), (.int .i64 a2)]) w ∧ Calls Try.prog 27 #[(.pointer a1), (.int .i64 a2)] w fun e w' => ∃ v, e = .returned v ∧ Out w w' ∧ num_Acc_Put.ret K v w'.heap := by
  rw [← num_Acc_Put.eq] at hh
  exact fn_calls (args := [(.pointer a1), (.int .i64 a2)]) (c := num_Acc_Put.code) num_Acc_Put.ok Try.func27 (by kernel_rfl) (by kernel_rfl) (by kernel_rfl) (by kernel_rfl) (loops_ok (l := []) (by kernel_rfl) trivial) hh w hw

/-! ### (*strait/num.Acc).Value: function 28 -/
def num_Acc_Value (a1 : Option Addr) (h : Heap) (K : Int → Bool → Heap → Prop) : Prop :=
  (iteB a1.isNone (K 0 false h) (chkP a1 fun a2 => ∃ (x3 : Bool), cell h (a2.add 1) = some (.bool x3) ∧ (iteB x3 (K 0 false h) ((chkP a1 fun a9 => ∃ (x10 : Int), cell h a9 = some (.int .i64 x10) ∧ K x10 true h)))))
def num_Acc_Value.ret (K : Int → Bool → Heap → Prop) (v : Value) (h : Heap) : Prop := match v with
  | (.tuple ⟨[(.int .i64 r11), (.bool r12)]⟩) => K r11 r12 h
  | _ => False
theorem num_Acc_Value.ret_elim {K : Int → Bool → Heap → Prop} {K' : Value → Heap → Prop} {v : Value} {h : Heap} (hk : ∀ r11 r12 h, K r11 r12 h → K' (.tuple #[(.int .i64 r11), (.bool r12)]) h) (hh : num_Acc_Value.ret K v h) : K' v h := by
  unfold num_Acc_Value.ret at hh
  split at hh
  · exact hk _ _ _ hh
  · exact hh.elim
noncomputable def num_Acc_Value.ctx : Ctx := { P := Try.prog, call := fun _ _ _ _ => False, qcall := fun _ _ _ _ => False, quiet := fun f => Nat.beq f 1000062, loop := fun _ _ _ _ => False }
theorem num_Acc_Value.ok : num_Acc_Value.ctx.OK where
  mixed := by kernel_rfl
  mono := fun hh _ => hh.elim
  call := fun hh => hh.elim
  qmono := fun hh _ => hh.elim
  qval := fun hh => hh.elim
  qcall := fun hh => hh.elim
noncomputable def num_Acc_Value.code : Code := (Try.f28.body).getD .skip
def num_Acc_Value.ann : Ann := .auto
set_option maxRecDepth 100000 in
theorem num_Acc_Value.eq (a1 : Option Addr) (h : Heap) (K : Int → Bool → Heap → Prop) : evF num_Acc_Value.ctx Try.f28 num_Acc_Value.ann [(.pointer a1)] h (num_Acc_Value.ret K) = num_Acc_Value a1 h K := by kernel_rfl
set_option maxRecDepth 100000 in
theorem num_Acc_Value.calls {a1 : Option Addr} {h : Heap} {K : Int → Bool → Heap → Prop} (hh : num_Acc_Value a1 h K) (w : World) (hw : w.heap = h) :
    (callFunc 28 #[(.pointer a1)]).run Try.prog w = .ok (.enter 28 #[(.pointer a1)]) w ∧ Calls Try.prog 28 #[(.pointer a1)] w fun e w' => ∃ v, e = .returned v ∧ Out w w' ∧ num_Acc_Value.ret K v w'.heap := by
  rw [← num_Acc_Value.eq] at hh
  exact fn_calls (args := [(.pointer a1)]) (c := num_Acc_Value.code) num_Acc_Value.ok Try.func28 (by kernel_rfl) (by kernel_rfl) (by kernel_rfl) (by kernel_rfl) (loops_ok (l := []) (by kernel_rfl) trivial) hh w hw

/-! ### strait/edge.Total: function 15 -/
def edge_Total.b0 (K2 : Heap → Prop) (cont : Addr → (Option Addr) → Nat → Nat → Int → Int → Heap → Prop) (c4_1001 : Addr) (c7_1002 : Option Addr) (c7_1003 : Nat) (c7_1004 : Nat) (c8_1005 : Int) (v9_1006 : Int) (h1007 : Heap) : Prop :=
  (iteB (decide (v9_1006 < c8_1005)) ((chkP c7_1002 fun a1008 => (0 ≤ v9_1006 ∧ v9_1006 < (c7_1003 : Int)) ∧ ∃ (x1009 : Int), cell h1007 (a1008.add (v9_1006.toNat * 3)) = some (.int .i64 x1009) ∧ ∃ (x1010 : Int), cell h1007 ((a1008.add (v9_1006.toNat * 3)).add 1) = some (.int .i64 x1010) ∧ ∃ (x1011 : Int), cell h1007 ((a1008.add (v9_1006.toNat * 3)).add 2) = some (.int .i64 x1011) ∧ newP h1007 (.cells #[(.int .i64 0), (.int .i64 0), (.int .i64 0)] 24) fun a1012 h1013 => stC h1013 a1012 (.int .i64 x1009) fun h1014 => stC h1014 (a1012.add 1) (.int .i64 x1010) fun h1015 => stC h1015 (a1012.add 2) (.int .i64 x1011) fun h1016 => (∃ (x1017 : Int), cell h1016 (a1012.add 2) = some (.int .i64 x1017) ∧ callP1 (num_Acc_Put (some c4_1001) x1017 h1016) fun x1018 h1019 => ((cont c4_1001 c7_1002 c7_1003 c7_1004 c8_1005 (IntKind.i64.wrap (v9_1006 + 1)) h1019))))) (K2 h1007))
def edge_Total.l0 (K2 : Heap → Prop) : Nat → Addr → (Option Addr) → Nat → Nat → Int → Int → Heap → Prop
  | 0, _, _, _, _, _, _, _ => False
  | m + 1, c4_1001, c7_1002, c7_1003, c7_1004, c8_1005, v9_1006, h => edge_Total.b0 K2 (edge_Total.l0 K2 m) c4_1001 c7_1002 c7_1003 c7_1004 c8_1005 v9_1006 h
def edge_Total (a1 : Option Addr) (a1l : Nat) (a1c : Nat) (h : Heap) (K : Int → Bool → Heap → Prop) : Prop :=
  (newP h (.cells #[(.int .i64 0), (.bool false)] 55) fun a2 h3 => ((∃ m5, edge_Total.l0 (fun h4 => ((qcallP2 h4 (num_Acc_Value (some a2) h4) fun x6 x7 => K x6 x7 h4))) m5 a2 a1 a1l a1c (a1l : Int) 0 h3)))
def edge_Total.ret (K : Int → Bool → Heap → Prop) (v : Value) (h : Heap) : Prop := match v with
  | (.tuple ⟨[(.int .i64 r8), (.bool r9)]⟩) => K r8 r9 h
  | _ => False
theorem edge_Total.ret_elim {K : Int → Bool → Heap → Prop} {K' : Value → Heap → Prop} {v : Value} {h : Heap} (hk : ∀ r8 r9 h, K r8 r9 h → K' (.tuple #[(.int .i64 r8), (.bool r9)]) h) (hh : edge_Total.ret K v h) : K' v h := by
  unfold edge_Total.ret at hh
  split at hh
  · exact hk _ _ _ hh
  · exact hh.elim
def edge_Total.call (f : FuncId) (vs : List Value) (h : Heap) (K : Value → Heap → Prop) : Prop := match f, vs with
  | 27, [(.pointer a1), (.int .i64 a2)] => callP1 (num_Acc_Put a1 a2 h) fun r30 h' => K (.bool r30) h'
  | _, _ => False
def edge_Total.qcall (f : FuncId) (vs : List Value) (h : Heap) (K : Value → Prop) : Prop := match f, vs with
  | 28, [(.pointer a1)] => qcallP2 h (num_Acc_Value a1 h) fun r11 r12 => K (.tuple #[(.int .i64 r11), (.bool r12)])
  | _, _ => False
def edge_Total.r0 (K : Nat → List Value → Heap → Prop) (m : Nat) (vs : List Value) (h : Heap) : Prop := match vs with
  | [(.pointer (some c4_1001)), (.slice c7_1002 c7_1003 c7_1004), (.int .i64 c8_1005), (.int .i64 v9_1006)] => edge_Total.l0 (fun h' => K 2 [(.pointer (some c4_1001))] h') m c4_1001 c7_1002 c7_1003 c7_1004 c8_1005 v9_1006 h
  | _ => False
def edge_Total.loop (i : Nat) (vs : List Value) (h : Heap) (K : Nat → List Value → Heap → Prop) : Prop := match i with
  | 0 => ∃ m, edge_Total.r0 K m vs h
  | _ => False
noncomputable def edge_Total.ctx : Ctx := { P := Try.prog, call := edge_Total.call, qcall := edge_Total.qcall, quiet := fun f => Nat.beq f 28 || Nat.beq f 1000062, loop := edge_Total.loop }
theorem edge_Total.ok : edge_Total.ctx.OK where
  mixed := by kernel_rfl
  mono := by
    intro f args h K K' hh hk
    change edge_Total.call f args h K at hh
    change edge_Total.call f args h K'
    unfold edge_Total.call at hh ⊢
    split at hh
    · obtain ⟨R, h1, h2⟩ := hh
      exact ⟨R, h1, fun _ x hr => hk _ _ (h2 _ x hr)⟩
    · exact hh.elim
  call := by
    intro f args h K hh w hw
    change edge_Total.call f args h K at hh
    unfold edge_Total.call at hh
    split at hh
    · obtain ⟨R, h1, h2⟩ := hh
      obtain ⟨g1, g2⟩ := num_Acc_Put.calls h1 w hw
      exact ⟨g1, g2.mono fun e w' ⟨v, he, ho, hr⟩ => ⟨v, he, ho, num_Acc_Put.ret_elim h2 hr⟩⟩
    · exact hh.elim
  qmono := by
    intro f args h K K' hh hk
    change edge_Total.qcall f args h K at hh
    change edge_Total.qcall f args h K'
    unfold edge_Total.qcall at hh ⊢
    split at hh
    · obtain ⟨x0, x1, h1, h2⟩ := hh
      exact ⟨x0, x1, h1, hk _ h2⟩
    · exact hh.elim
  qval := by
    intro f args h K hh
    change edge_Total.qcall f args h K at hh
    suffices H : ∃ v, K v ∧ edge_Total.qcall f args h (· = v) from H
    unfold edge_Total.qcall at hh ⊢
    split at hh
    · obtain ⟨x0, x1, h1, h2⟩ := hh
      exact ⟨_, h2, x0, x1, h1, rfl⟩
    · exact hh.elim
  qcall := by
    intro f args h v hh w hw
    change edge_Total.qcall f args h (· = v) at hh
    unfold edge_Total.qcall at hh
    split at hh
    · obtain ⟨x0, x1, h1, h2⟩ := hh
      obtain ⟨g1, g2⟩ := num_Acc_Value.calls h1 w hw
      refine .inl ⟨g1, g2.mono fun e w' ⟨u, he, ho, hr⟩ => ?_⟩
      have hq := num_Acc_Value.ret_elim (K' := fun u h' => u = v ∧ h' = h) (fun _ _ h' hr => by obtain ⟨rfl, rfl, rfl⟩ := hr; exact ⟨h2, rfl⟩) hr
      exact ⟨hq.1 ▸ he, ho, hq.2⟩
    · exact hh.elim
noncomputable def edge_Total.code : Code := (Try.f15.body).getD .skip
def edge_Total.ann : Ann := (.two .auto (.two .auto (.two (.two .auto (.two (.loop 0 [4, 7, 8, 9] [(2, [4])] .auto) .auto)) .auto)))
noncomputable def edge_Total.c0 : Code := sub edge_Total.code [1, 1, 0, 1, 0, 0]
def edge_Total.a0 : Ann := .auto
def edge_Total.keep0 : List Nat := [4, 7, 8, 9]
def edge_Total.outs0 : List (Nat × List Nat) := [(2, [4])]
set_option maxRecDepth 100000 in
theorem edge_Total.L0 : LoopOK edge_Total.ctx 20 edge_Total.c0 0 edge_Total.keep0 edge_Total.outs0 := by
  refine loop_ok (n := edge_Total.a0) edge_Total.ok (by kernel_rfl) (loops_ok (l := []) (by kernel_rfl) ?_) edge_Total.r0 ?_ ?_ (fun vs h K hh => hh)
  · exact trivial
  · intro K vs h hh
    unfold edge_Total.r0 at hh
    split at hh
    · exact hh
    · exact hh
  · intro K m vs h hh
    unfold edge_Total.r0 at hh
    split at hh
    · exact cast (by kernel_rfl) hh
    · exact hh.elim
set_option maxRecDepth 100000 in
theorem edge_Total.eq (a1 : Option Addr) (a1l : Nat) (a1c : Nat) (h : Heap) (K : Int → Bool → Heap → Prop) : evF edge_Total.ctx Try.f15 edge_Total.ann [(.slice a1 a1l a1c)] h (edge_Total.ret K) = edge_Total a1 a1l a1c h K := by kernel_rfl
set_option maxRecDepth 100000 in
theorem edge_Total.calls {a1 : Option Addr} {a1l : Nat} {a1c : Nat} {h : Heap} {K : Int → Bool → Heap → Prop} (hh : edge_Total a1 a1l a1c h K) (w : World) (hw : w.heap = h) :
    (callFunc 15 #[(.slice a1 a1l a1c)]).run Try.prog w = .ok (.enter 15 #[(.slice a1 a1l a1c)]) w ∧ Calls Try.prog 15 #[(.slice a1 a1l a1c)] w fun e w' => ∃ v, e = .returned v ∧ Out w w' ∧ edge_Total.ret K v w'.heap := by
  rw [← edge_Total.eq] at hh
  exact fn_calls (args := [(.slice a1 a1l a1c)]) (c := edge_Total.code) edge_Total.ok Try.func15 (by kernel_rfl) (by kernel_rfl) (by kernel_rfl) (by kernel_rfl) (loops_ok (l := [(edge_Total.c0, none, 0, edge_Total.keep0, edge_Total.outs0)]) (by kernel_rfl) ⟨edge_Total.L0, trivial⟩) hh w hw

/-! ### strait/straitref15.Find: function 17 -/
def straitref15_Find.b0 (K0 : Int → Heap → Prop) (K2 : Heap → Prop) (cont : (Option Addr) → Nat → Nat → Int → Int → Int → Heap → Prop) (c0_1001 : Option Addr) (c0_1002 : Nat) (c0_1003 : Nat) (c1_1004 : Int) (c2_1005 : Int) (v7_1006 : Int) (h1007 : Heap) : Prop :=
  (iteB (decide (v7_1006 < (c0_1002 : Int))) ((let j1021 : Prop := (cont c0_1001 c0_1002 c0_1003 c1_1004 c2_1005 (IntKind.i64.wrap (v7_1006 + 1)) h1007);
  chkP c0_1001 fun a1008 => (0 ≤ v7_1006 ∧ v7_1006 < (c0_1002 : Int)) ∧ ∃ (x1009 : Int), cell h1007 (a1008.add (v7_1006.toNat * 3)) = some (.int .i64 x1009) ∧ iteB (x1009 == c1_1004) (chkP c0_1001 fun a1010 => (0 ≤ v7_1006 ∧ v7_1006 < (c0_1002 : Int)) ∧ ∃ (x1011 : Int), cell h1007 ((a1010.add (v7_1006.toNat * 3)).add 1) = some (.int .i64 x1011) ∧ iteB (x1011 == c2_1005) (K0 v7_1006 h1007) (chkP c0_1001 fun a1012 => (0 ≤ v7_1006 ∧ v7_1006 < (c0_1002 : Int)) ∧ ∃ (x1013 : Int), cell h1007 (a1012.add (v7_1006.toNat * 3)) = some (.int .i64 x1013) ∧ iteB (x1013 == c2_1005) (chkP c0_1001 fun a1014 => (0 ≤ v7_1006 ∧ v7_1006 < (c0_1002 : Int)) ∧ ∃ (x1015 : Int), cell h1007 ((a1014.add (v7_1006.toNat * 3)).add 1) = some (.int .i64 x1015) ∧ (iteB (x1015 == c1_1004) (K0 v7_1006 h1007) (((j1021))))) ((((j1021)))))) (chkP c0_1001 fun a1016 => (0 ≤ v7_1006 ∧ v7_1006 < (c0_1002 : Int)) ∧ ∃ (x1017 : Int), cell h1007 (a1016.add (v7_1006.toNat * 3)) = some (.int .i64 x1017) ∧ iteB (x1017 == c2_1005) (chkP c0_1001 fun a1018 => (0 ≤ v7_1006 ∧ v7_1006 < (c0_1002 : Int)) ∧ ∃ (x1019 : Int), cell h1007 ((a1018.add (v7_1006.toNat * 3)).add 1) = some (.int .i64 x1019) ∧ (iteB (x1019 == c1_1004) (K0 v7_1006 h1007) (((j1021))))) ((((j1021))))))) (K2 h1007))
def straitref15_Find.l0 (K0 : Int → Heap → Prop) (K2 : Heap → Prop) : Nat → (Option Addr) → Nat → Nat → Int → Int → Int → Heap → Prop
  | 0, _, _, _, _, _, _, _ => False
  | m + 1, c0_1001, c0_1002, c0_1003, c1_1004, c2_1005, v7_1006, h => straitref15_Find.b0 K0 K2 (straitref15_Find.l0 K0 K2 m) c0_1001 c0_1002 c0_1003 c1_1004 c2_1005 v7_1006 h
def straitref15_Find (a1 : Option Addr) (a1l : Nat) (a1c : Nat) (a2 : Int) (a3 : Int) (h : Heap) (K : Int → Heap → Prop) : Prop :=
  ((∃ m7, straitref15_Find.l0 (fun z4 h5 => K z4 h5) (fun h6 => (((K (-1) h6)))) m7 a1 a1l a1c a2 a3 0 h))
def straitref15_Find.ret (K : Int → Heap → Prop) (v : Value) (h : Heap) : Prop := match v with
  | (.int .i64 r8) => K r8 h
  | _ => False
theorem straitref15_Find.ret_elim {K : Int → Heap → Prop} {K' : Value → Heap → Prop} {v : Value} {h : Heap} (hk : ∀ r8 h, K r8 h → K' (.int .i64 r8) h) (hh : straitref15_Find.ret K v h) : K' v h := by
  unfold straitref15_Find.ret at hh
  split at hh
  · exact hk _ _ hh
  · exact hh.elim
def straitref15_Find.r0 (K : Nat → List Value → Heap → Prop) (m : Nat) (vs : List Value) (h : Heap) : Prop := match vs with
  | [(.slice c0_1001 c0_1002 c0_1003), (.int .i64 c1_1004), (.int .i64 c2_1005), (.int .i64 v7_1006)] => straitref15_Find.l0 (fun z9 h' => K 0 [(.int .i64 z9)] h') (fun h' => K 2 [] h') m c0_1001 c0_1002 c0_1003 c1_1004 c2_1005 v7_1006 h
  | _ => False
def straitref15_Find.loop (i : Nat) (vs : List Value) (h : Heap) (K : Nat → List Value → Heap → Prop) : Prop := match i with
  | 0 => ∃ m, straitref15_Find.r0 K m vs h
  | _ => False
noncomputable def straitref15_Find.ctx : Ctx := { P := Try.prog, call := fun _ _ _ _ => False, qcall := fun _ _ _ _ => False, quiet := fun f => Nat.beq f 1000062, loop := straitref15_Find.loop }
theorem straitref15_Find.ok : straitref15_Find.ctx.OK where
  mixed := by kernel_rfl
  mono := fun hh _ => hh.elim
  call := fun hh => hh.elim
  qmono := fun hh _ => hh.elim
  qval := fun hh => hh.elim
  qcall := fun hh => hh.elim
noncomputable def straitref15_Find.code : Code := (Try.f17.body).getD .skip
def straitref15_Find.ann : Ann := (.two .auto (.two (.two .auto (.two (.loop 0 [0, 1, 2, 7] [(2, []), (0, [6])] .auto) .auto)) .auto))
noncomputable def straitref15_Find.c0 : Code := sub straitref15_Find.code [1, 0, 1, 0, 0]
def straitref15_Find.a0 : Ann := .auto
def straitref15_Find.keep0 : List Nat := [0, 1, 2, 7]
def straitref15_Find.outs0 : List (Nat × List Nat) := [(2, []), (0, [6])]
set_option maxRecDepth 100000 in
theorem straitref15_Find.L0 : LoopOK straitref15_Find.ctx 49 straitref15_Find.c0 0 straitref15_Find.keep0 straitref15_Find.outs0 := by
  refine loop_ok (n := straitref15_Find.a0) straitref15_Find.ok (by kernel_rfl) (loops_ok (l := []) (by kernel_rfl) ?_) straitref15_Find.r0 ?_ ?_ (fun vs h K hh => hh)
  · exact trivial
  · intro K vs h hh
    unfold straitref15_Find.r0 at hh
    split at hh
    · exact hh
    · exact hh
  · intro K m vs h hh
    unfold straitref15_Find.r0 at hh
    split at hh
    · exact cast (by kernel_rfl) hh
    · exact hh.elim
set_option maxRecDepth 100000 in
theorem straitref15_Find.eq (a1 : Option Addr) (a1l : Nat) (a1c : Nat) (a2 : Int) (a3 : Int) (h : Heap) (K : Int → Heap → Prop) : evF straitref15_Find.ctx Try.f17 straitref15_Find.ann [(.slice a1 a1l a1c), (.int .i64 a2), (.int .i64 a3)] h (straitref15_Find.ret K) = straitref15_Find a1 a1l a1c a2 a3 h K := by kernel_rfl
set_option maxRecDepth 100000 in
theorem straitref15_Find.calls {a1 : Option Addr} {a1l : Nat} {a1c : Nat} {a2 : Int} {a3 : Int} {h : Heap} {K : Int → Heap → Prop} (hh : straitref15_Find a1 a1l a1c a2 a3 h K) (w : World) (hw : w.heap = h) :
    (callFunc 17 #[(.slice a1 a1l a1c), (.int .i64 a2), (.int .i64 a3)]).run Try.prog w = .ok (.enter 17 #[(.slice a1 a1l a1c), (.int .i64 a2), (.int .i64 a3)]) w ∧ Calls Try.prog 17 #[(.slice a1 a1l a1c), (.int .i64 a2), (.int .i64 a3)] w fun e w' => ∃ v, e = .returned v ∧ Out w w' ∧ straitref15_Find.ret K v w'.heap := by
  rw [← straitref15_Find.eq] at hh
  exact fn_calls (args := [(.slice a1 a1l a1c), (.int .i64 a2), (.int .i64 a3)]) (c := straitref15_Find.code) straitref15_Find.ok Try.func17 (by kernel_rfl) (by kernel_rfl) (by kernel_rfl) (by kernel_rfl) (loops_ok (l := [(straitref15_Find.c0, none, 0, straitref15_Find.keep0, straitref15_Find.outs0)]) (by kernel_rfl) ⟨straitref15_Find.L0, trivial⟩) hh w hw

/-! ### strait/straitref01.Add: function 40 -/
def straitref01_Add (a1 : Int) (a2 : Int) (h : Heap) (K : Int → Bool → Heap → Prop) : Prop :=
  newP h (.cells #[(.int .i64 0), (.bool false)] 39) fun a3 h4 => ((let j11 := (fun (y5 : Int) (y6 : Bool) => iteB y6 (stC h4 a3 (.int .i64 0) fun h7 => stC h7 (a3.add 1) (.bool false) fun h8 => (∃ (x9 : Int), cell h8 a3 = some (.int .i64 x9) ∧ ∃ (x10 : Bool), cell h8 (a3.add 1) = some (.bool x10) ∧ K x9 x10 h8)) ((stC h4 a3 (.int .i64 y5) fun h12 => stC h12 (a3.add 1) (.bool true) fun h13 => (∃ (x14 : Int), cell h13 a3 = some (.int .i64 x14) ∧ ∃ (x15 : Bool), cell h13 (a3.add 1) = some (.bool x15) ∧ K x14 x15 h13))));
  iteB (decide (a2 ≥ (0 : Int))) (iteB (decide ((IntKind.i64.wrap (a1 + a2)) < a1)) ((j11 (IntKind.i64.wrap (a1 + a2)) true)) (iteB (decide (a2 < (0 : Int))) ((j11 (IntKind.i64.wrap (a1 + a2)) (decide ((IntKind.i64.wrap (a1 + a2)) > a1)))) ((j11 (IntKind.i64.wrap (a1 + a2)) false)))) (iteB (decide (a2 < (0 : Int))) ((j11 (IntKind.i64.wrap (a1 + a2)) (decide ((IntKind.i64.wrap (a1 + a2)) > a1)))) ((j11 (IntKind.i64.wrap (a1 + a2)) false)))))
def straitref01_Add.ret (K : Int → Bool → Heap → Prop) (v : Value) (h : Heap) : Prop := match v with
  | (.agg ⟨[(.int .i64 r16), (.bool r17)]⟩) => K r16 r17 h
  | _ => False
theorem straitref01_Add.ret_elim {K : Int → Bool → Heap → Prop} {K' : Value → Heap → Prop} {v : Value} {h : Heap} (hk : ∀ r16 r17 h, K r16 r17 h → K' (.agg #[(.int .i64 r16), (.bool r17)]) h) (hh : straitref01_Add.ret K v h) : K' v h := by
  unfold straitref01_Add.ret at hh
  split at hh
  · exact hk _ _ _ hh
  · exact hh.elim
noncomputable def straitref01_Add.ctx : Ctx := { P := Try.prog, call := fun _ _ _ _ => False, qcall := fun _ _ _ _ => False, quiet := fun f => Nat.beq f 1000062, loop := fun _ _ _ _ => False }
theorem straitref01_Add.ok : straitref01_Add.ctx.OK where
  mixed := by kernel_rfl
  mono := fun hh _ => hh.elim
  call := fun hh => hh.elim
  qmono := fun hh _ => hh.elim
  qval := fun hh => hh.elim
  qcall := fun hh => hh.elim
noncomputable def straitref01_Add.code : Code := (Try.f40.body).getD .skip
def straitref01_Add.ann : Ann := .auto
set_option maxRecDepth 100000 in
theorem straitref01_Add.eq (a1 : Int) (a2 : Int) (h : Heap) (K : Int → Bool → Heap → Prop) : evF straitref01_Add.ctx Try.f40 straitref01_Add.ann [(.int .i64 a1), (.int .i64 a2)] h (straitref01_Add.ret K) = straitref01_Add a1 a2 h K := by kernel_rfl
set_option maxRecDepth 100000 in
theorem straitref01_Add.calls {a1 : Int} {a2 : Int} {h : Heap} {K : Int → Bool → Heap → Prop} (hh : straitref01_Add a1 a2 h K) (w : World) (hw : w.heap = h) :
    (callFunc 40 #[(.int .i64 a1), (.int .i64 a2)]).run Try.prog w = .ok (.enter 40 #[(.int .i64 a1), (.int .i64 a2)]) w ∧ Calls Try.prog 40 #[(.int .i64 a1), (.int .i64 a2)] w fun e w' => ∃ v, e = .returned v ∧ Out w w' ∧ straitref01_Add.ret K v w'.heap := by
  rw [← straitref01_Add.eq] at hh
  exact fn_calls (args := [(.int .i64 a1), (.int .i64 a2)]) (c := straitref01_Add.code) straitref01_Add.ok Try.func40 (by kernel_rfl) (by kernel_rfl) (by kernel_rfl) (by kernel_rfl) (loops_ok (l := []) (by kernel_rfl) trivial) hh w hw

/-! ### strait/straitref01.Sum: function 31 -/
def straitref01_Sum.b0 (K2 : Heap → Prop) (cont : (Option Addr) → Nat → Nat → Addr → Addr → Int → Heap → Prop) (c0_1001 : Option Addr) (c0_1002 : Nat) (c0_1003 : Nat) (c2_1004 : Addr) (c3_1005 : Addr) (v4_1006 : Int) (h1007 : Heap) : Prop :=
  let j1018 : Prop := (∃ (x1010 : Int), cell h1007 c3_1005 = some (.int .i64 x1010) ∧ chkP c0_1001 fun a1011 => (0 ≤ v4_1006 ∧ v4_1006 < (c0_1002 : Int)) ∧ ∃ (x1012 : Int), cell h1007 (a1011.add (v4_1006.toNat * 1)) = some (.int .i64 x1012) ∧ callP2 (straitref01_Add x1010 x1012 h1007) fun x1013 x1014 h1015 => stC h1015 c3_1005 (.int .i64 x1013) fun h1016 => stC h1016 (c3_1005.add 1) (.bool x1014) fun h1017 => ((cont c0_1001 c0_1002 c0_1003 c2_1004 c3_1005 (IntKind.i64.wrap (v4_1006 + 1)) h1017)));
  iteB (decide (v4_1006 < (c0_1002 : Int))) (∃ (x1008 : Bool), cell h1007 (c3_1005.add 1) = some (.bool x1008) ∧ (iteB x1008 ((j1018)) (K2 h1007))) (K2 h1007)
def straitref01_Sum.l0 (K2 : Heap → Prop) : Nat → (Option Addr) → Nat → Nat → Addr → Addr → Int → Heap → Prop
  | 0, _, _, _, _, _, _, _ => False
  | m + 1, c0_1001, c0_1002, c0_1003, c2_1004, c3_1005, v4_1006, h => straitref01_Sum.b0 K2 (straitref01_Sum.l0 K2 m) c0_1001 c0_1002 c0_1003 c2_1004 c3_1005 v4_1006 h
def straitref01_Sum (a1 : Option Addr) (a1l : Nat) (a1c : Nat) (h : Heap) (K : Int → Bool → Heap → Prop) : Prop :=
  newP h (.cells #[(.int .i64 0), (.bool false)] 39) fun a2 h3 => (newP h3 (.cells #[(.int .i64 0), (.bool false)] 39) fun a4 h5 => stC h5 a4 (.int .i64 0) fun h6 => stC h6 (a4.add 1) (.bool true) fun h7 => ((∃ m9, straitref01_Sum.l0 (fun h8 => ((∃ (x10 : Int), cell h8 a4 = some (.int .i64 x10) ∧ ∃ (x11 : Bool), cell h8 (a4.add 1) = some (.bool x11) ∧ stC h8 a2 (.int .i64 x10) fun h12 => stC h12 (a2.add 1) (.bool x11) fun h13 => (∃ (x14 : Int), cell h13 a2 = some (.int .i64 x14) ∧ ∃ (x15 : Bool), cell h13 (a2.add 1) = some (.bool x15) ∧ K x14 x15 h13)))) m9 a1 a1l a1c a2 a4 0 h7)))
def straitref01_Sum.ret (K : Int → Bool → Heap → Prop) (v : Value) (h : Heap) : Prop := match v with
  | (.agg ⟨[(.int .i64 r16), (.bool r17)]⟩) => K r16 r17 h
  | _ => False
theorem straitref01_Sum.ret_elim {K : Int → Bool → Heap → Prop} {K' : Value → Heap → Prop} {v : Value} {h : Heap} (hk : ∀ r16 r17 h, K r16 r17 h → K' (.agg #[(.int .i64 r16), (.bool r17)]) h) (hh : straitref01_Sum.ret K v h) : K' v h := by
  unfold straitref01_Sum.ret at hh
  split at hh
  · exact hk _ _ _ hh
  · exact hh.elim
def straitref01_Sum.call (f : FuncId) (vs : List Value) (h : Heap) (K : Value → Heap → Prop) : Prop := match f, vs with
  | 40, [(.int .i64 a1), (.int .i64 a2)] => callP2 (straitref01_Add a1 a2 h) fun r16 r17 h' => K (.agg #[(.int .i64 r16), (.bool r17)]) h'
  | _, _ => False
def straitref01_Sum.r0 (K : Nat → List Value → Heap → Prop) (m : Nat) (vs : List Value) (h : Heap) : Prop := match vs with
  | [(.slice c0_1001 c0_1002 c0_1003), (.pointer (some c2_1004)), (.pointer (some c3_1005)), (.int .i64 v4_1006)] => straitref01_Sum.l0 (fun h' => K 2 [(.pointer (some c2_1004)), (.pointer (some c3_1005))] h') m c0_1001 c0_1002 c0_1003 c2_1004 c3_1005 v4_1006 h
  | _ => False
def straitref01_Sum.loop (i : Nat) (vs : List Value) (h : Heap) (K : Nat → List Value → Heap → Prop) : Prop := match i with
  | 0 => ∃ m, straitref01_Sum.r0 K m vs h
  | _ => False
noncomputable def straitref01_Sum.ctx : Ctx := { P := Try.prog, call := straitref01_Sum.call, qcall := fun _ _ _ _ => False, quiet := fun f => Nat.beq f 1000062, loop := straitref01_Sum.loop }
theorem straitref01_Sum.ok : straitref01_Sum.ctx.OK where
  mixed := by kernel_rfl
  mono := by
    intro f args h K K' hh hk
    change straitref01_Sum.call f args h K at hh
    change straitref01_Sum.call f args h K'
    unfold straitref01_Sum.call at hh ⊢
    split at hh
    · obtain ⟨R, h1, h2⟩ := hh
      exact ⟨R, h1, fun _ _ x hr => hk _ _ (h2 _ _ x hr)⟩
    · exact hh.elim
  call := by
    intro f args h K hh w hw
    change straitref01_Sum.call f args h K at hh
    unfold straitref01_Sum.call at hh
    split at hh
    · obtain ⟨R, h1, h2⟩ := hh
      obtain ⟨g1, g2⟩ := straitref01_Add.calls h1 w hw
      exact ⟨g1, g2.mono fun e w' ⟨v, he, ho, hr⟩ => ⟨v, he, ho, straitref01_Add.ret_elim h2 hr⟩⟩
    · exact hh.elim
  qmono := fun hh _ => hh.elim
  qval := fun hh => hh.elim
  qcall := fun hh => hh.elim
noncomputable def straitref01_Sum.code : Code := (Try.f31.body).getD .skip
def straitref01_Sum.ann : Ann := (.two .auto (.two .auto (.two (.two .auto (.two (.loop 0 [0, 2, 3, 4] [(2, [2, 3])] (.two .auto (.two (.two (.reg [0, 1, 0, 0, 12, 28, 63, 127] (.take 0 (.take 1 (.take 2 (.take 3 (.take 4 (.take 5 (.alt 6 (.alt 7 .done .noalt) .noalt)))))))) .auto) .auto))) .auto)) .auto)))
noncomputable def straitref01_Sum.c0 : Code := sub straitref01_Sum.code [1, 1, 0, 1, 0, 0]
def straitref01_Sum.a0 : Ann := (.two .auto (.two (.two (.reg [0, 1, 0, 0, 12, 28, 63, 127] (.take 0 (.take 1 (.take 2 (.take 3 (.take 4 (.take 5 (.alt 6 (.alt 7 .done .noalt) .noalt)))))))) .auto) .auto))
def straitref01_Sum.keep0 : List Nat := [0, 2, 3, 4]
def straitref01_Sum.outs0 : List (Nat × List Nat) := [(2, [2, 3])]
set_option maxRecDepth 100000 in
theorem straitref01_Sum.L0 : LoopOK straitref01_Sum.ctx 24 straitref01_Sum.c0 0 straitref01_Sum.keep0 straitref01_Sum.outs0 := by
  refine loop_ok (n := straitref01_Sum.a0) straitref01_Sum.ok (by kernel_rfl) (loops_ok (l := []) (by kernel_rfl) ?_) straitref01_Sum.r0 ?_ ?_ (fun vs h K hh => hh)
  · exact trivial
  · intro K vs h hh
    unfold straitref01_Sum.r0 at hh
    split at hh
    · exact hh
    · exact hh
  · intro K m vs h hh
    unfold straitref01_Sum.r0 at hh
    split at hh
    · exact cast (by kernel_rfl) hh
    · exact hh.elim
set_option maxRecDepth 100000 in
theorem straitref01_Sum.eq (a1 : Option Addr) (a1l : Nat) (a1c : Nat) (h : Heap) (K : Int → Bool → Heap → Prop) : evF straitref01_Sum.ctx Try.f31 straitref01_Sum.ann [(.slice a1 a1l a1c)] h (straitref01_Sum.ret K) = straitref01_Sum a1 a1l a1c h K := by kernel_rfl
set_option maxRecDepth 100000 in
theorem straitref01_Sum.calls {a1 : Option Addr} {a1l : Nat} {a1c : Nat} {h : Heap} {K : Int → Bool → Heap → Prop} (hh : straitref01_Sum a1 a1l a1c h K) (w : World) (hw : w.heap = h) :
    (callFunc 31 #[(.slice a1 a1l a1c)]).run Try.prog w = .ok (.enter 31 #[(.slice a1 a1l a1c)]) w ∧ Calls Try.prog 31 #[(.slice a1 a1l a1c)] w fun e w' => ∃ v, e = .returned v ∧ Out w w' ∧ straitref01_Sum.ret K v w'.heap := by
  rw [← straitref01_Sum.eq] at hh
  exact fn_calls (args := [(.slice a1 a1l a1c)]) (c := straitref01_Sum.code) straitref01_Sum.ok Try.func31 (by kernel_rfl) (by kernel_rfl) (by kernel_rfl) (by kernel_rfl) (loops_ok (l := [(straitref01_Sum.c0, none, 0, straitref01_Sum.keep0, straitref01_Sum.outs0)]) (by kernel_rfl) ⟨straitref01_Sum.L0, trivial⟩) hh w hw

/-! ### strait/straitref15.Total: function 18 -/
def straitref15_Total.b0 (K2 : (Option Addr) → Nat → Nat → Heap → Prop) (cont : (Option Addr) → Nat → Nat → Addr → (Option Addr) → Nat → Nat → Int → Heap → Prop) (c0_1001 : Option Addr) (c0_1002 : Nat) (c0_1003 : Nat) (c2_1004 : Addr) (v3_1005 : Option Addr) (v3_1005l : Nat) (v3_1005c : Nat) (v4_1006 : Int) (h1007 : Heap) : Prop :=
  (iteB (decide (v4_1006 < (c0_1002 : Int))) ((chkP c0_1001 fun a1008 => (0 ≤ v4_1006 ∧ v4_1006 < (c0_1002 : Int)) ∧ ∃ (x1009 : Int), cell h1007 ((a1008.add (v4_1006.toNat * 3)).add 2) = some (.int .i64 x1009) ∧ newP h1007 (.cells #[(.int .i64 x1009)] 2) fun a1010 h1011 => ∃ n1016, cellsAt h1011 (some a1010) (1 * 1) n1016 ∧ appP 2 1 8 [(.int .i64 0)] v3_1005 v3_1005l v3_1005c 1 n1016 h1011 fun q1012 l1013 c1014 h1015 => ((cont c0_1001 c0_1002 c0_1003 c2_1004 q1012 l1013 c1014 (IntKind.i64.wrap (v4_1006 + 1)) h1015)))) (K2 v3_1005 v3_1005l v3_1005c h1007))
def straitref15_Total.l0 (K2 : (Option Addr) → Nat → Nat → Heap → Prop) : Nat → (Option Addr) → Nat → Nat → Addr → (Option Addr) → Nat → Nat → Int → Heap → Prop
  | 0, _, _, _, _, _, _, _, _, _ => False
  | m + 1, c0_1001, c0_1002, c0_1003, c2_1004, v3_1005, v3_1005l, v3_1005c, v4_1006, h => straitref15_Total.b0 K2 (straitref15_Total.l0 K2 m) c0_1001 c0_1002 c0_1003 c2_1004 v3_1005 v3_1005l v3_1005c v4_1006 h
def straitref15_Total (a1 : Option Addr) (a1l : Nat) (a1c : Nat) (h : Heap) (K : Int → Bool → Heap → Prop) : Prop :=
  newP h (.cells #[(.int .i64 0), (.bool false)] 39) fun a2 h3 => (((∃ m6, straitref15_Total.l0 (fun z4 z4l z4c h5 => ((callP2 (straitref01_Sum z4 z4l z4c h5) fun x7 x8 h9 => stC h9 a2 (.int .i64 x7) fun h10 => stC h10 (a2.add 1) (.bool x8) fun h11 => (∃ (x12 : Int), cell h11 a2 = some (.int .i64 x12) ∧ ∃ (x13 : Bool), cell h11 (a2.add 1) = some (.bool x13) ∧ K x12 x13 h11)))) m6 a1 a1l a1c a2 none 0 0 0 h3)))
def straitref15_Total.ret (K : Int → Bool → Heap → Prop) (v : Value) (h : Heap) : Prop := match v with
  | (.agg ⟨[(.int .i64 r14), (.bool r15)]⟩) => K r14 r15 h
  | _ => False
theorem straitref15_Total.ret_elim {K : Int → Bool → Heap → Prop} {K' : Value → Heap → Prop} {v : Value} {h : Heap} (hk : ∀ r14 r15 h, K r14 r15 h → K' (.agg #[(.int .i64 r14), (.bool r15)]) h) (hh : straitref15_Total.ret K v h) : K' v h := by
  unfold straitref15_Total.ret at hh
  split at hh
  · exact hk _ _ _ hh
  · exact hh.elim
def straitref15_Total.call (f : FuncId) (vs : List Value) (h : Heap) (K : Value → Heap → Prop) : Prop := match f, vs with
  | 31, [(.slice a1 a1l a1c)] => callP2 (straitref01_Sum a1 a1l a1c h) fun r16 r17 h' => K (.agg #[(.int .i64 r16), (.bool r17)]) h'
  | _, _ => False
def straitref15_Total.r0 (K : Nat → List Value → Heap → Prop) (m : Nat) (vs : List Value) (h : Heap) : Prop := match vs with
  | [(.slice c0_1001 c0_1002 c0_1003), (.pointer (some c2_1004)), (.slice v3_1005 v3_1005l v3_1005c), (.int .i64 v4_1006)] => straitref15_Total.l0 (fun z16 z16l z16c h' => K 2 [(.pointer (some c2_1004)), (.slice z16 z16l z16c)] h') m c0_1001 c0_1002 c0_1003 c2_1004 v3_1005 v3_1005l v3_1005c v4_1006 h
  | _ => False
def straitref15_Total.loop (i : Nat) (vs : List Value) (h : Heap) (K : Nat → List Value → Heap → Prop) : Prop := match i with
  | 0 => ∃ m, straitref15_Total.r0 K m vs h
  | _ => False
noncomputable def straitref15_Total.ctx : Ctx := { P := Try.prog, call := straitref15_Total.call, qcall := fun _ _ _ _ => False, quiet := fun f => Nat.beq f 1000062, loop := straitref15_Total.loop }
theorem straitref15_Total.ok : straitref15_Total.ctx.OK where
  mixed := by kernel_rfl
  mono := by
    intro f args h K K' hh hk
    change straitref15_Total.call f args h K at hh
    change straitref15_Total.call f args h K'
    unfold straitref15_Total.call at hh ⊢
    split at hh
    · obtain ⟨R, h1, h2⟩ := hh
      exact ⟨R, h1, fun _ _ x hr => hk _ _ (h2 _ _ x hr)⟩
    · exact hh.elim
  call := by
    intro f args h K hh w hw
    change straitref15_Total.call f args h K at hh
    unfold straitref15_Total.call at hh
    split at hh
    · obtain ⟨R, h1, h2⟩ := hh
      obtain ⟨g1, g2⟩ := straitref01_Sum.calls h1 w hw
      exact ⟨g1, g2.mono fun e w' ⟨v, he, ho, hr⟩ => ⟨v, he, ho, straitref01_Sum.ret_elim h2 hr⟩⟩
    · exact hh.elim
  qmono := fun hh _ => hh.elim
  qval := fun hh => hh.elim
  qcall := fun hh => hh.elim
noncomputable def straitref15_Total.code : Code := (Try.f18.body).getD .skip
def straitref15_Total.ann : Ann := (.two .auto (.two .auto (.two (.two .auto (.two (.loop 0 [0, 2, 3, 4] [(2, [2, 3])] .auto) .auto)) .auto)))
noncomputable def straitref15_Total.c0 : Code := sub straitref15_Total.code [1, 1, 0, 1, 0, 0]
def straitref15_Total.a0 : Ann := .auto
def straitref15_Total.keep0 : List Nat := [0, 2, 3, 4]
def straitref15_Total.outs0 : List (Nat × List Nat) := [(2, [2, 3])]
set_option maxRecDepth 100000 in
theorem straitref15_Total.L0 : LoopOK straitref15_Total.ctx 21 straitref15_Total.c0 0 straitref15_Total.keep0 straitref15_Total.outs0 := by
  refine loop_ok (n := straitref15_Total.a0) straitref15_Total.ok (by kernel_rfl) (loops_ok (l := []) (by kernel_rfl) ?_) straitref15_Total.r0 ?_ ?_ (fun vs h K hh => hh)
  · exact trivial
  · intro K vs h hh
    unfold straitref15_Total.r0 at hh
    split at hh
    · exact hh
    · exact hh
  · intro K m vs h hh
    unfold straitref15_Total.r0 at hh
    split at hh
    · exact cast (by kernel_rfl) hh
    · exact hh.elim
set_option maxRecDepth 100000 in
theorem straitref15_Total.eq (a1 : Option Addr) (a1l : Nat) (a1c : Nat) (h : Heap) (K : Int → Bool → Heap → Prop) : evF straitref15_Total.ctx Try.f18 straitref15_Total.ann [(.slice a1 a1l a1c)] h (straitref15_Total.ret K) = straitref15_Total a1 a1l a1c h K := by kernel_rfl
set_option maxRecDepth 100000 in
theorem straitref15_Total.calls {a1 : Option Addr} {a1l : Nat} {a1c : Nat} {h : Heap} {K : Int → Bool → Heap → Prop} (hh : straitref15_Total a1 a1l a1c h K) (w : World) (hw : w.heap = h) :
    (callFunc 18 #[(.slice a1 a1l a1c)]).run Try.prog w = .ok (.enter 18 #[(.slice a1 a1l a1c)]) w ∧ Calls Try.prog 18 #[(.slice a1 a1l a1c)] w fun e w' => ∃ v, e = .returned v ∧ Out w w' ∧ straitref15_Total.ret K v w'.heap := by
  rw [← straitref15_Total.eq] at hh
  exact fn_calls (args := [(.slice a1 a1l a1c)]) (c := straitref15_Total.code) straitref15_Total.ok Try.func18 (by kernel_rfl) (by kernel_rfl) (by kernel_rfl) (by kernel_rfl) (loops_ok (l := [(straitref15_Total.c0, none, 0, straitref15_Total.keep0, straitref15_Total.outs0)]) (by kernel_rfl) ⟨straitref15_Total.L0, trivial⟩) hh w hw

/-! ### strait/straitlaw15.EdgeTells: function 3 -/
def straitlaw15_EdgeTells.b0 (K0 : Bool → Heap → Prop) (K2 : Heap → Prop) (cont : (Option Addr) → Nat → Nat → Addr → Int → Heap → Prop) (c1_1001 : Option Addr) (c1_1002 : Nat) (c1_1003 : Nat) (c5_1004 : Addr) (v9_1005 : Int) (h1006 : Heap) : Prop :=
  (iteB (decide (v9_1005 < (c1_1002 : Int))) ((∃ (x1007 : Int), cell h1006 c5_1004 = some (.int .i64 x1007) ∧ ∃ (x1008 : Int), cell h1006 (c5_1004.add 1) = some (.int .i64 x1008) ∧ ∃ (x1009 : Int), cell h1006 (c5_1004.add 2) = some (.int .i64 x1009) ∧ chkP c1_1001 fun a1010 => (0 ≤ v9_1005 ∧ v9_1005 < (c1_1002 : Int)) ∧ ∃ (x1011 : Int), cell h1006 (a1010.add (v9_1005.toNat * 3)) = some (.int .i64 x1011) ∧ ∃ (x1012 : Int), cell h1006 ((a1010.add (v9_1005.toNat * 3)).add 1) = some (.int .i64 x1012) ∧ ∃ (x1013 : Int), cell h1006 ((a1010.add (v9_1005.toNat * 3)).add 2) = some (.int .i64 x1013) ∧ chkP c1_1001 fun a1014 => (0 ≤ v9_1005 ∧ v9_1005 < (c1_1002 : Int)) ∧ ∃ (x1015 : Int), cell h1006 c5_1004 = some (.int .i64 x1015) ∧ ∃ (x1016 : Int), cell h1006 (c5_1004.add 1) = some (.int .i64 x1016) ∧ ∃ (x1017 : Int), cell h1006 (c5_1004.add 2) = some (.int .i64 x1017) ∧ ∃ (x1018 : Int), cell h1006 (a1014.add (v9_1005.toNat * 3)) = some (.int .i64 x1018) ∧ ∃ (x1019 : Int), cell h1006 ((a1014.add (v9_1005.toNat * 3)).add 1) = some (.int .i64 x1019) ∧ ∃ (x1020 : Int), cell h1006 ((a1014.add (v9_1005.toNat * 3)).add 2) = some (.int .i64 x1020) ∧ callP1 (edge_Cmp x1007 x1008 x1009 x1011 x1012 x1013 h1006) fun x1021 h1022 => (∃ (x1023 : Int), cell h1022 (a1014.add (v9_1005.toNat * 3)) = some (.int .i64 x1023) ∧ ∃ (x1024 : Int), cell h1022 ((a1014.add (v9_1005.toNat * 3)).add 1) = some (.int .i64 x1024) ∧ ∃ (x1025 : Int), cell h1022 ((a1014.add (v9_1005.toNat * 3)).add 2) = some (.int .i64 x1025) ∧ ((.agg #[(.int .i64 x1023), (.int .i64 x1024), (.int .i64 x1025)]) : Value) = (.agg #[(.int .i64 x1018), (.int .i64 x1019), (.int .i64 x1020)])) ∧ (∃ (x1026 : Int), cell h1022 c5_1004 = some (.int .i64 x1026) ∧ ∃ (x1027 : Int), cell h1022 (c5_1004.add 1) = some (.int .i64 x1027) ∧ ∃ (x1028 : Int), cell h1022 (c5_1004.add 2) = some (.int .i64 x1028) ∧ ((.agg #[(.int .i64 x1026), (.int .i64 x1027), (.int .i64 x1028)]) : Value) = (.agg #[(.int .i64 x1015), (.int .i64 x1016), (.int .i64 x1017)])) ∧ callP1 (straitref15_Cmp x1015 x1016 x1017 x1018 x1019 x1020 h1022) fun x1029 h1030 => (iteB (x1021 != x1029) (K0 false h1030) (((cont c1_1001 c1_1002 c1_1003 c5_1004 (IntKind.i64.wrap (v9_1005 + 1)) h1030)))))) (K2 h1006))
def straitlaw15_EdgeTells.l0 (K0 : Bool → Heap → Prop) (K2 : Heap → Prop) : Nat → (Option Addr) → Nat → Nat → Addr → Int → Heap → Prop
  | 0, _, _, _, _, _, _ => False
  | m + 1, c1_1001, c1_1002, c1_1003, c5_1004, v9_1005, h => straitlaw15_EdgeTells.b0 K0 K2 (straitlaw15_EdgeTells.l0 K0 K2 m) c1_1001 c1_1002 c1_1003 c5_1004 v9_1005 h
def straitlaw15_EdgeTells (a1 : Int) (a2 : Option Addr) (a2l : Nat) (a2c : Nat) (a3 : Int) (a4 : Int) (a5 : Int) (h : Heap) (K : Bool → Heap → Prop) : Prop :=
  newP h (.cells #[(.int .i64 a3), (.int .i64 a4), (.int .i64 a5)] 24) fun a6 h7 => ((iteB (decide ((a2l : Int) > (100 : Int))) (callP1 (straitlaw15_awake h7) fun x8 h9 => K x8 h9) ((callP2 (edge_Checks a1 a2 a2l a2c h7) fun x10 x11 h12 => (let j72 := (fun (h48 : Heap) => (∃ m52, straitlaw15_EdgeTells.l0 (fun z49 h50 => K z49 h50) (fun h51 => ((callP2 (edge_Total a2 a2l a2c h51) fun x53 x54 h55 => (∃ (x56 : Int), cell h55 a6 = some (.int .i64 x56) ∧ ∃ (x57 : Int), cell h55 (a6.add 1) = some (.int .i64 x57) ∧ ∃ (x58 : Int), cell h55 a6 = some (.int .i64 x58) ∧ ∃ (x59 : Int), cell h55 (a6.add 1) = some (.int .i64 x59) ∧ callP1 (edge_Find a2 a2l a2c x56 x57 h55) fun x60 h61 => (∃ (x62 : Int), cell h61 (a6.add 1) = some (.int .i64 x62) ∧ ((.int .i64 x62) : Value) = (.int .i64 x59)) ∧ (∃ (x63 : Int), cell h61 a6 = some (.int .i64 x63) ∧ ((.int .i64 x63) : Value) = (.int .i64 x58)) ∧ qcallP1 h61 (straitref15_Find a2 a2l a2c x58 x59 h61) fun x64 => iteB (x60 == x64) (callP2 (straitref15_Total a2 a2l a2c h61) fun x65 x66 h67 => iteB (eqAll [(x65 == x53), (x66 == x54)]) (callP1 (straitlaw15_awake h67) fun x68 h69 => K x68 h69) (K false h67)) (K false h61))))) m52 a2 a2l a2c a6 0 h48));
  callP2 (straitref15_Checks a1 a2 a2l a2c h12) fun x13 x14 h15 => iteB (!(eqAll [(x13 == x10), (x14 == x11)])) (True ∧ True ∧ K false h15) (∃ (x16 : Int), cell h15 a6 = some (.int .i64 x16) ∧ ∃ (x17 : Int), cell h15 (a6.add 1) = some (.int .i64 x17) ∧ ∃ (x18 : Int), cell h15 (a6.add 2) = some (.int .i64 x18) ∧ ∃ (x19 : Int), cell h15 a6 = some (.int .i64 x19) ∧ ∃ (x20 : Int), cell h15 (a6.add 1) = some (.int .i64 x20) ∧ ∃ (x21 : Int), cell h15 (a6.add 2) = some (.int .i64 x21) ∧ callP1 (edge_Check a1 x16 x17 x18 h15) fun x22 h23 => (∃ (x24 : Int), cell h23 a6 = some (.int .i64 x24) ∧ ∃ (x25 : Int), cell h23 (a6.add 1) = some (.int .i64 x25) ∧ ∃ (x26 : Int), cell h23 (a6.add 2) = some (.int .i64 x26) ∧ ((.agg #[(.int .i64 x24), (.int .i64 x25), (.int .i64 x26)]) : Value) = (.agg #[(.int .i64 x19), (.int .i64 x20), (.int .i64 x21)])) ∧ callP1 (straitref15_Check a1 x19 x20 x21 h23) fun x27 h28 => iteB (x22 != x27) (True ∧ K false h28) (∃ (x29 : Int), cell h28 a6 = some (.int .i64 x29) ∧ ∃ (x30 : Int), cell h28 (a6.add 1) = some (.int .i64 x30) ∧ ∃ (x31 : Int), cell h28 (a6.add 2) = some (.int .i64 x31) ∧ ∃ (x32 : Int), cell h28 a6 = some (.int .i64 x32) ∧ ∃ (x33 : Int), cell h28 (a6.add 1) = some (.int .i64 x33) ∧ ∃ (x34 : Int), cell h28 (a6.add 2) = some (.int .i64 x34) ∧ callP3 (edge_Normal x29 x30 x31 h28) fun x35 x36 x37 h38 => (∃ (x39 : Int), cell h38 a6 = some (.int .i64 x39) ∧ ∃ (x40 : Int), cell h38 (a6.add 1) = some (.int .i64 x40) ∧ ∃ (x41 : Int), cell h38 (a6.add 2) = some (.int .i64 x41) ∧ ((.agg #[(.int .i64 x39), (.int .i64 x40), (.int .i64 x41)]) : Value) = (.agg #[(.int .i64 x32), (.int .i64 x33), (.int .i64 x34)])) ∧ callP3 (straitref15_Normal x32 x33 x34 h38) fun x42 x43 x44 h45 => (iteB (!(eqAll [(x35 == x42), (x36 == x43), (x37 == x44)])) (K false h45) ((j72 h45))))))))))
def straitlaw15_EdgeTells.ret (K : Bool → Heap → Prop) (v : Value) (h : Heap) : Prop := match v with
  | (.bool r73) => K r73 h
  | _ => False
theorem straitlaw15_EdgeTells.ret_elim {K : Bool → Heap → Prop} {K' : Value → Heap → Prop} {v : Value} {h : Heap} (hk : ∀ r73 h, K r73 h → K' (.bool r73) h) (hh : straitlaw15_EdgeTells.ret K v h) : K' v h := by
  unfold straitlaw15_EdgeTells.ret at hh
  split at hh
  · exact hk _ _ hh
  · exact hh.elim
def straitlaw15_EdgeTells.call (f : FuncId) (vs : List Value) (h : Heap) (K : Value → Heap → Prop) : Prop := match f, vs with
  | 6, [] => callP1 (straitlaw15_awake h) fun r26 h' => K (.bool r26) h'
  | 7, [(.int .i64 a1), (.slice a2 a2l a2c)] => callP2 (edge_Checks a1 a2 a2l a2c h) fun r8 r9 h' => K (.tuple #[(.int .i64 r8), (.int .i64 r9)]) h'
  | 8, [(.int .i64 a1), (.slice a2 a2l a2c)] => callP2 (straitref15_Checks a1 a2 a2l a2c h) fun r14 r15 h' => K (.agg #[(.int .i64 r14), (.int .i64 r15)]) h'
  | 9, [(.int .i64 a1), (.agg ⟨[(.int .i64 a2), (.int .i64 a3), (.int .i64 a4)]⟩)] => callP1 (edge_Check a1 a2 a3 a4 h) fun r16 h' => K (.int .i64 r16) h'
  | 10, [(.int .i64 a1), (.agg ⟨[(.int .i64 a2), (.int .i64 a3), (.int .i64 a4)]⟩)] => callP1 (straitref15_Check a1 a2 a3 a4 h) fun r21 h' => K (.int .i64 r21) h'
  | 11, [(.agg ⟨[(.int .i64 a1), (.int .i64 a2), (.int .i64 a3)]⟩)] => callP3 (edge_Normal a1 a2 a3 h) fun r25 r26 r27 h' => K (.agg #[(.int .i64 r25), (.int .i64 r26), (.int .i64 r27)]) h'
  | 12, [(.agg ⟨[(.int .i64 a1), (.int .i64 a2), (.int .i64 a3)]⟩)] => callP3 (straitref15_Normal a1 a2 a3 h) fun r28 r29 r30 h' => K (.agg #[(.int .i64 r28), (.int .i64 r29), (.int .i64 r30)]) h'
  | 13, [(.agg ⟨[(.int .i64 a1), (.int .i64 a2), (.int .i64 a3)]⟩), (.agg ⟨[(.int .i64 a4), (.int .i64 a5), (.int .i64 a6)]⟩)] => callP1 (edge_Cmp a1 a2 a3 a4 a5 a6 h) fun r23 h' => K (.int .i64 r23) h'
  | 14, [(.agg ⟨[(.int .i64 a1), (.int .i64 a2), (.int .i64 a3)]⟩), (.agg ⟨[(.int .i64 a4), (.int .i64 a5), (.int .i64 a6)]⟩)] => callP1 (straitref15_Cmp a1 a2 a3 a4 a5 a6 h) fun r82 h' => K (.int .i64 r82) h'
  | 15, [(.slice a1 a1l a1c)] => callP2 (edge_Total a1 a1l a1c h) fun r8 r9 h' => K (.tuple #[(.int .i64 r8), (.bool r9)]) h'
  | 16, [(.slice a1 a1l a1c), (.int .i64 a2), (.int .i64 a3)] => callP1 (edge_Find a1 a1l a1c a2 a3 h) fun r15 h' => K (.int .i64 r15) h'
  | 18, [(.slice a1 a1l a1c)] => callP2 (straitref15_Total a1 a1l a1c h) fun r14 r15 h' => K (.agg #[(.int .i64 r14), (.bool r15)]) h'
  | _, _ => False
def straitlaw15_EdgeTells.qcall (f : FuncId) (vs : List Value) (h : Heap) (K : Value → Prop) : Prop := match f, vs with
  | 17, [(.slice a1 a1l a1c), (.int .i64 a2), (.int .i64 a3)] => qcallP1 h (straitref15_Find a1 a1l a1c a2 a3 h) fun r8 => K (.int .i64 r8)
  | _, _ => False
def straitlaw15_EdgeTells.r0 (K : Nat → List Value → Heap → Prop) (m : Nat) (vs : List Value) (h : Heap) : Prop := match vs with
  | [(.slice c1_1001 c1_1002 c1_1003), (.pointer (some c5_1004)), (.int .i64 v9_1005)] => straitlaw15_EdgeTells.l0 (fun z74 h' => K 0 [(.bool z74)] h') (fun h' => K 2 [(.slice c1_1001 c1_1002 c1_1003), (.pointer (some c5_1004))] h') m c1_1001 c1_1002 c1_1003 c5_1004 v9_1005 h
  | _ => False
def straitlaw15_EdgeTells.loop (i : Nat) (vs : List Value) (h : Heap) (K : Nat → List Value → Heap → Prop) : Prop := match i with
  | 0 => ∃ m, straitlaw15_EdgeTells.r0 K m vs h
  | _ => False
noncomputable def straitlaw15_EdgeTells.ctx : Ctx := { P := Try.prog, call := straitlaw15_EdgeTells.call, qcall := straitlaw15_EdgeTells.qcall, quiet := fun f => Nat.beq f 17 || Nat.beq f 1000062, loop := straitlaw15_EdgeTells.loop }
theorem straitlaw15_EdgeTells.ok : straitlaw15_EdgeTells.ctx.OK where
  mixed := by kernel_rfl
  mono := by
    intro f args h K K' hh hk
    change straitlaw15_EdgeTells.call f args h K at hh
    change straitlaw15_EdgeTells.call f args h K'
    unfold straitlaw15_EdgeTells.call at hh ⊢
    split at hh
    · obtain ⟨R, h1, h2⟩ := hh
      exact ⟨R, h1, fun _ x hr => hk _ _ (h2 _ x hr)⟩
    · obtain ⟨R, h1, h2⟩ := hh
      exact ⟨R, h1, fun _ _ x hr => hk _ _ (h2 _ _ x hr)⟩
    · obtain ⟨R, h1, h2⟩ := hh
      exact ⟨R, h1, fun _ _ x hr => hk _ _ (h2 _ _ x hr)⟩
    · obtain ⟨R, h1, h2⟩ := hh
      exact ⟨R, h1, fun _ x hr => hk _ _ (h2 _ x hr)⟩
    · obtain ⟨R, h1, h2⟩ := hh
      exact ⟨R, h1, fun _ x hr => hk _ _ (h2 _ x hr)⟩
    · obtain ⟨R, h1, h2⟩ := hh
      exact ⟨R, h1, fun _ _ _ x hr => hk _ _ (h2 _ _ _ x hr)⟩
    · obtain ⟨R, h1, h2⟩ := hh
      exact ⟨R, h1, fun _ _ _ x hr => hk _ _ (h2 _ _ _ x hr)⟩
    · obtain ⟨R, h1, h2⟩ := hh
      exact ⟨R, h1, fun _ x hr => hk _ _ (h2 _ x hr)⟩
    · obtain ⟨R, h1, h2⟩ := hh
      exact ⟨R, h1, fun _ x hr => hk _ _ (h2 _ x hr)⟩
    · obtain ⟨R, h1, h2⟩ := hh
      exact ⟨R, h1, fun _ _ x hr => hk _ _ (h2 _ _ x hr)⟩
    · obtain ⟨R, h1, h2⟩ := hh
      exact ⟨R, h1, fun _ x hr => hk _ _ (h2 _ x hr)⟩
    · obtain ⟨R, h1, h2⟩ := hh
      exact ⟨R, h1, fun _ _ x hr => hk _ _ (h2 _ _ x hr)⟩
    · exact hh.elim
  call := by
    intro f args h K hh w hw
    change straitlaw15_EdgeTells.call f args h K at hh
    unfold straitlaw15_EdgeTells.call at hh
    split at hh
    · obtain ⟨R, h1, h2⟩ := hh
      obtain ⟨g1, g2⟩ := straitlaw15_awake.calls h1 w hw
      exact ⟨g1, g2.mono fun e w' ⟨v, he, ho, hr⟩ => ⟨v, he, ho, straitlaw15_awake.ret_elim h2 hr⟩⟩
    · obtain ⟨R, h1, h2⟩ := hh
      obtain ⟨g1, g2⟩ := edge_Checks.calls h1 w hw
      exact ⟨g1, g2.mono fun e w' ⟨v, he, ho, hr⟩ => ⟨v, he, ho, edge_Checks.ret_elim h2 hr⟩⟩
    · obtain ⟨R, h1, h2⟩ := hh
      obtain ⟨g1, g2⟩ := straitref15_Checks.calls h1 w hw
      exact ⟨g1, g2.mono fun e w' ⟨v, he, ho, hr⟩ => ⟨v, he, ho, straitref15_Checks.ret_elim h2 hr⟩⟩
    · obtain ⟨R, h1, h2⟩ := hh
      obtain ⟨g1, g2⟩ := edge_Check.calls h1 w hw
      exact ⟨g1, g2.mono fun e w' ⟨v, he, ho, hr⟩ => ⟨v, he, ho, edge_Check.ret_elim h2 hr⟩⟩
    · obtain ⟨R, h1, h2⟩ := hh
      obtain ⟨g1, g2⟩ := straitref15_Check.calls h1 w hw
      exact ⟨g1, g2.mono fun e w' ⟨v, he, ho, hr⟩ => ⟨v, he, ho, straitref15_Check.ret_elim h2 hr⟩⟩
    · obtain ⟨R, h1, h2⟩ := hh
      obtain ⟨g1, g2⟩ := edge_Normal.calls h1 w hw
      exact ⟨g1, g2.mono fun e w' ⟨v, he, ho, hr⟩ => ⟨v, he, ho, edge_Normal.ret_elim h2 hr⟩⟩
    · obtain ⟨R, h1, h2⟩ := hh
      obtain ⟨g1, g2⟩ := straitref15_Normal.calls h1 w hw
      exact ⟨g1, g2.mono fun e w' ⟨v, he, ho, hr⟩ => ⟨v, he, ho, straitref15_Normal.ret_elim h2 hr⟩⟩
    · obtain ⟨R, h1, h2⟩ := hh
      obtain ⟨g1, g2⟩ := edge_Cmp.calls h1 w hw
      exact ⟨g1, g2.mono fun e w' ⟨v, he, ho, hr⟩ => ⟨v, he, ho, edge_Cmp.ret_elim h2 hr⟩⟩
    · obtain ⟨R, h1, h2⟩ := hh
      obtain ⟨g1, g2⟩ := straitref15_Cmp.calls h1 w hw
      exact ⟨g1, g2.mono fun e w' ⟨v, he, ho, hr⟩ => ⟨v, he, ho, straitref15_Cmp.ret_elim h2 hr⟩⟩
    · obtain ⟨R, h1, h2⟩ := hh
      obtain ⟨g1, g2⟩ := edge_Total.calls h1 w hw
      exact ⟨g1, g2.mono fun e w' ⟨v, he, ho, hr⟩ => ⟨v, he, ho, edge_Total.ret_elim h2 hr⟩⟩
    · obtain ⟨R, h1, h2⟩ := hh
      obtain ⟨g1, g2⟩ := edge_Find.calls h1 w hw
      exact ⟨g1, g2.mono fun e w' ⟨v, he, ho, hr⟩ => ⟨v, he, ho, edge_Find.ret_elim h2 hr⟩⟩
    · obtain ⟨R, h1, h2⟩ := hh
      obtain ⟨g1, g2⟩ := straitref15_Total.calls h1 w hw
      exact ⟨g1, g2.mono fun e w' ⟨v, he, ho, hr⟩ => ⟨v, he, ho, straitref15_Total.ret_elim h2 hr⟩⟩
    · exact hh.elim
  qmono := by
    intro f args h K K' hh hk
    change straitlaw15_EdgeTells.qcall f args h K at hh
    change straitlaw15_EdgeTells.qcall f args h K'
    unfold straitlaw15_EdgeTells.qcall at hh ⊢
    split at hh
    · obtain ⟨x0, h1, h2⟩ := hh
      exact ⟨x0, h1, hk _ h2⟩
    · exact hh.elim
  qval := by
    intro f args h K hh
    change straitlaw15_EdgeTells.qcall f args h K at hh
    suffices H : ∃ v, K v ∧ straitlaw15_EdgeTells.qcall f args h (· = v) from H
    unfold straitlaw15_EdgeTells.qcall at hh ⊢
    split at hh
    · obtain ⟨x0, h1, h2⟩ := hh
      exact ⟨_, h2, x0, h1, rfl⟩
    · exact hh.elim
  qcall := by
    intro f args h v hh w hw
    change straitlaw15_EdgeTells.qcall f args h (· = v) at hh
    unfold straitlaw15_EdgeTells.qcall at hh
    split at hh
    · obtain ⟨x0, h1, h2⟩ := hh
      obtain ⟨g1, g2⟩ := straitref15_Find.calls h1 w hw
      refine .inl ⟨g1, g2.mono fun e w' ⟨u, he, ho, hr⟩ => ?_⟩
      have hq := straitref15_Find.ret_elim (K' := fun u h' => u = v ∧ h' = h) (fun _ h' hr => by obtain ⟨rfl, rfl⟩ := hr; exact ⟨h2, rfl⟩) hr
      exact ⟨hq.1 ▸ he, ho, hq.2⟩
    · exact hh.elim
noncomputable def straitlaw15_EdgeTells.code : Code := (Try.f3.body).getD .skip
def straitlaw15_EdgeTells.ann : Ann := (.two .auto (.two .auto (.two .auto (.two (.two (.reg [0, 0, 3, 0, 0, 24, 63, 127, 255, 255, 1023, 255, 255, 8191, 16383, 32767, 65535, 131071, 262143, 131071, 1048575, 2097151, 4194303] (.take 0 (.take 1 (.take 3 (.take 4 (.take 5 (.alt 2 (.take 6 (.take 7 (.take 8 (.take 9 (.take 11 (.early 12 (.alt 10 (.alt 13 (.take 14 (.take 15 (.take 16 (.take 17 (.early 19 (.alt 18 (.alt 20 (.take 21 (.take 22 .done)) .noalt) .noalt)))))) .noalt) .noalt))))))) .noalt))))))) .auto) (.two (.two .auto (.two (.loop 0 [1, 5, 9] [(2, [1, 5]), (0, [6])] (.two .auto (.two (.two (.two (.reg [0, 0, 0, 6, 14, 31, 0, 0, 0, 384, 896, 2047, 4095] (.take 0 (.take 1 (.take 2 (.take 3 (.take 4 (.take 7 (.take 8 (.take 9 (.early 6 (.early 10 (.alt 5 (.alt 11 (.take 12 .done) .noalt) .noalt)))))))))))) .auto) .auto) .auto))) .auto)) (.two .auto (.two (.reg [0, 0, 2, 0, 8, 31, 0, 0, 128, 0, 512, 2047, 4095, 8191, 16383, 32767, 16383, 16383, 212991, 524287, 1048575, 2097151, 4194303, 8388607, 16777215] (.take 0 (.take 1 (.take 2 (.take 3 (.take 4 (.take 6 (.take 7 (.take 9 (.early 8 (.early 10 (.alt 5 (.take 11 (.take 12 (.take 13 (.take 14 (.take 16 (.take 17 (.take 18 (.alt 15 (.take 19 (.take 20 (.take 21 (.alt 22 (.take 23 (.take 24 .done)) .noalt)))) .noalt)))))))) .noalt)))))))))))) .auto)))))))
noncomputable def straitlaw15_EdgeTells.c0 : Code := sub straitlaw15_EdgeTells.code [1, 1, 1, 1, 0, 1, 0, 0]
def straitlaw15_EdgeTells.a0 : Ann := (.two .auto (.two (.two (.two (.reg [0, 0, 0, 6, 14, 31, 0, 0, 0, 384, 896, 2047, 4095] (.take 0 (.take 1 (.take 2 (.take 3 (.take 4 (.take 7 (.take 8 (.take 9 (.early 6 (.early 10 (.alt 5 (.alt 11 (.take 12 .done) .noalt) .noalt)))))))))))) .auto) .auto) .auto))
def straitlaw15_EdgeTells.keep0 : List Nat := [1, 5, 9]
def straitlaw15_EdgeTells.outs0 : List (Nat × List Nat) := [(2, [1, 5]), (0, [6])]
set_option maxRecDepth 100000 in
theorem straitlaw15_EdgeTells.L0 : LoopOK straitlaw15_EdgeTells.ctx 93 straitlaw15_EdgeTells.c0 0 straitlaw15_EdgeTells.keep0 straitlaw15_EdgeTells.outs0 := by
  refine loop_ok (n := straitlaw15_EdgeTells.a0) straitlaw15_EdgeTells.ok (by kernel_rfl) (loops_ok (l := []) (by kernel_rfl) ?_) straitlaw15_EdgeTells.r0 ?_ ?_ (fun vs h K hh => hh)
  · exact trivial
  · intro K vs h hh
    unfold straitlaw15_EdgeTells.r0 at hh
    split at hh
    · exact hh
    · exact hh
  · intro K m vs h hh
    unfold straitlaw15_EdgeTells.r0 at hh
    split at hh
    · exact cast (by kernel_rfl) hh
    · exact hh.elim
set_option maxRecDepth 100000 in
theorem straitlaw15_EdgeTells.eq (a1 : Int) (a2 : Option Addr) (a2l : Nat) (a2c : Nat) (a3 : Int) (a4 : Int) (a5 : Int) (h : Heap) (K : Bool → Heap → Prop) : evF straitlaw15_EdgeTells.ctx Try.f3 straitlaw15_EdgeTells.ann [(.int .i64 a1), (.slice a2 a2l a2c), (.agg #[(.int .i64 a3), (.int .i64 a4), (.int .i64 a5)])] h (straitlaw15_EdgeTells.ret K) = straitlaw15_EdgeTells a1 a2 a2l a2c a3 a4 a5 h K := by kernel_rfl
set_option maxRecDepth 100000 in
theorem straitlaw15_EdgeTells.calls {a1 : Int} {a2 : Option Addr} {a2l : Nat} {a2c : Nat} {a3 : Int} {a4 : Int} {a5 : Int} {h : Heap} {K : Bool → Heap → Prop} (hh : straitlaw15_EdgeTells a1 a2 a2l a2c a3 a4 a5 h K) (w : World) (hw : w.heap = h) :
    (callFunc 3 #[(.int .i64 a1), (.slice a2 a2l a2c), (.agg #[(.int .i64 a3), (.int .i64 a4), (.int .i64 a5)])]).run Try.prog w = .ok (.enter 3 #[(.int .i64 a1), (.slice a2 a2l a2c), (.agg #[(.int .i64 a3), (.int .i64 a4), (.int .i64 a5)])]) w ∧ Calls Try.prog 3 #[(.int .i64 a1), (.slice a2 a2l a2c), (.agg #[(.int .i64 a3), (.int .i64 a4), (.int .i64 a5)])] w fun e w' => ∃ v, e = .returned v ∧ Out w w' ∧ straitlaw15_EdgeTells.ret K v w'.heap := by
  rw [← straitlaw15_EdgeTells.eq] at hh
  exact fn_calls (args := [(.int .i64 a1), (.slice a2 a2l a2c), (.agg #[(.int .i64 a3), (.int .i64 a4), (.int .i64 a5)])]) (c := straitlaw15_EdgeTells.code) straitlaw15_EdgeTells.ok Try.func3 (by kernel_rfl) (by kernel_rfl) (by kernel_rfl) (by kernel_rfl) (loops_ok (l := [(straitlaw15_EdgeTells.c0, none, 0, straitlaw15_EdgeTells.keep0, straitlaw15_EdgeTells.outs0)]) (by kernel_rfl) ⟨straitlaw15_EdgeTells.L0, trivial⟩) hh w hw

end Go.Proofs.Ytapjbmfgmnhpdaa
