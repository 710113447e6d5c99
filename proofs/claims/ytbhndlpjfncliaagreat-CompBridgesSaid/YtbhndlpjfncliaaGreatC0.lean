/- WRITTEN BY A PROGRAM OF THIS SESSION (gen.py): what each function asks of memory, and that the model's run comes to it. -/
import Derived.Test.YtbhndlpjfncliaaGreatProg
import Derived.Test.YtbhndlpjfncliaaGreatFw8
import Derived.Test.YtbhndlpjfncliaaGreatG2
namespace Go.Proofs.YtbhndlpjfncliaaGreat
open Go.Hp
set_option linter.unusedVariables false
set_option linter.unusedSimpArgs false
set_option linter.unusedSectionVars false

/-! ### strait/comp.joined: function 48 -/
def comp_joined.b0 (K2 : Heap → Prop) (cont : Int → (Option Addr) → (Option Addr) → (Option Addr) → Nat → Nat → Int → Int → Heap → Prop) (c1_1001 : Int) (c5_1002 : Option Addr) (c6_1003 : Option Addr) (c15_1004 : Option Addr) (c15_1005 : Nat) (c15_1006 : Nat) (c16_1007 : Int) (v17_1008 : Int) (h1009 : Heap) : Prop :=
  (iteB (decide (v17_1008 < c16_1007)) ((chkP c15_1004 fun a1010 => (0 ≤ v17_1008 ∧ v17_1008 < (c15_1005 : Int)) ∧ ∃ (x1011 : Int), cell h1009 (a1010.add (v17_1008.toNat * 3)) = some (.int .i64 x1011) ∧ ∃ (x1012 : Int), cell h1009 ((a1010.add (v17_1008.toNat * 3)).add 1) = some (.int .i64 x1012) ∧ ∃ (x1013 : Int), cell h1009 ((a1010.add (v17_1008.toNat * 3)).add 2) = some (.int .i64 x1013) ∧ newP h1009 (.cells #[(.int .i64 0), (.int .i64 0), (.int .i64 0)] 82) fun a1014 h1015 => stC h1015 a1014 (.int .i64 x1011) fun h1016 => stC h1016 (a1014.add 1) (.int .i64 x1012) fun h1017 => stC h1017 (a1014.add 2) (.int .i64 x1013) fun h1018 => (∃ (x1019 : Int), cell h1018 (a1014.add 2) = some (.int .i64 x1019) ∧ (iteB (decide (x1019 ≥ c1_1001)) (∃ (x1020 : Int), cell h1018 a1014 = some (.int .i64 x1020) ∧ ∃ (x1021 : Int), cell h1018 (a1014.add 1) = some (.int .i64 x1021) ∧ callP1 (dsu_Classes_Join c6_1003 x1020 x1021 h1018) fun x1022 h1023 => ((cont c1_1001 c5_1002 c6_1003 c15_1004 c15_1005 c15_1006 c16_1007 (IntKind.i64.wrap (v17_1008 + 1)) h1023))) (((cont c1_1001 c5_1002 c6_1003 c15_1004 c15_1005 c15_1006 c16_1007 (IntKind.i64.wrap (v17_1008 + 1)) h1018))))))) (K2 h1009))
def comp_joined.l0 (K2 : Heap → Prop) : Nat → Int → (Option Addr) → (Option Addr) → (Option Addr) → Nat → Nat → Int → Int → Heap → Prop
  | 0, _, _, _, _, _, _, _, _, _ => False
  | m + 1, c1_1001, c5_1002, c6_1003, c15_1004, c15_1005, c15_1006, c16_1007, v17_1008, h => comp_joined.b0 K2 (comp_joined.l0 K2 m) c1_1001 c5_1002 c6_1003 c15_1004 c15_1005 c15_1006 c16_1007 v17_1008 h
def comp_joined (a1 : Option Addr) (a2 : Int) (h : Heap) (K : (Option Addr) → Heap → Prop) : Prop :=
  (qcallP1 h (net_Net_N a1 h) fun x3 => callP1 (dsu_New x3 h) fun x4 h5 => ((callP3 (net_Net_Edges a1 h5) fun x6 x6l x6c h7 => (∃ m9, comp_joined.l0 (fun h8 => (K x4 h8)) m9 a2 x4 x4 x6 x6l x6c (x6l : Int) 0 h7))))
def comp_joined.ret (K : (Option Addr) → Heap → Prop) (v : Value) (h : Heap) : Prop := match v with
  | (.pointer r10) => K r10 h
  | _ => False
theorem comp_joined.ret_elim {K : (Option Addr) → Heap → Prop} {K' : Value → Heap → Prop} {v : Value} {h : Heap} (hk : ∀ r10 h, K r10 h → K' (.pointer r10) h) (hh : comp_joined.ret K v h) : K' v h := by
  unfold comp_joined.ret at hh
  split at hh
  · exact hk _ _ hh
  · exact hh.elim
def comp_joined.call (f : FuncId) (vs : List Value) (h : Heap) (K : Value → Heap → Prop) : Prop := match f, vs with
  | 46, [(.pointer a1)] => callP3 (net_Net_Edges a1 h) fun r6 r6l r6c h' => K (.slice r6 r6l r6c) h'
  | 62, [(.int .i64 a1)] => callP1 (dsu_New a1 h) fun r50 h' => K (.pointer r50) h'
  | 81, [(.pointer a1), (.int .i64 a2), (.int .i64 a3)] => callP1 (dsu_Classes_Join a1 a2 a3 h) fun r51 h' => K (.bool r51) h'
  | _, _ => False
def comp_joined.qcall (f : FuncId) (vs : List Value) (h : Heap) (K : Value → Prop) : Prop := match f, vs with
  | 44, [(.pointer a1)] => qcallP1 h (net_Net_N a1 h) fun r4 => K (.int .i64 r4)
  | _, _ => False
def comp_joined.r0 (K : Nat → List Value → Heap → Prop) (m : Nat) (vs : List Value) (h : Heap) : Prop := match vs with
  | [(.int .i64 c1_1001), (.pointer c5_1002), (.func (.func 81) ⟨[(.pointer c6_1003)]⟩ ⟨[]⟩), (.slice c15_1004 c15_1005 c15_1006), (.int .i64 c16_1007), (.int .i64 v17_1008)] => comp_joined.l0 (fun h' => K 2 [(.pointer c5_1002)] h') m c1_1001 c5_1002 c6_1003 c15_1004 c15_1005 c15_1006 c16_1007 v17_1008 h
  | _ => False
def comp_joined.loop (i : Nat) (vs : List Value) (h : Heap) (K : Nat → List Value → Heap → Prop) : Prop := match i with
  | 0 => ∃ m, comp_joined.r0 K m vs h
  | _ => False
noncomputable def comp_joined.ctx : Ctx := { P := Tryz.prog, call := comp_joined.call, qcall := comp_joined.qcall, quiet := fun f => Nat.beq f 44 || Nat.beq f 1000131 || Nat.beq f 1000155, loop := comp_joined.loop }
theorem comp_joined.ok [DKc] : comp_joined.ctx.OK where
  mixed := by kernel_rfl
  mono := by
    intro f args h K K' hh hk
    change comp_joined.call f args h K at hh
    change comp_joined.call f args h K'
    unfold comp_joined.call at hh ⊢
    split at hh
    · obtain ⟨R, h1, h2⟩ := hh
      exact ⟨R, h1, fun _ _ _ x hr => hk _ _ (h2 _ _ _ x hr)⟩
    · obtain ⟨R, h1, h2⟩ := hh
      exact ⟨R, h1, fun _ x hr => hk _ _ (h2 _ x hr)⟩
    · obtain ⟨R, h1, h2⟩ := hh
      exact ⟨R, h1, fun _ x hr => hk _ _ (h2 _ x hr)⟩
    · exact hh.elim
  call := by
    intro f args h K hh w hw
    change comp_joined.call f args h K at hh
    unfold comp_joined.call at hh
    split at hh
    · obtain ⟨R, h1, h2⟩ := hh
      obtain ⟨g1, g2⟩ := net_Net_Edges.calls h1 w hw
      exact ⟨g1, g2.mono fun e w' ⟨v, he, ho, hr⟩ => ⟨v, he, ho, net_Net_Edges.ret_elim h2 hr⟩⟩
    · obtain ⟨R, h1, h2⟩ := hh
      obtain ⟨g1, g2⟩ := dsu_New.calls h1 w hw
      exact ⟨g1, g2.mono fun e w' ⟨v, he, ho, hr⟩ => ⟨v, he, ho, dsu_New.ret_elim h2 hr⟩⟩
    · obtain ⟨R, h1, h2⟩ := hh
      obtain ⟨g1, g2⟩ := dsu_Classes_Join.calls h1 w hw
      exact ⟨g1, g2.mono fun e w' ⟨v, he, ho, hr⟩ => ⟨v, he, ho, dsu_Classes_Join.ret_elim h2 hr⟩⟩
    · exact hh.elim
  qmono := by
    intro f args h K K' hh hk
    change comp_joined.qcall f args h K at hh
    change comp_joined.qcall f args h K'
    unfold comp_joined.qcall at hh ⊢
    split at hh
    · obtain ⟨x0, h1, h2⟩ := hh
      exact ⟨x0, h1, hk _ h2⟩
    · exact hh.elim
  qval := by
    intro f args h K hh
    change comp_joined.qcall f args h K at hh
    suffices H : ∃ v, K v ∧ comp_joined.qcall f args h (· = v) from H
    unfold comp_joined.qcall at hh ⊢
    split at hh
    · obtain ⟨x0, h1, h2⟩ := hh
      exact ⟨_, h2, x0, h1, rfl⟩
    · exact hh.elim
  qcall := by
    intro f args h v hh w hw
    change comp_joined.qcall f args h (· = v) at hh
    unfold comp_joined.qcall at hh
    split at hh
    · obtain ⟨x0, h1, h2⟩ := hh
      obtain ⟨g1, g2⟩ := net_Net_N.calls h1 w hw
      refine .inl ⟨g1, g2.mono fun e w' ⟨u, he, ho, hr⟩ => ?_⟩
      have hq := net_Net_N.ret_elim (K' := fun u h' => u = v ∧ h' = h) (fun _ h' hr => by obtain ⟨rfl, rfl⟩ := hr; exact ⟨h2, rfl⟩) hr
      exact ⟨hq.1 ▸ he, ho, hq.2⟩
    · exact hh.elim
noncomputable def comp_joined.code : Code := (Tryz.f48.body).getD .skip
def comp_joined.ann : Ann := (.two .auto (.two .auto (.two .auto (.two (.two .auto (.two (.loop 0 [1, 5, 6, 15, 16, 17] [(2, [5])] .auto) .auto)) .auto))))
noncomputable def comp_joined.c0 : Code := sub comp_joined.code [1, 1, 1, 0, 1, 0, 0]
def comp_joined.a0 : Ann := .auto
def comp_joined.keep0 : List Nat := [1, 5, 6, 15, 16, 17]
def comp_joined.outs0 : List (Nat × List Nat) := [(2, [5])]
set_option maxRecDepth 100000 in
theorem comp_joined.L0 [DKc] : LoopOK comp_joined.ctx 33 comp_joined.c0 0 comp_joined.keep0 comp_joined.outs0 := by
  refine loop_ok (n := comp_joined.a0) comp_joined.ok (by kernel_rfl) (loops_ok (l := []) (by kernel_rfl) ?_) comp_joined.r0 ?_ ?_ (fun vs h K hh => hh)
  · exact trivial
  · intro K vs h hh
    unfold comp_joined.r0 at hh
    split at hh
    · exact hh
    · exact hh
  · intro K m vs h hh
    unfold comp_joined.r0 at hh
    split at hh
    · exact cast (by kernel_rfl) hh
    · exact hh.elim
set_option maxRecDepth 100000 in
theorem comp_joined.eq (a1 : Option Addr) (a2 : Int) (h : Heap) (K : (Option Addr) → Heap → Prop) : evF comp_joined.ctx Tryz.f48 comp_joined.ann [(.pointer a1), (.int .i64 a2)] h (comp_joined.ret K) = comp_joined a1 a2 h K := by kernel_rfl
set_option maxRecDepth 100000 in
theorem comp_joined.calls [DKc] {a1 : Option Addr} {a2 : Int} {h : Heap} {K : (Option Addr) → Heap → Prop} (hh : comp_joined a1 a2 h K) (w : World) (hw : w.heap = h) :
    (callFunc 48 #[(.pointer a1), (.int .i64 a2)]).run Tryz.prog w = .ok (.enter 48 #[(.pointer a1), (.int .i64 a2)]) w ∧ Calls Tryz.prog 48 #[(.pointer a1), (.int .i64 a2)] w fun e w' => ∃ v, e = .returned v ∧ Out w w' ∧ comp_joined.ret K v w'.heap := by
  rw [← comp_joined.eq] at hh
  exact fn_calls (args := [(.pointer a1), (.int .i64 a2)]) (c := comp_joined.code) comp_joined.ok Tryz.func48 (by kernel_rfl) (by kernel_rfl) (by kernel_rfl) (by kernel_rfl) (loops_ok (l := [(comp_joined.c0, none, 0, comp_joined.keep0, comp_joined.outs0)]) (by kernel_rfl) ⟨comp_joined.L0, trivial⟩) hh w hw

/-! ### strait/comp.Count: function 15 -/
def comp_Count (a1 : Option Addr) (h : Heap) (K : Int → Heap → Prop) : Prop :=
  (callP1 (comp_joined a1 0 h) fun x2 h3 => qcallP1 h3 (dsu_Classes_Count x2 h3) fun x4 => K x4 h3)
def comp_Count.ret (K : Int → Heap → Prop) (v : Value) (h : Heap) : Prop := match v with
  | (.int .i64 r5) => K r5 h
  | _ => False
theorem comp_Count.ret_elim {K : Int → Heap → Prop} {K' : Value → Heap → Prop} {v : Value} {h : Heap} (hk : ∀ r5 h, K r5 h → K' (.int .i64 r5) h) (hh : comp_Count.ret K v h) : K' v h := by
  unfold comp_Count.ret at hh
  split at hh
  · exact hk _ _ hh
  · exact hh.elim
def comp_Count.call (f : FuncId) (vs : List Value) (h : Heap) (K : Value → Heap → Prop) : Prop := match f, vs with
  | 48, [(.pointer a1), (.int .i64 a2)] => callP1 (comp_joined a1 a2 h) fun r10 h' => K (.pointer r10) h'
  | _, _ => False
def comp_Count.qcall (f : FuncId) (vs : List Value) (h : Heap) (K : Value → Prop) : Prop := match f, vs with
  | 49, [(.pointer a1)] => qcallP1 h (dsu_Classes_Count a1 h) fun r4 => K (.int .i64 r4)
  | _, _ => False
noncomputable def comp_Count.ctx : Ctx := { P := Tryz.prog, call := comp_Count.call, qcall := comp_Count.qcall, quiet := fun f => Nat.beq f 49 || Nat.beq f 1000131 || Nat.beq f 1000155, loop := fun _ _ _ _ => False }
theorem comp_Count.ok [DKc] : comp_Count.ctx.OK where
  mixed := by kernel_rfl
  mono := by
    intro f args h K K' hh hk
    change comp_Count.call f args h K at hh
    change comp_Count.call f args h K'
    unfold comp_Count.call at hh ⊢
    split at hh
    · obtain ⟨R, h1, h2⟩ := hh
      exact ⟨R, h1, fun _ x hr => hk _ _ (h2 _ x hr)⟩
    · exact hh.elim
  call := by
    intro f args h K hh w hw
    change comp_Count.call f args h K at hh
    unfold comp_Count.call at hh
    split at hh
    · obtain ⟨R, h1, h2⟩ := hh
      obtain ⟨g1, g2⟩ := comp_joined.calls h1 w hw
      exact ⟨g1, g2.mono fun e w' ⟨v, he, ho, hr⟩ => ⟨v, he, ho, comp_joined.ret_elim h2 hr⟩⟩
    · exact hh.elim
  qmono := by
    intro f args h K K' hh hk
    change comp_Count.qcall f args h K at hh
    change comp_Count.qcall f args h K'
    unfold comp_Count.qcall at hh ⊢
    split at hh
    · obtain ⟨x0, h1, h2⟩ := hh
      exact ⟨x0, h1, hk _ h2⟩
    · exact hh.elim
  qval := by
    intro f args h K hh
    change comp_Count.qcall f args h K at hh
    suffices H : ∃ v, K v ∧ comp_Count.qcall f args h (· = v) from H
    unfold comp_Count.qcall at hh ⊢
    split at hh
    · obtain ⟨x0, h1, h2⟩ := hh
      exact ⟨_, h2, x0, h1, rfl⟩
    · exact hh.elim
  qcall := by
    intro f args h v hh w hw
    change comp_Count.qcall f args h (· = v) at hh
    unfold comp_Count.qcall at hh
    split at hh
    · obtain ⟨x0, h1, h2⟩ := hh
      obtain ⟨g1, g2⟩ := dsu_Classes_Count.calls h1 w hw
      refine .inl ⟨g1, g2.mono fun e w' ⟨u, he, ho, hr⟩ => ?_⟩
      have hq := dsu_Classes_Count.ret_elim (K' := fun u h' => u = v ∧ h' = h) (fun _ h' hr => by obtain ⟨rfl, rfl⟩ := hr; exact ⟨h2, rfl⟩) hr
      exact ⟨hq.1 ▸ he, ho, hq.2⟩
    · exact hh.elim
noncomputable def comp_Count.code : Code := (Tryz.f15.body).getD .skip
def comp_Count.ann : Ann := .auto
set_option maxRecDepth 100000 in
theorem comp_Count.eq (a1 : Option Addr) (h : Heap) (K : Int → Heap → Prop) : evF comp_Count.ctx Tryz.f15 comp_Count.ann [(.pointer a1)] h (comp_Count.ret K) = comp_Count a1 h K := by kernel_rfl
set_option maxRecDepth 100000 in
theorem comp_Count.calls [DKc] {a1 : Option Addr} {h : Heap} {K : Int → Heap → Prop} (hh : comp_Count a1 h K) (w : World) (hw : w.heap = h) :
    (callFunc 15 #[(.pointer a1)]).run Tryz.prog w = .ok (.enter 15 #[(.pointer a1)]) w ∧ Calls Tryz.prog 15 #[(.pointer a1)] w fun e w' => ∃ v, e = .returned v ∧ Out w w' ∧ comp_Count.ret K v w'.heap := by
  rw [← comp_Count.eq] at hh
  exact fn_calls (args := [(.pointer a1)]) (c := comp_Count.code) comp_Count.ok Tryz.func15 (by kernel_rfl) (by kernel_rfl) (by kernel_rfl) (by kernel_rfl) (loops_ok (l := []) (by kernel_rfl) trivial) hh w hw

/-! ### strait/comp.Heavy: function 17 -/
section
variable [DKc]
def comp_Heavy (a1 : Option Addr) (a2 : Int) (h : Heap) (K : (Option Addr) → Nat → Nat → Heap → Prop) : Prop :=
  (callP1 (comp_joined a1 a2 h) fun x3 h4 => callP3 (dsu_Classes_List x3 h4) fun x5 x5l x5c h6 => K x5 x5l x5c h6)
def comp_Heavy.ret (K : (Option Addr) → Nat → Nat → Heap → Prop) (v : Value) (h : Heap) : Prop := match v with
  | (.slice r7 r7l r7c) => K r7 r7l r7c h
  | _ => False
theorem comp_Heavy.ret_elim {K : (Option Addr) → Nat → Nat → Heap → Prop} {K' : Value → Heap → Prop} {v : Value} {h : Heap} (hk : ∀ r7 r7l r7c h, K r7 r7l r7c h → K' (.slice r7 r7l r7c) h) (hh : comp_Heavy.ret K v h) : K' v h := by
  unfold comp_Heavy.ret at hh
  split at hh
  · exact hk _ _ _ _ hh
  · exact hh.elim
def comp_Heavy.call (f : FuncId) (vs : List Value) (h : Heap) (K : Value → Heap → Prop) : Prop := match f, vs with
  | 48, [(.pointer a1), (.int .i64 a2)] => callP1 (comp_joined a1 a2 h) fun r10 h' => K (.pointer r10) h'
  | 50, [(.pointer a1)] => callP3 (dsu_Classes_List a1 h) fun r19 r19l r19c h' => K (.slice r19 r19l r19c) h'
  | _, _ => False
noncomputable def comp_Heavy.ctx : Ctx := { P := Tryz.prog, call := comp_Heavy.call, qcall := fun _ _ _ _ => False, quiet := fun f => Nat.beq f 1000131 || Nat.beq f 1000155, loop := fun _ _ _ _ => False }
theorem comp_Heavy.ok : comp_Heavy.ctx.OK where
  mixed := by kernel_rfl
  mono := by
    intro f args h K K' hh hk
    change comp_Heavy.call f args h K at hh
    change comp_Heavy.call f args h K'
    unfold comp_Heavy.call at hh ⊢
    split at hh
    · obtain ⟨R, h1, h2⟩ := hh
      exact ⟨R, h1, fun _ x hr => hk _ _ (h2 _ x hr)⟩
    · obtain ⟨R, h1, h2⟩ := hh
      exact ⟨R, h1, fun _ _ _ x hr => hk _ _ (h2 _ _ _ x hr)⟩
    · exact hh.elim
  call := by
    intro f args h K hh w hw
    change comp_Heavy.call f args h K at hh
    unfold comp_Heavy.call at hh
    split at hh
    · obtain ⟨R, h1, h2⟩ := hh
      obtain ⟨g1, g2⟩ := comp_joined.calls h1 w hw
      exact ⟨g1, g2.mono fun e w' ⟨v, he, ho, hr⟩ => ⟨v, he, ho, comp_joined.ret_elim h2 hr⟩⟩
    · obtain ⟨R, h1, h2⟩ := hh
      obtain ⟨g1, g2⟩ := dsu_Classes_List.calls h1 w hw
      exact ⟨g1, g2.mono fun e w' ⟨v, he, ho, hr⟩ => ⟨v, he, ho, dsu_Classes_List.ret_elim h2 hr⟩⟩
    · exact hh.elim
  qmono := fun hh _ => hh.elim
  qval := fun hh => hh.elim
  qcall := fun hh => hh.elim
noncomputable def comp_Heavy.code : Code := (Tryz.f17.body).getD .skip
def comp_Heavy.ann : Ann := .auto
set_option maxRecDepth 100000 in
theorem comp_Heavy.eq (a1 : Option Addr) (a2 : Int) (h : Heap) (K : (Option Addr) → Nat → Nat → Heap → Prop) : evF comp_Heavy.ctx Tryz.f17 comp_Heavy.ann [(.pointer a1), (.int .i64 a2)] h (comp_Heavy.ret K) = comp_Heavy a1 a2 h K := by kernel_rfl
set_option maxRecDepth 100000 in
theorem comp_Heavy.calls {a1 : Option Addr} {a2 : Int} {h : Heap} {K : (Option Addr) → Nat → Nat → Heap → Prop} (hh : comp_Heavy a1 a2 h K) (w : World) (hw : w.heap = h) :
    (callFunc 17 #[(.pointer a1), (.int .i64 a2)]).run Tryz.prog w = .ok (.enter 17 #[(.pointer a1), (.int .i64 a2)]) w ∧ Calls Tryz.prog 17 #[(.pointer a1), (.int .i64 a2)] w fun e w' => ∃ v, e = .returned v ∧ Out w w' ∧ comp_Heavy.ret K v w'.heap := by
  rw [← comp_Heavy.eq] at hh
  exact fn_calls (args := [(.pointer a1), (.int .i64 a2)]) (c := comp_Heavy.code) comp_Heavy.ok Tryz.func17 (by kernel_rfl) (by kernel_rfl) (by kernel_rfl) (by kernel_rfl) (loops_ok (l := []) (by kernel_rfl) trivial) hh w hw
end

/-! ### (*strait/net.Net).Near: function 51 -/
def net_Net_Near (a1 : Option Addr) (a2 : Int) (h : Heap) (K : (Option Addr) → Nat → Nat → Heap → Prop) : Prop :=
  (let j11 : Prop := (chkP a1 fun a5 => ∃ (x6 : Option Addr) (x6l : Nat) (x6c : Nat), cell h a5 = some (.slice x6 x6l x6c) ∧ chkP x6 fun a7 => (0 ≤ a2 ∧ a2 < (x6l : Int)) ∧ ∃ (x8 : Option Addr) (x8l : Nat) (x8c : Nat), cell h (a7.add (a2.toNat * 1)) = some (.slice x8 x8l x8c) ∧ callP3 (slices_Clone_Lint_int x8 x8l x8c h) fun x9 x9l x9c h10 => K x9 x9l x9c h10);
  iteB (decide (a2 < (0 : Int))) (K none 0 0 h) (qcallP1 h (net_Net_N a1 h) fun x3 => (iteB (decide (a2 ≥ x3)) (K none 0 0 h) ((j11)))))
def net_Net_Near.ret (K : (Option Addr) → Nat → Nat → Heap → Prop) (v : Value) (h : Heap) : Prop := match v with
  | (.slice r12 r12l r12c) => K r12 r12l r12c h
  | _ => False
theorem net_Net_Near.ret_elim {K : (Option Addr) → Nat → Nat → Heap → Prop} {K' : Value → Heap → Prop} {v : Value} {h : Heap} (hk : ∀ r12 r12l r12c h, K r12 r12l r12c h → K' (.slice r12 r12l r12c) h) (hh : net_Net_Near.ret K v h) : K' v h := by
  unfold net_Net_Near.ret at hh
  split at hh
  · exact hk _ _ _ _ hh
  · exact hh.elim
def net_Net_Near.call (f : FuncId) (vs : List Value) (h : Heap) (K : Value → Heap → Prop) : Prop := match f, vs with
  | 86, [(.slice a1 a1l a1c)] => callP3 (slices_Clone_Lint_int a1 a1l a1c h) fun r9 r9l r9c h' => K (.slice r9 r9l r9c) h'
  | _, _ => False
def net_Net_Near.qcall (f : FuncId) (vs : List Value) (h : Heap) (K : Value → Prop) : Prop := match f, vs with
  | 44, [(.pointer a1)] => qcallP1 h (net_Net_N a1 h) fun r4 => K (.int .i64 r4)
  | _, _ => False
noncomputable def net_Net_Near.ctx : Ctx := { P := Tryz.prog, call := net_Net_Near.call, qcall := net_Net_Near.qcall, quiet := fun f => Nat.beq f 44 || Nat.beq f 1000131 || Nat.beq f 1000155, loop := fun _ _ _ _ => False }
theorem net_Net_Near.ok [DKc] : net_Net_Near.ctx.OK where
  mixed := by kernel_rfl
  mono := by
    intro f args h K K' hh hk
    change net_Net_Near.call f args h K at hh
    change net_Net_Near.call f args h K'
    unfold net_Net_Near.call at hh ⊢
    split at hh
    · obtain ⟨R, h1, h2⟩ := hh
      exact ⟨R, h1, fun _ _ _ x hr => hk _ _ (h2 _ _ _ x hr)⟩
    · exact hh.elim
  call := by
    intro f args h K hh w hw
    change net_Net_Near.call f args h K at hh
    unfold net_Net_Near.call at hh
    split at hh
    · obtain ⟨R, h1, h2⟩ := hh
      obtain ⟨g1, g2⟩ := slices_Clone_Lint_int.calls h1 w hw
      exact ⟨g1, g2.mono fun e w' ⟨v, he, ho, hr⟩ => ⟨v, he, ho, slices_Clone_Lint_int.ret_elim h2 hr⟩⟩
    · exact hh.elim
  qmono := by
    intro f args h K K' hh hk
    change net_Net_Near.qcall f args h K at hh
    change net_Net_Near.qcall f args h K'
    unfold net_Net_Near.qcall at hh ⊢
    split at hh
    · obtain ⟨x0, h1, h2⟩ := hh
      exact ⟨x0, h1, hk _ h2⟩
    · exact hh.elim
  qval := by
    intro f args h K hh
    change net_Net_Near.qcall f args h K at hh
    suffices H : ∃ v, K v ∧ net_Net_Near.qcall f args h (· = v) from H
    unfold net_Net_Near.qcall at hh ⊢
    split at hh
    · obtain ⟨x0, h1, h2⟩ := hh
      exact ⟨_, h2, x0, h1, rfl⟩
    · exact hh.elim
  qcall := by
    intro f args h v hh w hw
    change net_Net_Near.qcall f args h (· = v) at hh
    unfold net_Net_Near.qcall at hh
    split at hh
    · obtain ⟨x0, h1, h2⟩ := hh
      obtain ⟨g1, g2⟩ := net_Net_N.calls h1 w hw
      refine .inl ⟨g1, g2.mono fun e w' ⟨u, he, ho, hr⟩ => ?_⟩
      have hq := net_Net_N.ret_elim (K' := fun u h' => u = v ∧ h' = h) (fun _ h' hr => by obtain ⟨rfl, rfl⟩ := hr; exact ⟨h2, rfl⟩) hr
      exact ⟨hq.1 ▸ he, ho, hq.2⟩
    · exact hh.elim
noncomputable def net_Net_Near.code : Code := (Tryz.f51.body).getD .skip
def net_Net_Near.ann : Ann := .auto
set_option maxRecDepth 100000 in
theorem net_Net_Near.eq (a1 : Option Addr) (a2 : Int) (h : Heap) (K : (Option Addr) → Nat → Nat → Heap → Prop) : evF net_Net_Near.ctx Tryz.f51 net_Net_Near.ann [(.pointer a1), (.int .i64 a2)] h (net_Net_Near.ret K) = net_Net_Near a1 a2 h K := by kernel_rfl
set_option maxRecDepth 100000 in
theorem net_Net_Near.calls [DKc] {a1 : Option Addr} {a2 : Int} {h : Heap} {K : (Option Addr) → Nat → Nat → Heap → Prop} (hh : net_Net_Near a1 a2 h K) (w : World) (hw : w.heap = h) :
    (callFunc 51 #[(.pointer a1), (.int .i64 a2)]).run Tryz.prog w = .ok (.enter 51 #[(.pointer a1), (.int .i64 a2)]) w ∧ Calls Tryz.prog 51 #[(.pointer a1), (.int .i64 a2)] w fun e w' => ∃ v, e = .returned v ∧ Out w w' ∧ net_Net_Near.ret K v w'.heap := by
  rw [← net_Net_Near.eq] at hh
  exact fn_calls (args := [(.pointer a1), (.int .i64 a2)]) (c := net_Net_Near.code) net_Net_Near.ok Tryz.func51 (by kernel_rfl) (by kernel_rfl) (by kernel_rfl) (by kernel_rfl) (loops_ok (l := []) (by kernel_rfl) trivial) hh w hw

/-! ### strait/comp.Reach: function 18 -/
section
variable [DKc]
def comp_Reach.b1 (K4 : (Option Addr) → Nat → Nat → Heap → Prop) (cont : (Option Addr) → Addr → Nat → Nat → (Option Addr) → Nat → Nat → Int → (Option Addr) → Nat → Nat → Int → Int → Heap → Prop) (c0_2001 : Option Addr) (c5_2002 : Addr) (c5_2003 : Nat) (c5_2004 : Nat) (v6_2005 : Option Addr) (v6_2005l : Nat) (v6_2005c : Nat) (c7_2006 : Int) (c37_2007 : Option Addr) (c37_2008 : Nat) (c37_2009 : Nat) (c38_2010 : Int) (v39_2011 : Int) (h2012 : Heap) : Prop :=
  (iteB (decide (v39_2011 < c38_2010)) ((chkP c37_2007 fun a2013 => (0 ≤ v39_2011 ∧ v39_2011 < (c37_2008 : Int)) ∧ ∃ (x2014 : Int), cell h2012 (a2013.add (v39_2011.toNat * 1)) = some (.int .i64 x2014) ∧ ((0 ≤ x2014 ∧ x2014 < (c5_2003 : Int)) ∧ ∃ (x2015 : Bool), cell h2012 (c5_2002.add (x2014.toNat * 1)) = some (.bool x2015) ∧ (iteB (!x2015) ((0 ≤ x2014 ∧ x2014 < (c5_2003 : Int)) ∧ stC h2012 (c5_2002.add (x2014.toNat * 1)) (.bool true) fun h2016 => (newP h2016 (.cells #[(.int .i64 x2014)] 3) fun a2017 h2018 => ∃ n2023, cellsAt h2018 (some a2017) (1 * 1) n2023 ∧ appP 3 1 8 [(.int .i64 0)] v6_2005 v6_2005l v6_2005c 1 n2023 h2018 fun q2019 l2020 c2021 h2022 => ((cont c0_2001 c5_2002 c5_2003 c5_2004 q2019 l2020 c2021 c7_2006 c37_2007 c37_2008 c37_2009 c38_2010 (IntKind.i64.wrap (v39_2011 + 1)) h2022)))) (((cont c0_2001 c5_2002 c5_2003 c5_2004 v6_2005 v6_2005l v6_2005c c7_2006 c37_2007 c37_2008 c37_2009 c38_2010 (IntKind.i64.wrap (v39_2011 + 1)) h2012))))))) (K4 v6_2005 v6_2005l v6_2005c h2012))
def comp_Reach.l1 (K4 : (Option Addr) → Nat → Nat → Heap → Prop) : Nat → (Option Addr) → Addr → Nat → Nat → (Option Addr) → Nat → Nat → Int → (Option Addr) → Nat → Nat → Int → Int → Heap → Prop
  | 0, _, _, _, _, _, _, _, _, _, _, _, _, _, _ => False
  | m + 1, c0_2001, c5_2002, c5_2003, c5_2004, v6_2005, v6_2005l, v6_2005c, c7_2006, c37_2007, c37_2008, c37_2009, c38_2010, v39_2011, h => comp_Reach.b1 K4 (comp_Reach.l1 K4 m) c0_2001 c5_2002 c5_2003 c5_2004 v6_2005 v6_2005l v6_2005c c7_2006 c37_2007 c37_2008 c37_2009 c38_2010 v39_2011 h
def comp_Reach.b0 (K2 : (Option Addr) → Nat → Nat → Heap → Prop) (cont : (Option Addr) → Addr → Nat → Nat → (Option Addr) → Nat → Nat → Int → Heap → Prop) (c0_1001 : Option Addr) (c5_1002 : Addr) (c5_1003 : Nat) (c5_1004 : Nat) (v6_1005 : Option Addr) (v6_1005l : Nat) (v6_1005c : Nat) (v7_1006 : Int) (h1007 : Heap) : Prop :=
  (iteB (decide (v7_1006 < (v6_1005l : Int))) ((chkP v6_1005 fun a1008 => (0 ≤ v7_1006 ∧ v7_1006 < (v6_1005l : Int)) ∧ ∃ (x1009 : Int), cell h1007 (a1008.add (v7_1006.toNat * 1)) = some (.int .i64 x1009) ∧ callP3 (net_Net_Near c0_1001 x1009 h1007) fun x1010 x1010l x1010c h1011 => (∃ m1014, comp_Reach.l1 (fun z1012 z1012l z1012c h1013 => (((cont c0_1001 c5_1002 c5_1003 c5_1004 z1012 z1012l z1012c (IntKind.i64.wrap (v7_1006 + 1)) h1013)))) m1014 c0_1001 c5_1002 c5_1003 c5_1004 v6_1005 v6_1005l v6_1005c v7_1006 x1010 x1010l x1010c (x1010l : Int) 0 h1011))) (K2 v6_1005 v6_1005l v6_1005c h1007))
def comp_Reach.l0 (K2 : (Option Addr) → Nat → Nat → Heap → Prop) : Nat → (Option Addr) → Addr → Nat → Nat → (Option Addr) → Nat → Nat → Int → Heap → Prop
  | 0, _, _, _, _, _, _, _, _, _ => False
  | m + 1, c0_1001, c5_1002, c5_1003, c5_1004, v6_1005, v6_1005l, v6_1005c, v7_1006, h => comp_Reach.b0 K2 (comp_Reach.l0 K2 m) c0_1001 c5_1002 c5_1003 c5_1004 v6_1005 v6_1005l v6_1005c v7_1006 h
def comp_Reach (a1 : Option Addr) (a2 : Int) (h : Heap) (K : (Option Addr) → Nat → Nat → Heap → Prop) : Prop :=
  (let j15 : Prop := (qcallP1 h (net_Net_N a1 h) fun x5 => (0 ≤ x5 ∧ x5 ≤ x5 ∧ x5 * (1 : Nat) ≤ 2 ^ 47 ∧ x5 ≤ 2 ^ 47) ∧ newP h (.cells (zeroRow [(.bool false)] x5.toNat).toArray 4) fun a6 h7 => ((0 ≤ a2 ∧ a2 < (x5.toNat : Int)) ∧ stC h7 (a6.add (a2.toNat * 1)) (.bool true) fun h8 => (newP h8 (.cells #[(.int .i64 a2)] 3) fun a9 h10 => ((∃ m13, comp_Reach.l0 (fun z11 z11l z11c h12 => ((callP0 (slices_Sort_Lint_int z11 z11l z11c h12) fun h14 => K z11 z11l z11c h14))) m13 a1 a6 x5.toNat x5.toNat (some a9) 1 1 0 h10)))));
  iteB (decide (a2 < (0 : Int))) (K none 0 0 h) (qcallP1 h (net_Net_N a1 h) fun x3 => (iteB (decide (a2 ≥ x3)) (K none 0 0 h) ((j15)))))
def comp_Reach.ret (K : (Option Addr) → Nat → Nat → Heap → Prop) (v : Value) (h : Heap) : Prop := match v with
  | (.slice r16 r16l r16c) => K r16 r16l r16c h
  | _ => False
theorem comp_Reach.ret_elim {K : (Option Addr) → Nat → Nat → Heap → Prop} {K' : Value → Heap → Prop} {v : Value} {h : Heap} (hk : ∀ r16 r16l r16c h, K r16 r16l r16c h → K' (.slice r16 r16l r16c) h) (hh : comp_Reach.ret K v h) : K' v h := by
  unfold comp_Reach.ret at hh
  split at hh
  · exact hk _ _ _ _ hh
  · exact hh.elim
def comp_Reach.call (f : FuncId) (vs : List Value) (h : Heap) (K : Value → Heap → Prop) : Prop := match f, vs with
  | 41, [(.slice a1 a1l a1c)] => callP0 (slices_Sort_Lint_int a1 a1l a1c h) fun h' => K (.tuple #[]) h'
  | 51, [(.pointer a1), (.int .i64 a2)] => callP3 (net_Net_Near a1 a2 h) fun r12 r12l r12c h' => K (.slice r12 r12l r12c) h'
  | _, _ => False
def comp_Reach.qcall (f : FuncId) (vs : List Value) (h : Heap) (K : Value → Prop) : Prop := match f, vs with
  | 44, [(.pointer a1)] => qcallP1 h (net_Net_N a1 h) fun r4 => K (.int .i64 r4)
  | _, _ => False
def comp_Reach.r0 (K : Nat → List Value → Heap → Prop) (m : Nat) (vs : List Value) (h : Heap) : Prop := match vs with
  | [(.pointer c0_1001), (.slice (some c5_1002) c5_1003 c5_1004), (.slice v6_1005 v6_1005l v6_1005c), (.int .i64 v7_1006)] => comp_Reach.l0 (fun z17 z17l z17c h' => K 2 [(.slice z17 z17l z17c)] h') m c0_1001 c5_1002 c5_1003 c5_1004 v6_1005 v6_1005l v6_1005c v7_1006 h
  | _ => False
def comp_Reach.r1 (K : Nat → List Value → Heap → Prop) (m : Nat) (vs : List Value) (h : Heap) : Prop := match vs with
  | [(.pointer c0_2001), (.slice (some c5_2002) c5_2003 c5_2004), (.slice v6_2005 v6_2005l v6_2005c), (.int .i64 c7_2006), (.slice c37_2007 c37_2008 c37_2009), (.int .i64 c38_2010), (.int .i64 v39_2011)] => comp_Reach.l1 (fun z18 z18l z18c h' => K 4 [(.pointer c0_2001), (.slice (some c5_2002) c5_2003 c5_2004), (.slice z18 z18l z18c), (.int .i64 c7_2006)] h') m c0_2001 c5_2002 c5_2003 c5_2004 v6_2005 v6_2005l v6_2005c c7_2006 c37_2007 c37_2008 c37_2009 c38_2010 v39_2011 h
  | _ => False
def comp_Reach.loop (i : Nat) (vs : List Value) (h : Heap) (K : Nat → List Value → Heap → Prop) : Prop := match i with
  | 0 => ∃ m, comp_Reach.r0 K m vs h
  | 1 => ∃ m, comp_Reach.r1 K m vs h
  | _ => False
noncomputable def comp_Reach.ctx : Ctx := { P := Tryz.prog, call := comp_Reach.call, qcall := comp_Reach.qcall, quiet := fun f => Nat.beq f 44 || Nat.beq f 1000131 || Nat.beq f 1000155, loop := comp_Reach.loop }
theorem comp_Reach.ok : comp_Reach.ctx.OK where
  mixed := by kernel_rfl
  mono := by
    intro f args h K K' hh hk
    change comp_Reach.call f args h K at hh
    change comp_Reach.call f args h K'
    unfold comp_Reach.call at hh ⊢
    split at hh
    · obtain ⟨R, h1, h2⟩ := hh
      exact ⟨R, h1, fun x hr => hk _ _ (h2 x hr)⟩
    · obtain ⟨R, h1, h2⟩ := hh
      exact ⟨R, h1, fun _ _ _ x hr => hk _ _ (h2 _ _ _ x hr)⟩
    · exact hh.elim
  call := by
    intro f args h K hh w hw
    change comp_Reach.call f args h K at hh
    unfold comp_Reach.call at hh
    split at hh
    · obtain ⟨R, h1, h2⟩ := hh
      obtain ⟨g1, g2⟩ := slices_Sort_Lint_int.calls h1 w hw
      exact ⟨g1, g2.mono fun e w' ⟨v, he, ho, hr⟩ => ⟨v, he, ho, slices_Sort_Lint_int.ret_elim h2 hr⟩⟩
    · obtain ⟨R, h1, h2⟩ := hh
      obtain ⟨g1, g2⟩ := net_Net_Near.calls h1 w hw
      exact ⟨g1, g2.mono fun e w' ⟨v, he, ho, hr⟩ => ⟨v, he, ho, net_Net_Near.ret_elim h2 hr⟩⟩
    · exact hh.elim
  qmono := by
    intro f args h K K' hh hk
    change comp_Reach.qcall f args h K at hh
    change comp_Reach.qcall f args h K'
    unfold comp_Reach.qcall at hh ⊢
    split at hh
    · obtain ⟨x0, h1, h2⟩ := hh
      exact ⟨x0, h1, hk _ h2⟩
    · exact hh.elim
  qval := by
    intro f args h K hh
    change comp_Reach.qcall f args h K at hh
    suffices H : ∃ v, K v ∧ comp_Reach.qcall f args h (· = v) from H
    unfold comp_Reach.qcall at hh ⊢
    split at hh
    · obtain ⟨x0, h1, h2⟩ := hh
      exact ⟨_, h2, x0, h1, rfl⟩
    · exact hh.elim
  qcall := by
    intro f args h v hh w hw
    change comp_Reach.qcall f args h (· = v) at hh
    unfold comp_Reach.qcall at hh
    split at hh
    · obtain ⟨x0, h1, h2⟩ := hh
      obtain ⟨g1, g2⟩ := net_Net_N.calls h1 w hw
      refine .inl ⟨g1, g2.mono fun e w' ⟨u, he, ho, hr⟩ => ?_⟩
      have hq := net_Net_N.ret_elim (K' := fun u h' => u = v ∧ h' = h) (fun _ h' hr => by obtain ⟨rfl, rfl⟩ := hr; exact ⟨h2, rfl⟩) hr
      exact ⟨hq.1 ▸ he, ho, hq.2⟩
    · exact hh.elim
noncomputable def comp_Reach.code : Code := (Tryz.f18.body).getD .skip
def comp_Reach.ann : Ann := (.two .auto (.two .auto (.two .auto (.two .auto (.two .auto (.two (.two .auto (.two (.loop 0 [0, 5, 6, 7] [(2, [6])] (.two .auto (.two (.two (.two .auto (.two (.loop 1 [0, 5, 6, 7, 37, 38, 39] [(4, [0, 5, 6, 7])] .auto) .auto)) .auto) .auto))) .auto)) .auto))))))
noncomputable def comp_Reach.c1 : Code := sub comp_Reach.code [1, 1, 1, 1, 1, 0, 1, 0, 0, 1, 0, 0, 1, 0, 0]
def comp_Reach.a1 : Ann := .auto
def comp_Reach.keep1 : List Nat := [0, 5, 6, 7, 37, 38, 39]
def comp_Reach.outs1 : List (Nat × List Nat) := [(4, [0, 5, 6, 7])]
noncomputable def comp_Reach.c0 : Code := sub comp_Reach.code [1, 1, 1, 1, 1, 0, 1, 0, 0]
def comp_Reach.a0 : Ann := (.two .auto (.two (.two (.two .auto (.two (.loop 1 [0, 5, 6, 7, 37, 38, 39] [(4, [0, 5, 6, 7])] .auto) .auto)) .auto) .auto))
def comp_Reach.keep0 : List Nat := [0, 5, 6, 7]
def comp_Reach.outs0 : List (Nat × List Nat) := [(2, [6])]
set_option maxRecDepth 100000 in
theorem comp_Reach.L1 : LoopOK comp_Reach.ctx 59 comp_Reach.c1 1 comp_Reach.keep1 comp_Reach.outs1 := by
  refine loop_ok (n := comp_Reach.a1) comp_Reach.ok (by kernel_rfl) (loops_ok (l := []) (by kernel_rfl) ?_) comp_Reach.r1 ?_ ?_ (fun vs h K hh => hh)
  · exact trivial
  · intro K vs h hh
    unfold comp_Reach.r1 at hh
    split at hh
    · exact hh
    · exact hh
  · intro K m vs h hh
    unfold comp_Reach.r1 at hh
    split at hh
    · exact cast (by kernel_rfl) hh
    · exact hh.elim
set_option maxRecDepth 100000 in
theorem comp_Reach.L0 : LoopOK comp_Reach.ctx 59 comp_Reach.c0 0 comp_Reach.keep0 comp_Reach.outs0 := by
  refine loop_ok (n := comp_Reach.a0) comp_Reach.ok (by kernel_rfl) (loops_ok (l := [(comp_Reach.c1, none, 1, comp_Reach.keep1, comp_Reach.outs1)]) (by kernel_rfl) ?_) comp_Reach.r0 ?_ ?_ (fun vs h K hh => hh)
  · exact ⟨comp_Reach.L1, trivial⟩
  · intro K vs h hh
    unfold comp_Reach.r0 at hh
    split at hh
    · exact hh
    · exact hh
  · intro K m vs h hh
    unfold comp_Reach.r0 at hh
    split at hh
    · exact cast (by kernel_rfl) hh
    · exact hh.elim
set_option maxRecDepth 100000 in
theorem comp_Reach.eq (a1 : Option Addr) (a2 : Int) (h : Heap) (K : (Option Addr) → Nat → Nat → Heap → Prop) : evF comp_Reach.ctx Tryz.f18 comp_Reach.ann [(.pointer a1), (.int .i64 a2)] h (comp_Reach.ret K) = comp_Reach a1 a2 h K := by kernel_rfl
set_option maxRecDepth 100000 in
theorem comp_Reach.calls {a1 : Option Addr} {a2 : Int} {h : Heap} {K : (Option Addr) → Nat → Nat → Heap → Prop} (hh : comp_Reach a1 a2 h K) (w : World) (hw : w.heap = h) :
    (callFunc 18 #[(.pointer a1), (.int .i64 a2)]).run Tryz.prog w = .ok (.enter 18 #[(.pointer a1), (.int .i64 a2)]) w ∧ Calls Tryz.prog 18 #[(.pointer a1), (.int .i64 a2)] w fun e w' => ∃ v, e = .returned v ∧ Out w w' ∧ comp_Reach.ret K v w'.heap := by
  rw [← comp_Reach.eq] at hh
  exact fn_calls (args := [(.pointer a1), (.int .i64 a2)]) (c := comp_Reach.code) comp_Reach.ok Tryz.func18 (by kernel_rfl) (by kernel_rfl) (by kernel_rfl) (by kernel_rfl) (loops_ok (l := [(comp_Reach.c0, none, 0, comp_Reach.keep0, comp_Reach.outs0)]) (by kernel_rfl) ⟨comp_Reach.L0, trivial⟩) hh w hw
end

/-! ### (*strait/comp.walk).open: function 78 -/
def comp_walk_open (a1 : Option Addr) (a2 : Int) (a3 : Int) (h : Heap) (K : Int → Int → (Option Addr) → Nat → Nat → Heap → Prop) : Prop :=
  newP h (.cells #[(.int .i64 0), (.int .i64 0), (.slice none 0 0)] 146) fun a4 h5 => (chkP a1 fun a6 => ∃ (x7 : Int), cell h5 (a6.add 3) = some (.int .i64 x7) ∧ chkP a1 fun a8 => stC h5 (a8.add 3) (.int .i64 (IntKind.i64.wrap (x7 + 1))) fun h9 => (chkP a1 fun a10 => ∃ (x11 : Option Addr) (x11l : Nat) (x11c : Nat), cell h9 (a10.add 1) = some (.slice x11 x11l x11c) ∧ chkP a1 fun a12 => ∃ (x13 : Option Addr) (x13l : Nat) (x13c : Nat), cell h9 (a12.add 2) = some (.slice x13 x13l x13c) ∧ chkP a1 fun a14 => ∃ (x15 : Int), cell h9 (a14.add 3) = some (.int .i64 x15) ∧ chkP a1 fun a16 => ∃ (x17 : Int), cell h9 (a16.add 3) = some (.int .i64 x17) ∧ chkP x11 fun a18 => (0 ≤ a2 ∧ a2 < (x11l : Int)) ∧ stC h9 (a18.add (a2.toNat * 1)) (.int .i64 x15) fun h19 => chkP x13 fun a20 => (0 ≤ a2 ∧ a2 < (x13l : Int)) ∧ stC h19 (a20.add (a2.toNat * 1)) (.int .i64 x17) fun h21 => (chkP a1 fun a22 => ∃ (x23 : Option Addr), cell h21 a22 = some (.pointer x23) ∧ callP3 (net_Net_Near x23 a2 h21) fun x24 x24l x24c h25 => stC h25 a4 (.int .i64 a2) fun h26 => stC h26 (a4.add 1) (.int .i64 a3) fun h27 => stC h27 (a4.add 2) (.slice x24 x24l x24c) fun h28 => (∃ (x29 : Int), cell h28 a4 = some (.int .i64 x29) ∧ ∃ (x30 : Int), cell h28 (a4.add 1) = some (.int .i64 x30) ∧ ∃ (x31 : Option Addr) (x31l : Nat) (x31c : Nat), cell h28 (a4.add 2) = some (.slice x31 x31l x31c) ∧ K x29 x30 x31 x31l x31c h28))))
def comp_walk_open.ret (K : Int → Int → (Option Addr) → Nat → Nat → Heap → Prop) (v : Value) (h : Heap) : Prop := match v with
  | (.agg ⟨[(.int .i64 r32), (.int .i64 r33), (.slice r34 r34l r34c)]⟩) => K r32 r33 r34 r34l r34c h
  | _ => False
theorem comp_walk_open.ret_elim {K : Int → Int → (Option Addr) → Nat → Nat → Heap → Prop} {K' : Value → Heap → Prop} {v : Value} {h : Heap} (hk : ∀ r32 r33 r34 r34l r34c h, K r32 r33 r34 r34l r34c h → K' (.agg #[(.int .i64 r32), (.int .i64 r33), (.slice r34 r34l r34c)]) h) (hh : comp_walk_open.ret K v h) : K' v h := by
  unfold comp_walk_open.ret at hh
  split at hh
  · exact hk _ _ _ _ _ _ hh
  · exact hh.elim
def comp_walk_open.call (f : FuncId) (vs : List Value) (h : Heap) (K : Value → Heap → Prop) : Prop := match f, vs with
  | 51, [(.pointer a1), (.int .i64 a2)] => callP3 (net_Net_Near a1 a2 h) fun r12 r12l r12c h' => K (.slice r12 r12l r12c) h'
  | _, _ => False
noncomputable def comp_walk_open.ctx : Ctx := { P := Tryz.prog, call := comp_walk_open.call, qcall := fun _ _ _ _ => False, quiet := fun f => Nat.beq f 1000131 || Nat.beq f 1000155, loop := fun _ _ _ _ => False }
theorem comp_walk_open.ok [DKc] : comp_walk_open.ctx.OK where
  mixed := by kernel_rfl
  mono := by
    intro f args h K K' hh hk
    change comp_walk_open.call f args h K at hh
    change comp_walk_open.call f args h K'
    unfold comp_walk_open.call at hh ⊢
    split at hh
    · obtain ⟨R, h1, h2⟩ := hh
      exact ⟨R, h1, fun _ _ _ x hr => hk _ _ (h2 _ _ _ x hr)⟩
    · exact hh.elim
  call := by
    intro f args h K hh w hw
    change comp_walk_open.call f args h K at hh
    unfold comp_walk_open.call at hh
    split at hh
    · obtain ⟨R, h1, h2⟩ := hh
      obtain ⟨g1, g2⟩ := net_Net_Near.calls h1 w hw
      exact ⟨g1, g2.mono fun e w' ⟨v, he, ho, hr⟩ => ⟨v, he, ho, net_Net_Near.ret_elim h2 hr⟩⟩
    · exact hh.elim
  qmono := fun hh _ => hh.elim
  qval := fun hh => hh.elim
  qcall := fun hh => hh.elim
noncomputable def comp_walk_open.code : Code := (Tryz.f78.body).getD .skip
def comp_walk_open.ann : Ann := (.two .auto (.two .auto (.two (.reg [0, 1, 3, 7, 0, 0, 32, 96, 224, 0, 0, 1024, 3072, 7168, 0, 16384, 49152, 114688, 261631, 523775, 1048575, 2097151] (.take 0 (.take 1 (.take 2 (.take 3 (.take 4 (.take 5 (.take 6 (.take 7 (.take 8 (.take 9 (.take 10 (.take 11 (.take 12 (.take 13 (.take 14 (.take 15 (.take 16 (.take 17 (.take 18 (.alt 19 (.take 20 (.alt 21 .done .noalt)) .noalt))))))))))))))))))))) .auto)))
set_option maxRecDepth 100000 in
theorem comp_walk_open.eq (a1 : Option Addr) (a2 : Int) (a3 : Int) (h : Heap) (K : Int → Int → (Option Addr) → Nat → Nat → Heap → Prop) : evF comp_walk_open.ctx Tryz.f78 comp_walk_open.ann [(.pointer a1), (.int .i64 a2), (.int .i64 a3)] h (comp_walk_open.ret K) = comp_walk_open a1 a2 a3 h K := by kernel_rfl
set_option maxRecDepth 100000 in
theorem comp_walk_open.calls [DKc] {a1 : Option Addr} {a2 : Int} {a3 : Int} {h : Heap} {K : Int → Int → (Option Addr) → Nat → Nat → Heap → Prop} (hh : comp_walk_open a1 a2 a3 h K) (w : World) (hw : w.heap = h) :
    (callFunc 78 #[(.pointer a1), (.int .i64 a2), (.int .i64 a3)]).run Tryz.prog w = .ok (.enter 78 #[(.pointer a1), (.int .i64 a2), (.int .i64 a3)]) w ∧ Calls Tryz.prog 78 #[(.pointer a1), (.int .i64 a2), (.int .i64 a3)] w fun e w' => ∃ v, e = .returned v ∧ Out w w' ∧ comp_walk_open.ret K v w'.heap := by
  rw [← comp_walk_open.eq] at hh
  exact fn_calls (args := [(.pointer a1), (.int .i64 a2), (.int .i64 a3)]) (c := comp_walk_open.code) comp_walk_open.ok Tryz.func78 (by kernel_rfl) (by kernel_rfl) (by kernel_rfl) (by kernel_rfl) (loops_ok (l := []) (by kernel_rfl) trivial) hh w hw

/-! ### (*strait/comp.walk).from: function 45 -/
def comp_walk_from.b0 (K2 : Heap → Prop) (cont : (Option Addr) → (Option Addr) → Nat → Nat → Heap → Prop) (c0_1001 : Option Addr) (v4_1002 : Option Addr) (v4_1002l : Nat) (v4_1002c : Nat) (h1003 : Heap) : Prop :=
  (iteB (decide ((v4_1002l : Int) > (0 : Int))) ((chkP v4_1002 fun a1004 => (0 ≤ (IntKind.i64.wrap ((v4_1002l : Int) - 1)) ∧ (IntKind.i64.wrap ((v4_1002l : Int) - 1)) < (v4_1002l : Int)) ∧ (∃ (x1005 : Option Addr) (x1005l : Nat) (x1005c : Nat), cell h1003 ((a1004.add ((IntKind.i64.wrap ((v4_1002l : Int) - 1)).toNat * 3)).add 2) = some (.slice x1005 x1005l x1005c) ∧ (iteB ((x1005l : Int) == (0 : Int)) ((0 ≤ (IntKind.i64.wrap ((v4_1002l : Int) - 1)) ∧ (IntKind.i64.wrap ((v4_1002l : Int) - 1)) ≤ (v4_1002c : Int)) ∧ (∃ (x1006 : Int), cell h1003 ((a1004.add ((IntKind.i64.wrap ((v4_1002l : Int) - 1)).toNat * 3)).add 1) = some (.int .i64 x1006) ∧ (iteB (decide (x1006 ≥ (0 : Int))) (chkP c0_1001 fun a1007 => ∃ (x1008 : Option Addr) (x1008l : Nat) (x1008c : Nat), cell h1003 (a1007.add 2) = some (.slice x1008 x1008l x1008c) ∧ ∃ (x1009 : Int), cell h1003 ((a1004.add ((IntKind.i64.wrap ((v4_1002l : Int) - 1)).toNat * 3)).add 1) = some (.int .i64 x1009) ∧ chkP c0_1001 fun a1010 => ∃ (x1011 : Option Addr) (x1011l : Nat) (x1011c : Nat), cell h1003 (a1010.add 2) = some (.slice x1011 x1011l x1011c) ∧ ∃ (x1012 : Int), cell h1003 ((a1004.add ((IntKind.i64.wrap ((v4_1002l : Int) - 1)).toNat * 3)).add 1) = some (.int .i64 x1012) ∧ chkP x1011 fun a1013 => (0 ≤ x1012 ∧ x1012 < (x1011l : Int)) ∧ ∃ (x1014 : Int), cell h1003 (a1013.add (x1012.toNat * 1)) = some (.int .i64 x1014) ∧ chkP c0_1001 fun a1015 => ∃ (x1016 : Option Addr) (x1016l : Nat) (x1016c : Nat), cell h1003 (a1015.add 2) = some (.slice x1016 x1016l x1016c) ∧ ∃ (x1017 : Int), cell h1003 (a1004.add ((IntKind.i64.wrap ((v4_1002l : Int) - 1)).toNat * 3)) = some (.int .i64 x1017) ∧ chkP x1016 fun a1018 => (0 ≤ x1017 ∧ x1017 < (x1016l : Int)) ∧ ∃ (x1019 : Int), cell h1003 (a1018.add (x1017.toNat * 1)) = some (.int .i64 x1019) ∧ chkP x1008 fun a1020 => (0 ≤ x1009 ∧ x1009 < (x1008l : Int)) ∧ stC h1003 (a1020.add (x1009.toNat * 1)) (.int .i64 (if x1019 < x1014 then x1019 else x1014)) fun h1021 => (chkP c0_1001 fun a1022 => ∃ (x1023 : Option Addr) (x1023l : Nat) (x1023c : Nat), cell h1021 (a1022.add 2) = some (.slice x1023 x1023l x1023c) ∧ ∃ (x1024 : Int), cell h1021 (a1004.add ((IntKind.i64.wrap ((v4_1002l : Int) - 1)).toNat * 3)) = some (.int .i64 x1024) ∧ chkP x1023 fun a1025 => (0 ≤ x1024 ∧ x1024 < (x1023l : Int)) ∧ ∃ (x1026 : Int), cell h1021 (a1025.add (x1024.toNat * 1)) = some (.int .i64 x1026) ∧ chkP c0_1001 fun a1027 => ∃ (x1028 : Option Addr) (x1028l : Nat) (x1028c : Nat), cell h1021 (a1027.add 1) = some (.slice x1028 x1028l x1028c) ∧ ∃ (x1029 : Int), cell h1021 ((a1004.add ((IntKind.i64.wrap ((v4_1002l : Int) - 1)).toNat * 3)).add 1) = some (.int .i64 x1029) ∧ chkP x1028 fun a1030 => (0 ≤ x1029 ∧ x1029 < (x1028l : Int)) ∧ ∃ (x1031 : Int), cell h1021 (a1030.add (x1029.toNat * 1)) = some (.int .i64 x1031) ∧ (iteB (decide (x1026 > x1031)) (chkP c0_1001 fun a1032 => ∃ (x1033 : Int), cell h1021 ((a1004.add ((IntKind.i64.wrap ((v4_1002l : Int) - 1)).toNat * 3)).add 1) = some (.int .i64 x1033) ∧ ∃ (x1034 : Int), cell h1021 (a1004.add ((IntKind.i64.wrap ((v4_1002l : Int) - 1)).toNat * 3)) = some (.int .i64 x1034) ∧ ∃ (x1035 : Option Addr) (x1035l : Nat) (x1035c : Nat), cell h1021 (a1032.add 4) = some (.slice x1035 x1035l x1035c) ∧ newP h1021 (.cells #[(.int .i64 x1033), (.int .i64 x1034)] 43) fun a1036 h1037 => (∃ (x1038 : Option Addr) (x1038l : Nat) (x1038c : Nat), cell h1037 (a1032.add 4) = some (.slice x1038 x1038l x1038c) ∧ ((.slice x1038 x1038l x1038c) : Value) = (.slice x1035 x1035l x1035c)) ∧ ∃ n1043, cellsAt h1037 (some a1036) (1 * 2) n1043 ∧ appP 43 2 16 [(.int .i64 0), (.int .i64 0)] x1035 x1035l x1035c 1 n1043 h1037 fun q1039 l1040 c1041 h1042 => chkP c0_1001 fun a1044 => stC h1042 (a1044.add 4) (.slice q1039 l1040 c1041) fun h1045 => ((cont c0_1001 (if v4_1002c = 0 then v4_1002 else v4_1002.map (·.add (0 * 3))) ((IntKind.i64.wrap ((v4_1002l : Int) - 1)).toNat) v4_1002c h1045))) (((cont c0_1001 (if v4_1002c = 0 then v4_1002 else v4_1002.map (·.add (0 * 3))) ((IntKind.i64.wrap ((v4_1002l : Int) - 1)).toNat) v4_1002c h1021)))))) (((cont c0_1001 (if v4_1002c = 0 then v4_1002 else v4_1002.map (·.add (0 * 3))) ((IntKind.i64.wrap ((v4_1002l : Int) - 1)).toNat) v4_1002c h1003)))))) ((∃ (x1047 : Option Addr) (x1047l : Nat) (x1047c : Nat), cell h1003 ((a1004.add ((IntKind.i64.wrap ((v4_1002l : Int) - 1)).toNat * 3)).add 2) = some (.slice x1047 x1047l x1047c) ∧ chkP x1047 fun a1048 => (0 ≤ (0 : Int) ∧ (0 : Int) < (x1047l : Int)) ∧ ∃ (x1049 : Int), cell h1003 (a1048.add ((0 : Int).toNat * 1)) = some (.int .i64 x1049) ∧ (∃ (x1050 : Option Addr) (x1050l : Nat) (x1050c : Nat), cell h1003 ((a1004.add ((IntKind.i64.wrap ((v4_1002l : Int) - 1)).toNat * 3)).add 2) = some (.slice x1050 x1050l x1050c) ∧ (0 ≤ (1 : Int) ∧ (1 : Int) ≤ (x1050l : Int)) ∧ stC h1003 ((a1004.add ((IntKind.i64.wrap ((v4_1002l : Int) - 1)).toNat * 3)).add 2) (.slice (if x1050c = (1 : Int).toNat then x1050 else x1050.map (·.add ((1 : Int).toNat * 1))) (x1050l - (1 : Int).toNat) (x1050c - (1 : Int).toNat)) fun h1051 => (∃ (x1052 : Int), cell h1051 ((a1004.add ((IntKind.i64.wrap ((v4_1002l : Int) - 1)).toNat * 3)).add 1) = some (.int .i64 x1052) ∧ (iteB (x1049 == x1052) ((cont c0_1001 v4_1002 v4_1002l v4_1002c h1051)) (chkP c0_1001 fun a1053 => ∃ (x1054 : Option Addr) (x1054l : Nat) (x1054c : Nat), cell h1051 (a1053.add 1) = some (.slice x1054 x1054l x1054c) ∧ chkP x1054 fun a1055 => (0 ≤ x1049 ∧ x1049 < (x1054l : Int)) ∧ ∃ (x1056 : Int), cell h1051 (a1055.add (x1049.toNat * 1)) = some (.int .i64 x1056) ∧ (iteB (decide (x1056 > (0 : Int))) (chkP c0_1001 fun a1057 => ∃ (x1058 : Option Addr) (x1058l : Nat) (x1058c : Nat), cell h1051 (a1057.add 2) = some (.slice x1058 x1058l x1058c) ∧ ∃ (x1059 : Int), cell h1051 (a1004.add ((IntKind.i64.wrap ((v4_1002l : Int) - 1)).toNat * 3)) = some (.int .i64 x1059) ∧ chkP c0_1001 fun a1060 => ∃ (x1061 : Option Addr) (x1061l : Nat) (x1061c : Nat), cell h1051 (a1060.add 2) = some (.slice x1061 x1061l x1061c) ∧ ∃ (x1062 : Int), cell h1051 (a1004.add ((IntKind.i64.wrap ((v4_1002l : Int) - 1)).toNat * 3)) = some (.int .i64 x1062) ∧ chkP x1061 fun a1063 => (0 ≤ x1062 ∧ x1062 < (x1061l : Int)) ∧ ∃ (x1064 : Int), cell h1051 (a1063.add (x1062.toNat * 1)) = some (.int .i64 x1064) ∧ chkP c0_1001 fun a1065 => ∃ (x1066 : Option Addr) (x1066l : Nat) (x1066c : Nat), cell h1051 (a1065.add 1) = some (.slice x1066 x1066l x1066c) ∧ chkP x1066 fun a1067 => (0 ≤ x1049 ∧ x1049 < (x1066l : Int)) ∧ ∃ (x1068 : Int), cell h1051 (a1067.add (x1049.toNat * 1)) = some (.int .i64 x1068) ∧ chkP x1058 fun a1069 => (0 ≤ x1059 ∧ x1059 < (x1058l : Int)) ∧ stC h1051 (a1069.add (x1059.toNat * 1)) (.int .i64 (if x1068 < x1064 then x1068 else x1064)) fun h1070 => (cont c0_1001 v4_1002 v4_1002l v4_1002c h1070)) (∃ (x1071 : Int), cell h1051 (a1004.add ((IntKind.i64.wrap ((v4_1002l : Int) - 1)).toNat * 3)) = some (.int .i64 x1071) ∧ callP5 (comp_walk_open c0_1001 x1049 x1071 h1051) fun x1072 x1073 x1074 x1074l x1074c h1075 => newP h1075 (.cells #[(.int .i64 x1072), (.int .i64 x1073), (.slice x1074 x1074l x1074c)] 146) fun a1076 h1077 => ∃ n1082, cellsAt h1077 (some a1076) (1 * 3) n1082 ∧ appP 146 3 40 [(.int .i64 0), (.int .i64 0), (.slice none 0 0)] v4_1002 v4_1002l v4_1002c 1 n1082 h1077 fun q1078 l1079 c1080 h1081 => (cont c0_1001 q1078 l1079 c1080 h1081))))))))))))) (K2 h1003))
def comp_walk_from.l0 (K2 : Heap → Prop) : Nat → (Option Addr) → (Option Addr) → Nat → Nat → Heap → Prop
  | 0, _, _, _, _, _ => False
  | m + 1, c0_1001, v4_1002, v4_1002l, v4_1002c, h => comp_walk_from.b0 K2 (comp_walk_from.l0 K2 m) c0_1001 v4_1002 v4_1002l v4_1002c h
def comp_walk_from (a1 : Option Addr) (a2 : Int) (h : Heap) (K : Heap → Prop) : Prop :=
  callP5 (comp_walk_open a1 a2 (-1) h) fun x3 x4 x5 x5l x5c h6 => newP h6 (.cells #[(.int .i64 x3), (.int .i64 x4), (.slice x5 x5l x5c)] 146) fun a7 h8 => (∃ m10, comp_walk_from.l0 (fun h9 => K h9) m10 a1 (some a7) 1 1 h8)
def comp_walk_from.ret (K : Heap → Prop) (v : Value) (h : Heap) : Prop := match v with
  | (.tuple ⟨[]⟩) => K h
  | _ => False
theorem comp_walk_from.ret_elim {K : Heap → Prop} {K' : Value → Heap → Prop} {v : Value} {h : Heap} (hk : ∀  h, K h → K' (.tuple #[]) h) (hh : comp_walk_from.ret K v h) : K' v h := by
  unfold comp_walk_from.ret at hh
  split at hh
  · exact hk _ hh
  · exact hh.elim
def comp_walk_from.call (f : FuncId) (vs : List Value) (h : Heap) (K : Value → Heap → Prop) : Prop := match f, vs with
  | 78, [(.pointer a1), (.int .i64 a2), (.int .i64 a3)] => callP5 (comp_walk_open a1 a2 a3 h) fun r32 r33 r34 r34l r34c h' => K (.agg #[(.int .i64 r32), (.int .i64 r33), (.slice r34 r34l r34c)]) h'
  | _, _ => False
def comp_walk_from.r0 (K : Nat → List Value → Heap → Prop) (m : Nat) (vs : List Value) (h : Heap) : Prop := match vs with
  | [(.pointer c0_1001), (.slice v4_1002 v4_1002l v4_1002c)] => comp_walk_from.l0 (fun h' => K 2 [] h') m c0_1001 v4_1002 v4_1002l v4_1002c h
  | _ => False
def comp_walk_from.loop (i : Nat) (vs : List Value) (h : Heap) (K : Nat → List Value → Heap → Prop) : Prop := match i with
  | 0 => ∃ m, comp_walk_from.r0 K m vs h
  | _ => False
noncomputable def comp_walk_from.ctx : Ctx := { P := Tryz.prog, call := comp_walk_from.call, qcall := fun _ _ _ _ => False, quiet := fun f => Nat.beq f 1000131 || Nat.beq f 1000155, loop := comp_walk_from.loop }
theorem comp_walk_from.ok [DKc] : comp_walk_from.ctx.OK where
  mixed := by kernel_rfl
  mono := by
    intro f args h K K' hh hk
    change comp_walk_from.call f args h K at hh
    change comp_walk_from.call f args h K'
    unfold comp_walk_from.call at hh ⊢
    split at hh
    · obtain ⟨R, h1, h2⟩ := hh
      exact ⟨R, h1, fun _ _ _ _ _ x hr => hk _ _ (h2 _ _ _ _ _ x hr)⟩
    · exact hh.elim
  call := by
    intro f args h K hh w hw
    change comp_walk_from.call f args h K at hh
    unfold comp_walk_from.call at hh
    split at hh
    · obtain ⟨R, h1, h2⟩ := hh
      obtain ⟨g1, g2⟩ := comp_walk_open.calls h1 w hw
      exact ⟨g1, g2.mono fun e w' ⟨v, he, ho, hr⟩ => ⟨v, he, ho, comp_walk_open.ret_elim h2 hr⟩⟩
    · exact hh.elim
  qmono := fun hh _ => hh.elim
  qval := fun hh => hh.elim
  qcall := fun hh => hh.elim
noncomputable def comp_walk_from.code : Code := (Tryz.f45.body).getD .skip
def comp_walk_from.ann : Ann := (.two .auto (.two (.loop 0 [0, 4] [(2, [])] (.two .auto (.two (.two .auto (.two (.two .auto (.two (.two .auto (.two (.two .auto (.two (.two (.reg [0, 1, 3, 7, 0, 16, 48, 112, 0, 256, 768, 1792, 0, 4096, 12288, 28672, 65280, 130816, 0, 262144, 786432, 1835008, 0, 4194304, 12582912, 29360128, 66846720, 133955584, 268435200, 536870911, 1073741823] (.take 0 (.take 1 (.take 2 (.take 3 (.take 4 (.take 5 (.take 6 (.take 7 (.take 8 (.take 9 (.take 10 (.take 11 (.take 12 (.take 13 (.take 14 (.take 15 (.take 16 (.take 17 (.take 18 (.take 19 (.take 20 (.take 21 (.take 22 (.take 23 (.take 24 (.take 25 (.take 26 (.take 27 (.take 28 (.take 29 (.alt 30 .done .noalt)))))))))))))))))))))))))))))))) (.two (.reg [0, 1, 3, 7, 0, 16, 48, 112, 255, 511, 0, 1024, 3072, 7168, 0, 16384, 49152, 114688, 261120, 523264, 1048575] (.take 0 (.take 1 (.take 2 (.take 3 (.take 4 (.take 5 (.take 6 (.take 7 (.take 8 (.take 9 (.take 10 (.take 11 (.take 12 (.take 13 (.take 14 (.take 15 (.take 16 (.take 17 (.take 18 (.take 19 (.take 20 .done)))))))))))))))))))))) (.two (.reg [0, 0, 2, 6, 14, 0, 32, 96, 224, 0, 512, 1536, 3584, 8160, 16352, 32766, 65535, 131071, 262143] (.take 0 (.take 1 (.take 2 (.take 3 (.take 5 (.take 6 (.take 7 (.take 8 (.take 9 (.take 10 (.take 11 (.take 12 (.take 13 (.early 4 (.alt 14 (.alt 15 (.take 16 (.take 17 (.alt 18 .done .noalt))) .noalt) .noalt)))))))))))))))) .auto))) .auto)) .auto)) .auto)) (.two .auto (.two .auto (.two (.two .auto (.two .auto (.two .auto (.two (.reg [0, 1, 3, 7, 0, 16, 48, 112, 0, 256, 768, 1792, 0, 4096, 12288, 28672, 65280, 130816, 0, 262144, 786432, 1835008, 0, 8126464, 16515072, 33554176, 67108863, 134217727] (.take 0 (.take 1 (.take 2 (.take 3 (.take 4 (.take 5 (.take 6 (.take 7 (.take 8 (.take 9 (.take 10 (.take 11 (.take 12 (.take 13 (.take 14 (.take 15 (.take 16 (.take 17 (.take 18 (.take 19 (.take 20 (.take 21 (.take 22 (.take 23 (.take 24 (.take 25 (.take 26 (.alt 27 .done .noalt))))))))))))))))))))))))))))) .auto)))) .auto))))) .auto))) .auto))
noncomputable def comp_walk_from.c0 : Code := sub comp_walk_from.code [1, 0, 0]
def comp_walk_from.a0 : Ann := (.two .auto (.two (.two .auto (.two (.two .auto (.two (.two .auto (.two (.two .auto (.two (.two (.reg [0, 1, 3, 7, 0, 16, 48, 112, 0, 256, 768, 1792, 0, 4096, 12288, 28672, 65280, 130816, 0, 262144, 786432, 1835008, 0, 4194304, 12582912, 29360128, 66846720, 133955584, 268435200, 536870911, 1073741823] (.take 0 (.take 1 (.take 2 (.take 3 (.take 4 (.take 5 (.take 6 (.take 7 (.take 8 (.take 9 (.take 10 (.take 11 (.take 12 (.take 13 (.take 14 (.take 15 (.take 16 (.take 17 (.take 18 (.take 19 (.take 20 (.take 21 (.take 22 (.take 23 (.take 24 (.take 25 (.take 26 (.take 27 (.take 28 (.take 29 (.alt 30 .done .noalt)))))))))))))))))))))))))))))))) (.two (.reg [0, 1, 3, 7, 0, 16, 48, 112, 255, 511, 0, 1024, 3072, 7168, 0, 16384, 49152, 114688, 261120, 523264, 1048575] (.take 0 (.take 1 (.take 2 (.take 3 (.take 4 (.take 5 (.take 6 (.take 7 (.take 8 (.take 9 (.take 10 (.take 11 (.take 12 (.take 13 (.take 14 (.take 15 (.take 16 (.take 17 (.take 18 (.take 19 (.take 20 .done)))))))))))))))))))))) (.two (.reg [0, 0, 2, 6, 14, 0, 32, 96, 224, 0, 512, 1536, 3584, 8160, 16352, 32766, 65535, 131071, 262143] (.take 0 (.take 1 (.take 2 (.take 3 (.take 5 (.take 6 (.take 7 (.take 8 (.take 9 (.take 10 (.take 11 (.take 12 (.take 13 (.early 4 (.alt 14 (.alt 15 (.take 16 (.take 17 (.alt 18 .done .noalt))) .noalt) .noalt)))))))))))))))) .auto))) .auto)) .auto)) .auto)) (.two .auto (.two .auto (.two (.two .auto (.two .auto (.two .auto (.two (.reg [0, 1, 3, 7, 0, 16, 48, 112, 0, 256, 768, 1792, 0, 4096, 12288, 28672, 65280, 130816, 0, 262144, 786432, 1835008, 0, 8126464, 16515072, 33554176, 67108863, 134217727] (.take 0 (.take 1 (.take 2 (.take 3 (.take 4 (.take 5 (.take 6 (.take 7 (.take 8 (.take 9 (.take 10 (.take 11 (.take 12 (.take 13 (.take 14 (.take 15 (.take 16 (.take 17 (.take 18 (.take 19 (.take 20 (.take 21 (.take 22 (.take 23 (.take 24 (.take 25 (.take 26 (.alt 27 .done .noalt))))))))))))))))))))))))))))) .auto)))) .auto))))) .auto))
def comp_walk_from.keep0 : List Nat := [0, 4]
def comp_walk_from.outs0 : List (Nat × List Nat) := [(2, [])]
set_option maxRecDepth 100000 in
theorem comp_walk_from.L0 [DKc] : LoopOK comp_walk_from.ctx 171 comp_walk_from.c0 0 comp_walk_from.keep0 comp_walk_from.outs0 := by
  refine loop_ok (n := comp_walk_from.a0) comp_walk_from.ok (by kernel_rfl) (loops_ok (l := []) (by kernel_rfl) ?_) comp_walk_from.r0 ?_ ?_ (fun vs h K hh => hh)
  · exact trivial
  · intro K vs h hh
    unfold comp_walk_from.r0 at hh
    split at hh
    · exact hh
    · exact hh
  · intro K m vs h hh
    unfold comp_walk_from.r0 at hh
    split at hh
    · exact cast (by kernel_rfl) hh
    · exact hh.elim
set_option maxRecDepth 100000 in
theorem comp_walk_from.eq (a1 : Option Addr) (a2 : Int) (h : Heap) (K : Heap → Prop) : evF comp_walk_from.ctx Tryz.f45 comp_walk_from.ann [(.pointer a1), (.int .i64 a2)] h (comp_walk_from.ret K) = comp_walk_from a1 a2 h K := by kernel_rfl
set_option maxRecDepth 100000 in
theorem comp_walk_from.calls [DKc] {a1 : Option Addr} {a2 : Int} {h : Heap} {K : Heap → Prop} (hh : comp_walk_from a1 a2 h K) (w : World) (hw : w.heap = h) :
    (callFunc 45 #[(.pointer a1), (.int .i64 a2)]).run Tryz.prog w = .ok (.enter 45 #[(.pointer a1), (.int .i64 a2)]) w ∧ Calls Tryz.prog 45 #[(.pointer a1), (.int .i64 a2)] w fun e w' => ∃ v, e = .returned v ∧ Out w w' ∧ comp_walk_from.ret K v w'.heap := by
  rw [← comp_walk_from.eq] at hh
  exact fn_calls (args := [(.pointer a1), (.int .i64 a2)]) (c := comp_walk_from.code) comp_walk_from.ok Tryz.func45 (by kernel_rfl) (by kernel_rfl) (by kernel_rfl) (by kernel_rfl) (loops_ok (l := [(comp_walk_from.c0, none, 0, comp_walk_from.keep0, comp_walk_from.outs0)]) (by kernel_rfl) ⟨comp_walk_from.L0, trivial⟩) hh w hw

/-! ### slices.Index[[][2]int,[2]int]: function 80 -/
def slices_Index_L_2_int_2_int.b0 (K0 : Int → Heap → Prop) (K2 : Heap → Prop) (cont : (Option Addr) → Nat → Nat → Addr → Int → Int → Heap → Prop) (c0_1001 : Option Addr) (c0_1002 : Nat) (c0_1003 : Nat) (c3_1004 : Addr) (c7_1005 : Int) (v8_1006 : Int) (h1007 : Heap) : Prop :=
  (iteB (decide (v8_1006 < c7_1005)) (((∃ (x1008 : Int), cell h1007 c3_1004 = some (.int .i64 x1008) ∧ ∃ (x1009 : Int), cell h1007 (c3_1004.add 1) = some (.int .i64 x1009) ∧ chkP c0_1001 fun a1010 => (0 ≤ v8_1006 ∧ v8_1006 < (c0_1002 : Int)) ∧ ∃ (x1011 : Int), cell h1007 (a1010.add (v8_1006.toNat * 2)) = some (.int .i64 x1011) ∧ ∃ (x1012 : Int), cell h1007 ((a1010.add (v8_1006.toNat * 2)).add 1) = some (.int .i64 x1012) ∧ (iteB (eqAll [(x1008 == x1011), (x1009 == x1012)]) (K0 v8_1006 h1007) (((cont c0_1001 c0_1002 c0_1003 c3_1004 c7_1005 (IntKind.i64.wrap (v8_1006 + 1)) h1007))))))) (K2 h1007))
def slices_Index_L_2_int_2_int.l0 (K0 : Int → Heap → Prop) (K2 : Heap → Prop) : Nat → (Option Addr) → Nat → Nat → Addr → Int → Int → Heap → Prop
  | 0, _, _, _, _, _, _, _ => False
  | m + 1, c0_1001, c0_1002, c0_1003, c3_1004, c7_1005, v8_1006, h => slices_Index_L_2_int_2_int.b0 K0 K2 (slices_Index_L_2_int_2_int.l0 K0 K2 m) c0_1001 c0_1002 c0_1003 c3_1004 c7_1005 v8_1006 h
def slices_Index_L_2_int_2_int (a1 : Option Addr) (a1l : Nat) (a1c : Nat) (a2 : Int) (a3 : Int) (h : Heap) (K : Int → Heap → Prop) : Prop :=
  newP h (.cells #[(.int .i64 a2), (.int .i64 a3)] 43) fun a4 h5 => ((∃ m9, slices_Index_L_2_int_2_int.l0 (fun z6 h7 => K z6 h7) (fun h8 => (((K (-1) h8)))) m9 a1 a1l a1c a4 (a1l : Int) 0 h5))
def slices_Index_L_2_int_2_int.ret (K : Int → Heap → Prop) (v : Value) (h : Heap) : Prop := match v with
  | (.int .i64 r10) => K r10 h
  | _ => False
theorem slices_Index_L_2_int_2_int.ret_elim {K : Int → Heap → Prop} {K' : Value → Heap → Prop} {v : Value} {h : Heap} (hk : ∀ r10 h, K r10 h → K' (.int .i64 r10) h) (hh : slices_Index_L_2_int_2_int.ret K v h) : K' v h := by
  unfold slices_Index_L_2_int_2_int.ret at hh
  split at hh
  · exact hk _ _ hh
  · exact hh.elim
def slices_Index_L_2_int_2_int.r0 (K : Nat → List Value → Heap → Prop) (m : Nat) (vs : List Value) (h : Heap) : Prop := match vs with
  | [(.slice c0_1001 c0_1002 c0_1003), (.pointer (some c3_1004)), (.int .i64 c7_1005), (.int .i64 v8_1006)] => slices_Index_L_2_int_2_int.l0 (fun z11 h' => K 0 [(.int .i64 z11)] h') (fun h' => K 2 [] h') m c0_1001 c0_1002 c0_1003 c3_1004 c7_1005 v8_1006 h
  | _ => False
def slices_Index_L_2_int_2_int.loop (i : Nat) (vs : List Value) (h : Heap) (K : Nat → List Value → Heap → Prop) : Prop := match i with
  | 0 => ∃ m, slices_Index_L_2_int_2_int.r0 K m vs h
  | _ => False
noncomputable def slices_Index_L_2_int_2_int.ctx : Ctx := { P := Tryz.prog, call := fun _ _ _ _ => False, qcall := fun _ _ _ _ => False, quiet := fun f => Nat.beq f 1000131 || Nat.beq f 1000155, loop := slices_Index_L_2_int_2_int.loop }
theorem slices_Index_L_2_int_2_int.ok [DKc] : slices_Index_L_2_int_2_int.ctx.OK where
  mixed := by kernel_rfl
  mono := fun hh _ => hh.elim
  call := fun hh => hh.elim
  qmono := fun hh _ => hh.elim
  qval := fun hh => hh.elim
  qcall := fun hh => hh.elim
noncomputable def slices_Index_L_2_int_2_int.code : Code := (Tryz.f80.body).getD .skip
def slices_Index_L_2_int_2_int.ann : Ann := (.two .auto (.two (.two .auto (.two (.loop 0 [0, 3, 7, 8] [(2, []), (0, [4])] (.two .auto (.two .auto (.two (.two (.two .auto (.two (.reg [0, 0, 0, 6, 14, 31] (.take 0 (.take 1 (.take 2 (.take 3 (.take 4 (.take 5 .done))))))) .auto)) .auto) .auto)))) .auto)) .auto))
noncomputable def slices_Index_L_2_int_2_int.c0 : Code := sub slices_Index_L_2_int_2_int.code [1, 0, 1, 0, 0]
def slices_Index_L_2_int_2_int.a0 : Ann := (.two .auto (.two .auto (.two (.two (.two .auto (.two (.reg [0, 0, 0, 6, 14, 31] (.take 0 (.take 1 (.take 2 (.take 3 (.take 4 (.take 5 .done))))))) .auto)) .auto) .auto)))
def slices_Index_L_2_int_2_int.keep0 : List Nat := [0, 3, 7, 8]
def slices_Index_L_2_int_2_int.outs0 : List (Nat × List Nat) := [(2, []), (0, [4])]
set_option maxRecDepth 100000 in
theorem slices_Index_L_2_int_2_int.L0 [DKc] : LoopOK slices_Index_L_2_int_2_int.ctx 19 slices_Index_L_2_int_2_int.c0 0 slices_Index_L_2_int_2_int.keep0 slices_Index_L_2_int_2_int.outs0 := by
  refine loop_ok (n := slices_Index_L_2_int_2_int.a0) slices_Index_L_2_int_2_int.ok (by kernel_rfl) (loops_ok (l := []) (by kernel_rfl) ?_) slices_Index_L_2_int_2_int.r0 ?_ ?_ (fun vs h K hh => hh)
  · exact trivial
  · intro K vs h hh
    unfold slices_Index_L_2_int_2_int.r0 at hh
    split at hh
    · exact hh
    · exact hh
  · intro K m vs h hh
    unfold slices_Index_L_2_int_2_int.r0 at hh
    split at hh
    · exact cast (by kernel_rfl) hh
    · exact hh.elim
set_option maxRecDepth 100000 in
theorem slices_Index_L_2_int_2_int.eq (a1 : Option Addr) (a1l : Nat) (a1c : Nat) (a2 : Int) (a3 : Int) (h : Heap) (K : Int → Heap → Prop) : evF slices_Index_L_2_int_2_int.ctx Tryz.f80 slices_Index_L_2_int_2_int.ann [(.slice a1 a1l a1c), (.agg #[(.int .i64 a2), (.int .i64 a3)])] h (slices_Index_L_2_int_2_int.ret K) = slices_Index_L_2_int_2_int a1 a1l a1c a2 a3 h K := by kernel_rfl
set_option maxRecDepth 100000 in
theorem slices_Index_L_2_int_2_int.calls [DKc] {a1 : Option Addr} {a1l : Nat} {a1c : Nat} {a2 : Int} {a3 : Int} {h : Heap} {K : Int → Heap → Prop} (hh : slices_Index_L_2_int_2_int a1 a1l a1c a2 a3 h K) (w : World) (hw : w.heap = h) :
    (callFunc 80 #[(.slice a1 a1l a1c), (.agg #[(.int .i64 a2), (.int .i64 a3)])]).run Tryz.prog w = .ok (.enter 80 #[(.slice a1 a1l a1c), (.agg #[(.int .i64 a2), (.int .i64 a3)])]) w ∧ Calls Tryz.prog 80 #[(.slice a1 a1l a1c), (.agg #[(.int .i64 a2), (.int .i64 a3)])] w fun e w' => ∃ v, e = .returned v ∧ Out w w' ∧ slices_Index_L_2_int_2_int.ret K v w'.heap := by
  rw [← slices_Index_L_2_int_2_int.eq] at hh
  exact fn_calls (args := [(.slice a1 a1l a1c), (.agg #[(.int .i64 a2), (.int .i64 a3)])]) (c := slices_Index_L_2_int_2_int.code) slices_Index_L_2_int_2_int.ok Tryz.func80 (by kernel_rfl) (by kernel_rfl) (by kernel_rfl) (by kernel_rfl) (loops_ok (l := [(slices_Index_L_2_int_2_int.c0, none, 0, slices_Index_L_2_int_2_int.keep0, slices_Index_L_2_int_2_int.outs0)]) (by kernel_rfl) ⟨slices_Index_L_2_int_2_int.L0, trivial⟩) hh w hw

/-! ### slices.Contains[[][2]int,[2]int]: function 47 -/
def slices_Contains_L_2_int_2_int (a1 : Option Addr) (a1l : Nat) (a1c : Nat) (a2 : Int) (a3 : Int) (h : Heap) (K : Bool → Heap → Prop) : Prop :=
  newP h (.cells #[(.int .i64 a2), (.int .i64 a3)] 43) fun a4 h5 => (∃ (x6 : Int), cell h5 a4 = some (.int .i64 x6) ∧ ∃ (x7 : Int), cell h5 (a4.add 1) = some (.int .i64 x7) ∧ callP1 (slices_Index_L_2_int_2_int a1 a1l a1c x6 x7 h5) fun x8 h9 => (K (decide (x8 ≥ (0 : Int))) h9))
def slices_Contains_L_2_int_2_int.ret (K : Bool → Heap → Prop) (v : Value) (h : Heap) : Prop := match v with
  | (.bool r10) => K r10 h
  | _ => False
theorem slices_Contains_L_2_int_2_int.ret_elim {K : Bool → Heap → Prop} {K' : Value → Heap → Prop} {v : Value} {h : Heap} (hk : ∀ r10 h, K r10 h → K' (.bool r10) h) (hh : slices_Contains_L_2_int_2_int.ret K v h) : K' v h := by
  unfold slices_Contains_L_2_int_2_int.ret at hh
  split at hh
  · exact hk _ _ hh
  · exact hh.elim
def slices_Contains_L_2_int_2_int.call (f : FuncId) (vs : List Value) (h : Heap) (K : Value → Heap → Prop) : Prop := match f, vs with
  | 80, [(.slice a1 a1l a1c), (.agg ⟨[(.int .i64 a2), (.int .i64 a3)]⟩)] => callP1 (slices_Index_L_2_int_2_int a1 a1l a1c a2 a3 h) fun r10 h' => K (.int .i64 r10) h'
  | _, _ => False
noncomputable def slices_Contains_L_2_int_2_int.ctx : Ctx := { P := Tryz.prog, call := slices_Contains_L_2_int_2_int.call, qcall := fun _ _ _ _ => False, quiet := fun f => Nat.beq f 1000131 || Nat.beq f 1000155, loop := fun _ _ _ _ => False }
theorem slices_Contains_L_2_int_2_int.ok [DKc] : slices_Contains_L_2_int_2_int.ctx.OK where
  mixed := by kernel_rfl
  mono := by
    intro f args h K K' hh hk
    change slices_Contains_L_2_int_2_int.call f args h K at hh
    change slices_Contains_L_2_int_2_int.call f args h K'
    unfold slices_Contains_L_2_int_2_int.call at hh ⊢
    split at hh
    · obtain ⟨R, h1, h2⟩ := hh
      exact ⟨R, h1, fun _ x hr => hk _ _ (h2 _ x hr)⟩
    · exact hh.elim
  call := by
    intro f args h K hh w hw
    change slices_Contains_L_2_int_2_int.call f args h K at hh
    unfold slices_Contains_L_2_int_2_int.call at hh
    split at hh
    · obtain ⟨R, h1, h2⟩ := hh
      obtain ⟨g1, g2⟩ := slices_Index_L_2_int_2_int.calls h1 w hw
      exact ⟨g1, g2.mono fun e w' ⟨v, he, ho, hr⟩ => ⟨v, he, ho, slices_Index_L_2_int_2_int.ret_elim h2 hr⟩⟩
    · exact hh.elim
  qmono := fun hh _ => hh.elim
  qval := fun hh => hh.elim
  qcall := fun hh => hh.elim
noncomputable def slices_Contains_L_2_int_2_int.code : Code := (Tryz.f47.body).getD .skip
def slices_Contains_L_2_int_2_int.ann : Ann := .auto
set_option maxRecDepth 100000 in
theorem slices_Contains_L_2_int_2_int.eq (a1 : Option Addr) (a1l : Nat) (a1c : Nat) (a2 : Int) (a3 : Int) (h : Heap) (K : Bool → Heap → Prop) : evF slices_Contains_L_2_int_2_int.ctx Tryz.f47 slices_Contains_L_2_int_2_int.ann [(.slice a1 a1l a1c), (.agg #[(.int .i64 a2), (.int .i64 a3)])] h (slices_Contains_L_2_int_2_int.ret K) = slices_Contains_L_2_int_2_int a1 a1l a1c a2 a3 h K := by kernel_rfl
set_option maxRecDepth 100000 in
theorem slices_Contains_L_2_int_2_int.calls [DKc] {a1 : Option Addr} {a1l : Nat} {a1c : Nat} {a2 : Int} {a3 : Int} {h : Heap} {K : Bool → Heap → Prop} (hh : slices_Contains_L_2_int_2_int a1 a1l a1c a2 a3 h K) (w : World) (hw : w.heap = h) :
    (callFunc 47 #[(.slice a1 a1l a1c), (.agg #[(.int .i64 a2), (.int .i64 a3)])]).run Tryz.prog w = .ok (.enter 47 #[(.slice a1 a1l a1c), (.agg #[(.int .i64 a2), (.int .i64 a3)])]) w ∧ Calls Tryz.prog 47 #[(.slice a1 a1l a1c), (.agg #[(.int .i64 a2), (.int .i64 a3)])] w fun e w' => ∃ v, e = .returned v ∧ Out w w' ∧ slices_Contains_L_2_int_2_int.ret K v w'.heap := by
  rw [← slices_Contains_L_2_int_2_int.eq] at hh
  exact fn_calls (args := [(.slice a1 a1l a1c), (.agg #[(.int .i64 a2), (.int .i64 a3)])]) (c := slices_Contains_L_2_int_2_int.code) slices_Contains_L_2_int_2_int.ok Tryz.func47 (by kernel_rfl) (by kernel_rfl) (by kernel_rfl) (by kernel_rfl) (loops_ok (l := []) (by kernel_rfl) trivial) hh w hw

/-! ### strait/comp.Bridges: function 10 -/
def comp_Bridges.b1 (K4 : (Option Addr) → Nat → Nat → Heap → Prop) (cont : Addr → (Option Addr) → Nat → Nat → (Option Addr) → Nat → Nat → Int → Int → Heap → Prop) (c3_2001 : Addr) (v5_2002 : Option Addr) (v5_2002l : Nat) (v5_2002c : Nat) (c35_2003 : Option Addr) (c35_2004 : Nat) (c35_2005 : Nat) (c36_2006 : Int) (v37_2007 : Int) (h2008 : Heap) : Prop :=
  (iteB (decide (v37_2007 < c36_2006)) ((let j2053 := (fun (y2051 : Option Addr) (y2051l : Nat) (y2051c : Nat) (h2052 : Heap) => cont c3_2001 y2051 y2051l y2051c c35_2003 c35_2004 c35_2005 c36_2006 (IntKind.i64.wrap (v37_2007 + 1)) h2052);
  chkP c35_2003 fun a2009 => (0 ≤ v37_2007 ∧ v37_2007 < (c35_2004 : Int)) ∧ ∃ (x2010 : Int), cell h2008 (a2009.add (v37_2007.toNat * 3)) = some (.int .i64 x2010) ∧ ∃ (x2011 : Int), cell h2008 ((a2009.add (v37_2007.toNat * 3)).add 1) = some (.int .i64 x2011) ∧ ∃ (x2012 : Int), cell h2008 ((a2009.add (v37_2007.toNat * 3)).add 2) = some (.int .i64 x2012) ∧ newP h2008 (.cells #[(.int .i64 0), (.int .i64 0), (.int .i64 0)] 82) fun a2013 h2014 => stC h2014 a2013 (.int .i64 x2010) fun h2015 => stC h2015 (a2013.add 1) (.int .i64 x2011) fun h2016 => stC h2016 (a2013.add 2) (.int .i64 x2012) fun h2017 => (∃ (x2018 : Option Addr) (x2018l : Nat) (x2018c : Nat), cell h2017 (c3_2001.add 4) = some (.slice x2018 x2018l x2018c) ∧ ∃ (x2019 : Int), cell h2017 a2013 = some (.int .i64 x2019) ∧ ∃ (x2020 : Int), cell h2017 (a2013.add 1) = some (.int .i64 x2020) ∧ callP1 (slices_Contains_L_2_int_2_int x2018 x2018l x2018c x2019 x2020 h2017) fun x2021 h2022 => iteB x2021 ((newP h2022 (.cells #[(.int .i64 v37_2007)] 3) fun a2037 h2038 => ∃ n2043, cellsAt h2038 (some a2037) (1 * 1) n2043 ∧ appP 3 1 8 [(.int .i64 0)] v5_2002 v5_2002l v5_2002c 1 n2043 h2038 fun q2039 l2040 c2041 h2042 => ((j2053 q2039 l2040 c2041 h2042)))) (∃ (x2023 : Option Addr) (x2023l : Nat) (x2023c : Nat), cell h2022 (c3_2001.add 4) = some (.slice x2023 x2023l x2023c) ∧ ∃ (x2024 : Int), cell h2022 (a2013.add 1) = some (.int .i64 x2024) ∧ ∃ (x2025 : Int), cell h2022 a2013 = some (.int .i64 x2025) ∧ callP1 (slices_Contains_L_2_int_2_int x2023 x2023l x2023c x2024 x2025 h2022) fun x2026 h2027 => (iteB x2026 (newP h2027 (.cells #[(.int .i64 v37_2007)] 3) fun a2044 h2045 => ∃ n2050, cellsAt h2045 (some a2044) (1 * 1) n2050 ∧ appP 3 1 8 [(.int .i64 0)] v5_2002 v5_2002l v5_2002c 1 n2050 h2045 fun q2046 l2047 c2048 h2049 => ((j2053 q2046 l2047 c2048 h2049))) (((j2053 v5_2002 v5_2002l v5_2002c h2027)))))))) (K4 v5_2002 v5_2002l v5_2002c h2008))
def comp_Bridges.l1 (K4 : (Option Addr) → Nat → Nat → Heap → Prop) : Nat → Addr → (Option Addr) → Nat → Nat → (Option Addr) → Nat → Nat → Int → Int → Heap → Prop
  | 0, _, _, _, _, _, _, _, _, _, _ => False
  | m + 1, c3_2001, v5_2002, v5_2002l, v5_2002c, c35_2003, c35_2004, c35_2005, c36_2006, v37_2007, h => comp_Bridges.b1 K4 (comp_Bridges.l1 K4 m) c3_2001 v5_2002 v5_2002l v5_2002c c35_2003 c35_2004 c35_2005 c36_2006 v37_2007 h
def comp_Bridges.b0 (K2 : Heap → Prop) (cont : (Option Addr) → Addr → Int → Int → Heap → Prop) (c0_1001 : Option Addr) (c3_1002 : Addr) (c18_1003 : Int) (v19_1004 : Int) (h1005 : Heap) : Prop :=
  (iteB (decide (v19_1004 < c18_1003)) (((∃ (x1006 : Option Addr) (x1006l : Nat) (x1006c : Nat), cell h1005 (c3_1002.add 1) = some (.slice x1006 x1006l x1006c) ∧ chkP x1006 fun a1007 => (0 ≤ v19_1004 ∧ v19_1004 < (x1006l : Int)) ∧ ∃ (x1008 : Int), cell h1005 (a1007.add (v19_1004.toNat * 1)) = some (.int .i64 x1008) ∧ (iteB (x1008 == (0 : Int)) (callP0 (comp_walk_from (some c3_1002) v19_1004 h1005) fun h1009 => ((cont c0_1001 c3_1002 c18_1003 (IntKind.i64.wrap (v19_1004 + 1)) h1009))) (((cont c0_1001 c3_1002 c18_1003 (IntKind.i64.wrap (v19_1004 + 1)) h1005))))))) (K2 h1005))
def comp_Bridges.l0 (K2 : Heap → Prop) : Nat → (Option Addr) → Addr → Int → Int → Heap → Prop
  | 0, _, _, _, _, _ => False
  | m + 1, c0_1001, c3_1002, c18_1003, v19_1004, h => comp_Bridges.b0 K2 (comp_Bridges.l0 K2 m) c0_1001 c3_1002 c18_1003 v19_1004 h
def comp_Bridges (a1 : Option Addr) (h : Heap) (K : (Option Addr) → Nat → Nat → Heap → Prop) : Prop :=
  (qcallP1 h (net_Net_N a1 h) fun x2 => qcallP1 h (net_Net_N a1 h) fun x3 => ((0 ≤ x2 ∧ x2 ≤ x2 ∧ x2 * (8 : Nat) ≤ 2 ^ 47 ∧ x2 ≤ 2 ^ 47) ∧ newP h (.cells (zeroRow [(.int .i64 0)] x2.toNat).toArray 3) fun a4 h5 => (qcallP1 h5 (net_Net_N a1 h5) fun x6 => ((.int .i64 x6) : Value) = (.int .i64 x3)) ∧ (0 ≤ x3 ∧ x3 ≤ x3 ∧ x3 * (8 : Nat) ≤ 2 ^ 47 ∧ x3 ≤ 2 ^ 47) ∧ newP h5 (.cells (zeroRow [(.int .i64 0)] x3.toNat).toArray 3) fun a7 h8 => newP h8 (.cells #[(.pointer a1), (.slice (some a4) x2.toNat x2.toNat), (.slice (some a7) x3.toNat x3.toNat), (.int .i64 0), (.slice none 0 0)] 101) fun a9 h10 => (qcallP1 h10 (net_Net_N a1 h10) fun x27 => (∃ m29, comp_Bridges.l0 (fun h28 => (((callP3 (net_Net_Edges a1 h28) fun x30 x30l x30c h31 => (∃ m34, comp_Bridges.l1 (fun z32 z32l z32c h33 => (K z32 z32l z32c h33)) m34 a9 none 0 0 x30 x30l x30c (x30l : Int) 0 h31))))) m29 a1 a9 x27 0 h10))) ∧ ((0 ≤ x3 ∧ x3 ≤ x3 ∧ x3 * (8 : Nat) ≤ 2 ^ 47 ∧ x3 ≤ 2 ^ 47) ∧ newP h (.cells (zeroRow [(.int .i64 0)] x3.toNat).toArray 3) fun a11 h12 => (0 ≤ x2 ∧ x2 ≤ x2 ∧ x2 * (8 : Nat) ≤ 2 ^ 47 ∧ x2 ≤ 2 ^ 47) ∧ newP h12 (.cells (zeroRow [(.int .i64 0)] x2.toNat).toArray 3) fun a13 h14 => newP h14 (.cells #[(.pointer a1), (.slice (some a13) x2.toNat x2.toNat), (.slice (some a11) x3.toNat x3.toNat), (.int .i64 0), (.slice none 0 0)] 101) fun a15 h16 => (qcallP1 h16 (net_Net_N a1 h16) fun x35 => (∃ m37, comp_Bridges.l0 (fun h36 => (((callP3 (net_Net_Edges a1 h36) fun x38 x38l x38c h39 => (∃ m42, comp_Bridges.l1 (fun z40 z40l z40c h41 => (K z40 z40l z40c h41)) m42 a15 none 0 0 x38 x38l x38c (x38l : Int) 0 h39))))) m37 a1 a15 x35 0 h16))))
def comp_Bridges.ret (K : (Option Addr) → Nat → Nat → Heap → Prop) (v : Value) (h : Heap) : Prop := match v with
  | (.slice r43 r43l r43c) => K r43 r43l r43c h
  | _ => False
theorem comp_Bridges.ret_elim {K : (Option Addr) → Nat → Nat → Heap → Prop} {K' : Value → Heap → Prop} {v : Value} {h : Heap} (hk : ∀ r43 r43l r43c h, K r43 r43l r43c h → K' (.slice r43 r43l r43c) h) (hh : comp_Bridges.ret K v h) : K' v h := by
  unfold comp_Bridges.ret at hh
  split at hh
  · exact hk _ _ _ _ hh
  · exact hh.elim
def comp_Bridges.call (f : FuncId) (vs : List Value) (h : Heap) (K : Value → Heap → Prop) : Prop := match f, vs with
  | 45, [(.pointer a1), (.int .i64 a2)] => callP0 (comp_walk_from a1 a2 h) fun h' => K (.tuple #[]) h'
  | 46, [(.pointer a1)] => callP3 (net_Net_Edges a1 h) fun r6 r6l r6c h' => K (.slice r6 r6l r6c) h'
  | 47, [(.slice a1 a1l a1c), (.agg ⟨[(.int .i64 a2), (.int .i64 a3)]⟩)] => callP1 (slices_Contains_L_2_int_2_int a1 a1l a1c a2 a3 h) fun r10 h' => K (.bool r10) h'
  | _, _ => False
def comp_Bridges.qcall (f : FuncId) (vs : List Value) (h : Heap) (K : Value → Prop) : Prop := match f, vs with
  | 44, [(.pointer a1)] => qcallP1 h (net_Net_N a1 h) fun r4 => K (.int .i64 r4)
  | _, _ => False
def comp_Bridges.r0 (K : Nat → List Value → Heap → Prop) (m : Nat) (vs : List Value) (h : Heap) : Prop := match vs with
  | [(.pointer c0_1001), (.pointer (some c3_1002)), (.int .i64 c18_1003), (.int .i64 v19_1004)] => comp_Bridges.l0 (fun h' => K 2 [(.pointer c0_1001), (.pointer (some c3_1002))] h') m c0_1001 c3_1002 c18_1003 v19_1004 h
  | _ => False
def comp_Bridges.r1 (K : Nat → List Value → Heap → Prop) (m : Nat) (vs : List Value) (h : Heap) : Prop := match vs with
  | [(.pointer (some c3_2001)), (.slice v5_2002 v5_2002l v5_2002c), (.slice c35_2003 c35_2004 c35_2005), (.int .i64 c36_2006), (.int .i64 v37_2007)] => comp_Bridges.l1 (fun z44 z44l z44c h' => K 4 [(.slice z44 z44l z44c)] h') m c3_2001 v5_2002 v5_2002l v5_2002c c35_2003 c35_2004 c35_2005 c36_2006 v37_2007 h
  | _ => False
def comp_Bridges.loop (i : Nat) (vs : List Value) (h : Heap) (K : Nat → List Value → Heap → Prop) : Prop := match i with
  | 0 => ∃ m, comp_Bridges.r0 K m vs h
  | 1 => ∃ m, comp_Bridges.r1 K m vs h
  | _ => False
noncomputable def comp_Bridges.ctx : Ctx := { P := Tryz.prog, call := comp_Bridges.call, qcall := comp_Bridges.qcall, quiet := fun f => Nat.beq f 44 || Nat.beq f 1000131 || Nat.beq f 1000155, loop := comp_Bridges.loop }
theorem comp_Bridges.ok [DKc] : comp_Bridges.ctx.OK where
  mixed := by kernel_rfl
  mono := by
    intro f args h K K' hh hk
    change comp_Bridges.call f args h K at hh
    change comp_Bridges.call f args h K'
    unfold comp_Bridges.call at hh ⊢
    split at hh
    · obtain ⟨R, h1, h2⟩ := hh
      exact ⟨R, h1, fun x hr => hk _ _ (h2 x hr)⟩
    · obtain ⟨R, h1, h2⟩ := hh
      exact ⟨R, h1, fun _ _ _ x hr => hk _ _ (h2 _ _ _ x hr)⟩
    · obtain ⟨R, h1, h2⟩ := hh
      exact ⟨R, h1, fun _ x hr => hk _ _ (h2 _ x hr)⟩
    · exact hh.elim
  call := by
    intro f args h K hh w hw
    change comp_Bridges.call f args h K at hh
    unfold comp_Bridges.call at hh
    split at hh
    · obtain ⟨R, h1, h2⟩ := hh
      obtain ⟨g1, g2⟩ := comp_walk_from.calls h1 w hw
      exact ⟨g1, g2.mono fun e w' ⟨v, he, ho, hr⟩ => ⟨v, he, ho, comp_walk_from.ret_elim h2 hr⟩⟩
    · obtain ⟨R, h1, h2⟩ := hh
      obtain ⟨g1, g2⟩ := net_Net_Edges.calls h1 w hw
      exact ⟨g1, g2.mono fun e w' ⟨v, he, ho, hr⟩ => ⟨v, he, ho, net_Net_Edges.ret_elim h2 hr⟩⟩
    · obtain ⟨R, h1, h2⟩ := hh
      obtain ⟨g1, g2⟩ := slices_Contains_L_2_int_2_int.calls h1 w hw
      exact ⟨g1, g2.mono fun e w' ⟨v, he, ho, hr⟩ => ⟨v, he, ho, slices_Contains_L_2_int_2_int.ret_elim h2 hr⟩⟩
    · exact hh.elim
  qmono := by
    intro f args h K K' hh hk
    change comp_Bridges.qcall f args h K at hh
    change comp_Bridges.qcall f args h K'
    unfold comp_Bridges.qcall at hh ⊢
    split at hh
    · obtain ⟨x0, h1, h2⟩ := hh
      exact ⟨x0, h1, hk _ h2⟩
    · exact hh.elim
  qval := by
    intro f args h K hh
    change comp_Bridges.qcall f args h K at hh
    suffices H : ∃ v, K v ∧ comp_Bridges.qcall f args h (· = v) from H
    unfold comp_Bridges.qcall at hh ⊢
    split at hh
    · obtain ⟨x0, h1, h2⟩ := hh
      exact ⟨_, h2, x0, h1, rfl⟩
    · exact hh.elim
  qcall := by
    intro f args h v hh w hw
    change comp_Bridges.qcall f args h (· = v) at hh
    unfold comp_Bridges.qcall at hh
    split at hh
    · obtain ⟨x0, h1, h2⟩ := hh
      obtain ⟨g1, g2⟩ := net_Net_N.calls h1 w hw
      refine .inl ⟨g1, g2.mono fun e w' ⟨u, he, ho, hr⟩ => ?_⟩
      have hq := net_Net_N.ret_elim (K' := fun u h' => u = v ∧ h' = h) (fun _ h' hr => by obtain ⟨rfl, rfl⟩ := hr; exact ⟨h2, rfl⟩) hr
      exact ⟨hq.1 ▸ he, ho, hq.2⟩
    · exact hh.elim
noncomputable def comp_Bridges.code : Code := (Tryz.f10.body).getD .skip
def comp_Bridges.ann : Ann := (.two .auto (.two (.reg [0, 0, 2, 6, 0, 22, 54, 127, 255, 511] (.take 0 (.take 1 (.take 2 (.take 4 (.early 5 (.alt 3 (.alt 6 (.take 7 (.alt 8 (.take 9 .done) .noalt)) .noalt) (.alt 6 (.alt 3 (.take 7 (.alt 8 (.take 9 .done) .noalt)) .noalt) .noalt)))))))) (.two (.two .auto (.two (.loop 0 [0, 3, 18, 19] [(2, [0, 3])] .auto) .auto)) (.two .auto (.two (.two .auto (.two (.loop 1 [3, 5, 35, 36, 37] [(4, [5])] (.two .auto (.two .auto (.two (.two (.two .auto (.two (.reg [0, 1, 3, 7, 0, 16, 0, 64, 240, 511, 1023, 2047, 4095, 8191, 16383, 2047, 34815, 2047, 133119, 493567, 1048575, 2097151] (.take 0 (.take 1 (.take 2 (.take 3 (.take 4 (.take 5 (.take 6 (.take 7 (.take 8 (.alt 9 (.take 10 (.take 11 (.take 12 (.take 13 (.take 14 (.take 15 (.take 16 (.take 17 (.take 18 (.take 19 (.alt 20 (.take 21 .done) .noalt))))))))))) .noalt))))))))))) .auto)) .auto) .auto)))) .auto)) .auto)))))
noncomputable def comp_Bridges.c1 : Code := sub comp_Bridges.code [1, 1, 1, 1, 0, 1, 0, 0]
def comp_Bridges.a1 : Ann := (.two .auto (.two .auto (.two (.two (.two .auto (.two (.reg [0, 1, 3, 7, 0, 16, 0, 64, 240, 511, 1023, 2047, 4095, 8191, 16383, 2047, 34815, 2047, 133119, 493567, 1048575, 2097151] (.take 0 (.take 1 (.take 2 (.take 3 (.take 4 (.take 5 (.take 6 (.take 7 (.take 8 (.alt 9 (.take 10 (.take 11 (.take 12 (.take 13 (.take 14 (.take 15 (.take 16 (.take 17 (.take 18 (.take 19 (.alt 20 (.take 21 .done) .noalt))))))))))) .noalt))))))))))) .auto)) .auto) .auto)))
def comp_Bridges.keep1 : List Nat := [3, 5, 35, 36, 37]
def comp_Bridges.outs1 : List (Nat × List Nat) := [(4, [5])]
noncomputable def comp_Bridges.c0 : Code := sub comp_Bridges.code [1, 1, 0, 1, 0, 0]
def comp_Bridges.a0 : Ann := .auto
def comp_Bridges.keep0 : List Nat := [0, 3, 18, 19]
def comp_Bridges.outs0 : List (Nat × List Nat) := [(2, [0, 3])]
set_option maxRecDepth 100000 in
theorem comp_Bridges.L0 [DKc] : LoopOK comp_Bridges.ctx 70 comp_Bridges.c0 0 comp_Bridges.keep0 comp_Bridges.outs0 := by
  refine loop_ok (n := comp_Bridges.a0) comp_Bridges.ok (by kernel_rfl) (loops_ok (l := []) (by kernel_rfl) ?_) comp_Bridges.r0 ?_ ?_ (fun vs h K hh => hh)
  · exact trivial
  · intro K vs h hh
    unfold comp_Bridges.r0 at hh
    split at hh
    · exact hh
    · exact hh
  · intro K m vs h hh
    unfold comp_Bridges.r0 at hh
    split at hh
    · exact cast (by kernel_rfl) hh
    · exact hh.elim
set_option maxRecDepth 100000 in
theorem comp_Bridges.L1 [DKc] : LoopOK comp_Bridges.ctx 70 comp_Bridges.c1 1 comp_Bridges.keep1 comp_Bridges.outs1 := by
  refine loop_ok (n := comp_Bridges.a1) comp_Bridges.ok (by kernel_rfl) (loops_ok (l := []) (by kernel_rfl) ?_) comp_Bridges.r1 ?_ ?_ (fun vs h K hh => hh)
  · exact trivial
  · intro K vs h hh
    unfold comp_Bridges.r1 at hh
    split at hh
    · exact hh
    · exact hh
  · intro K m vs h hh
    unfold comp_Bridges.r1 at hh
    split at hh
    · exact cast (by kernel_rfl) hh
    · exact hh.elim
set_option maxRecDepth 100000 in
theorem comp_Bridges.eq (a1 : Option Addr) (h : Heap) (K : (Option Addr) → Nat → Nat → Heap → Prop) : evF comp_Bridges.ctx Tryz.f10 comp_Bridges.ann [(.pointer a1)] h (comp_Bridges.ret K) = comp_Bridges a1 h K := by kernel_rfl
set_option maxRecDepth 100000 in
theorem comp_Bridges.calls [DKc] {a1 : Option Addr} {h : Heap} {K : (Option Addr) → Nat → Nat → Heap → Prop} (hh : comp_Bridges a1 h K) (w : World) (hw : w.heap = h) :
    (callFunc 10 #[(.pointer a1)]).run Tryz.prog w = .ok (.enter 10 #[(.pointer a1)]) w ∧ Calls Tryz.prog 10 #[(.pointer a1)] w fun e w' => ∃ v, e = .returned v ∧ Out w w' ∧ comp_Bridges.ret K v w'.heap := by
  rw [← comp_Bridges.eq] at hh
  exact fn_calls (args := [(.pointer a1)]) (c := comp_Bridges.code) comp_Bridges.ok Tryz.func10 (by kernel_rfl) (by kernel_rfl) (by kernel_rfl) (by kernel_rfl) (loops_ok (l := [(comp_Bridges.c0, none, 0, comp_Bridges.keep0, comp_Bridges.outs0), (comp_Bridges.c1, none, 1, comp_Bridges.keep1, comp_Bridges.outs1)]) (by kernel_rfl) ⟨comp_Bridges.L0, comp_Bridges.L1, trivial⟩) hh w hw

/-! ### strait/straitlaw20.awake: function 7 -/
section
variable [DKc]
def straitlaw20_awake (h : Heap) (K : Bool → Heap → Prop) : Prop :=
  (newP h (.cells #[(.int .i64 0), (.int .i64 1), (.int .i64 5), (.int .i64 1), (.int .i64 2), (.int .i64 1)] 82) fun a1 h2 => callP3 (net_New 4 (some a1) 2 2 h2) fun x3 x4 x5 h6 => (iteB (x4 == (0 : Int)) (callP1 (comp_Count x3 h6) fun x7 h8 => iteB (x7 == (2 : Int)) (callP3 (comp_Heavy x3 2 h8) fun x9 x9l x9c h10 => iteB ((x9l : Int) == (3 : Int)) (callP3 (comp_Reach x3 2 h10) fun x11 x11l x11c h12 => newP h12 (.cells #[(.int .i64 0), (.int .i64 1), (.int .i64 2)] 3) fun a13 h14 => qcallP1 h14 (straitref09_Ints x11 x11l x11c (some a13) 3 3 h14) fun x15 => iteB x15 (callP3 (comp_Bridges x3 h14) fun x16 x16l x16c h17 => (K ((x16l : Int) == (2 : Int)) h17)) (K false h14)) (K false h10)) (K false h8)) (K false h6)))
def straitlaw20_awake.ret (K : Bool → Heap → Prop) (v : Value) (h : Heap) : Prop := match v with
  | (.bool r20) => K r20 h
  | _ => False
theorem straitlaw20_awake.ret_elim {K : Bool → Heap → Prop} {K' : Value → Heap → Prop} {v : Value} {h : Heap} (hk : ∀ r20 h, K r20 h → K' (.bool r20) h) (hh : straitlaw20_awake.ret K v h) : K' v h := by
  unfold straitlaw20_awake.ret at hh
  split at hh
  · exact hk _ _ hh
  · exact hh.elim
def straitlaw20_awake.call (f : FuncId) (vs : List Value) (h : Heap) (K : Value → Heap → Prop) : Prop := match f, vs with
  | 8, [(.int .i64 a1), (.slice a2 a2l a2c)] => callP3 (net_New a1 a2 a2l a2c h) fun r37 r38 r39 h' => K (.tuple #[(.pointer r37), (.int .i64 r38), (.int .i64 r39)]) h'
  | 10, [(.pointer a1)] => callP3 (comp_Bridges a1 h) fun r43 r43l r43c h' => K (.slice r43 r43l r43c) h'
  | 15, [(.pointer a1)] => callP1 (comp_Count a1 h) fun r5 h' => K (.int .i64 r5) h'
  | 17, [(.pointer a1), (.int .i64 a2)] => callP3 (comp_Heavy a1 a2 h) fun r7 r7l r7c h' => K (.slice r7 r7l r7c) h'
  | 18, [(.pointer a1), (.int .i64 a2)] => callP3 (comp_Reach a1 a2 h) fun r16 r16l r16c h' => K (.slice r16 r16l r16c) h'
  | _, _ => False
def straitlaw20_awake.qcall (f : FuncId) (vs : List Value) (h : Heap) (K : Value → Prop) : Prop := match f, vs with
  | 11, [(.slice a1 a1l a1c), (.slice a2 a2l a2c)] => qcallP1 h (straitref09_Ints a1 a1l a1c a2 a2l a2c h) fun r7 => K (.bool r7)
  | _, _ => False
noncomputable def straitlaw20_awake.ctx : Ctx := { P := Tryz.prog, call := straitlaw20_awake.call, qcall := straitlaw20_awake.qcall, quiet := fun f => Nat.beq f 11 || Nat.beq f 1000131 || Nat.beq f 1000155, loop := fun _ _ _ _ => False }
theorem straitlaw20_awake.ok : straitlaw20_awake.ctx.OK where
  mixed := by kernel_rfl
  mono := by
    intro f args h K K' hh hk
    change straitlaw20_awake.call f args h K at hh
    change straitlaw20_awake.call f args h K'
    unfold straitlaw20_awake.call at hh ⊢
    split at hh
    · obtain ⟨R, h1, h2⟩ := hh
      exact ⟨R, h1, fun _ _ _ x hr => hk _ _ (h2 _ _ _ x hr)⟩
    · obtain ⟨R, h1, h2⟩ := hh
      exact ⟨R, h1, fun _ _ _ x hr => hk _ _ (h2 _ _ _ x hr)⟩
    · obtain ⟨R, h1, h2⟩ := hh
      exact ⟨R, h1, fun _ x hr => hk _ _ (h2 _ x hr)⟩
    · obtain ⟨R, h1, h2⟩ := hh
      exact ⟨R, h1, fun _ _ _ x hr => hk _ _ (h2 _ _ _ x hr)⟩
    · obtain ⟨R, h1, h2⟩ := hh
      exact ⟨R, h1, fun _ _ _ x hr => hk _ _ (h2 _ _ _ x hr)⟩
    · exact hh.elim
  call := by
    intro f args h K hh w hw
    change straitlaw20_awake.call f args h K at hh
    unfold straitlaw20_awake.call at hh
    split at hh
    · obtain ⟨R, h1, h2⟩ := hh
      obtain ⟨g1, g2⟩ := net_New.calls h1 w hw
      exact ⟨g1, g2.mono fun e w' ⟨v, he, ho, hr⟩ => ⟨v, he, ho, net_New.ret_elim h2 hr⟩⟩
    · obtain ⟨R, h1, h2⟩ := hh
      obtain ⟨g1, g2⟩ := comp_Bridges.calls h1 w hw
      exact ⟨g1, g2.mono fun e w' ⟨v, he, ho, hr⟩ => ⟨v, he, ho, comp_Bridges.ret_elim h2 hr⟩⟩
    · obtain ⟨R, h1, h2⟩ := hh
      obtain ⟨g1, g2⟩ := comp_Count.calls h1 w hw
      exact ⟨g1, g2.mono fun e w' ⟨v, he, ho, hr⟩ => ⟨v, he, ho, comp_Count.ret_elim h2 hr⟩⟩
    · obtain ⟨R, h1, h2⟩ := hh
      obtain ⟨g1, g2⟩ := comp_Heavy.calls h1 w hw
      exact ⟨g1, g2.mono fun e w' ⟨v, he, ho, hr⟩ => ⟨v, he, ho, comp_Heavy.ret_elim h2 hr⟩⟩
    · obtain ⟨R, h1, h2⟩ := hh
      obtain ⟨g1, g2⟩ := comp_Reach.calls h1 w hw
      exact ⟨g1, g2.mono fun e w' ⟨v, he, ho, hr⟩ => ⟨v, he, ho, comp_Reach.ret_elim h2 hr⟩⟩
    · exact hh.elim
  qmono := by
    intro f args h K K' hh hk
    change straitlaw20_awake.qcall f args h K at hh
    change straitlaw20_awake.qcall f args h K'
    unfold straitlaw20_awake.qcall at hh ⊢
    split at hh
    · obtain ⟨x0, h1, h2⟩ := hh
      exact ⟨x0, h1, hk _ h2⟩
    · exact hh.elim
  qval := by
    intro f args h K hh
    change straitlaw20_awake.qcall f args h K at hh
    suffices H : ∃ v, K v ∧ straitlaw20_awake.qcall f args h (· = v) from H
    unfold straitlaw20_awake.qcall at hh ⊢
    split at hh
    · obtain ⟨x0, h1, h2⟩ := hh
      exact ⟨_, h2, x0, h1, rfl⟩
    · exact hh.elim
  qcall := by
    intro f args h v hh w hw
    change straitlaw20_awake.qcall f args h (· = v) at hh
    unfold straitlaw20_awake.qcall at hh
    split at hh
    · obtain ⟨x0, h1, h2⟩ := hh
      obtain ⟨g1, g2⟩ := straitref09_Ints.calls h1 w hw
      refine .inl ⟨g1, g2.mono fun e w' ⟨u, he, ho, hr⟩ => ?_⟩
      have hq := straitref09_Ints.ret_elim (K' := fun u h' => u = v ∧ h' = h) (fun _ h' hr => by obtain ⟨rfl, rfl⟩ := hr; exact ⟨h2, rfl⟩) hr
      exact ⟨hq.1 ▸ he, ho, hq.2⟩
    · exact hh.elim
noncomputable def straitlaw20_awake.code : Code := (Tryz.f7.body).getD .skip
def straitlaw20_awake.ann : Ann := .auto
set_option maxRecDepth 100000 in
theorem straitlaw20_awake.eq (h : Heap) (K : Bool → Heap → Prop) : evF straitlaw20_awake.ctx Tryz.f7 straitlaw20_awake.ann [] h (straitlaw20_awake.ret K) = straitlaw20_awake h K := by kernel_rfl
set_option maxRecDepth 100000 in
theorem straitlaw20_awake.calls {h : Heap} {K : Bool → Heap → Prop} (hh : straitlaw20_awake h K) (w : World) (hw : w.heap = h) :
    (callFunc 7 #[]).run Tryz.prog w = .ok (.enter 7 #[]) w ∧ Calls Tryz.prog 7 #[] w fun e w' => ∃ v, e = .returned v ∧ Out w w' ∧ straitlaw20_awake.ret K v w'.heap := by
  rw [← straitlaw20_awake.eq] at hh
  exact fn_calls (args := []) (c := straitlaw20_awake.code) straitlaw20_awake.ok Tryz.func7 (by kernel_rfl) (by kernel_rfl) (by kernel_rfl) (by kernel_rfl) (loops_ok (l := []) (by kernel_rfl) trivial) hh w hw
end

/-! ### strait/comp.Of: function 16 -/
section
variable [DKc]
def comp_Of (a1 : Option Addr) (h : Heap) (K : (Option Addr) → Nat → Nat → Heap → Prop) : Prop :=
  (callP3 (comp_Heavy a1 0 h) fun x2 x2l x2c h3 => K x2 x2l x2c h3)
def comp_Of.ret (K : (Option Addr) → Nat → Nat → Heap → Prop) (v : Value) (h : Heap) : Prop := match v with
  | (.slice r4 r4l r4c) => K r4 r4l r4c h
  | _ => False
theorem comp_Of.ret_elim {K : (Option Addr) → Nat → Nat → Heap → Prop} {K' : Value → Heap → Prop} {v : Value} {h : Heap} (hk : ∀ r4 r4l r4c h, K r4 r4l r4c h → K' (.slice r4 r4l r4c) h) (hh : comp_Of.ret K v h) : K' v h := by
  unfold comp_Of.ret at hh
  split at hh
  · exact hk _ _ _ _ hh
  · exact hh.elim
def comp_Of.call (f : FuncId) (vs : List Value) (h : Heap) (K : Value → Heap → Prop) : Prop := match f, vs with
  | 17, [(.pointer a1), (.int .i64 a2)] => callP3 (comp_Heavy a1 a2 h) fun r7 r7l r7c h' => K (.slice r7 r7l r7c) h'
  | _, _ => False
noncomputable def comp_Of.ctx : Ctx := { P := Tryz.prog, call := comp_Of.call, qcall := fun _ _ _ _ => False, quiet := fun f => Nat.beq f 1000131 || Nat.beq f 1000155, loop := fun _ _ _ _ => False }
theorem comp_Of.ok : comp_Of.ctx.OK where
  mixed := by kernel_rfl
  mono := by
    intro f args h K K' hh hk
    change comp_Of.call f args h K at hh
    change comp_Of.call f args h K'
    unfold comp_Of.call at hh ⊢
    split at hh
    · obtain ⟨R, h1, h2⟩ := hh
      exact ⟨R, h1, fun _ _ _ x hr => hk _ _ (h2 _ _ _ x hr)⟩
    · exact hh.elim
  call := by
    intro f args h K hh w hw
    change comp_Of.call f args h K at hh
    unfold comp_Of.call at hh
    split at hh
    · obtain ⟨R, h1, h2⟩ := hh
      obtain ⟨g1, g2⟩ := comp_Heavy.calls h1 w hw
      exact ⟨g1, g2.mono fun e w' ⟨v, he, ho, hr⟩ => ⟨v, he, ho, comp_Heavy.ret_elim h2 hr⟩⟩
    · exact hh.elim
  qmono := fun hh _ => hh.elim
  qval := fun hh => hh.elim
  qcall := fun hh => hh.elim
noncomputable def comp_Of.code : Code := (Tryz.f16.body).getD .skip
def comp_Of.ann : Ann := .auto
set_option maxRecDepth 100000 in
theorem comp_Of.eq (a1 : Option Addr) (h : Heap) (K : (Option Addr) → Nat → Nat → Heap → Prop) : evF comp_Of.ctx Tryz.f16 comp_Of.ann [(.pointer a1)] h (comp_Of.ret K) = comp_Of a1 h K := by kernel_rfl
set_option maxRecDepth 100000 in
theorem comp_Of.calls {a1 : Option Addr} {h : Heap} {K : (Option Addr) → Nat → Nat → Heap → Prop} (hh : comp_Of a1 h K) (w : World) (hw : w.heap = h) :
    (callFunc 16 #[(.pointer a1)]).run Tryz.prog w = .ok (.enter 16 #[(.pointer a1)]) w ∧ Calls Tryz.prog 16 #[(.pointer a1)] w fun e w' => ∃ v, e = .returned v ∧ Out w w' ∧ comp_Of.ret K v w'.heap := by
  rw [← comp_Of.eq] at hh
  exact fn_calls (args := [(.pointer a1)]) (c := comp_Of.code) comp_Of.ok Tryz.func16 (by kernel_rfl) (by kernel_rfl) (by kernel_rfl) (by kernel_rfl) (loops_ok (l := []) (by kernel_rfl) trivial) hh w hw
end

end Go.Proofs.YtbhndlpjfncliaaGreat
