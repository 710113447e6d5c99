/- WRITTEN BY A PROGRAM OF THIS SESSION (gen.py): what each function asks of memory, and that the model's run comes to it. -/
import Derived.Test.YtbhndlpjfncliaaGreatProg
import Derived.Test.YtbhndlpjfncliaaGreatFw8
import Derived.Test.YtbhndlpjfncliaaGreatK0
namespace Go.Proofs.YtbhndlpjfncliaaGreat
open Go.Hp
set_option linter.unusedVariables false
set_option linter.unusedSimpArgs false
set_option linter.unusedSectionVars false

/-! ### (*strait/karger.draw).step: function 63 -/
section
variable [DKc]
def karger_draw_step.b0 (K0 : Heap → Prop) (K2 : Heap → Prop) (cont : (Option Addr) → Int → (Option Addr) → Nat → Nat → Int → Int → Heap → Prop) (c0_1001 : Option Addr) (v4_1002 : Int) (c39_1003 : Option Addr) (c39_1004 : Nat) (c39_1005 : Nat) (c40_1006 : Int) (v41_1007 : Int) (h1008 : Heap) : Prop :=
  (iteB (decide (v41_1007 < c40_1006)) ((chkP c39_1003 fun a1009 => (0 ≤ v41_1007 ∧ v41_1007 < (c39_1004 : Int)) ∧ ∃ (x1010 : Int), cell h1008 (a1009.add (v41_1007.toNat * 3)) = some (.int .i64 x1010) ∧ ∃ (x1011 : Int), cell h1008 ((a1009.add (v41_1007.toNat * 3)).add 1) = some (.int .i64 x1011) ∧ ∃ (x1012 : Int), cell h1008 ((a1009.add (v41_1007.toNat * 3)).add 2) = some (.int .i64 x1012) ∧ newP h1008 (.cells #[(.int .i64 0), (.int .i64 0), (.int .i64 0)] 82) fun a1013 h1014 => stC h1014 a1013 (.int .i64 x1010) fun h1015 => stC h1015 (a1013.add 1) (.int .i64 x1011) fun h1016 => stC h1016 (a1013.add 2) (.int .i64 x1012) fun h1017 => (∃ (x1018 : Int), cell h1017 (a1013.add 2) = some (.int .i64 x1018) ∧ ((iteB (decide (v4_1002 ≥ (IntKind.u64.wrap x1018))) (bindV (IntKind.u64.wrap (v4_1002 - (IntKind.u64.wrap x1018))) fun n1019 => (((cont c0_1001 n1019 c39_1003 c39_1004 c39_1005 c40_1006 (IntKind.i64.wrap (v41_1007 + 1)) h1017)))) ((chkP c0_1001 fun a1020 => ∃ (x1021 : Option Addr), cell h1017 a1020 = some (.pointer x1021) ∧ ∃ (x1022 : Int), cell h1017 a1013 = some (.int .i64 x1022) ∧ ∃ (x1023 : Int), cell h1017 (a1013.add 1) = some (.int .i64 x1023) ∧ callP1 (dsu_Classes_Join x1021 x1022 x1023 h1017) fun x1024 h1025 => K0 h1025))))))) (K2 h1008))
def karger_draw_step.l0 (K0 : Heap → Prop) (K2 : Heap → Prop) : Nat → (Option Addr) → Int → (Option Addr) → Nat → Nat → Int → Int → Heap → Prop
  | 0, _, _, _, _, _, _, _, _ => False
  | m + 1, c0_1001, v4_1002, c39_1003, c39_1004, c39_1005, c40_1006, v41_1007, h => karger_draw_step.b0 K0 K2 (karger_draw_step.l0 K0 K2 m) c0_1001 v4_1002 c39_1003 c39_1004 c39_1005 c40_1006 v41_1007 h
def karger_draw_step (a1 : Option Addr) (h : Heap) (K : Heap → Prop) : Prop :=
  callP1 (karger_draw_loose a1 h) fun x2 h3 => ((iteB (x2 == (0 : Int)) (chkP a1 fun a4 => ∃ (x5 : Option Addr), cell h3 a4 = some (.pointer x5) ∧ callP3 (dsu_Classes_List x5 h3) fun x6 x6l x6c h7 => (chkP a1 fun a8 => ∃ (x9 : Option Addr), cell h7 a8 = some (.pointer x9) ∧ chkP x6 fun a10 => (0 ≤ (0 : Int) ∧ (0 : Int) < (x6l : Int)) ∧ ∃ (x11 : Option Addr) (x11l : Nat) (x11c : Nat), cell h7 (a10.add ((0 : Int).toNat * 1)) = some (.slice x11 x11l x11c) ∧ chkP x11 fun a12 => (0 ≤ (0 : Int) ∧ (0 : Int) < (x11l : Int)) ∧ ∃ (x13 : Int), cell h7 (a12.add ((0 : Int).toNat * 1)) = some (.int .i64 x13) ∧ chkP x6 fun a14 => (0 ≤ (1 : Int) ∧ (1 : Int) < (x6l : Int)) ∧ ∃ (x15 : Option Addr) (x15l : Nat) (x15c : Nat), cell h7 (a14.add ((1 : Int).toNat * 1)) = some (.slice x15 x15l x15c) ∧ chkP x15 fun a16 => (0 ≤ (0 : Int) ∧ (0 : Int) < (x15l : Int)) ∧ ∃ (x17 : Int), cell h7 (a16.add ((0 : Int).toNat * 1)) = some (.int .i64 x17) ∧ callP1 (dsu_Classes_Join x9 x13 x17 h7) fun x18 h19 => K h19)) ((callP1 (karger_draw_pick a1 h3) fun x20 h21 => x2 ≠ 0 ∧ (chkP a1 fun a22 => ∃ (x23 : Option Addr) (x23l : Nat) (x23c : Nat), cell h21 (a22.add 1) = some (.slice x23 x23l x23c) ∧ (∃ m26, karger_draw_step.l0 (fun h24 => K h24) (fun h25 => K h25) m26 a1 (x20.tmod x2) x23 x23l x23c (x23l : Int) 0 h21))))))
def karger_draw_step.ret (K : Heap → Prop) (v : Value) (h : Heap) : Prop := match v with
  | (.tuple ⟨[]⟩) => K h
  | _ => False
theorem karger_draw_step.ret_elim {K : Heap → Prop} {K' : Value → Heap → Prop} {v : Value} {h : Heap} (hk : ∀  h, K h → K' (.tuple #[]) h) (hh : karger_draw_step.ret K v h) : K' v h := by
  unfold karger_draw_step.ret at hh
  split at hh
  · exact hk _ hh
  · exact hh.elim
def karger_draw_step.call (f : FuncId) (vs : List Value) (h : Heap) (K : Value → Heap → Prop) : Prop := match f, vs with
  | 50, [(.pointer a1)] => callP3 (dsu_Classes_List a1 h) fun r19 r19l r19c h' => K (.slice r19 r19l r19c) h'
  | 81, [(.pointer a1), (.int .i64 a2), (.int .i64 a3)] => callP1 (dsu_Classes_Join a1 a2 a3 h) fun r51 h' => K (.bool r51) h'
  | 93, [(.pointer a1)] => callP1 (karger_draw_loose a1 h) fun r14 h' => K (.int .u64 r14) h'
  | 94, [(.pointer a1)] => callP1 (karger_draw_pick a1 h) fun r16 h' => K (.int .u64 r16) h'
  | _, _ => False
def karger_draw_step.r0 (K : Nat → List Value → Heap → Prop) (m : Nat) (vs : List Value) (h : Heap) : Prop := match vs with
  | [(.pointer c0_1001), (.int .u64 v4_1002), (.slice c39_1003 c39_1004 c39_1005), (.int .i64 c40_1006), (.int .i64 v41_1007)] => karger_draw_step.l0 (fun h' => K 0 [] h') (fun h' => K 2 [] h') m c0_1001 v4_1002 c39_1003 c39_1004 c39_1005 c40_1006 v41_1007 h
  | _ => False
def karger_draw_step.loop (i : Nat) (vs : List Value) (h : Heap) (K : Nat → List Value → Heap → Prop) : Prop := match i with
  | 0 => ∃ m, karger_draw_step.r0 K m vs h
  | _ => False
noncomputable def karger_draw_step.ctx : Ctx := { P := Tryz.prog, call := karger_draw_step.call, qcall := fun _ _ _ _ => False, quiet := fun f => Nat.beq f 1000131 || Nat.beq f 1000155, loop := karger_draw_step.loop }
theorem karger_draw_step.ok : karger_draw_step.ctx.OK where
  mixed := by kernel_rfl
  mono := by
    intro f args h K K' hh hk
    change karger_draw_step.call f args h K at hh
    change karger_draw_step.call f args h K'
    unfold karger_draw_step.call at hh ⊢
    split at hh
    · obtain ⟨R, h1, h2⟩ := hh
      exact ⟨R, h1, fun _ _ _ x hr => hk _ _ (h2 _ _ _ x hr)⟩
    · obtain ⟨R, h1, h2⟩ := hh
      exact ⟨R, h1, fun _ x hr => hk _ _ (h2 _ x hr)⟩
    · obtain ⟨R, h1, h2⟩ := hh
      exact ⟨R, h1, fun _ x hr => hk _ _ (h2 _ x hr)⟩
    · obtain ⟨R, h1, h2⟩ := hh
      exact ⟨R, h1, fun _ x hr => hk _ _ (h2 _ x hr)⟩
    · exact hh.elim
  call := by
    intro f args h K hh w hw
    change karger_draw_step.call f args h K at hh
    unfold karger_draw_step.call at hh
    split at hh
    · obtain ⟨R, h1, h2⟩ := hh
      obtain ⟨g1, g2⟩ := dsu_Classes_List.calls h1 w hw
      exact ⟨g1, g2.mono fun e w' ⟨v, he, ho, hr⟩ => ⟨v, he, ho, dsu_Classes_List.ret_elim h2 hr⟩⟩
    · obtain ⟨R, h1, h2⟩ := hh
      obtain ⟨g1, g2⟩ := dsu_Classes_Join.calls h1 w hw
      exact ⟨g1, g2.mono fun e w' ⟨v, he, ho, hr⟩ => ⟨v, he, ho, dsu_Classes_Join.ret_elim h2 hr⟩⟩
    · obtain ⟨R, h1, h2⟩ := hh
      obtain ⟨g1, g2⟩ := karger_draw_loose.calls h1 w hw
      exact ⟨g1, g2.mono fun e w' ⟨v, he, ho, hr⟩ => ⟨v, he, ho, karger_draw_loose.ret_elim h2 hr⟩⟩
    · obtain ⟨R, h1, h2⟩ := hh
      obtain ⟨g1, g2⟩ := karger_draw_pick.calls h1 w hw
      exact ⟨g1, g2.mono fun e w' ⟨v, he, ho, hr⟩ => ⟨v, he, ho, karger_draw_pick.ret_elim h2 hr⟩⟩
    · exact hh.elim
  qmono := fun hh _ => hh.elim
  qval := fun hh => hh.elim
  qcall := fun hh => hh.elim
noncomputable def karger_draw_step.code : Code := (Tryz.f63.body).getD .skip
def karger_draw_step.ann : Ann := (.two .auto (.two (.two .auto (.two (.two .auto (.two (.reg [0, 1, 3, 7, 0, 16, 48, 112, 240, 0, 512, 1536, 3584, 7680, 16383] (.take 0 (.take 1 (.take 2 (.take 3 (.take 4 (.take 5 (.take 6 (.take 7 (.take 8 (.take 9 (.take 10 (.take 11 (.take 12 (.take 13 (.alt 14 .done .noalt)))))))))))))))) .auto)) .auto)) (.two .auto (.two .auto (.two (.loop 0 [0, 4, 39, 40, 41] [(2, []), (0, [])] (.two .auto (.two .auto (.two (.two (.two .auto (.two .auto (.two (.reg [0, 1, 3, 7, 0, 16, 0, 64, 255] (.take 0 (.take 1 (.take 2 (.take 3 (.take 4 (.take 5 (.take 6 (.take 7 (.alt 8 .done .noalt)))))))))) .auto))) .auto) .auto)))) .auto)))))
noncomputable def karger_draw_step.c0 : Code := sub karger_draw_step.code [1, 1, 1, 1, 0, 0]
def karger_draw_step.a0 : Ann := (.two .auto (.two .auto (.two (.two (.two .auto (.two .auto (.two (.reg [0, 1, 3, 7, 0, 16, 0, 64, 255] (.take 0 (.take 1 (.take 2 (.take 3 (.take 4 (.take 5 (.take 6 (.take 7 (.alt 8 .done .noalt)))))))))) .auto))) .auto) .auto)))
def karger_draw_step.keep0 : List Nat := [0, 4, 39, 40, 41]
def karger_draw_step.outs0 : List (Nat × List Nat) := [(2, []), (0, [])]
set_option maxRecDepth 100000 in
theorem karger_draw_step.L0 : LoopOK karger_draw_step.ctx 64 karger_draw_step.c0 0 karger_draw_step.keep0 karger_draw_step.outs0 := by
  refine loop_ok (n := karger_draw_step.a0) karger_draw_step.ok (by kernel_rfl) (loops_ok (l := []) (by kernel_rfl) ?_) karger_draw_step.r0 ?_ ?_ (fun vs h K hh => hh)
  · exact trivial
  · intro K vs h hh
    unfold karger_draw_step.r0 at hh
    split at hh
    · exact hh
    · exact hh
  · intro K m vs h hh
    unfold karger_draw_step.r0 at hh
    split at hh
    · exact cast (by kernel_rfl) hh
    · exact hh.elim
set_option maxRecDepth 100000 in
theorem karger_draw_step.eq (a1 : Option Addr) (h : Heap) (K : Heap → Prop) : evF karger_draw_step.ctx Tryz.f63 karger_draw_step.ann [(.pointer a1)] h (karger_draw_step.ret K) = karger_draw_step a1 h K := by kernel_rfl
set_option maxRecDepth 100000 in
theorem karger_draw_step.calls {a1 : Option Addr} {h : Heap} {K : Heap → Prop} (hh : karger_draw_step a1 h K) (w : World) (hw : w.heap = h) :
    (callFunc 63 #[(.pointer a1)]).run Tryz.prog w = .ok (.enter 63 #[(.pointer a1)]) w ∧ Calls Tryz.prog 63 #[(.pointer a1)] w fun e w' => ∃ v, e = .returned v ∧ Out w w' ∧ karger_draw_step.ret K v w'.heap := by
  rw [← karger_draw_step.eq] at hh
  exact fn_calls (args := [(.pointer a1)]) (c := karger_draw_step.code) karger_draw_step.ok Tryz.func63 (by kernel_rfl) (by kernel_rfl) (by kernel_rfl) (by kernel_rfl) (loops_ok (l := [(karger_draw_step.c0, none, 0, karger_draw_step.keep0, karger_draw_step.outs0)]) (by kernel_rfl) ⟨karger_draw_step.L0, trivial⟩) hh w hw
end

/-! ### strait/karger.Groups: function 31 -/
section
variable [DKc]
def karger_Groups.b0 (K2 : Heap → Prop) (cont : Int → Addr → Heap → Prop) (c1_1001 : Int) (c9_1002 : Addr) (h1003 : Heap) : Prop :=
  ∃ (x1004 : Option Addr), cell h1003 c9_1002 = some (.pointer x1004) ∧ qcallP1 h1003 (dsu_Classes_Count x1004 h1003) fun x1005 => (iteB (decide (x1005 > c1_1001)) ((callP0 (karger_draw_step (some c9_1002) h1003) fun h1006 => cont c1_1001 c9_1002 h1006)) (K2 h1003))
def karger_Groups.l0 (K2 : Heap → Prop) : Nat → Int → Addr → Heap → Prop
  | 0, _, _, _ => False
  | m + 1, c1_1001, c9_1002, h => karger_Groups.b0 K2 (karger_Groups.l0 K2 m) c1_1001 c9_1002 h
def karger_Groups (a1 : Option Addr) (a2 : Int) (a3 : Option Addr) (a3l : Nat) (a3c : Nat) (h : Heap) (K : (Option Addr) → Nat → Nat → Int → Int → Heap → Prop) : Prop :=
  (let j20 : Prop := (qcallP1 h (net_Net_N a1 h) fun x6 => callP1 (dsu_New x6 h) fun x7 h8 => callP3 (net_Net_Edges a1 h8) fun x9 x9l x9c h10 => newP h10 (.cells #[(.pointer x7), (.slice x9 x9l x9c), (.slice a3 a3l a3c), (.int .i64 0)] 127) fun a11 h12 => (∃ m14, karger_Groups.l0 (fun h13 => ((∃ (x15 : Option Addr), cell h13 a11 = some (.pointer x15) ∧ ∃ (x16 : Int), cell h13 (a11.add 3) = some (.int .i64 x16) ∧ callP3 (dsu_Classes_List x15 h13) fun x17 x17l x17c h18 => (∃ (x19 : Int), cell h18 (a11.add 3) = some (.int .i64 x19) ∧ ((.int .i64 x19) : Value) = (.int .i64 x16)) ∧ K x17 x17l x17c x16 0 h18))) m14 a2 a11 h12));
  iteB (decide (a2 < (1 : Int))) (K none 0 0 0 1 h) (qcallP1 h (net_Net_N a1 h) fun x4 => (iteB (decide (a2 > x4)) (K none 0 0 0 1 h) ((j20)))))
def karger_Groups.ret (K : (Option Addr) → Nat → Nat → Int → Int → Heap → Prop) (v : Value) (h : Heap) : Prop := match v with
  | (.tuple ⟨[(.slice r21 r21l r21c), (.int .i64 r22), (.int .i64 r23)]⟩) => K r21 r21l r21c r22 r23 h
  | _ => False
theorem karger_Groups.ret_elim {K : (Option Addr) → Nat → Nat → Int → Int → Heap → Prop} {K' : Value → Heap → Prop} {v : Value} {h : Heap} (hk : ∀ r21 r21l r21c r22 r23 h, K r21 r21l r21c r22 r23 h → K' (.tuple #[(.slice r21 r21l r21c), (.int .i64 r22), (.int .i64 r23)]) h) (hh : karger_Groups.ret K v h) : K' v h := by
  unfold karger_Groups.ret at hh
  split at hh
  · exact hk _ _ _ _ _ _ hh
  · exact hh.elim
def karger_Groups.call (f : FuncId) (vs : List Value) (h : Heap) (K : Value → Heap → Prop) : Prop := match f, vs with
  | 46, [(.pointer a1)] => callP3 (net_Net_Edges a1 h) fun r6 r6l r6c h' => K (.slice r6 r6l r6c) h'
  | 50, [(.pointer a1)] => callP3 (dsu_Classes_List a1 h) fun r19 r19l r19c h' => K (.slice r19 r19l r19c) h'
  | 62, [(.int .i64 a1)] => callP1 (dsu_New a1 h) fun r50 h' => K (.pointer r50) h'
  | 63, [(.pointer a1)] => callP0 (karger_draw_step a1 h) fun h' => K (.tuple #[]) h'
  | _, _ => False
def karger_Groups.qcall (f : FuncId) (vs : List Value) (h : Heap) (K : Value → Prop) : Prop := match f, vs with
  | 44, [(.pointer a1)] => qcallP1 h (net_Net_N a1 h) fun r4 => K (.int .i64 r4)
  | 49, [(.pointer a1)] => qcallP1 h (dsu_Classes_Count a1 h) fun r4 => K (.int .i64 r4)
  | _, _ => False
def karger_Groups.r0 (K : Nat → List Value → Heap → Prop) (m : Nat) (vs : List Value) (h : Heap) : Prop := match vs with
  | [(.int .i64 c1_1001), (.pointer (some c9_1002))] => karger_Groups.l0 (fun h' => K 2 [(.pointer (some c9_1002))] h') m c1_1001 c9_1002 h
  | _ => False
def karger_Groups.loop (i : Nat) (vs : List Value) (h : Heap) (K : Nat → List Value → Heap → Prop) : Prop := match i with
  | 0 => ∃ m, karger_Groups.r0 K m vs h
  | _ => False
noncomputable def karger_Groups.ctx : Ctx := { P := Tryz.prog, call := karger_Groups.call, qcall := karger_Groups.qcall, quiet := fun f => Nat.beq f 44 || Nat.beq f 49 || Nat.beq f 1000131 || Nat.beq f 1000155, loop := karger_Groups.loop }
theorem karger_Groups.ok : karger_Groups.ctx.OK where
  mixed := by kernel_rfl
  mono := by
    intro f args h K K' hh hk
    change karger_Groups.call f args h K at hh
    change karger_Groups.call f args h K'
    unfold karger_Groups.call at hh ⊢
    split at hh
    · obtain ⟨R, h1, h2⟩ := hh
      exact ⟨R, h1, fun _ _ _ x hr => hk _ _ (h2 _ _ _ x hr)⟩
    · obtain ⟨R, h1, h2⟩ := hh
      exact ⟨R, h1, fun _ _ _ x hr => hk _ _ (h2 _ _ _ x hr)⟩
    · obtain ⟨R, h1, h2⟩ := hh
      exact ⟨R, h1, fun _ x hr => hk _ _ (h2 _ x hr)⟩
    · obtain ⟨R, h1, h2⟩ := hh
      exact ⟨R, h1, fun x hr => hk _ _ (h2 x hr)⟩
    · exact hh.elim
  call := by
    intro f args h K hh w hw
    change karger_Groups.call f args h K at hh
    unfold karger_Groups.call at hh
    split at hh
    · obtain ⟨R, h1, h2⟩ := hh
      obtain ⟨g1, g2⟩ := net_Net_Edges.calls h1 w hw
      exact ⟨g1, g2.mono fun e w' ⟨v, he, ho, hr⟩ => ⟨v, he, ho, net_Net_Edges.ret_elim h2 hr⟩⟩
    · obtain ⟨R, h1, h2⟩ := hh
      obtain ⟨g1, g2⟩ := dsu_Classes_List.calls h1 w hw
      exact ⟨g1, g2.mono fun e w' ⟨v, he, ho, hr⟩ => ⟨v, he, ho, dsu_Classes_List.ret_elim h2 hr⟩⟩
    · obtain ⟨R, h1, h2⟩ := hh
      obtain ⟨g1, g2⟩ := dsu_New.calls h1 w hw
      exact ⟨g1, g2.mono fun e w' ⟨v, he, ho, hr⟩ => ⟨v, he, ho, dsu_New.ret_elim h2 hr⟩⟩
    · obtain ⟨R, h1, h2⟩ := hh
      obtain ⟨g1, g2⟩ := karger_draw_step.calls h1 w hw
      exact ⟨g1, g2.mono fun e w' ⟨v, he, ho, hr⟩ => ⟨v, he, ho, karger_draw_step.ret_elim h2 hr⟩⟩
    · exact hh.elim
  qmono := by
    intro f args h K K' hh hk
    change karger_Groups.qcall f args h K at hh
    change karger_Groups.qcall f args h K'
    unfold karger_Groups.qcall at hh ⊢
    split at hh
    · obtain ⟨x0, h1, h2⟩ := hh
      exact ⟨x0, h1, hk _ h2⟩
    · obtain ⟨x0, h1, h2⟩ := hh
      exact ⟨x0, h1, hk _ h2⟩
    · exact hh.elim
  qval := by
    intro f args h K hh
    change karger_Groups.qcall f args h K at hh
    suffices H : ∃ v, K v ∧ karger_Groups.qcall f args h (· = v) from H
    unfold karger_Groups.qcall at hh ⊢
    split at hh
    · obtain ⟨x0, h1, h2⟩ := hh
      exact ⟨_, h2, x0, h1, rfl⟩
    · obtain ⟨x0, h1, h2⟩ := hh
      exact ⟨_, h2, x0, h1, rfl⟩
    · exact hh.elim
  qcall := by
    intro f args h v hh w hw
    change karger_Groups.qcall f args h (· = v) at hh
    unfold karger_Groups.qcall at hh
    split at hh
    · obtain ⟨x0, h1, h2⟩ := hh
      obtain ⟨g1, g2⟩ := net_Net_N.calls h1 w hw
      refine .inl ⟨g1, g2.mono fun e w' ⟨u, he, ho, hr⟩ => ?_⟩
      have hq := net_Net_N.ret_elim (K' := fun u h' => u = v ∧ h' = h) (fun _ h' hr => by obtain ⟨rfl, rfl⟩ := hr; exact ⟨h2, rfl⟩) hr
      exact ⟨hq.1 ▸ he, ho, hq.2⟩
    · obtain ⟨x0, h1, h2⟩ := hh
      obtain ⟨g1, g2⟩ := dsu_Classes_Count.calls h1 w hw
      refine .inl ⟨g1, g2.mono fun e w' ⟨u, he, ho, hr⟩ => ?_⟩
      have hq := dsu_Classes_Count.ret_elim (K' := fun u h' => u = v ∧ h' = h) (fun _ h' hr => by obtain ⟨rfl, rfl⟩ := hr; exact ⟨h2, rfl⟩) hr
      exact ⟨hq.1 ▸ he, ho, hq.2⟩
    · exact hh.elim
noncomputable def karger_Groups.code : Code := (Tryz.f31.body).getD .skip
def karger_Groups.ann : Ann := (.two .auto (.two .auto (.two .auto (.two (.two (.loop 0 [1, 9] [(2, [9])] .auto) .auto) (.two (.reg [0, 1, 3, 7, 15, 0, 32, 96, 224, 31, 1023, 2047] (.take 0 (.take 1 (.take 2 (.take 3 (.take 5 (.take 6 (.take 7 (.early 8 (.alt 4 (.take 9 (.take 10 (.take 11 .done))) .noalt)))))))))) .auto)))))
noncomputable def karger_Groups.c0 : Code := sub karger_Groups.code [1, 1, 1, 0, 0, 0]
def karger_Groups.a0 : Ann := .auto
def karger_Groups.keep0 : List Nat := [1, 9]
def karger_Groups.outs0 : List (Nat × List Nat) := [(2, [9])]
set_option maxRecDepth 100000 in
theorem karger_Groups.L0 : LoopOK karger_Groups.ctx 44 karger_Groups.c0 0 karger_Groups.keep0 karger_Groups.outs0 := by
  refine loop_ok (n := karger_Groups.a0) karger_Groups.ok (by kernel_rfl) (loops_ok (l := []) (by kernel_rfl) ?_) karger_Groups.r0 ?_ ?_ (fun vs h K hh => hh)
  · exact trivial
  · intro K vs h hh
    unfold karger_Groups.r0 at hh
    split at hh
    · exact hh
    · exact hh
  · intro K m vs h hh
    unfold karger_Groups.r0 at hh
    split at hh
    · exact cast (by kernel_rfl) hh
    · exact hh.elim
set_option maxRecDepth 100000 in
theorem karger_Groups.eq (a1 : Option Addr) (a2 : Int) (a3 : Option Addr) (a3l : Nat) (a3c : Nat) (h : Heap) (K : (Option Addr) → Nat → Nat → Int → Int → Heap → Prop) : evF karger_Groups.ctx Tryz.f31 karger_Groups.ann [(.pointer a1), (.int .i64 a2), (.slice a3 a3l a3c)] h (karger_Groups.ret K) = karger_Groups a1 a2 a3 a3l a3c h K := by kernel_rfl
set_option maxRecDepth 100000 in
theorem karger_Groups.calls {a1 : Option Addr} {a2 : Int} {a3 : Option Addr} {a3l : Nat} {a3c : Nat} {h : Heap} {K : (Option Addr) → Nat → Nat → Int → Int → Heap → Prop} (hh : karger_Groups a1 a2 a3 a3l a3c h K) (w : World) (hw : w.heap = h) :
    (callFunc 31 #[(.pointer a1), (.int .i64 a2), (.slice a3 a3l a3c)]).run Tryz.prog w = .ok (.enter 31 #[(.pointer a1), (.int .i64 a2), (.slice a3 a3l a3c)]) w ∧ Calls Tryz.prog 31 #[(.pointer a1), (.int .i64 a2), (.slice a3 a3l a3c)] w fun e w' => ∃ v, e = .returned v ∧ Out w w' ∧ karger_Groups.ret K v w'.heap := by
  rw [← karger_Groups.eq] at hh
  exact fn_calls (args := [(.pointer a1), (.int .i64 a2), (.slice a3 a3l a3c)]) (c := karger_Groups.code) karger_Groups.ok Tryz.func31 (by kernel_rfl) (by kernel_rfl) (by kernel_rfl) (by kernel_rfl) (loops_ok (l := [(karger_Groups.c0, none, 0, karger_Groups.keep0, karger_Groups.outs0)]) (by kernel_rfl) ⟨karger_Groups.L0, trivial⟩) hh w hw
end

/-! ### strait/karger.Run: function 26 -/
section
variable [DKc]
def karger_Run (a1 : Option Addr) (a2 : Option Addr) (a2l : Nat) (a2c : Nat) (h : Heap) (K : Int → (Option Addr) → Nat → Nat → Int → Int → Heap → Prop) : Prop :=
  newP h (.cells #[(.int .i64 0), (.slice none 0 0)] 55) fun a3 h4 => (qcallP1 h4 (net_Net_N a1 h4) fun x5 => (iteB (decide (x5 < (2 : Int))) (stC h4 a3 (.int .i64 0) fun h6 => stC h6 (a3.add 1) (.slice none 0 0) fun h7 => (∃ (x8 : Int), cell h7 a3 = some (.int .i64 x8) ∧ ∃ (x9 : Option Addr) (x9l : Nat) (x9c : Nat), cell h7 (a3.add 1) = some (.slice x9 x9l x9c) ∧ K x8 x9 x9l x9c 0 9 h7)) ((callP5 (karger_Groups a1 2 a2 a2l a2c h4) fun x10 x10l x10c x11 x12 h13 => (chkP x10 fun a14 => (0 ≤ (1 : Int) ∧ (1 : Int) < (x10l : Int)) ∧ ∃ (x15 : Option Addr) (x15l : Nat) (x15c : Nat), cell h13 (a14.add ((1 : Int).toNat * 1)) = some (.slice x15 x15l x15c) ∧ callP5 (side_Cut a1 x15 x15l x15c h13) fun x16 x17 x17l x17c x18 h19 => newP h19 (.cells #[(.int .i64 0), (.slice none 0 0)] 55) fun a20 h21 => stC h21 a20 (.int .i64 x16) fun h22 => stC h22 (a20.add 1) (.slice x17 x17l x17c) fun h23 => (∃ (x24 : Int), cell h23 a20 = some (.int .i64 x24) ∧ ∃ (x25 : Option Addr) (x25l : Nat) (x25c : Nat), cell h23 (a20.add 1) = some (.slice x25 x25l x25c) ∧ stC h23 a3 (.int .i64 x24) fun h26 => stC h26 (a3.add 1) (.slice x25 x25l x25c) fun h27 => (∃ (x28 : Int), cell h27 a3 = some (.int .i64 x28) ∧ ∃ (x29 : Option Addr) (x29l : Nat) (x29c : Nat), cell h27 (a3.add 1) = some (.slice x29 x29l x29c) ∧ K x28 x29 x29l x29c x11 x18 h27)))))))
def karger_Run.ret (K : Int → (Option Addr) → Nat → Nat → Int → Int → Heap → Prop) (v : Value) (h : Heap) : Prop := match v with
  | (.tuple ⟨[(.agg ⟨[(.int .i64 r30), (.slice r31 r31l r31c)]⟩), (.int .i64 r32), (.int .i64 r33)]⟩) => K r30 r31 r31l r31c r32 r33 h
  | _ => False
theorem karger_Run.ret_elim {K : Int → (Option Addr) → Nat → Nat → Int → Int → Heap → Prop} {K' : Value → Heap → Prop} {v : Value} {h : Heap} (hk : ∀ r30 r31 r31l r31c r32 r33 h, K r30 r31 r31l r31c r32 r33 h → K' (.tuple #[(.agg #[(.int .i64 r30), (.slice r31 r31l r31c)]), (.int .i64 r32), (.int .i64 r33)]) h) (hh : karger_Run.ret K v h) : K' v h := by
  unfold karger_Run.ret at hh
  split at hh
  · exact hk _ _ _ _ _ _ _ hh
  · exact hh.elim
def karger_Run.call (f : FuncId) (vs : List Value) (h : Heap) (K : Value → Heap → Prop) : Prop := match f, vs with
  | 31, [(.pointer a1), (.int .i64 a2), (.slice a3 a3l a3c)] => callP5 (karger_Groups a1 a2 a3 a3l a3c h) fun r21 r21l r21c r22 r23 h' => K (.tuple #[(.slice r21 r21l r21c), (.int .i64 r22), (.int .i64 r23)]) h'
  | 56, [(.pointer a1), (.slice a2 a2l a2c)] => callP5 (side_Cut a1 a2 a2l a2c h) fun r18 r19 r19l r19c r20 h' => K (.tuple #[(.agg #[(.int .i64 r18), (.slice r19 r19l r19c)]), (.int .i64 r20)]) h'
  | _, _ => False
def karger_Run.qcall (f : FuncId) (vs : List Value) (h : Heap) (K : Value → Prop) : Prop := match f, vs with
  | 44, [(.pointer a1)] => qcallP1 h (net_Net_N a1 h) fun r4 => K (.int .i64 r4)
  | _, _ => False
noncomputable def karger_Run.ctx : Ctx := { P := Tryz.prog, call := karger_Run.call, qcall := karger_Run.qcall, quiet := fun f => Nat.beq f 44 || Nat.beq f 1000131 || Nat.beq f 1000155, loop := fun _ _ _ _ => False }
theorem karger_Run.ok : karger_Run.ctx.OK where
  mixed := by kernel_rfl
  mono := by
    intro f args h K K' hh hk
    change karger_Run.call f args h K at hh
    change karger_Run.call f args h K'
    unfold karger_Run.call at hh ⊢
    split at hh
    · obtain ⟨R, h1, h2⟩ := hh
      exact ⟨R, h1, fun _ _ _ _ _ x hr => hk _ _ (h2 _ _ _ _ _ x hr)⟩
    · obtain ⟨R, h1, h2⟩ := hh
      exact ⟨R, h1, fun _ _ _ _ _ x hr => hk _ _ (h2 _ _ _ _ _ x hr)⟩
    · exact hh.elim
  call := by
    intro f args h K hh w hw
    change karger_Run.call f args h K at hh
    unfold karger_Run.call at hh
    split at hh
    · obtain ⟨R, h1, h2⟩ := hh
      obtain ⟨g1, g2⟩ := karger_Groups.calls h1 w hw
      exact ⟨g1, g2.mono fun e w' ⟨v, he, ho, hr⟩ => ⟨v, he, ho, karger_Groups.ret_elim h2 hr⟩⟩
    · obtain ⟨R, h1, h2⟩ := hh
      obtain ⟨g1, g2⟩ := side_Cut.calls h1 w hw
      exact ⟨g1, g2.mono fun e w' ⟨v, he, ho, hr⟩ => ⟨v, he, ho, side_Cut.ret_elim h2 hr⟩⟩
    · exact hh.elim
  qmono := by
    intro f args h K K' hh hk
    change karger_Run.qcall f args h K at hh
    change karger_Run.qcall f args h K'
    unfold karger_Run.qcall at hh ⊢
    split at hh
    · obtain ⟨x0, h1, h2⟩ := hh
      exact ⟨x0, h1, hk _ h2⟩
    · exact hh.elim
  qval := by
    intro f args h K hh
    change karger_Run.qcall f args h K at hh
    suffices H : ∃ v, K v ∧ karger_Run.qcall f args h (· = v) from H
    unfold karger_Run.qcall at hh ⊢
    split at hh
    · obtain ⟨x0, h1, h2⟩ := hh
      exact ⟨_, h2, x0, h1, rfl⟩
    · exact hh.elim
  qcall := by
    intro f args h v hh w hw
    change karger_Run.qcall f args h (· = v) at hh
    unfold karger_Run.qcall at hh
    split at hh
    · obtain ⟨x0, h1, h2⟩ := hh
      obtain ⟨g1, g2⟩ := net_Net_N.calls h1 w hw
      refine .inl ⟨g1, g2.mono fun e w' ⟨u, he, ho, hr⟩ => ?_⟩
      have hq := net_Net_N.ret_elim (K' := fun u h' => u = v ∧ h' = h) (fun _ h' hr => by obtain ⟨rfl, rfl⟩ := hr; exact ⟨h2, rfl⟩) hr
      exact ⟨hq.1 ▸ he, ho, hq.2⟩
    · exact hh.elim
noncomputable def karger_Run.code : Code := (Tryz.f26.body).getD .skip
def karger_Run.ann : Ann := .auto
set_option maxRecDepth 100000 in
theorem karger_Run.eq (a1 : Option Addr) (a2 : Option Addr) (a2l : Nat) (a2c : Nat) (h : Heap) (K : Int → (Option Addr) → Nat → Nat → Int → Int → Heap → Prop) : evF karger_Run.ctx Tryz.f26 karger_Run.ann [(.pointer a1), (.slice a2 a2l a2c)] h (karger_Run.ret K) = karger_Run a1 a2 a2l a2c h K := by kernel_rfl
set_option maxRecDepth 100000 in
theorem karger_Run.calls {a1 : Option Addr} {a2 : Option Addr} {a2l : Nat} {a2c : Nat} {h : Heap} {K : Int → (Option Addr) → Nat → Nat → Int → Int → Heap → Prop} (hh : karger_Run a1 a2 a2l a2c h K) (w : World) (hw : w.heap = h) :
    (callFunc 26 #[(.pointer a1), (.slice a2 a2l a2c)]).run Tryz.prog w = .ok (.enter 26 #[(.pointer a1), (.slice a2 a2l a2c)]) w ∧ Calls Tryz.prog 26 #[(.pointer a1), (.slice a2 a2l a2c)] w fun e w' => ∃ v, e = .returned v ∧ Out w w' ∧ karger_Run.ret K v w'.heap := by
  rw [← karger_Run.eq] at hh
  exact fn_calls (args := [(.pointer a1), (.slice a2 a2l a2c)]) (c := karger_Run.code) karger_Run.ok Tryz.func26 (by kernel_rfl) (by kernel_rfl) (by kernel_rfl) (by kernel_rfl) (loops_ok (l := []) (by kernel_rfl) trivial) hh w hw
end

/-! ### strait/straitlaw41.awake: function 25 -/
section
variable [DKc]
def straitlaw41_awake (h : Heap) (K : Bool → Heap → Prop) : Prop :=
  (newP h (.cells #[(.int .i64 0), (.int .i64 1), (.int .i64 1), (.int .i64 1), (.int .i64 2), (.int .i64 1), (.int .i64 0), (.int .i64 2), (.int .i64 1)] 82) fun a1 h2 => callP3 (net_New 3 (some a1) 3 3 h2) fun x3 x4 x5 h6 => (newP h6 (.cells #[(.int .u64 1)] 53) fun a7 h8 => callP6 (karger_Run x3 (some a7) 1 1 h8) fun x9 x10 x10l x10c x11 x12 h13 => newP h13 (.cells #[(.int .i64 0), (.slice none 0 0)] 55) fun a14 h15 => stC h15 a14 (.int .i64 x9) fun h16 => stC h16 (a14.add 1) (.slice x10 x10l x10c) fun h17 => (iteB (x4 == (0 : Int)) (iteB (x12 == (0 : Int)) (iteB (x11 == (1 : Int)) (∃ (x18 : Int), cell h17 a14 = some (.int .i64 x18) ∧ iteB (x18 == (2 : Int)) (∃ (x19 : Option Addr) (x19l : Nat) (x19c : Nat), cell h17 (a14.add 1) = some (.slice x19 x19l x19c) ∧ iteB ((x19l : Int) == (1 : Int)) (∃ (x20 : Option Addr) (x20l : Nat) (x20c : Nat), cell h17 (a14.add 1) = some (.slice x20 x20l x20c) ∧ chkP x20 fun a21 => (0 ≤ (0 : Int) ∧ (0 : Int) < (x20l : Int)) ∧ ∃ (x22 : Int), cell h17 (a21.add ((0 : Int).toNat * 1)) = some (.int .i64 x22) ∧ (K (x22 == (1 : Int)) h17)) (K false h17)) (K false h17)) (K false h17)) (K false h17)) (K false h17))))
def straitlaw41_awake.ret (K : Bool → Heap → Prop) (v : Value) (h : Heap) : Prop := match v with
  | (.bool r24) => K r24 h
  | _ => False
theorem straitlaw41_awake.ret_elim {K : Bool → Heap → Prop} {K' : Value → Heap → Prop} {v : Value} {h : Heap} (hk : ∀ r24 h, K r24 h → K' (.bool r24) h) (hh : straitlaw41_awake.ret K v h) : K' v h := by
  unfold straitlaw41_awake.ret at hh
  split at hh
  · exact hk _ _ hh
  · exact hh.elim
def straitlaw41_awake.call (f : FuncId) (vs : List Value) (h : Heap) (K : Value → Heap → Prop) : Prop := match f, vs with
  | 8, [(.int .i64 a1), (.slice a2 a2l a2c)] => callP3 (net_New a1 a2 a2l a2c h) fun r37 r38 r39 h' => K (.tuple #[(.pointer r37), (.int .i64 r38), (.int .i64 r39)]) h'
  | 26, [(.pointer a1), (.slice a2 a2l a2c)] => callP6 (karger_Run a1 a2 a2l a2c h) fun r30 r31 r31l r31c r32 r33 h' => K (.tuple #[(.agg #[(.int .i64 r30), (.slice r31 r31l r31c)]), (.int .i64 r32), (.int .i64 r33)]) h'
  | _, _ => False
noncomputable def straitlaw41_awake.ctx : Ctx := { P := Tryz.prog, call := straitlaw41_awake.call, qcall := fun _ _ _ _ => False, quiet := fun f => Nat.beq f 1000131 || Nat.beq f 1000155, loop := fun _ _ _ _ => False }
theorem straitlaw41_awake.ok : straitlaw41_awake.ctx.OK where
  mixed := by kernel_rfl
  mono := by
    intro f args h K K' hh hk
    change straitlaw41_awake.call f args h K at hh
    change straitlaw41_awake.call f args h K'
    unfold straitlaw41_awake.call at hh ⊢
    split at hh
    · obtain ⟨R, h1, h2⟩ := hh
      exact ⟨R, h1, fun _ _ _ x hr => hk _ _ (h2 _ _ _ x hr)⟩
    · obtain ⟨R, h1, h2⟩ := hh
      exact ⟨R, h1, fun _ _ _ _ _ _ x hr => hk _ _ (h2 _ _ _ _ _ _ x hr)⟩
    · exact hh.elim
  call := by
    intro f args h K hh w hw
    change straitlaw41_awake.call f args h K at hh
    unfold straitlaw41_awake.call at hh
    split at hh
    · obtain ⟨R, h1, h2⟩ := hh
      obtain ⟨g1, g2⟩ := net_New.calls h1 w hw
      exact ⟨g1, g2.mono fun e w' ⟨v, he, ho, hr⟩ => ⟨v, he, ho, net_New.ret_elim h2 hr⟩⟩
    · obtain ⟨R, h1, h2⟩ := hh
      obtain ⟨g1, g2⟩ := karger_Run.calls h1 w hw
      exact ⟨g1, g2.mono fun e w' ⟨v, he, ho, hr⟩ => ⟨v, he, ho, karger_Run.ret_elim h2 hr⟩⟩
    · exact hh.elim
  qmono := fun hh _ => hh.elim
  qval := fun hh => hh.elim
  qcall := fun hh => hh.elim
noncomputable def straitlaw41_awake.code : Code := (Tryz.f25.body).getD .skip
def straitlaw41_awake.ann : Ann := .auto
set_option maxRecDepth 100000 in
theorem straitlaw41_awake.eq (h : Heap) (K : Bool → Heap → Prop) : evF straitlaw41_awake.ctx Tryz.f25 straitlaw41_awake.ann [] h (straitlaw41_awake.ret K) = straitlaw41_awake h K := by kernel_rfl
set_option maxRecDepth 100000 in
theorem straitlaw41_awake.calls {h : Heap} {K : Bool → Heap → Prop} (hh : straitlaw41_awake h K) (w : World) (hw : w.heap = h) :
    (callFunc 25 #[]).run Tryz.prog w = .ok (.enter 25 #[]) w ∧ Calls Tryz.prog 25 #[] w fun e w' => ∃ v, e = .returned v ∧ Out w w' ∧ straitlaw41_awake.ret K v w'.heap := by
  rw [← straitlaw41_awake.eq] at hh
  exact fn_calls (args := []) (c := straitlaw41_awake.code) straitlaw41_awake.ok Tryz.func25 (by kernel_rfl) (by kernel_rfl) (by kernel_rfl) (by kernel_rfl) (loops_ok (l := []) (by kernel_rfl) trivial) hh w hw
end

/-! ### math/bits.RotateLeft64: function 57 -/
def bits_RotateLeft64 (a1 : Int) (a2 : Int) (h : Heap) (K : Int → Heap → Prop) : Prop :=
  ((0 ≤ (bits .and .u64 (IntKind.u64.wrap a2) 63) ∧ bindV (IntKind.u64.wrap (a1 * 2 ^ (min (bits .and .u64 (IntKind.u64.wrap a2) 63).toNat 64))) fun n3 => bindV (IntKind.u64.wrap (64 - (bits .and .u64 (IntKind.u64.wrap a2) 63))) fun n4 => 0 ≤ n4 ∧ bindV (bits .or .u64 n3 (a1.fdiv (2 ^ (min n4.toNat 64)))) fun n5 => K n5 h))
def bits_RotateLeft64.ret (K : Int → Heap → Prop) (v : Value) (h : Heap) : Prop := match v with
  | (.int .u64 r6) => K r6 h
  | _ => False
theorem bits_RotateLeft64.ret_elim {K : Int → Heap → Prop} {K' : Value → Heap → Prop} {v : Value} {h : Heap} (hk : ∀ r6 h, K r6 h → K' (.int .u64 r6) h) (hh : bits_RotateLeft64.ret K v h) : K' v h := by
  unfold bits_RotateLeft64.ret at hh
  split at hh
  · exact hk _ _ hh
  · exact hh.elim
noncomputable def bits_RotateLeft64.ctx : Ctx := { P := Tryz.prog, call := fun _ _ _ _ => False, qcall := fun _ _ _ _ => False, quiet := fun f => Nat.beq f 1000131 || Nat.beq f 1000155, loop := fun _ _ _ _ => False }
theorem bits_RotateLeft64.ok [DKc] : bits_RotateLeft64.ctx.OK where
  mixed := by kernel_rfl
  mono := fun hh _ => hh.elim
  call := fun hh => hh.elim
  qmono := fun hh _ => hh.elim
  qval := fun hh => hh.elim
  qcall := fun hh => hh.elim
noncomputable def bits_RotateLeft64.code : Code := (Tryz.f57.body).getD .skip
def bits_RotateLeft64.ann : Ann := .auto
set_option maxRecDepth 100000 in
theorem bits_RotateLeft64.eq (a1 : Int) (a2 : Int) (h : Heap) (K : Int → Heap → Prop) : evF bits_RotateLeft64.ctx Tryz.f57 bits_RotateLeft64.ann [(.int .u64 a1), (.int .i64 a2)] h (bits_RotateLeft64.ret K) = bits_RotateLeft64 a1 a2 h K := by kernel_rfl
set_option maxRecDepth 100000 in
theorem bits_RotateLeft64.calls [DKc] {a1 : Int} {a2 : Int} {h : Heap} {K : Int → Heap → Prop} (hh : bits_RotateLeft64 a1 a2 h K) (w : World) (hw : w.heap = h) :
    (callFunc 57 #[(.int .u64 a1), (.int .i64 a2)]).run Tryz.prog w = .ok (.enter 57 #[(.int .u64 a1), (.int .i64 a2)]) w ∧ Calls Tryz.prog 57 #[(.int .u64 a1), (.int .i64 a2)] w fun e w' => ∃ v, e = .returned v ∧ Out w w' ∧ bits_RotateLeft64.ret K v w'.heap := by
  rw [← bits_RotateLeft64.eq] at hh
  exact fn_calls (args := [(.int .u64 a1), (.int .i64 a2)]) (c := bits_RotateLeft64.code) bits_RotateLeft64.ok Tryz.func57 (by kernel_rfl) (by kernel_rfl) (by kernel_rfl) (by kernel_rfl) (loops_ok (l := []) (by kernel_rfl) trivial) hh w hw

/-! ### strait/karger.Spread: function 27 -/
def karger_Spread.b0 (K2 : Heap → Prop) (cont : Int → Addr → Nat → Nat → Int → Int → Heap → Prop) (v0_1001 : Int) (c5_1002 : Addr) (c5_1003 : Nat) (c5_1004 : Nat) (c12_1005 : Int) (v13_1006 : Int) (h1007 : Heap) : Prop :=
  (iteB (decide (v13_1006 < c12_1005)) (((bindV (IntKind.u64.wrap (v0_1001 * 6364136223846793005)) fun n1008 => bindV (IntKind.u64.wrap (n1008 + 1442695040888963407)) fun n1009 => (qcallP1 h1007 (bits_RotateLeft64 n1009 32 h1007) fun x1010 => (0 ≤ v13_1006 ∧ v13_1006 < (c5_1003 : Int)) ∧ stC h1007 (c5_1002.add (v13_1006.toNat * 1)) (.int .u64 x1010) fun h1011 => ((cont n1009 c5_1002 c5_1003 c5_1004 c12_1005 (IntKind.i64.wrap (v13_1006 + 1)) h1011)))))) (K2 h1007))
def karger_Spread.l0 (K2 : Heap → Prop) : Nat → Int → Addr → Nat → Nat → Int → Int → Heap → Prop
  | 0, _, _, _, _, _, _, _ => False
  | m + 1, v0_1001, c5_1002, c5_1003, c5_1004, c12_1005, v13_1006, h => karger_Spread.b0 K2 (karger_Spread.l0 K2 m) v0_1001 c5_1002 c5_1003 c5_1004 c12_1005 v13_1006 h
def karger_Spread (a1 : Int) (a2 : Int) (h : Heap) (K : (Option Addr) → Nat → Nat → Heap → Prop) : Prop :=
  (bindV (if 1048576 < (if 0 > a2 then 0 else a2) then 1048576 else (if 0 > a2 then 0 else a2)) fun n3 => (0 ≤ n3 ∧ n3 ≤ n3 ∧ n3 * (8 : Nat) ≤ 2 ^ 47 ∧ n3 ≤ 2 ^ 47) ∧ newP h (.cells (zeroRow [(.int .u64 0)] n3.toNat).toArray 53) fun a4 h5 => ((∃ m7, karger_Spread.l0 (fun h6 => (((K (some a4) n3.toNat n3.toNat h6)))) m7 a1 a4 n3.toNat n3.toNat (n3.toNat : Int) 0 h5)))
def karger_Spread.ret (K : (Option Addr) → Nat → Nat → Heap → Prop) (v : Value) (h : Heap) : Prop := match v with
  | (.slice r8 r8l r8c) => K r8 r8l r8c h
  | _ => False
theorem karger_Spread.ret_elim {K : (Option Addr) → Nat → Nat → Heap → Prop} {K' : Value → Heap → Prop} {v : Value} {h : Heap} (hk : ∀ r8 r8l r8c h, K r8 r8l r8c h → K' (.slice r8 r8l r8c) h) (hh : karger_Spread.ret K v h) : K' v h := by
  unfold karger_Spread.ret at hh
  split at hh
  · exact hk _ _ _ _ hh
  · exact hh.elim
def karger_Spread.qcall (f : FuncId) (vs : List Value) (h : Heap) (K : Value → Prop) : Prop := match f, vs with
  | 57, [(.int .u64 a1), (.int .i64 a2)] => qcallP1 h (bits_RotateLeft64 a1 a2 h) fun r6 => K (.int .u64 r6)
  | _, _ => False
def karger_Spread.r0 (K : Nat → List Value → Heap → Prop) (m : Nat) (vs : List Value) (h : Heap) : Prop := match vs with
  | [(.int .u64 v0_1001), (.slice (some c5_1002) c5_1003 c5_1004), (.int .i64 c12_1005), (.int .i64 v13_1006)] => karger_Spread.l0 (fun h' => K 2 [(.slice (some c5_1002) c5_1003 c5_1004)] h') m v0_1001 c5_1002 c5_1003 c5_1004 c12_1005 v13_1006 h
  | _ => False
def karger_Spread.loop (i : Nat) (vs : List Value) (h : Heap) (K : Nat → List Value → Heap → Prop) : Prop := match i with
  | 0 => ∃ m, karger_Spread.r0 K m vs h
  | _ => False
noncomputable def karger_Spread.ctx : Ctx := { P := Tryz.prog, call := fun _ _ _ _ => False, qcall := karger_Spread.qcall, quiet := fun f => Nat.beq f 57 || Nat.beq f 1000131 || Nat.beq f 1000155, loop := karger_Spread.loop }
theorem karger_Spread.ok [DKc] : karger_Spread.ctx.OK where
  mixed := by kernel_rfl
  mono := fun hh _ => hh.elim
  call := fun hh => hh.elim
  qmono := by
    intro f args h K K' hh hk
    change karger_Spread.qcall f args h K at hh
    change karger_Spread.qcall f args h K'
    unfold karger_Spread.qcall at hh ⊢
    split at hh
    · obtain ⟨x0, h1, h2⟩ := hh
      exact ⟨x0, h1, hk _ h2⟩
    · exact hh.elim
  qval := by
    intro f args h K hh
    change karger_Spread.qcall f args h K at hh
    suffices H : ∃ v, K v ∧ karger_Spread.qcall f args h (· = v) from H
    unfold karger_Spread.qcall at hh ⊢
    split at hh
    · obtain ⟨x0, h1, h2⟩ := hh
      exact ⟨_, h2, x0, h1, rfl⟩
    · exact hh.elim
  qcall := by
    intro f args h v hh w hw
    change karger_Spread.qcall f args h (· = v) at hh
    unfold karger_Spread.qcall at hh
    split at hh
    · obtain ⟨x0, h1, h2⟩ := hh
      obtain ⟨g1, g2⟩ := bits_RotateLeft64.calls h1 w hw
      refine .inl ⟨g1, g2.mono fun e w' ⟨u, he, ho, hr⟩ => ?_⟩
      have hq := bits_RotateLeft64.ret_elim (K' := fun u h' => u = v ∧ h' = h) (fun _ h' hr => by obtain ⟨rfl, rfl⟩ := hr; exact ⟨h2, rfl⟩) hr
      exact ⟨hq.1 ▸ he, ho, hq.2⟩
    · exact hh.elim
noncomputable def karger_Spread.code : Code := (Tryz.f27.body).getD .skip
def karger_Spread.ann : Ann := (.two .auto (.two .auto (.two (.two .auto (.two (.loop 0 [0, 5, 12, 13] [(2, [5])] .auto) .auto)) .auto)))
noncomputable def karger_Spread.c0 : Code := sub karger_Spread.code [1, 1, 0, 1, 0, 0]
def karger_Spread.a0 : Ann := .auto
def karger_Spread.keep0 : List Nat := [0, 5, 12, 13]
def karger_Spread.outs0 : List (Nat × List Nat) := [(2, [5])]
set_option maxRecDepth 100000 in
theorem karger_Spread.L0 [DKc] : LoopOK karger_Spread.ctx 26 karger_Spread.c0 0 karger_Spread.keep0 karger_Spread.outs0 := by
  refine loop_ok (n := karger_Spread.a0) karger_Spread.ok (by kernel_rfl) (loops_ok (l := []) (by kernel_rfl) ?_) karger_Spread.r0 ?_ ?_ (fun vs h K hh => hh)
  · exact trivial
  · intro K vs h hh
    unfold karger_Spread.r0 at hh
    split at hh
    · exact hh
    · exact hh
  · intro K m vs h hh
    unfold karger_Spread.r0 at hh
    split at hh
    · exact cast (by kernel_rfl) hh
    · exact hh.elim
set_option maxRecDepth 100000 in
theorem karger_Spread.eq (a1 : Int) (a2 : Int) (h : Heap) (K : (Option Addr) → Nat → Nat → Heap → Prop) : evF karger_Spread.ctx Tryz.f27 karger_Spread.ann [(.int .u64 a1), (.int .i64 a2)] h (karger_Spread.ret K) = karger_Spread a1 a2 h K := by kernel_rfl
set_option maxRecDepth 100000 in
theorem karger_Spread.calls [DKc] {a1 : Int} {a2 : Int} {h : Heap} {K : (Option Addr) → Nat → Nat → Heap → Prop} (hh : karger_Spread a1 a2 h K) (w : World) (hw : w.heap = h) :
    (callFunc 27 #[(.int .u64 a1), (.int .i64 a2)]).run Tryz.prog w = .ok (.enter 27 #[(.int .u64 a1), (.int .i64 a2)]) w ∧ Calls Tryz.prog 27 #[(.int .u64 a1), (.int .i64 a2)] w fun e w' => ∃ v, e = .returned v ∧ Out w w' ∧ karger_Spread.ret K v w'.heap := by
  rw [← karger_Spread.eq] at hh
  exact fn_calls (args := [(.int .u64 a1), (.int .i64 a2)]) (c := karger_Spread.code) karger_Spread.ok Tryz.func27 (by kernel_rfl) (by kernel_rfl) (by kernel_rfl) (by kernel_rfl) (loops_ok (l := [(karger_Spread.c0, none, 0, karger_Spread.keep0, karger_Spread.outs0)]) (by kernel_rfl) ⟨karger_Spread.L0, trivial⟩) hh w hw

/-! ### strait/straitref22.small: function 59 -/
def straitref22_small (a1 : Int) (h : Heap) (K : Int → Heap → Prop) : Prop :=
  ((iteB (decide (a1 < (2 : Int))) (K 9 h) (((iteB (decide (a1 > (20 : Int))) (K 3 h) (K 0 h))))))
def straitref22_small.ret (K : Int → Heap → Prop) (v : Value) (h : Heap) : Prop := match v with
  | (.int .i64 r2) => K r2 h
  | _ => False
theorem straitref22_small.ret_elim {K : Int → Heap → Prop} {K' : Value → Heap → Prop} {v : Value} {h : Heap} (hk : ∀ r2 h, K r2 h → K' (.int .i64 r2) h) (hh : straitref22_small.ret K v h) : K' v h := by
  unfold straitref22_small.ret at hh
  split at hh
  · exact hk _ _ hh
  · exact hh.elim
noncomputable def straitref22_small.ctx : Ctx := { P := Tryz.prog, call := fun _ _ _ _ => False, qcall := fun _ _ _ _ => False, quiet := fun f => Nat.beq f 1000131 || Nat.beq f 1000155, loop := fun _ _ _ _ => False }
theorem straitref22_small.ok [DKc] : straitref22_small.ctx.OK where
  mixed := by kernel_rfl
  mono := fun hh _ => hh.elim
  call := fun hh => hh.elim
  qmono := fun hh _ => hh.elim
  qval := fun hh => hh.elim
  qcall := fun hh => hh.elim
noncomputable def straitref22_small.code : Code := (Tryz.f59.body).getD .skip
def straitref22_small.ann : Ann := .auto
set_option maxRecDepth 100000 in
theorem straitref22_small.eq (a1 : Int) (h : Heap) (K : Int → Heap → Prop) : evF straitref22_small.ctx Tryz.f59 straitref22_small.ann [(.int .i64 a1)] h (straitref22_small.ret K) = straitref22_small a1 h K := by kernel_rfl
set_option maxRecDepth 100000 in
theorem straitref22_small.calls [DKc] {a1 : Int} {h : Heap} {K : Int → Heap → Prop} (hh : straitref22_small a1 h K) (w : World) (hw : w.heap = h) :
    (callFunc 59 #[(.int .i64 a1)]).run Tryz.prog w = .ok (.enter 59 #[(.int .i64 a1)]) w ∧ Calls Tryz.prog 59 #[(.int .i64 a1)] w fun e w' => ∃ v, e = .returned v ∧ Out w w' ∧ straitref22_small.ret K v w'.heap := by
  rw [← straitref22_small.eq] at hh
  exact fn_calls (args := [(.int .i64 a1)]) (c := straitref22_small.code) straitref22_small.ok Tryz.func59 (by kernel_rfl) (by kernel_rfl) (by kernel_rfl) (by kernel_rfl) (loops_ok (l := []) (by kernel_rfl) trivial) hh w hw

/-! ### strait/straitref22.sides: function 60 -/
def straitref22_sides.b1 (K4 : (Option Addr) → Nat → Nat → Heap → Prop) (cont : Int → (Option Addr) → Nat → Nat → Int → (Option Addr) → Nat → Nat → Int → Heap → Prop) (c0_2001 : Int) (c3_2002 : Option Addr) (c3_2003 : Nat) (c3_2004 : Nat) (c4_2005 : Int) (v5_2006 : Option Addr) (v5_2006l : Nat) (v5_2006c : Nat) (v6_2007 : Int) (h2008 : Heap) : Prop :=
  (iteB (decide (v6_2007 < c0_2001)) ((bindV (IntKind.u64.wrap (IntKind.i64.wrap (v6_2007 - 1))) fun n2009 => 0 ≤ n2009 ∧ bindV (bits .and .i64 (c4_2005.fdiv (2 ^ (min n2009.toNat 64))) 1) fun n2010 => (iteB (n2010 == (1 : Int)) (newP h2008 (.cells #[(.int .i64 v6_2007)] 3) fun a2011 h2012 => ∃ n2017, cellsAt h2012 (some a2011) (1 * 1) n2017 ∧ appP 3 1 8 [(.int .i64 0)] v5_2006 v5_2006l v5_2006c 1 n2017 h2012 fun q2013 l2014 c2015 h2016 => ((cont c0_2001 c3_2002 c3_2003 c3_2004 c4_2005 q2013 l2014 c2015 (IntKind.i64.wrap (v6_2007 + 1)) h2016))) (((cont c0_2001 c3_2002 c3_2003 c3_2004 c4_2005 v5_2006 v5_2006l v5_2006c (IntKind.i64.wrap (v6_2007 + 1)) h2008)))))) (K4 v5_2006 v5_2006l v5_2006c h2008))
def straitref22_sides.l1 (K4 : (Option Addr) → Nat → Nat → Heap → Prop) : Nat → Int → (Option Addr) → Nat → Nat → Int → (Option Addr) → Nat → Nat → Int → Heap → Prop
  | 0, _, _, _, _, _, _, _, _, _, _ => False
  | m + 1, c0_2001, c3_2002, c3_2003, c3_2004, c4_2005, v5_2006, v5_2006l, v5_2006c, v6_2007, h => straitref22_sides.b1 K4 (straitref22_sides.l1 K4 m) c0_2001 c3_2002 c3_2003 c3_2004 c4_2005 v5_2006 v5_2006l v5_2006c v6_2007 h
def straitref22_sides.b0 (K2 : (Option Addr) → Nat → Nat → Heap → Prop) (cont : Int → (Option Addr) → Nat → Nat → Int → Heap → Prop) (c0_1001 : Int) (v3_1002 : Option Addr) (v3_1002l : Nat) (v3_1002c : Nat) (v4_1003 : Int) (h1004 : Heap) : Prop :=
  bindV (IntKind.u64.wrap (IntKind.i64.wrap (c0_1001 - 1))) fun n1005 => 0 ≤ n1005 ∧ bindV (IntKind.i64.wrap ((1 : Int) * 2 ^ (min n1005.toNat 64))) fun n1006 => (iteB (decide (v4_1003 < n1006)) ((((∃ m1009, straitref22_sides.l1 (fun z1007 z1007l z1007c h1008 => ((newP h1008 (.cells #[(.slice z1007 z1007l z1007c)] 33) fun a1010 h1011 => ∃ n1016, cellsAt h1011 (some a1010) (1 * 1) n1016 ∧ appP 33 1 24 [(.slice none 0 0)] v3_1002 v3_1002l v3_1002c 1 n1016 h1011 fun q1012 l1013 c1014 h1015 => ((cont c0_1001 q1012 l1013 c1014 (IntKind.i64.wrap (v4_1003 + 1)) h1015))))) m1009 c0_1001 v3_1002 v3_1002l v3_1002c v4_1003 none 0 0 1 h1004)))) (K2 v3_1002 v3_1002l v3_1002c h1004))
def straitref22_sides.l0 (K2 : (Option Addr) → Nat → Nat → Heap → Prop) : Nat → Int → (Option Addr) → Nat → Nat → Int → Heap → Prop
  | 0, _, _, _, _, _, _ => False
  | m + 1, c0_1001, v3_1002, v3_1002l, v3_1002c, v4_1003, h => straitref22_sides.b0 K2 (straitref22_sides.l0 K2 m) c0_1001 v3_1002 v3_1002l v3_1002c v4_1003 h
def straitref22_sides (a1 : Int) (h : Heap) (K : (Option Addr) → Nat → Nat → Heap → Prop) : Prop :=
  (((∃ m4, straitref22_sides.l0 (fun z2 z2l z2c h3 => (K z2 z2l z2c h3)) m4 a1 none 0 0 1 h)))
def straitref22_sides.ret (K : (Option Addr) → Nat → Nat → Heap → Prop) (v : Value) (h : Heap) : Prop := match v with
  | (.slice r5 r5l r5c) => K r5 r5l r5c h
  | _ => False
theorem straitref22_sides.ret_elim {K : (Option Addr) → Nat → Nat → Heap → Prop} {K' : Value → Heap → Prop} {v : Value} {h : Heap} (hk : ∀ r5 r5l r5c h, K r5 r5l r5c h → K' (.slice r5 r5l r5c) h) (hh : straitref22_sides.ret K v h) : K' v h := by
  unfold straitref22_sides.ret at hh
  split at hh
  · exact hk _ _ _ _ hh
  · exact hh.elim
def straitref22_sides.r0 (K : Nat → List Value → Heap → Prop) (m : Nat) (vs : List Value) (h : Heap) : Prop := match vs with
  | [(.int .i64 c0_1001), (.slice v3_1002 v3_1002l v3_1002c), (.int .i64 v4_1003)] => straitref22_sides.l0 (fun z6 z6l z6c h' => K 2 [(.slice z6 z6l z6c)] h') m c0_1001 v3_1002 v3_1002l v3_1002c v4_1003 h
  | _ => False
def straitref22_sides.r1 (K : Nat → List Value → Heap → Prop) (m : Nat) (vs : List Value) (h : Heap) : Prop := match vs with
  | [(.int .i64 c0_2001), (.slice c3_2002 c3_2003 c3_2004), (.int .i64 c4_2005), (.slice v5_2006 v5_2006l v5_2006c), (.int .i64 v6_2007)] => straitref22_sides.l1 (fun z7 z7l z7c h' => K 4 [(.int .i64 c0_2001), (.slice c3_2002 c3_2003 c3_2004), (.int .i64 c4_2005), (.slice z7 z7l z7c)] h') m c0_2001 c3_2002 c3_2003 c3_2004 c4_2005 v5_2006 v5_2006l v5_2006c v6_2007 h
  | _ => False
def straitref22_sides.loop (i : Nat) (vs : List Value) (h : Heap) (K : Nat → List Value → Heap → Prop) : Prop := match i with
  | 0 => ∃ m, straitref22_sides.r0 K m vs h
  | 1 => ∃ m, straitref22_sides.r1 K m vs h
  | _ => False
noncomputable def straitref22_sides.ctx : Ctx := { P := Tryz.prog, call := fun _ _ _ _ => False, qcall := fun _ _ _ _ => False, quiet := fun f => Nat.beq f 1000131 || Nat.beq f 1000155, loop := straitref22_sides.loop }
theorem straitref22_sides.ok [DKc] : straitref22_sides.ctx.OK where
  mixed := by kernel_rfl
  mono := fun hh _ => hh.elim
  call := fun hh => hh.elim
  qmono := fun hh _ => hh.elim
  qval := fun hh => hh.elim
  qcall := fun hh => hh.elim
noncomputable def straitref22_sides.code : Code := (Tryz.f60.body).getD .skip
def straitref22_sides.ann : Ann := (.two .auto (.two .auto (.two (.two .auto (.two (.loop 0 [0, 3, 4] [(2, [3])] (.two .auto (.two (.two (.two .auto (.two (.two .auto (.two (.loop 1 [0, 3, 4, 5, 6] [(4, [0, 3, 4, 5])] .auto) .auto)) .auto)) .auto) .auto))) .auto)) .auto)))
noncomputable def straitref22_sides.c1 : Code := sub straitref22_sides.code [1, 1, 0, 1, 0, 0, 1, 0, 0, 1, 0, 1, 0, 0]
def straitref22_sides.a1 : Ann := .auto
def straitref22_sides.keep1 : List Nat := [0, 3, 4, 5, 6]
def straitref22_sides.outs1 : List (Nat × List Nat) := [(4, [0, 3, 4, 5])]
noncomputable def straitref22_sides.c0 : Code := sub straitref22_sides.code [1, 1, 0, 1, 0, 0]
def straitref22_sides.a0 : Ann := (.two .auto (.two (.two (.two .auto (.two (.two .auto (.two (.loop 1 [0, 3, 4, 5, 6] [(4, [0, 3, 4, 5])] .auto) .auto)) .auto)) .auto) .auto))
def straitref22_sides.keep0 : List Nat := [0, 3, 4]
def straitref22_sides.outs0 : List (Nat × List Nat) := [(2, [3])]
set_option maxRecDepth 100000 in
theorem straitref22_sides.L1 [DKc] : LoopOK straitref22_sides.ctx 36 straitref22_sides.c1 1 straitref22_sides.keep1 straitref22_sides.outs1 := by
  refine loop_ok (n := straitref22_sides.a1) straitref22_sides.ok (by kernel_rfl) (loops_ok (l := []) (by kernel_rfl) ?_) straitref22_sides.r1 ?_ ?_ (fun vs h K hh => hh)
  · exact trivial
  · intro K vs h hh
    unfold straitref22_sides.r1 at hh
    split at hh
    · exact hh
    · exact hh
  · intro K m vs h hh
    unfold straitref22_sides.r1 at hh
    split at hh
    · exact cast (by kernel_rfl) hh
    · exact hh.elim
set_option maxRecDepth 100000 in
theorem straitref22_sides.L0 [DKc] : LoopOK straitref22_sides.ctx 36 straitref22_sides.c0 0 straitref22_sides.keep0 straitref22_sides.outs0 := by
  refine loop_ok (n := straitref22_sides.a0) straitref22_sides.ok (by kernel_rfl) (loops_ok (l := [(straitref22_sides.c1, none, 1, straitref22_sides.keep1, straitref22_sides.outs1)]) (by kernel_rfl) ?_) straitref22_sides.r0 ?_ ?_ (fun vs h K hh => hh)
  · exact ⟨straitref22_sides.L1, trivial⟩
  · intro K vs h hh
    unfold straitref22_sides.r0 at hh
    split at hh
    · exact hh
    · exact hh
  · intro K m vs h hh
    unfold straitref22_sides.r0 at hh
    split at hh
    · exact cast (by kernel_rfl) hh
    · exact hh.elim
set_option maxRecDepth 100000 in
theorem straitref22_sides.eq (a1 : Int) (h : Heap) (K : (Option Addr) → Nat → Nat → Heap → Prop) : evF straitref22_sides.ctx Tryz.f60 straitref22_sides.ann [(.int .i64 a1)] h (straitref22_sides.ret K) = straitref22_sides a1 h K := by kernel_rfl
set_option maxRecDepth 100000 in
theorem straitref22_sides.calls [DKc] {a1 : Int} {h : Heap} {K : (Option Addr) → Nat → Nat → Heap → Prop} (hh : straitref22_sides a1 h K) (w : World) (hw : w.heap = h) :
    (callFunc 60 #[(.int .i64 a1)]).run Tryz.prog w = .ok (.enter 60 #[(.int .i64 a1)]) w ∧ Calls Tryz.prog 60 #[(.int .i64 a1)] w fun e w' => ∃ v, e = .returned v ∧ Out w w' ∧ straitref22_sides.ret K v w'.heap := by
  rw [← straitref22_sides.eq] at hh
  exact fn_calls (args := [(.int .i64 a1)]) (c := straitref22_sides.code) straitref22_sides.ok Tryz.func60 (by kernel_rfl) (by kernel_rfl) (by kernel_rfl) (by kernel_rfl) (loops_ok (l := [(straitref22_sides.c0, none, 0, straitref22_sides.keep0, straitref22_sides.outs0)]) (by kernel_rfl) ⟨straitref22_sides.L0, trivial⟩) hh w hw

/-! ### strait/straitref22.Least: function 30 -/
def straitref22_Least.b0 (K2 : Heap → Prop) (cont : Addr → Addr → (Option Addr) → Nat → Nat → Addr → Int → Heap → Prop) (c1_1001 : Addr) (c2_1002 : Addr) (c4_1003 : Option Addr) (c4_1004 : Nat) (c4_1005 : Nat) (c5_1006 : Addr) (v6_1007 : Int) (h1008 : Heap) : Prop :=
  (iteB (decide (v6_1007 < (c4_1004 : Int))) ((∃ (x1009 : Int), cell h1008 c1_1001 = some (.int .i64 x1009) ∧ ∃ (x1010 : Option Addr) (x1010l : Nat) (x1010c : Nat), cell h1008 (c1_1001.add 1) = some (.slice x1010 x1010l x1010c) ∧ chkP c4_1003 fun a1011 => (0 ≤ v6_1007 ∧ v6_1007 < (c4_1004 : Int)) ∧ ∃ (x1012 : Option Addr) (x1012l : Nat) (x1012c : Nat), cell h1008 (a1011.add (v6_1007.toNat * 1)) = some (.slice x1012 x1012l x1012c) ∧ callP1 (straitref21_Weight x1009 x1010 x1010l x1010c x1012 x1012l x1012c h1008) fun x1013 h1014 => (let j1022 := (fun (y1017 : Bool) => iteB y1017 (chkP c4_1003 fun a1018 => (0 ≤ v6_1007 ∧ v6_1007 < (c4_1004 : Int)) ∧ ∃ (x1019 : Option Addr) (x1019l : Nat) (x1019c : Nat), cell h1014 (a1018.add (v6_1007.toNat * 1)) = some (.slice x1019 x1019l x1019c) ∧ stC h1014 c5_1006 (.int .i64 x1013) fun h1020 => stC h1020 (c5_1006.add 1) (.slice x1019 x1019l x1019c) fun h1021 => ((cont c1_1001 c2_1002 c4_1003 c4_1004 c4_1005 c5_1006 (IntKind.i64.wrap (v6_1007 + 1)) h1021))) (((cont c1_1001 c2_1002 c4_1003 c4_1004 c4_1005 c5_1006 (IntKind.i64.wrap (v6_1007 + 1)) h1014))));
  ∃ (x1015 : Int), cell h1014 c5_1006 = some (.int .i64 x1015) ∧ iteB (decide (x1015 < (0 : Int))) ((j1022 true)) (∃ (x1016 : Int), cell h1014 c5_1006 = some (.int .i64 x1016) ∧ (j1022 (decide (x1013 < x1016))))))) (K2 h1008))
def straitref22_Least.l0 (K2 : Heap → Prop) : Nat → Addr → Addr → (Option Addr) → Nat → Nat → Addr → Int → Heap → Prop
  | 0, _, _, _, _, _, _, _, _ => False
  | m + 1, c1_1001, c2_1002, c4_1003, c4_1004, c4_1005, c5_1006, v6_1007, h => straitref22_Least.b0 K2 (straitref22_Least.l0 K2 m) c1_1001 c2_1002 c4_1003 c4_1004 c4_1005 c5_1006 v6_1007 h
def straitref22_Least (a1 : Int) (a2 : Option Addr) (a2l : Nat) (a2c : Nat) (h : Heap) (K : Int → (Option Addr) → Nat → Nat → Int → Heap → Prop) : Prop :=
  newP h (.cells #[(.int .i64 a1), (.slice a2 a2l a2c)] 29) fun a3 h4 => newP h4 (.cells #[(.int .i64 0), (.slice none 0 0), (.int .i64 0)] 63) fun a5 h6 => (∃ (x7 : Int), cell h6 a3 = some (.int .i64 x7) ∧ qcallP1 h6 (straitref22_small x7 h6) fun x8 => ((iteB (x8 != (0 : Int)) (stC h6 a5 (.int .i64 0) fun h9 => stC h9 (a5.add 1) (.slice none 0 0) fun h10 => stC h10 (a5.add 2) (.int .i64 x8) fun h11 => (∃ (x12 : Int), cell h11 a5 = some (.int .i64 x12) ∧ ∃ (x13 : Option Addr) (x13l : Nat) (x13c : Nat), cell h11 (a5.add 1) = some (.slice x13 x13l x13c) ∧ ∃ (x14 : Int), cell h11 (a5.add 2) = some (.int .i64 x14) ∧ K x12 x13 x13l x13c x14 h11)) ((∃ (x15 : Int), cell h6 a3 = some (.int .i64 x15) ∧ callP3 (straitref22_sides x15 h6) fun x16 x16l x16c h17 => (newP h17 (.cells #[(.int .i64 0), (.slice none 0 0)] 55) fun a18 h19 => stC h19 a18 (.int .i64 (-1)) fun h20 => stC h20 (a18.add 1) (.slice none 0 0) fun h21 => ((∃ m23, straitref22_Least.l0 (fun h22 => ((∃ (x24 : Int), cell h22 a18 = some (.int .i64 x24) ∧ ∃ (x25 : Option Addr) (x25l : Nat) (x25c : Nat), cell h22 (a18.add 1) = some (.slice x25 x25l x25c) ∧ stC h22 a5 (.int .i64 x24) fun h26 => stC h26 (a5.add 1) (.slice x25 x25l x25c) fun h27 => stC h27 (a5.add 2) (.int .i64 0) fun h28 => (∃ (x29 : Int), cell h28 a5 = some (.int .i64 x29) ∧ ∃ (x30 : Option Addr) (x30l : Nat) (x30c : Nat), cell h28 (a5.add 1) = some (.slice x30 x30l x30c) ∧ ∃ (x31 : Int), cell h28 (a5.add 2) = some (.int .i64 x31) ∧ K x29 x30 x30l x30c x31 h28)))) m23 a3 a5 x16 x16l x16c a18 0 h21))))))))
def straitref22_Least.ret (K : Int → (Option Addr) → Nat → Nat → Int → Heap → Prop) (v : Value) (h : Heap) : Prop := match v with
  | (.agg ⟨[(.int .i64 r32), (.slice r33 r33l r33c), (.int .i64 r34)]⟩) => K r32 r33 r33l r33c r34 h
  | _ => False
theorem straitref22_Least.ret_elim {K : Int → (Option Addr) → Nat → Nat → Int → Heap → Prop} {K' : Value → Heap → Prop} {v : Value} {h : Heap} (hk : ∀ r32 r33 r33l r33c r34 h, K r32 r33 r33l r33c r34 h → K' (.agg #[(.int .i64 r32), (.slice r33 r33l r33c), (.int .i64 r34)]) h) (hh : straitref22_Least.ret K v h) : K' v h := by
  unfold straitref22_Least.ret at hh
  split at hh
  · exact hk _ _ _ _ _ _ hh
  · exact hh.elim
def straitref22_Least.call (f : FuncId) (vs : List Value) (h : Heap) (K : Value → Heap → Prop) : Prop := match f, vs with
  | 60, [(.int .i64 a1)] => callP3 (straitref22_sides a1 h) fun r5 r5l r5c h' => K (.slice r5 r5l r5c) h'
  | 61, [(.agg ⟨[(.int .i64 a1), (.slice a2 a2l a2c)]⟩), (.slice a3 a3l a3c)] => callP1 (straitref21_Weight a1 a2 a2l a2c a3 a3l a3c h) fun r13 h' => K (.int .i64 r13) h'
  | _, _ => False
def straitref22_Least.qcall (f : FuncId) (vs : List Value) (h : Heap) (K : Value → Prop) : Prop := match f, vs with
  | 59, [(.int .i64 a1)] => qcallP1 h (straitref22_small a1 h) fun r2 => K (.int .i64 r2)
  | _, _ => False
def straitref22_Least.r0 (K : Nat → List Value → Heap → Prop) (m : Nat) (vs : List Value) (h : Heap) : Prop := match vs with
  | [(.pointer (some c1_1001)), (.pointer (some c2_1002)), (.slice c4_1003 c4_1004 c4_1005), (.pointer (some c5_1006)), (.int .i64 v6_1007)] => straitref22_Least.l0 (fun h' => K 2 [(.pointer (some c2_1002)), (.pointer (some c5_1006))] h') m c1_1001 c2_1002 c4_1003 c4_1004 c4_1005 c5_1006 v6_1007 h
  | _ => False
def straitref22_Least.loop (i : Nat) (vs : List Value) (h : Heap) (K : Nat → List Value → Heap → Prop) : Prop := match i with
  | 0 => ∃ m, straitref22_Least.r0 K m vs h
  | _ => False
noncomputable def straitref22_Least.ctx : Ctx := { P := Tryz.prog, call := straitref22_Least.call, qcall := straitref22_Least.qcall, quiet := fun f => Nat.beq f 59 || Nat.beq f 1000131 || Nat.beq f 1000155, loop := straitref22_Least.loop }
theorem straitref22_Least.ok [DKc] : straitref22_Least.ctx.OK where
  mixed := by kernel_rfl
  mono := by
    intro f args h K K' hh hk
    change straitref22_Least.call f args h K at hh
    change straitref22_Least.call f args h K'
    unfold straitref22_Least.call at hh ⊢
    split at hh
    · obtain ⟨R, h1, h2⟩ := hh
      exact ⟨R, h1, fun _ _ _ x hr => hk _ _ (h2 _ _ _ x hr)⟩
    · obtain ⟨R, h1, h2⟩ := hh
      exact ⟨R, h1, fun _ x hr => hk _ _ (h2 _ x hr)⟩
    · exact hh.elim
  call := by
    intro f args h K hh w hw
    change straitref22_Least.call f args h K at hh
    unfold straitref22_Least.call at hh
    split at hh
    · obtain ⟨R, h1, h2⟩ := hh
      obtain ⟨g1, g2⟩ := straitref22_sides.calls h1 w hw
      exact ⟨g1, g2.mono fun e w' ⟨v, he, ho, hr⟩ => ⟨v, he, ho, straitref22_sides.ret_elim h2 hr⟩⟩
    · obtain ⟨R, h1, h2⟩ := hh
      obtain ⟨g1, g2⟩ := straitref21_Weight.calls h1 w hw
      exact ⟨g1, g2.mono fun e w' ⟨v, he, ho, hr⟩ => ⟨v, he, ho, straitref21_Weight.ret_elim h2 hr⟩⟩
    · exact hh.elim
  qmono := by
    intro f args h K K' hh hk
    change straitref22_Least.qcall f args h K at hh
    change straitref22_Least.qcall f args h K'
    unfold straitref22_Least.qcall at hh ⊢
    split at hh
    · obtain ⟨x0, h1, h2⟩ := hh
      exact ⟨x0, h1, hk _ h2⟩
    · exact hh.elim
  qval := by
    intro f args h K hh
    change straitref22_Least.qcall f args h K at hh
    suffices H : ∃ v, K v ∧ straitref22_Least.qcall f args h (· = v) from H
    unfold straitref22_Least.qcall at hh ⊢
    split at hh
    · obtain ⟨x0, h1, h2⟩ := hh
      exact ⟨_, h2, x0, h1, rfl⟩
    · exact hh.elim
  qcall := by
    intro f args h v hh w hw
    change straitref22_Least.qcall f args h (· = v) at hh
    unfold straitref22_Least.qcall at hh
    split at hh
    · obtain ⟨x0, h1, h2⟩ := hh
      obtain ⟨g1, g2⟩ := straitref22_small.calls h1 w hw
      refine .inl ⟨g1, g2.mono fun e w' ⟨u, he, ho, hr⟩ => ?_⟩
      have hq := straitref22_small.ret_elim (K' := fun u h' => u = v ∧ h' = h) (fun _ h' hr => by obtain ⟨rfl, rfl⟩ := hr; exact ⟨h2, rfl⟩) hr
      exact ⟨hq.1 ▸ he, ho, hq.2⟩
    · exact hh.elim
noncomputable def straitref22_Least.code : Code := (Tryz.f30.body).getD .skip
def straitref22_Least.ann : Ann := (.two .auto (.two .auto (.two .auto (.two .auto (.two (.two .auto (.two (.loop 0 [1, 2, 4, 5, 6] [(2, [2, 5])] (.two .auto (.two (.two (.two (.reg [0, 0, 0, 6, 14, 31, 63] (.take 0 (.take 1 (.take 2 (.take 3 (.take 4 (.alt 5 (.take 6 .done) .noalt))))))) .auto) .auto) .auto))) .auto)) .auto)))))
noncomputable def straitref22_Least.c0 : Code := sub straitref22_Least.code [1, 1, 1, 1, 0, 1, 0, 0]
def straitref22_Least.a0 : Ann := (.two .auto (.two (.two (.two (.reg [0, 0, 0, 6, 14, 31, 63] (.take 0 (.take 1 (.take 2 (.take 3 (.take 4 (.alt 5 (.take 6 .done) .noalt))))))) .auto) .auto) .auto))
def straitref22_Least.keep0 : List Nat := [1, 2, 4, 5, 6]
def straitref22_Least.outs0 : List (Nat × List Nat) := [(2, [2, 5])]
set_option maxRecDepth 100000 in
theorem straitref22_Least.L0 [DKc] : LoopOK straitref22_Least.ctx 48 straitref22_Least.c0 0 straitref22_Least.keep0 straitref22_Least.outs0 := by
  refine loop_ok (n := straitref22_Least.a0) straitref22_Least.ok (by kernel_rfl) (loops_ok (l := []) (by kernel_rfl) ?_) straitref22_Least.r0 ?_ ?_ (fun vs h K hh => hh)
  · exact trivial
  · intro K vs h hh
    unfold straitref22_Least.r0 at hh
    split at hh
    · exact hh
    · exact hh
  · intro K m vs h hh
    unfold straitref22_Least.r0 at hh
    split at hh
    · exact cast (by kernel_rfl) hh
    · exact hh.elim
set_option maxRecDepth 100000 in
theorem straitref22_Least.eq (a1 : Int) (a2 : Option Addr) (a2l : Nat) (a2c : Nat) (h : Heap) (K : Int → (Option Addr) → Nat → Nat → Int → Heap → Prop) : evF straitref22_Least.ctx Tryz.f30 straitref22_Least.ann [(.agg #[(.int .i64 a1), (.slice a2 a2l a2c)])] h (straitref22_Least.ret K) = straitref22_Least a1 a2 a2l a2c h K := by kernel_rfl
set_option maxRecDepth 100000 in
theorem straitref22_Least.calls [DKc] {a1 : Int} {a2 : Option Addr} {a2l : Nat} {a2c : Nat} {h : Heap} {K : Int → (Option Addr) → Nat → Nat → Int → Heap → Prop} (hh : straitref22_Least a1 a2 a2l a2c h K) (w : World) (hw : w.heap = h) :
    (callFunc 30 #[(.agg #[(.int .i64 a1), (.slice a2 a2l a2c)])]).run Tryz.prog w = .ok (.enter 30 #[(.agg #[(.int .i64 a1), (.slice a2 a2l a2c)])]) w ∧ Calls Tryz.prog 30 #[(.agg #[(.int .i64 a1), (.slice a2 a2l a2c)])] w fun e w' => ∃ v, e = .returned v ∧ Out w w' ∧ straitref22_Least.ret K v w'.heap := by
  rw [← straitref22_Least.eq] at hh
  exact fn_calls (args := [(.agg #[(.int .i64 a1), (.slice a2 a2l a2c)])]) (c := straitref22_Least.code) straitref22_Least.ok Tryz.func30 (by kernel_rfl) (by kernel_rfl) (by kernel_rfl) (by kernel_rfl) (loops_ok (l := [(straitref22_Least.c0, none, 0, straitref22_Least.keep0, straitref22_Least.outs0)]) (by kernel_rfl) ⟨straitref22_Least.L0, trivial⟩) hh w hw

/-! ### strait/straitlaw41.KargerLeast: function 5 -/
section
variable [DKc]
def straitlaw41_KargerLeast (a1 : Int) (a2 : Option Addr) (a2l : Nat) (a2c : Nat) (a3 : Int) (h : Heap) (K : Bool → Heap → Prop) : Prop :=
  (let j57 : Prop := (callP3 (net_New (IntKind.i64.wrap a1) a2 a2l a2c h) fun x11 x12 x13 h14 => (let j56 : Prop := (callP3 (karger_Spread a3 (IntKind.i64.wrap a1) h14) fun x22 x22l x22c h23 => callP6 (karger_Run x11 x22 x22l x22c h23) fun x24 x25 x25l x25c x26 x27 h28 => newP h28 (.cells #[(.int .i64 0), (.slice none 0 0)] 55) fun a29 h30 => stC h30 a29 (.int .i64 x24) fun h31 => stC h31 (a29.add 1) (.slice x25 x25l x25c) fun h32 => (iteB (x27 == (0 : Int)) (∃ (x33 : Int), cell h32 a29 = some (.int .i64 x33) ∧ ∃ (x34 : Option Addr) (x34l : Nat) (x34c : Nat), cell h32 (a29.add 1) = some (.slice x34 x34l x34c) ∧ callP1 (side_Right x11 x33 x34 x34l x34c h32) fun x35 h36 => iteB x35 (∃ (x37 : Option Addr) (x37l : Nat) (x37c : Nat), cell h36 (a29.add 1) = some (.slice x37 x37l x37c) ∧ qcallP1 h36 (straitref21_In x37 x37l x37c 0 h36) fun x38 => iteB (!x38) (∃ (x39 : Int), cell h36 a29 = some (.int .i64 x39) ∧ callP6 (straitref16_New (IntKind.i64.wrap a1) a2 a2l a2c h36) fun x40 x41 x41l x41c x42 x43 h44 => (∃ (x45 : Int), cell h44 a29 = some (.int .i64 x45) ∧ ((.int .i64 x45) : Value) = (.int .i64 x39)) ∧ callP5 (straitref22_Least x40 x41 x41l x41c h44) fun x46 x47 x47l x47c x48 h49 => (∃ (x50 : Int), cell h49 a29 = some (.int .i64 x50) ∧ ((.int .i64 x50) : Value) = (.int .i64 x39)) ∧ iteB (decide (x39 ≥ x46)) (bindV (IntKind.i64.wrap ((IntKind.i64.wrap a1) - 2)) fun n51 => iteB (decide (x26 ≤ n51)) (callP1 (straitlaw41_awake h49) fun x52 h53 => K x52 h53) (K false h49)) (K false h49)) (True ∧ True ∧ K false h36)) (True ∧ True ∧ K false h36)) (True ∧ True ∧ K false h32)));
  iteB (x12 != (0 : Int)) ((callP1 (straitlaw41_awake h14) fun x18 h19 => K x18 h19)) ((iteB (decide (a1 < (2 : Int))) (callP1 (straitlaw41_awake h14) fun x20 h21 => K x20 h21) ((j56))))));
  iteB (decide ((a2l : Int) > (40 : Int))) ((callP1 (straitlaw41_awake h) fun x7 h8 => K x7 h8)) ((iteB (decide (a1 > (8 : Int))) (callP1 (straitlaw41_awake h) fun x9 h10 => K x9 h10) ((j57)))))
def straitlaw41_KargerLeast.ret (K : Bool → Heap → Prop) (v : Value) (h : Heap) : Prop := match v with
  | (.bool r58) => K r58 h
  | _ => False
theorem straitlaw41_KargerLeast.ret_elim {K : Bool → Heap → Prop} {K' : Value → Heap → Prop} {v : Value} {h : Heap} (hk : ∀ r58 h, K r58 h → K' (.bool r58) h) (hh : straitlaw41_KargerLeast.ret K v h) : K' v h := by
  unfold straitlaw41_KargerLeast.ret at hh
  split at hh
  · exact hk _ _ hh
  · exact hh.elim
def straitlaw41_KargerLeast.call (f : FuncId) (vs : List Value) (h : Heap) (K : Value → Heap → Prop) : Prop := match f, vs with
  | 8, [(.int .i64 a1), (.slice a2 a2l a2c)] => callP3 (net_New a1 a2 a2l a2c h) fun r37 r38 r39 h' => K (.tuple #[(.pointer r37), (.int .i64 r38), (.int .i64 r39)]) h'
  | 9, [(.int .i64 a1), (.slice a2 a2l a2c)] => callP6 (straitref16_New a1 a2 a2l a2c h) fun r52 r53 r53l r53c r54 r55 h' => K (.agg #[(.int .i64 r52), (.slice r53 r53l r53c), (.int .i64 r54), (.int .i64 r55)]) h'
  | 25, [] => callP1 (straitlaw41_awake h) fun r24 h' => K (.bool r24) h'
  | 26, [(.pointer a1), (.slice a2 a2l a2c)] => callP6 (karger_Run a1 a2 a2l a2c h) fun r30 r31 r31l r31c r32 r33 h' => K (.tuple #[(.agg #[(.int .i64 r30), (.slice r31 r31l r31c)]), (.int .i64 r32), (.int .i64 r33)]) h'
  | 27, [(.int .u64 a1), (.int .i64 a2)] => callP3 (karger_Spread a1 a2 h) fun r8 r8l r8c h' => K (.slice r8 r8l r8c) h'
  | 28, [(.pointer a1), (.agg ⟨[(.int .i64 a2), (.slice a3 a3l a3c)]⟩)] => callP1 (side_Right a1 a2 a3 a3l a3c h) fun r12 h' => K (.bool r12) h'
  | 30, [(.agg ⟨[(.int .i64 a1), (.slice a2 a2l a2c)]⟩)] => callP5 (straitref22_Least a1 a2 a2l a2c h) fun r32 r33 r33l r33c r34 h' => K (.agg #[(.int .i64 r32), (.slice r33 r33l r33c), (.int .i64 r34)]) h'
  | _, _ => False
def straitlaw41_KargerLeast.qcall (f : FuncId) (vs : List Value) (h : Heap) (K : Value → Prop) : Prop := match f, vs with
  | 29, [(.slice a1 a1l a1c), (.int .i64 a2)] => qcallP1 h (straitref21_In a1 a1l a1c a2 h) fun r7 => K (.bool r7)
  | _, _ => False
noncomputable def straitlaw41_KargerLeast.ctx : Ctx := { P := Tryz.prog, call := straitlaw41_KargerLeast.call, qcall := straitlaw41_KargerLeast.qcall, quiet := fun f => Nat.beq f 29 || Nat.beq f 1000131 || Nat.beq f 1000155, loop := fun _ _ _ _ => False }
theorem straitlaw41_KargerLeast.ok : straitlaw41_KargerLeast.ctx.OK where
  mixed := by kernel_rfl
  mono := by
    intro f args h K K' hh hk
    change straitlaw41_KargerLeast.call f args h K at hh
    change straitlaw41_KargerLeast.call f args h K'
    unfold straitlaw41_KargerLeast.call at hh ⊢
    split at hh
    · obtain ⟨R, h1, h2⟩ := hh
      exact ⟨R, h1, fun _ _ _ x hr => hk _ _ (h2 _ _ _ x hr)⟩
    · obtain ⟨R, h1, h2⟩ := hh
      exact ⟨R, h1, fun _ _ _ _ _ _ x hr => hk _ _ (h2 _ _ _ _ _ _ x hr)⟩
    · obtain ⟨R, h1, h2⟩ := hh
      exact ⟨R, h1, fun _ x hr => hk _ _ (h2 _ x hr)⟩
    · obtain ⟨R, h1, h2⟩ := hh
      exact ⟨R, h1, fun _ _ _ _ _ _ x hr => hk _ _ (h2 _ _ _ _ _ _ x hr)⟩
    · obtain ⟨R, h1, h2⟩ := hh
      exact ⟨R, h1, fun _ _ _ x hr => hk _ _ (h2 _ _ _ x hr)⟩
    · obtain ⟨R, h1, h2⟩ := hh
      exact ⟨R, h1, fun _ x hr => hk _ _ (h2 _ x hr)⟩
    · obtain ⟨R, h1, h2⟩ := hh
      exact ⟨R, h1, fun _ _ _ _ _ x hr => hk _ _ (h2 _ _ _ _ _ x hr)⟩
    · exact hh.elim
  call := by
    intro f args h K hh w hw
    change straitlaw41_KargerLeast.call f args h K at hh
    unfold straitlaw41_KargerLeast.call at hh
    split at hh
    · obtain ⟨R, h1, h2⟩ := hh
      obtain ⟨g1, g2⟩ := net_New.calls h1 w hw
      exact ⟨g1, g2.mono fun e w' ⟨v, he, ho, hr⟩ => ⟨v, he, ho, net_New.ret_elim h2 hr⟩⟩
    · obtain ⟨R, h1, h2⟩ := hh
      obtain ⟨g1, g2⟩ := straitref16_New.calls h1 w hw
      exact ⟨g1, g2.mono fun e w' ⟨v, he, ho, hr⟩ => ⟨v, he, ho, straitref16_New.ret_elim h2 hr⟩⟩
    · obtain ⟨R, h1, h2⟩ := hh
      obtain ⟨g1, g2⟩ := straitlaw41_awake.calls h1 w hw
      exact ⟨g1, g2.mono fun e w' ⟨v, he, ho, hr⟩ => ⟨v, he, ho, straitlaw41_awake.ret_elim h2 hr⟩⟩
    · obtain ⟨R, h1, h2⟩ := hh
      obtain ⟨g1, g2⟩ := karger_Run.calls h1 w hw
      exact ⟨g1, g2.mono fun e w' ⟨v, he, ho, hr⟩ => ⟨v, he, ho, karger_Run.ret_elim h2 hr⟩⟩
    · obtain ⟨R, h1, h2⟩ := hh
      obtain ⟨g1, g2⟩ := karger_Spread.calls h1 w hw
      exact ⟨g1, g2.mono fun e w' ⟨v, he, ho, hr⟩ => ⟨v, he, ho, karger_Spread.ret_elim h2 hr⟩⟩
    · obtain ⟨R, h1, h2⟩ := hh
      obtain ⟨g1, g2⟩ := side_Right.calls h1 w hw
      exact ⟨g1, g2.mono fun e w' ⟨v, he, ho, hr⟩ => ⟨v, he, ho, side_Right.ret_elim h2 hr⟩⟩
    · obtain ⟨R, h1, h2⟩ := hh
      obtain ⟨g1, g2⟩ := straitref22_Least.calls h1 w hw
      exact ⟨g1, g2.mono fun e w' ⟨v, he, ho, hr⟩ => ⟨v, he, ho, straitref22_Least.ret_elim h2 hr⟩⟩
    · exact hh.elim
  qmono := by
    intro f args h K K' hh hk
    change straitlaw41_KargerLeast.qcall f args h K at hh
    change straitlaw41_KargerLeast.qcall f args h K'
    unfold straitlaw41_KargerLeast.qcall at hh ⊢
    split at hh
    · obtain ⟨x0, h1, h2⟩ := hh
      exact ⟨x0, h1, hk _ h2⟩
    · exact hh.elim
  qval := by
    intro f args h K hh
    change straitlaw41_KargerLeast.qcall f args h K at hh
    suffices H : ∃ v, K v ∧ straitlaw41_KargerLeast.qcall f args h (· = v) from H
    unfold straitlaw41_KargerLeast.qcall at hh ⊢
    split at hh
    · obtain ⟨x0, h1, h2⟩ := hh
      exact ⟨_, h2, x0, h1, rfl⟩
    · exact hh.elim
  qcall := by
    intro f args h v hh w hw
    change straitlaw41_KargerLeast.qcall f args h (· = v) at hh
    unfold straitlaw41_KargerLeast.qcall at hh
    split at hh
    · obtain ⟨x0, h1, h2⟩ := hh
      obtain ⟨g1, g2⟩ := straitref21_In.calls h1 w hw
      refine .inl ⟨g1, g2.mono fun e w' ⟨u, he, ho, hr⟩ => ?_⟩
      have hq := straitref21_In.ret_elim (K' := fun u h' => u = v ∧ h' = h) (fun _ h' hr => by obtain ⟨rfl, rfl⟩ := hr; exact ⟨h2, rfl⟩) hr
      exact ⟨hq.1 ▸ he, ho, hq.2⟩
    · exact hh.elim
noncomputable def straitlaw41_KargerLeast.code : Code := (Tryz.f5.body).getD .skip
def straitlaw41_KargerLeast.ann : Ann := (.two .auto (.two .auto (.two .auto (.two .auto (.two .auto (.two (.reg [0, 1, 3, 7, 7, 31, 63, 127, 255, 511, 1023, 2047, 4095, 8191, 16383, 32767, 16383, 81919, 16383, 475135, 999423, 2047999, 4145151, 8339455, 16777215, 33554431, 67108863, 134217727, 134217727, 402653183, 939524095, 2147483647, 4294967295, 8589934591, 17179869183, 34359738367, 68719476735] (.take 0 (.take 1 (.take 2 (.take 3 (.take 4 (.alt 5 (.take 6 (.take 7 (.take 8 (.take 9 (.take 10 (.take 11 (.take 12 (.take 13 (.take 14 (.take 16 (.take 17 (.take 18 (.early 15 (.alt 19 (.take 20 (.alt 21 (.take 22 (.take 23 (.take 24 (.take 25 (.take 26 (.take 27 (.take 28 (.take 29 (.take 30 (.take 31 (.take 32 (.take 33 (.alt 34 (.take 35 (.take 36 .done)) .noalt))))))))))))) .noalt)) .noalt)))))))))))))) .noalt))))))) .auto))))))
set_option maxRecDepth 100000 in
theorem straitlaw41_KargerLeast.eq (a1 : Int) (a2 : Option Addr) (a2l : Nat) (a2c : Nat) (a3 : Int) (h : Heap) (K : Bool → Heap → Prop) : evF straitlaw41_KargerLeast.ctx Tryz.f5 straitlaw41_KargerLeast.ann [(.int .u8 a1), (.slice a2 a2l a2c), (.int .u64 a3)] h (straitlaw41_KargerLeast.ret K) = straitlaw41_KargerLeast a1 a2 a2l a2c a3 h K := by kernel_rfl
set_option maxRecDepth 100000 in
theorem straitlaw41_KargerLeast.calls {a1 : Int} {a2 : Option Addr} {a2l : Nat} {a2c : Nat} {a3 : Int} {h : Heap} {K : Bool → Heap → Prop} (hh : straitlaw41_KargerLeast a1 a2 a2l a2c a3 h K) (w : World) (hw : w.heap = h) :
    (callFunc 5 #[(.int .u8 a1), (.slice a2 a2l a2c), (.int .u64 a3)]).run Tryz.prog w = .ok (.enter 5 #[(.int .u8 a1), (.slice a2 a2l a2c), (.int .u64 a3)]) w ∧ Calls Tryz.prog 5 #[(.int .u8 a1), (.slice a2 a2l a2c), (.int .u64 a3)] w fun e w' => ∃ v, e = .returned v ∧ Out w w' ∧ straitlaw41_KargerLeast.ret K v w'.heap := by
  rw [← straitlaw41_KargerLeast.eq] at hh
  exact fn_calls (args := [(.int .u8 a1), (.slice a2 a2l a2c), (.int .u64 a3)]) (c := straitlaw41_KargerLeast.code) straitlaw41_KargerLeast.ok Tryz.func5 (by kernel_rfl) (by kernel_rfl) (by kernel_rfl) (by kernel_rfl) (loops_ok (l := []) (by kernel_rfl) trivial) hh w hw
end

end Go.Proofs.YtbhndlpjfncliaaGreat
