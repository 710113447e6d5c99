/- WRITTEN BY A PROGRAM OF THIS SESSION (gen.py): what each function asks of memory, and that the model's run comes to it. -/
import Derived.Test.YtcmbgiekffgcoaaProg
import Derived.Test.YtcmbgiekffgcoaaFw8
import Derived.Test.YtcmbgiekffgcoaaG1
namespace Go.Proofs.Ytcmbgiekffgcoaa
open Go.Hp
set_option linter.unusedVariables false
set_option linter.unusedSimpArgs false

/-! ### strait/straitlaw03.ForderLists: function 4 -/
def straitlaw03_ForderLists.b0 (K0 : Bool → Heap → Prop) (K2 : Heap → Prop) (cont : (Option Addr) → Nat → Nat → (Option Addr) → Nat → Nat → (Option Addr) → Nat → Nat → (Option Addr) → Nat → Nat → Int → Heap → Prop) (c0_1001 : Option Addr) (c0_1002 : Nat) (c0_1003 : Nat) (c3_1004 : Option Addr) (c3_1005 : Nat) (c3_1006 : Nat) (c4_1007 : Option Addr) (c4_1008 : Nat) (c4_1009 : Nat) (c5_1010 : Option Addr) (c5_1011 : Nat) (c5_1012 : Nat) (v6_1013 : Int) (h1014 : Heap) : Prop :=
  (iteB (decide (v6_1013 < (c4_1008 : Int))) ((iteB ((c4_1008 : Int) != (c5_1011 : Int)) (K0 false h1014) (chkP c4_1007 fun a1015 => (0 ≤ v6_1013 ∧ v6_1013 < (c4_1008 : Int)) ∧ ∃ (x1016 : Nat), cell h1014 (a1015.add (v6_1013.toNat * 1)) = some (.float .f64 x1016) ∧ qcallP1 h1014 (fbit_Bits x1016 h1014) fun x1017 => chkP c5_1010 fun a1018 => (0 ≤ v6_1013 ∧ v6_1013 < (c5_1011 : Int)) ∧ ∃ (x1019 : Int), cell h1014 (a1018.add (v6_1013.toNat * 1)) = some (.int .u64 x1019) ∧ iteB (x1017 != x1019) (K0 false h1014) (chkP c3_1004 fun a1020 => (0 ≤ v6_1013 ∧ v6_1013 < (c3_1005 : Int)) ∧ ∃ (x1021 : Nat), cell h1014 (a1020.add (v6_1013.toNat * 1)) = some (.float .f64 x1021) ∧ qcallP1 h1014 (fbit_Bits x1021 h1014) fun x1022 => chkP c0_1001 fun a1023 => (0 ≤ v6_1013 ∧ v6_1013 < (c0_1002 : Int)) ∧ ∃ (x1024 : Int), cell h1014 (a1023.add (v6_1013.toNat * 1)) = some (.int .u64 x1024) ∧ qcallP1 h1014 (straitref02_Bits x1024 h1014) fun x1025 => (iteB (x1022 != x1025) (K0 false h1014) (((cont c0_1001 c0_1002 c0_1003 c3_1004 c3_1005 c3_1006 c4_1007 c4_1008 c4_1009 c5_1010 c5_1011 c5_1012 (IntKind.i64.wrap (v6_1013 + 1)) h1014)))))))) (K2 h1014))
def straitlaw03_ForderLists.l0 (K0 : Bool → Heap → Prop) (K2 : Heap → Prop) : Nat → (Option Addr) → Nat → Nat → (Option Addr) → Nat → Nat → (Option Addr) → Nat → Nat → (Option Addr) → Nat → Nat → Int → Heap → Prop
  | 0, _, _, _, _, _, _, _, _, _, _, _, _, _, _ => False
  | m + 1, c0_1001, c0_1002, c0_1003, c3_1004, c3_1005, c3_1006, c4_1007, c4_1008, c4_1009, c5_1010, c5_1011, c5_1012, v6_1013, h => straitlaw03_ForderLists.b0 K0 K2 (straitlaw03_ForderLists.l0 K0 K2 m) c0_1001 c0_1002 c0_1003 c3_1004 c3_1005 c3_1006 c4_1007 c4_1008 c4_1009 c5_1010 c5_1011 c5_1012 v6_1013 h
def straitlaw03_ForderLists (a1 : Option Addr) (a1l : Nat) (a1c : Nat) (h : Heap) (K : Bool → Heap → Prop) : Prop :=
  ((iteB (decide ((a1l : Int) > (100 : Int))) (callP1 (straitlaw03_awake h) fun x2 h3 => K x2 h3) ((callP3 (straitlaw03_floats a1 a1l a1c h) fun x4 x4l x4c h5 => (callP3 (forder_Sort x4 x4l x4c h5) fun x6 x6l x6c h7 => callP3 (straitref03_Sort a1 a1l a1c h7) fun x8 x8l x8c h9 => ((∃ m13, straitlaw03_ForderLists.l0 (fun z10 h11 => K z10 h11) (fun h12 => ((iteB ((x6l : Int) == (x8l : Int)) (callP1 (forder_Least x4 x4l x4c h12) fun x14 h15 => qcallP1 h15 (straitref03_Least a1 a1l a1c h15) fun x16 => iteB (x14 == x16) (callP1 (forder_Most x4 x4l x4c h15) fun x17 h18 => qcallP1 h18 (straitref03_Most a1 a1l a1c h18) fun x19 => iteB (x17 == x19) (callP1 (forder_Count x4 x4l x4c h18) fun x20 h21 => qcallP1 h21 (straitref03_Count a1 a1l a1c h21) fun x22 => iteB (x20 == x22) (callP1 (straitlaw03_awake h21) fun x23 h24 => K x23 h24) (K false h21)) (K false h18)) (K false h15)) (K false h12)))) m13 a1 a1l a1c x4 x4l x4c x6 x6l x6c x8 x8l x8c 0 h9)))))))
def straitlaw03_ForderLists.ret (K : Bool → Heap → Prop) (v : Value) (h : Heap) : Prop := match v with
  | (.bool r27) => K r27 h
  | _ => False
theorem straitlaw03_ForderLists.ret_elim {K : Bool → Heap → Prop} {K' : Value → Heap → Prop} {v : Value} {h : Heap} (hk : ∀ r27 h, K r27 h → K' (.bool r27) h) (hh : straitlaw03_ForderLists.ret K v h) : K' v h := by
  unfold straitlaw03_ForderLists.ret at hh
  split at hh
  · exact hk _ _ hh
  · exact hh.elim
def straitlaw03_ForderLists.call (f : FuncId) (vs : List Value) (h : Heap) (K : Value → Heap → Prop) : Prop := match f, vs with
  | 10, [] => callP1 (straitlaw03_awake h) fun r15 h' => K (.bool r15) h'
  | 11, [(.slice a1 a1l a1c)] => callP3 (straitlaw03_floats a1 a1l a1c h) fun r5 r5l r5c h' => K (.slice r5 r5l r5c) h'
  | 12, [(.slice a1 a1l a1c)] => callP3 (forder_Sort a1 a1l a1c h) fun r7 r7l r7c h' => K (.slice r7 r7l r7c) h'
  | 13, [(.slice a1 a1l a1c)] => callP3 (straitref03_Sort a1 a1l a1c h) fun r5 r5l r5c h' => K (.slice r5 r5l r5c) h'
  | 16, [(.slice a1 a1l a1c)] => callP1 (forder_Least a1 a1l a1c h) fun r4 h' => K (.int .i64 r4) h'
  | 18, [(.slice a1 a1l a1c)] => callP1 (forder_Most a1 a1l a1c h) fun r4 h' => K (.int .i64 r4) h'
  | 20, [(.slice a1 a1l a1c)] => callP1 (forder_Count a1 a1l a1c h) fun r6 h' => K (.int .i64 r6) h'
  | _, _ => False
def straitlaw03_ForderLists.qcall (f : FuncId) (vs : List Value) (h : Heap) (K : Value → Prop) : Prop := match f, vs with
  | 14, [(.float .f64 a1)] => qcallP1 h (fbit_Bits a1 h) fun r2 => K (.int .u64 r2)
  | 15, [(.int .u64 a1)] => qcallP1 h (straitref02_Bits a1 h) fun r3 => K (.int .u64 r3)
  | 17, [(.slice a1 a1l a1c)] => qcallP1 h (straitref03_Least a1 a1l a1c h) fun r5 => K (.int .i64 r5)
  | 19, [(.slice a1 a1l a1c)] => qcallP1 h (straitref03_Most a1 a1l a1c h) fun r5 => K (.int .i64 r5)
  | 21, [(.slice a1 a1l a1c)] => qcallP1 h (straitref03_Count a1 a1l a1c h) fun r5 => K (.int .i64 r5)
  | _, _ => False
def straitlaw03_ForderLists.r0 (K : Nat → List Value → Heap → Prop) (m : Nat) (vs : List Value) (h : Heap) : Prop := match vs with
  | [(.slice c0_1001 c0_1002 c0_1003), (.slice c3_1004 c3_1005 c3_1006), (.slice c4_1007 c4_1008 c4_1009), (.slice c5_1010 c5_1011 c5_1012), (.int .i64 v6_1013)] => straitlaw03_ForderLists.l0 (fun z28 h' => K 0 [(.bool z28)] h') (fun h' => K 2 [(.slice c0_1001 c0_1002 c0_1003), (.slice c3_1004 c3_1005 c3_1006), (.slice c4_1007 c4_1008 c4_1009), (.slice c5_1010 c5_1011 c5_1012)] h') m c0_1001 c0_1002 c0_1003 c3_1004 c3_1005 c3_1006 c4_1007 c4_1008 c4_1009 c5_1010 c5_1011 c5_1012 v6_1013 h
  | _ => False
def straitlaw03_ForderLists.loop (i : Nat) (vs : List Value) (h : Heap) (K : Nat → List Value → Heap → Prop) : Prop := match i with
  | 0 => ∃ m, straitlaw03_ForderLists.r0 K m vs h
  | _ => False
noncomputable def straitlaw03_ForderLists.ctx : Ctx := { P := Try.prog, call := straitlaw03_ForderLists.call, qcall := straitlaw03_ForderLists.qcall, quiet := fun f => Nat.beq f 14 || Nat.beq f 15 || Nat.beq f 17 || Nat.beq f 19 || Nat.beq f 21, loop := straitlaw03_ForderLists.loop }
theorem straitlaw03_ForderLists.ok : straitlaw03_ForderLists.ctx.OK where
  mixed := by kernel_rfl
  mono := by
    intro f args h K K' hh hk
    change straitlaw03_ForderLists.call f args h K at hh
    change straitlaw03_ForderLists.call f args h K'
    unfold straitlaw03_ForderLists.call at hh ⊢
    split at hh
    · obtain ⟨R, h1, h2⟩ := hh
      exact ⟨R, h1, fun _ x hr => hk _ _ (h2 _ x hr)⟩
    · obtain ⟨R, h1, h2⟩ := hh
      exact ⟨R, h1, fun _ _ _ x hr => hk _ _ (h2 _ _ _ x hr)⟩
    · obtain ⟨R, h1, h2⟩ := hh
      exact ⟨R, h1, fun _ _ _ x hr => hk _ _ (h2 _ _ _ x hr)⟩
    · obtain ⟨R, h1, h2⟩ := hh
      exact ⟨R, h1, fun _ _ _ x hr => hk _ _ (h2 _ _ _ x hr)⟩
    · obtain ⟨R, h1, h2⟩ := hh
      exact ⟨R, h1, fun _ x hr => hk _ _ (h2 _ x hr)⟩
    · obtain ⟨R, h1, h2⟩ := hh
      exact ⟨R, h1, fun _ x hr => hk _ _ (h2 _ x hr)⟩
    · obtain ⟨R, h1, h2⟩ := hh
      exact ⟨R, h1, fun _ x hr => hk _ _ (h2 _ x hr)⟩
    · exact hh.elim
  call := by
    intro f args h K hh w hw
    change straitlaw03_ForderLists.call f args h K at hh
    unfold straitlaw03_ForderLists.call at hh
    split at hh
    · obtain ⟨R, h1, h2⟩ := hh
      obtain ⟨g1, g2⟩ := straitlaw03_awake.calls h1 w hw
      exact ⟨g1, g2.mono fun e w' ⟨v, he, ho, hr⟩ => ⟨v, he, ho, straitlaw03_awake.ret_elim h2 hr⟩⟩
    · obtain ⟨R, h1, h2⟩ := hh
      obtain ⟨g1, g2⟩ := straitlaw03_floats.calls h1 w hw
      exact ⟨g1, g2.mono fun e w' ⟨v, he, ho, hr⟩ => ⟨v, he, ho, straitlaw03_floats.ret_elim h2 hr⟩⟩
    · obtain ⟨R, h1, h2⟩ := hh
      obtain ⟨g1, g2⟩ := forder_Sort.calls h1 w hw
      exact ⟨g1, g2.mono fun e w' ⟨v, he, ho, hr⟩ => ⟨v, he, ho, forder_Sort.ret_elim h2 hr⟩⟩
    · obtain ⟨R, h1, h2⟩ := hh
      obtain ⟨g1, g2⟩ := straitref03_Sort.calls h1 w hw
      exact ⟨g1, g2.mono fun e w' ⟨v, he, ho, hr⟩ => ⟨v, he, ho, straitref03_Sort.ret_elim h2 hr⟩⟩
    · obtain ⟨R, h1, h2⟩ := hh
      obtain ⟨g1, g2⟩ := forder_Least.calls h1 w hw
      exact ⟨g1, g2.mono fun e w' ⟨v, he, ho, hr⟩ => ⟨v, he, ho, forder_Least.ret_elim h2 hr⟩⟩
    · obtain ⟨R, h1, h2⟩ := hh
      obtain ⟨g1, g2⟩ := forder_Most.calls h1 w hw
      exact ⟨g1, g2.mono fun e w' ⟨v, he, ho, hr⟩ => ⟨v, he, ho, forder_Most.ret_elim h2 hr⟩⟩
    · obtain ⟨R, h1, h2⟩ := hh
      obtain ⟨g1, g2⟩ := forder_Count.calls h1 w hw
      exact ⟨g1, g2.mono fun e w' ⟨v, he, ho, hr⟩ => ⟨v, he, ho, forder_Count.ret_elim h2 hr⟩⟩
    · exact hh.elim
  qmono := by
    intro f args h K K' hh hk
    change straitlaw03_ForderLists.qcall f args h K at hh
    change straitlaw03_ForderLists.qcall f args h K'
    unfold straitlaw03_ForderLists.qcall at hh ⊢
    split at hh
    · obtain ⟨x0, h1, h2⟩ := hh
      exact ⟨x0, h1, hk _ h2⟩
    · obtain ⟨x0, h1, h2⟩ := hh
      exact ⟨x0, h1, hk _ h2⟩
    · obtain ⟨x0, h1, h2⟩ := hh
      exact ⟨x0, h1, hk _ h2⟩
    · obtain ⟨x0, h1, h2⟩ := hh
      exact ⟨x0, h1, hk _ h2⟩
    · obtain ⟨x0, h1, h2⟩ := hh
      exact ⟨x0, h1, hk _ h2⟩
    · exact hh.elim
  qval := by
    intro f args h K hh
    change straitlaw03_ForderLists.qcall f args h K at hh
    suffices H : ∃ v, K v ∧ straitlaw03_ForderLists.qcall f args h (· = v) from H
    unfold straitlaw03_ForderLists.qcall at hh ⊢
    split at hh
    · obtain ⟨x0, h1, h2⟩ := hh
      exact ⟨_, h2, x0, h1, rfl⟩
    · obtain ⟨x0, h1, h2⟩ := hh
      exact ⟨_, h2, x0, h1, rfl⟩
    · obtain ⟨x0, h1, h2⟩ := hh
      exact ⟨_, h2, x0, h1, rfl⟩
    · obtain ⟨x0, h1, h2⟩ := hh
      exact ⟨_, h2, x0, h1, rfl⟩
    · obtain ⟨x0, h1, h2⟩ := hh
      exact ⟨_, h2, x0, h1, rfl⟩
    · exact hh.elim
  qcall := by
    intro f args h v hh w hw
    change straitlaw03_ForderLists.qcall f args h (· = v) at hh
    unfold straitlaw03_ForderLists.qcall at hh
    split at hh
    · obtain ⟨x0, h1, h2⟩ := hh
      obtain ⟨g1, g2⟩ := fbit_Bits.calls h1 w hw
      refine .inl ⟨g1, g2.mono fun e w' ⟨u, he, ho, hr⟩ => ?_⟩
      have hq := fbit_Bits.ret_elim (K' := fun u h' => u = v ∧ h' = h) (fun _ h' hr => by obtain ⟨rfl, rfl⟩ := hr; exact ⟨h2, rfl⟩) hr
      exact ⟨hq.1 ▸ he, ho, hq.2⟩
    · obtain ⟨x0, h1, h2⟩ := hh
      obtain ⟨g1, g2⟩ := straitref02_Bits.calls h1 w hw
      refine .inl ⟨g1, g2.mono fun e w' ⟨u, he, ho, hr⟩ => ?_⟩
      have hq := straitref02_Bits.ret_elim (K' := fun u h' => u = v ∧ h' = h) (fun _ h' hr => by obtain ⟨rfl, rfl⟩ := hr; exact ⟨h2, rfl⟩) hr
      exact ⟨hq.1 ▸ he, ho, hq.2⟩
    · obtain ⟨x0, h1, h2⟩ := hh
      obtain ⟨g1, g2⟩ := straitref03_Least.calls h1 w hw
      refine .inl ⟨g1, g2.mono fun e w' ⟨u, he, ho, hr⟩ => ?_⟩
      have hq := straitref03_Least.ret_elim (K' := fun u h' => u = v ∧ h' = h) (fun _ h' hr => by obtain ⟨rfl, rfl⟩ := hr; exact ⟨h2, rfl⟩) hr
      exact ⟨hq.1 ▸ he, ho, hq.2⟩
    · obtain ⟨x0, h1, h2⟩ := hh
      obtain ⟨g1, g2⟩ := straitref03_Most.calls h1 w hw
      refine .inl ⟨g1, g2.mono fun e w' ⟨u, he, ho, hr⟩ => ?_⟩
      have hq := straitref03_Most.ret_elim (K' := fun u h' => u = v ∧ h' = h) (fun _ h' hr => by obtain ⟨rfl, rfl⟩ := hr; exact ⟨h2, rfl⟩) hr
      exact ⟨hq.1 ▸ he, ho, hq.2⟩
    · obtain ⟨x0, h1, h2⟩ := hh
      obtain ⟨g1, g2⟩ := straitref03_Count.calls h1 w hw
      refine .inl ⟨g1, g2.mono fun e w' ⟨u, he, ho, hr⟩ => ?_⟩
      have hq := straitref03_Count.ret_elim (K' := fun u h' => u = v ∧ h' = h) (fun _ h' hr => by obtain ⟨rfl, rfl⟩ := hr; exact ⟨h2, rfl⟩) hr
      exact ⟨hq.1 ▸ he, ho, hq.2⟩
    · exact hh.elim
noncomputable def straitlaw03_ForderLists.code : Code := (Try.f4.body).getD .skip
def straitlaw03_ForderLists.ann : Ann := (.two .auto (.two .auto (.two .auto (.two .auto (.two (.two .auto (.two (.loop 0 [0, 3, 4, 5, 6] [(2, [0, 3, 4, 5]), (0, [2])] (.two .auto (.two (.two (.two (.reg [0, 1, 0, 4, 15, 31, 63, 63, 255, 511, 1023, 63, 63, 6207, 14399, 32767, 65535, 131071, 262143, 262143, 1048575, 2097151, 4194303, 262143, 262143, 25427967, 58982399, 134217727, 268435455, 536870911] (.take 0 (.take 1 (.take 2 (.take 3 (.take 4 (.take 5 (.take 6 (.take 7 (.take 8 (.take 9 (.take 10 (.take 11 (.take 12 (.take 13 (.take 14 (.take 15 (.take 16 (.take 17 (.take 18 (.take 19 (.take 20 (.take 21 (.take 22 (.take 23 (.take 24 (.take 25 (.take 26 (.take 27 (.take 28 (.take 29 .done))))))))))))))))))))))))))))))) .auto) .auto) .auto))) .auto)) .auto)))))
noncomputable def straitlaw03_ForderLists.c0 : Code := sub straitlaw03_ForderLists.code [1, 1, 1, 1, 0, 1, 0, 0]
def straitlaw03_ForderLists.a0 : Ann := (.two .auto (.two (.two (.two (.reg [0, 1, 0, 4, 15, 31, 63, 63, 255, 511, 1023, 63, 63, 6207, 14399, 32767, 65535, 131071, 262143, 262143, 1048575, 2097151, 4194303, 262143, 262143, 25427967, 58982399, 134217727, 268435455, 536870911] (.take 0 (.take 1 (.take 2 (.take 3 (.take 4 (.take 5 (.take 6 (.take 7 (.take 8 (.take 9 (.take 10 (.take 11 (.take 12 (.take 13 (.take 14 (.take 15 (.take 16 (.take 17 (.take 18 (.take 19 (.take 20 (.take 21 (.take 22 (.take 23 (.take 24 (.take 25 (.take 26 (.take 27 (.take 28 (.take 29 .done))))))))))))))))))))))))))))))) .auto) .auto) .auto))
def straitlaw03_ForderLists.keep0 : List Nat := [0, 3, 4, 5, 6]
def straitlaw03_ForderLists.outs0 : List (Nat × List Nat) := [(2, [0, 3, 4, 5]), (0, [2])]
set_option maxRecDepth 100000 in
theorem straitlaw03_ForderLists.L0 : LoopOK straitlaw03_ForderLists.ctx 82 straitlaw03_ForderLists.c0 0 straitlaw03_ForderLists.keep0 straitlaw03_ForderLists.outs0 := by
  refine loop_ok (n := straitlaw03_ForderLists.a0) straitlaw03_ForderLists.ok (by kernel_rfl) (loops_ok (l := []) (by kernel_rfl) ?_) straitlaw03_ForderLists.r0 ?_ ?_ (fun vs h K hh => hh)
  · exact trivial
  · intro K vs h hh
    unfold straitlaw03_ForderLists.r0 at hh
    split at hh
    · exact hh
    · exact hh
  · intro K m vs h hh
    unfold straitlaw03_ForderLists.r0 at hh
    split at hh
    · exact cast (by kernel_rfl) hh
    · exact hh.elim
set_option maxRecDepth 100000 in
theorem straitlaw03_ForderLists.eq (a1 : Option Addr) (a1l : Nat) (a1c : Nat) (h : Heap) (K : Bool → Heap → Prop) : evF straitlaw03_ForderLists.ctx Try.f4 straitlaw03_ForderLists.ann [(.slice a1 a1l a1c)] h (straitlaw03_ForderLists.ret K) = straitlaw03_ForderLists a1 a1l a1c h K := by kernel_rfl
set_option maxRecDepth 100000 in
theorem straitlaw03_ForderLists.calls {a1 : Option Addr} {a1l : Nat} {a1c : Nat} {h : Heap} {K : Bool → Heap → Prop} (hh : straitlaw03_ForderLists a1 a1l a1c h K) (w : World) (hw : w.heap = h) :
    (callFunc 4 #[(.slice a1 a1l a1c)]).run Try.prog w = .ok (.enter 4 #[(.slice a1 a1l a1c)]) w ∧ Calls Try.prog 4 #[(.slice a1 a1l a1c)] w fun e w' => ∃ v, e = .returned v ∧ Out w w' ∧ straitlaw03_ForderLists.ret K v w'.heap := by
  rw [← straitlaw03_ForderLists.eq] at hh
  exact fn_calls (args := [(.slice a1 a1l a1c)]) (c := straitlaw03_ForderLists.code) straitlaw03_ForderLists.ok Try.func4 (by kernel_rfl) (by kernel_rfl) (by kernel_rfl) (by kernel_rfl) (loops_ok (l := [(straitlaw03_ForderLists.c0, none, 0, straitlaw03_ForderLists.keep0, straitlaw03_ForderLists.outs0)]) (by kernel_rfl) ⟨straitlaw03_ForderLists.L0, trivial⟩) hh w hw

/-! ### strait/straitlaw03.ForderGoes: function 5 -/
def straitlaw03_ForderGoes.b0 (K0 : Bool → Heap → Prop) (K2 : Heap → Prop) (cont : (Option Addr) → Nat → Nat → (Option Addr) → Nat → Nat → Int → Heap → Prop) (c10_1001 : Option Addr) (c10_1002 : Nat) (c10_1003 : Nat) (c11_1004 : Option Addr) (c11_1005 : Nat) (c11_1006 : Nat) (v12_1007 : Int) (h1008 : Heap) : Prop :=
  (iteB (decide (v12_1007 < (3 : Int))) ((iteB ((c10_1002 : Int) != (3 : Int)) (K0 false h1008) (iteB ((c11_1005 : Int) != (3 : Int)) (K0 false h1008) (chkP c10_1001 fun a1009 => (0 ≤ v12_1007 ∧ v12_1007 < (c10_1002 : Int)) ∧ ∃ (x1010 : Nat), cell h1008 (a1009.add (v12_1007.toNat * 1)) = some (.float .f64 x1010) ∧ qcallP1 h1008 (fbit_Bits x1010 h1008) fun x1011 => chkP c11_1004 fun a1012 => (0 ≤ v12_1007 ∧ v12_1007 < (c11_1005 : Int)) ∧ ∃ (x1013 : Nat), cell h1008 (a1012.add (v12_1007.toNat * 1)) = some (.float .f64 x1013) ∧ qcallP1 h1008 (fbit_Bits x1013 h1008) fun x1014 => iteB (x1011 != x1014) (K0 false h1008) (iteB (decide (v12_1007 > (0 : Int))) (chkP c10_1001 fun a1015 => (0 ≤ v12_1007 ∧ v12_1007 < (c10_1002 : Int)) ∧ ∃ (x1016 : Nat), cell h1008 (a1015.add (v12_1007.toNat * 1)) = some (.float .f64 x1016) ∧ chkP c10_1001 fun a1017 => (0 ≤ (IntKind.i64.wrap (v12_1007 - 1)) ∧ (IntKind.i64.wrap (v12_1007 - 1)) < (c10_1002 : Int)) ∧ ∃ (x1018 : Nat), cell h1008 (a1017.add ((IntKind.i64.wrap (v12_1007 - 1)).toNat * 1)) = some (.float .f64 x1018) ∧ qcallP1 h1008 (forder_Less x1016 x1018 h1008) fun x1019 => (iteB x1019 (K0 false h1008) (((cont c10_1001 c10_1002 c10_1003 c11_1004 c11_1005 c11_1006 (IntKind.i64.wrap (v12_1007 + 1)) h1008))))) ((((cont c10_1001 c10_1002 c10_1003 c11_1004 c11_1005 c11_1006 (IntKind.i64.wrap (v12_1007 + 1)) h1008))))))))) (K2 h1008))
def straitlaw03_ForderGoes.l0 (K0 : Bool → Heap → Prop) (K2 : Heap → Prop) : Nat → (Option Addr) → Nat → Nat → (Option Addr) → Nat → Nat → Int → Heap → Prop
  | 0, _, _, _, _, _, _, _, _ => False
  | m + 1, c10_1001, c10_1002, c10_1003, c11_1004, c11_1005, c11_1006, v12_1007, h => straitlaw03_ForderGoes.b0 K0 K2 (straitlaw03_ForderGoes.l0 K0 K2 m) c10_1001 c10_1002 c10_1003 c11_1004 c11_1005 c11_1006 v12_1007 h
def straitlaw03_ForderGoes (a1 : Int) (a2 : Int) (a3 : Int) (h : Heap) (K : Bool → Heap → Prop) : Prop :=
  (qcallP1 h (fbit_Of a1 h) fun x4 => qcallP1 h (fbit_Of a2 h) fun x5 => qcallP1 h (fbit_Of a3 h) fun x6 => (let j36 : Prop := (newP h (.cells #[(.float .f64 x4), (.float .f64 x5), (.float .f64 x6)] 23) fun a20 h21 => callP3 (forder_Sort (some a20) 3 3 h21) fun x22 x22l x22c h23 => (callP3 (forder_Sort x22 x22l x22c h23) fun x24 x24l x24c h25 => ((∃ m29, straitlaw03_ForderGoes.l0 (fun z26 h27 => K z26 h27) (fun h28 => ((callP1 (forder_Least x22 x22l x22c h28) fun x30 h31 => iteB (x30 == (0 : Int)) (callP1 (straitlaw03_awake h31) fun x32 h33 => K x32 h33) (K false h31)))) m29 x22 x22l x22c x24 x24l x24c 0 h25))));
  qcallP1 h (forder_Less x4 x5 h) fun x7 => iteB x7 (qcallP1 h (forder_Less x5 x6 h) fun x8 => iteB x8 (qcallP1 h (forder_Less x4 x6 h) fun x9 => iteB (!x9) (K false h) (qcallP1 h (forder_Cmp x4 x5 h) fun x10 => iteB (x10 == (0 : Int)) (qcallP1 h (forder_Cmp x5 x6 h) fun x11 => qcallP1 h (forder_Cmp x4 x6 h) fun x12 => (iteB (x11 != x12) (K false h) ((j36)))) (((j36))))) (qcallP1 h (forder_Cmp x4 x5 h) fun x13 => iteB (x13 == (0 : Int)) (qcallP1 h (forder_Cmp x5 x6 h) fun x14 => qcallP1 h (forder_Cmp x4 x6 h) fun x15 => (iteB (x14 != x15) (K false h) ((j36)))) (((j36))))) (qcallP1 h (forder_Cmp x4 x5 h) fun x16 => iteB (x16 == (0 : Int)) (qcallP1 h (forder_Cmp x5 x6 h) fun x17 => qcallP1 h (forder_Cmp x4 x6 h) fun x18 => (iteB (x17 != x18) (K false h) ((j36)))) (((j36))))))
def straitlaw03_ForderGoes.ret (K : Bool → Heap → Prop) (v : Value) (h : Heap) : Prop := match v with
  | (.bool r37) => K r37 h
  | _ => False
theorem straitlaw03_ForderGoes.ret_elim {K : Bool → Heap → Prop} {K' : Value → Heap → Prop} {v : Value} {h : Heap} (hk : ∀ r37 h, K r37 h → K' (.bool r37) h) (hh : straitlaw03_ForderGoes.ret K v h) : K' v h := by
  unfold straitlaw03_ForderGoes.ret at hh
  split at hh
  · exact hk _ _ hh
  · exact hh.elim
def straitlaw03_ForderGoes.call (f : FuncId) (vs : List Value) (h : Heap) (K : Value → Heap → Prop) : Prop := match f, vs with
  | 10, [] => callP1 (straitlaw03_awake h) fun r15 h' => K (.bool r15) h'
  | 12, [(.slice a1 a1l a1c)] => callP3 (forder_Sort a1 a1l a1c h) fun r7 r7l r7c h' => K (.slice r7 r7l r7c) h'
  | 16, [(.slice a1 a1l a1c)] => callP1 (forder_Least a1 a1l a1c h) fun r4 h' => K (.int .i64 r4) h'
  | _, _ => False
def straitlaw03_ForderGoes.qcall (f : FuncId) (vs : List Value) (h : Heap) (K : Value → Prop) : Prop := match f, vs with
  | 6, [(.int .u64 a1)] => qcallP1 h (fbit_Of a1 h) fun r2 => K (.float .f64 r2)
  | 7, [(.float .f64 a1), (.float .f64 a2)] => qcallP1 h (forder_Cmp a1 a2 h) fun r6 => K (.int .i64 r6)
  | 9, [(.float .f64 a1), (.float .f64 a2)] => qcallP1 h (forder_Less a1 a2 h) fun r4 => K (.bool r4)
  | 14, [(.float .f64 a1)] => qcallP1 h (fbit_Bits a1 h) fun r2 => K (.int .u64 r2)
  | _, _ => False
def straitlaw03_ForderGoes.r0 (K : Nat → List Value → Heap → Prop) (m : Nat) (vs : List Value) (h : Heap) : Prop := match vs with
  | [(.slice c10_1001 c10_1002 c10_1003), (.slice c11_1004 c11_1005 c11_1006), (.int .i64 v12_1007)] => straitlaw03_ForderGoes.l0 (fun z38 h' => K 0 [(.bool z38)] h') (fun h' => K 2 [(.slice c10_1001 c10_1002 c10_1003)] h') m c10_1001 c10_1002 c10_1003 c11_1004 c11_1005 c11_1006 v12_1007 h
  | _ => False
def straitlaw03_ForderGoes.loop (i : Nat) (vs : List Value) (h : Heap) (K : Nat → List Value → Heap → Prop) : Prop := match i with
  | 0 => ∃ m, straitlaw03_ForderGoes.r0 K m vs h
  | _ => False
noncomputable def straitlaw03_ForderGoes.ctx : Ctx := { P := Try.prog, call := straitlaw03_ForderGoes.call, qcall := straitlaw03_ForderGoes.qcall, quiet := fun f => Nat.beq f 6 || Nat.beq f 7 || Nat.beq f 9 || Nat.beq f 14, loop := straitlaw03_ForderGoes.loop }
theorem straitlaw03_ForderGoes.ok : straitlaw03_ForderGoes.ctx.OK where
  mixed := by kernel_rfl
  mono := by
    intro f args h K K' hh hk
    change straitlaw03_ForderGoes.call f args h K at hh
    change straitlaw03_ForderGoes.call f args h K'
    unfold straitlaw03_ForderGoes.call at hh ⊢
    split at hh
    · obtain ⟨R, h1, h2⟩ := hh
      exact ⟨R, h1, fun _ x hr => hk _ _ (h2 _ x hr)⟩
    · obtain ⟨R, h1, h2⟩ := hh
      exact ⟨R, h1, fun _ _ _ x hr => hk _ _ (h2 _ _ _ x hr)⟩
    · obtain ⟨R, h1, h2⟩ := hh
      exact ⟨R, h1, fun _ x hr => hk _ _ (h2 _ x hr)⟩
    · exact hh.elim
  call := by
    intro f args h K hh w hw
    change straitlaw03_ForderGoes.call f args h K at hh
    unfold straitlaw03_ForderGoes.call at hh
    split at hh
    · obtain ⟨R, h1, h2⟩ := hh
      obtain ⟨g1, g2⟩ := straitlaw03_awake.calls h1 w hw
      exact ⟨g1, g2.mono fun e w' ⟨v, he, ho, hr⟩ => ⟨v, he, ho, straitlaw03_awake.ret_elim h2 hr⟩⟩
    · obtain ⟨R, h1, h2⟩ := hh
      obtain ⟨g1, g2⟩ := forder_Sort.calls h1 w hw
      exact ⟨g1, g2.mono fun e w' ⟨v, he, ho, hr⟩ => ⟨v, he, ho, forder_Sort.ret_elim h2 hr⟩⟩
    · obtain ⟨R, h1, h2⟩ := hh
      obtain ⟨g1, g2⟩ := forder_Least.calls h1 w hw
      exact ⟨g1, g2.mono fun e w' ⟨v, he, ho, hr⟩ => ⟨v, he, ho, forder_Least.ret_elim h2 hr⟩⟩
    · exact hh.elim
  qmono := by
    intro f args h K K' hh hk
    change straitlaw03_ForderGoes.qcall f args h K at hh
    change straitlaw03_ForderGoes.qcall f args h K'
    unfold straitlaw03_ForderGoes.qcall at hh ⊢
    split at hh
    · obtain ⟨x0, h1, h2⟩ := hh
      exact ⟨x0, h1, hk _ h2⟩
    · obtain ⟨x0, h1, h2⟩ := hh
      exact ⟨x0, h1, hk _ h2⟩
    · obtain ⟨x0, h1, h2⟩ := hh
      exact ⟨x0, h1, hk _ h2⟩
    · obtain ⟨x0, h1, h2⟩ := hh
      exact ⟨x0, h1, hk _ h2⟩
    · exact hh.elim
  qval := by
    intro f args h K hh
    change straitlaw03_ForderGoes.qcall f args h K at hh
    suffices H : ∃ v, K v ∧ straitlaw03_ForderGoes.qcall f args h (· = v) from H
    unfold straitlaw03_ForderGoes.qcall at hh ⊢
    split at hh
    · obtain ⟨x0, h1, h2⟩ := hh
      exact ⟨_, h2, x0, h1, rfl⟩
    · obtain ⟨x0, h1, h2⟩ := hh
      exact ⟨_, h2, x0, h1, rfl⟩
    · obtain ⟨x0, h1, h2⟩ := hh
      exact ⟨_, h2, x0, h1, rfl⟩
    · obtain ⟨x0, h1, h2⟩ := hh
      exact ⟨_, h2, x0, h1, rfl⟩
    · exact hh.elim
  qcall := by
    intro f args h v hh w hw
    change straitlaw03_ForderGoes.qcall f args h (· = v) at hh
    unfold straitlaw03_ForderGoes.qcall at hh
    split at hh
    · obtain ⟨x0, h1, h2⟩ := hh
      obtain ⟨g1, g2⟩ := fbit_Of.calls h1 w hw
      refine .inl ⟨g1, g2.mono fun e w' ⟨u, he, ho, hr⟩ => ?_⟩
      have hq := fbit_Of.ret_elim (K' := fun u h' => u = v ∧ h' = h) (fun _ h' hr => by obtain ⟨rfl, rfl⟩ := hr; exact ⟨h2, rfl⟩) hr
      exact ⟨hq.1 ▸ he, ho, hq.2⟩
    · obtain ⟨x0, h1, h2⟩ := hh
      obtain ⟨g1, g2⟩ := forder_Cmp.calls h1 w hw
      refine .inl ⟨g1, g2.mono fun e w' ⟨u, he, ho, hr⟩ => ?_⟩
      have hq := forder_Cmp.ret_elim (K' := fun u h' => u = v ∧ h' = h) (fun _ h' hr => by obtain ⟨rfl, rfl⟩ := hr; exact ⟨h2, rfl⟩) hr
      exact ⟨hq.1 ▸ he, ho, hq.2⟩
    · obtain ⟨x0, h1, h2⟩ := hh
      obtain ⟨g1, g2⟩ := forder_Less.calls h1 w hw
      refine .inl ⟨g1, g2.mono fun e w' ⟨u, he, ho, hr⟩ => ?_⟩
      have hq := forder_Less.ret_elim (K' := fun u h' => u = v ∧ h' = h) (fun _ h' hr => by obtain ⟨rfl, rfl⟩ := hr; exact ⟨h2, rfl⟩) hr
      exact ⟨hq.1 ▸ he, ho, hq.2⟩
    · obtain ⟨x0, h1, h2⟩ := hh
      obtain ⟨g1, g2⟩ := fbit_Bits.calls h1 w hw
      refine .inl ⟨g1, g2.mono fun e w' ⟨u, he, ho, hr⟩ => ?_⟩
      have hq := fbit_Bits.ret_elim (K' := fun u h' => u = v ∧ h' = h) (fun _ h' hr => by obtain ⟨rfl, rfl⟩ := hr; exact ⟨h2, rfl⟩) hr
      exact ⟨hq.1 ▸ he, ho, hq.2⟩
    · exact hh.elim
noncomputable def straitlaw03_ForderGoes.code : Code := (Try.f5.body).getD .skip
def straitlaw03_ForderGoes.ann : Ann := (.two .auto (.two .auto (.two .auto (.two .auto (.two .auto (.two (.two .auto (.two (.loop 0 [10, 11, 12] [(2, [10]), (0, [6])] (.two .auto (.two (.two (.two (.reg [0, 1, 3, 7, 15, 31, 63, 127, 255, 511, 511, 2047, 4095, 8191, 511, 511, 49663, 115199, 262143, 524287, 1048575, 2097151, 4194303, 8388607, 16777215, 33554431, 33554431, 134217727, 268435455, 33554431, 33554431, 1107296255, 3791650815, 8086618111, 17179869183, 34359738367, 68719476735] (.take 0 (.take 1 (.take 2 (.take 3 (.take 4 (.take 5 (.take 6 (.take 7 (.take 8 (.take 9 (.take 10 (.take 11 (.take 12 (.take 13 (.take 14 (.take 15 (.take 16 (.take 17 (.take 18 (.take 19 (.take 20 (.take 21 (.take 22 (.take 23 (.take 24 (.take 25 (.take 26 (.take 27 (.take 28 (.take 29 (.take 30 (.take 31 (.take 32 (.take 33 (.take 34 (.take 35 (.take 36 .done)))))))))))))))))))))))))))))))))))))) .auto) .auto) .auto))) .auto)) .auto))))))
noncomputable def straitlaw03_ForderGoes.c0 : Code := sub straitlaw03_ForderGoes.code [1, 1, 1, 1, 1, 0, 1, 0, 0]
def straitlaw03_ForderGoes.a0 : Ann := (.two .auto (.two (.two (.two (.reg [0, 1, 3, 7, 15, 31, 63, 127, 255, 511, 511, 2047, 4095, 8191, 511, 511, 49663, 115199, 262143, 524287, 1048575, 2097151, 4194303, 8388607, 16777215, 33554431, 33554431, 134217727, 268435455, 33554431, 33554431, 1107296255, 3791650815, 8086618111, 17179869183, 34359738367, 68719476735] (.take 0 (.take 1 (.take 2 (.take 3 (.take 4 (.take 5 (.take 6 (.take 7 (.take 8 (.take 9 (.take 10 (.take 11 (.take 12 (.take 13 (.take 14 (.take 15 (.take 16 (.take 17 (.take 18 (.take 19 (.take 20 (.take 21 (.take 22 (.take 23 (.take 24 (.take 25 (.take 26 (.take 27 (.take 28 (.take 29 (.take 30 (.take 31 (.take 32 (.take 33 (.take 34 (.take 35 (.take 36 .done)))))))))))))))))))))))))))))))))))))) .auto) .auto) .auto))
def straitlaw03_ForderGoes.keep0 : List Nat := [10, 11, 12]
def straitlaw03_ForderGoes.outs0 : List (Nat × List Nat) := [(2, [10]), (0, [6])]
set_option maxRecDepth 100000 in
theorem straitlaw03_ForderGoes.L0 : LoopOK straitlaw03_ForderGoes.ctx 102 straitlaw03_ForderGoes.c0 0 straitlaw03_ForderGoes.keep0 straitlaw03_ForderGoes.outs0 := by
  refine loop_ok (n := straitlaw03_ForderGoes.a0) straitlaw03_ForderGoes.ok (by kernel_rfl) (loops_ok (l := []) (by kernel_rfl) ?_) straitlaw03_ForderGoes.r0 ?_ ?_ (fun vs h K hh => hh)
  · exact trivial
  · intro K vs h hh
    unfold straitlaw03_ForderGoes.r0 at hh
    split at hh
    · exact hh
    · exact hh
  · intro K m vs h hh
    unfold straitlaw03_ForderGoes.r0 at hh
    split at hh
    · exact cast (by kernel_rfl) hh
    · exact hh.elim
set_option maxRecDepth 100000 in
theorem straitlaw03_ForderGoes.eq (a1 : Int) (a2 : Int) (a3 : Int) (h : Heap) (K : Bool → Heap → Prop) : evF straitlaw03_ForderGoes.ctx Try.f5 straitlaw03_ForderGoes.ann [(.int .u64 a1), (.int .u64 a2), (.int .u64 a3)] h (straitlaw03_ForderGoes.ret K) = straitlaw03_ForderGoes a1 a2 a3 h K := by kernel_rfl
set_option maxRecDepth 100000 in
theorem straitlaw03_ForderGoes.calls {a1 : Int} {a2 : Int} {a3 : Int} {h : Heap} {K : Bool → Heap → Prop} (hh : straitlaw03_ForderGoes a1 a2 a3 h K) (w : World) (hw : w.heap = h) :
    (callFunc 5 #[(.int .u64 a1), (.int .u64 a2), (.int .u64 a3)]).run Try.prog w = .ok (.enter 5 #[(.int .u64 a1), (.int .u64 a2), (.int .u64 a3)]) w ∧ Calls Try.prog 5 #[(.int .u64 a1), (.int .u64 a2), (.int .u64 a3)] w fun e w' => ∃ v, e = .returned v ∧ Out w w' ∧ straitlaw03_ForderGoes.ret K v w'.heap := by
  rw [← straitlaw03_ForderGoes.eq] at hh
  exact fn_calls (args := [(.int .u64 a1), (.int .u64 a2), (.int .u64 a3)]) (c := straitlaw03_ForderGoes.code) straitlaw03_ForderGoes.ok Try.func5 (by kernel_rfl) (by kernel_rfl) (by kernel_rfl) (by kernel_rfl) (loops_ok (l := [(straitlaw03_ForderGoes.c0, none, 0, straitlaw03_ForderGoes.keep0, straitlaw03_ForderGoes.outs0)]) (by kernel_rfl) ⟨straitlaw03_ForderGoes.L0, trivial⟩) hh w hw

end Go.Proofs.Ytcmbgiekffgcoaa
