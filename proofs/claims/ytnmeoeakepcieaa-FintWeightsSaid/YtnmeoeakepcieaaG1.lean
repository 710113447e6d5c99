/- WRITTEN BY A PROGRAM OF THIS SESSION (gen.py): what each function asks of memory, and that the model's run comes to it. -/
import Derived.Test.YtnmeoeakepcieaaProg
import Derived.Test.YtnmeoeakepcieaaFw8
import Derived.Test.YtnmeoeakepcieaaG0
namespace Go.Proofs.Ytnmeoeakepcieaa
open Go.Hp
set_option linter.unusedVariables false
set_option linter.unusedSimpArgs false

/-! ### strait/straitref02.Bits: function 14 -/
def F14 (a1 : Int) (h : Heap) (K : Int → Heap → Prop) : Prop :=
  (qcallP1 h (F23 a1 h) fun x2 => (iteB (x2 == (0 : Int)) (K 9221120237041090560 h) (K a1 h)))
def F14.ret (K : Int → Heap → Prop) (v : Value) (h : Heap) : Prop := match v with
  | (.int .u64 r3) => K r3 h
  | _ => False
theorem F14.ret_elim {K : Int → Heap → Prop} {K' : Value → Heap → Prop} {v : Value} {h : Heap} (hk : ∀ r3 h, K r3 h → K' (.int .u64 r3) h) (hh : F14.ret K v h) : K' v h := by
  unfold F14.ret at hh
  split at hh
  · exact hk _ _ hh
  · exact hh.elim
def F14.qcall (f : FuncId) (vs : List Value) (h : Heap) (K : Value → Prop) : Prop := match f, vs with
  | 23, [(.int .u64 a1)] => qcallP1 h (F23 a1 h) fun r5 => K (.int .i64 r5)
  | _, _ => False
noncomputable def F14.ctx : Ctx := { P := Try.prog, call := fun _ _ _ _ => False, qcall := F14.qcall, quiet := fun f => Nat.beq f 23, loop := fun _ _ _ _ => False }
theorem F14.ok : F14.ctx.OK where
  mixed := by kernel_rfl
  mono := fun hh _ => hh.elim
  call := fun hh => hh.elim
  qmono := by
    intro f args h K K' hh hk
    change F14.qcall f args h K at hh
    change F14.qcall f args h K'
    unfold F14.qcall at hh ⊢
    split at hh
    · obtain ⟨x0, h1, h2⟩ := hh
      exact ⟨x0, h1, hk _ h2⟩
    · exact hh.elim
  qval := by
    intro f args h K hh
    change F14.qcall f args h K at hh
    suffices H : ∃ v, K v ∧ F14.qcall f args h (· = v) from H
    unfold F14.qcall at hh ⊢
    split at hh
    · obtain ⟨x0, h1, h2⟩ := hh
      exact ⟨_, h2, x0, h1, rfl⟩
    · exact hh.elim
  qcall := by
    intro f args h v hh w hw
    change F14.qcall f args h (· = v) at hh
    unfold F14.qcall at hh
    split at hh
    · obtain ⟨x0, h1, h2⟩ := hh
      obtain ⟨g1, g2⟩ := F23.calls h1 w hw
      refine .inl ⟨g1, g2.mono fun e w' ⟨u, he, ho, hr⟩ => ?_⟩
      have hq := F23.ret_elim (K' := fun u h' => u = v ∧ h' = h) (fun _ h' hr => by obtain ⟨rfl, rfl⟩ := hr; exact ⟨h2, rfl⟩) hr
      exact ⟨hq.1 ▸ he, ho, hq.2⟩
    · exact hh.elim
noncomputable def F14.code : Code := (Try.f14.body).getD .skip
def F14.ann : Ann := .auto
set_option maxRecDepth 100000 in
theorem F14.eq (a1 : Int) (h : Heap) (K : Int → Heap → Prop) : evF F14.ctx Try.f14 F14.ann [(.int .u64 a1)] h (F14.ret K) = F14 a1 h K := by kernel_rfl
set_option maxRecDepth 100000 in
theorem F14.calls {a1 : Int} {h : Heap} {K : Int → Heap → Prop} (hh : F14 a1 h K) (w : World) (hw : w.heap = h) :
    (callFunc 14 #[(.int .u64 a1)]).run Try.prog w = .ok (.enter 14 #[(.int .u64 a1)]) w ∧ Calls Try.prog 14 #[(.int .u64 a1)] w fun e w' => ∃ v, e = .returned v ∧ Out w w' ∧ F14.ret K v w'.heap := by
  rw [← F14.eq] at hh
  exact fn_calls (args := [(.int .u64 a1)]) (c := F14.code) F14.ok Try.func14 (by kernel_rfl) (by kernel_rfl) (by kernel_rfl) (by kernel_rfl) (loops_ok (l := []) (by kernel_rfl) trivial) hh w hw

/-! ### strait/straitlaw04.FintBack: function 4 -/
def F4 (a1 : Int) (a2 : Int) (h : Heap) (K : Bool → Heap → Prop) : Prop :=
  (qcallP1 h (F7 a1 h) fun x3 => (qcallP2 h (F11 x3 h) fun x4 x5 => (qcallP2 h (F12 x4 h) fun x6 x7 => (let j31 : Prop := (qcallP2 h (F12 a2 h) fun x10 x11 => (qcallP2 h (F11 x10 h) fun x12 x13 => (iteB (!x11) (iteB x11 (iteB (decide (a2 < ((-9007199254740992) : Int))) (qcallP1 h (F6 h) fun x14 => K x14 h) (iteB (decide (a2 > (9007199254740992 : Int))) (qcallP1 h (F6 h) fun x15 => K x15 h) (iteB x11 (qcallP1 h (F6 h) fun x16 => K x16 h) (K false h)))) (qcallP1 h (F14 0 h) fun x17 => qcallP1 h (F13 x10 h) fun x18 => iteB (x17 == x18) (iteB (decide (a2 < ((-9007199254740992) : Int))) (qcallP1 h (F6 h) fun x19 => K x19 h) (iteB (decide (a2 > (9007199254740992 : Int))) (qcallP1 h (F6 h) fun x20 => K x20 h) (iteB x11 (qcallP1 h (F6 h) fun x21 => K x21 h) (K false h)))) (K false h))) (iteB (x13 == (0 : Int)) (iteB (x12 == a2) (iteB x11 (iteB (decide (a2 < ((-9007199254740992) : Int))) (qcallP1 h (F6 h) fun x22 => K x22 h) (iteB (decide (a2 > (9007199254740992 : Int))) (qcallP1 h (F6 h) fun x23 => K x23 h) (iteB x11 (qcallP1 h (F6 h) fun x24 => K x24 h) (K false h)))) (qcallP1 h (F14 0 h) fun x25 => qcallP1 h (F13 x10 h) fun x26 => iteB (x25 == x26) (iteB (decide (a2 < ((-9007199254740992) : Int))) (qcallP1 h (F6 h) fun x27 => K x27 h) (iteB (decide (a2 > (9007199254740992 : Int))) (qcallP1 h (F6 h) fun x28 => K x28 h) (iteB x11 (qcallP1 h (F6 h) fun x29 => K x29 h) (K false h)))) (K false h))) (K false h)) (K false h)))));
  iteB (x5 == (0 : Int)) (iteB (!x7) (K false h) (qcallP1 h (F13 x6 h) fun x8 => iteB (x8 != a1) (iteB (a1 != (9223372036854775808 : Int)) (K false h) (iteB (x5 != (0 : Int)) ((iteB (x4 != (0 : Int)) (K false h) ((j31)))) (((j31))))) (iteB (x5 != (0 : Int)) ((iteB (x4 != (0 : Int)) (K false h) ((j31)))) (((j31)))))) (iteB (x5 != (0 : Int)) ((iteB (x4 != (0 : Int)) (K false h) ((j31)))) (((j31))))))))
def F4.ret (K : Bool → Heap → Prop) (v : Value) (h : Heap) : Prop := match v with
  | (.bool r32) => K r32 h
  | _ => False
theorem F4.ret_elim {K : Bool → Heap → Prop} {K' : Value → Heap → Prop} {v : Value} {h : Heap} (hk : ∀ r32 h, K r32 h → K' (.bool r32) h) (hh : F4.ret K v h) : K' v h := by
  unfold F4.ret at hh
  split at hh
  · exact hk _ _ hh
  · exact hh.elim
def F4.qcall (f : FuncId) (vs : List Value) (h : Heap) (K : Value → Prop) : Prop := match f, vs with
  | 6, [] => qcallP1 h (F6 h) fun r8 => K (.bool r8)
  | 7, [(.int .u64 a1)] => qcallP1 h (F7 a1 h) fun r2 => K (.float .f64 r2)
  | 11, [(.float .f64 a1)] => qcallP2 h (F11 a1 h) fun r4 r5 => K (.tuple #[(.int .i64 r4), (.int .i64 r5)])
  | 12, [(.int .i64 a1)] => qcallP2 h (F12 a1 h) fun r5 r6 => K (.tuple #[(.float .f64 r5), (.bool r6)])
  | 13, [(.float .f64 a1)] => qcallP1 h (F13 a1 h) fun r2 => K (.int .u64 r2)
  | 14, [(.int .u64 a1)] => qcallP1 h (F14 a1 h) fun r3 => K (.int .u64 r3)
  | _, _ => False
noncomputable def F4.ctx : Ctx := { P := Try.prog, call := fun _ _ _ _ => False, qcall := F4.qcall, quiet := fun f => Nat.beq f 6 || Nat.beq f 7 || Nat.beq f 11 || Nat.beq f 12 || Nat.beq f 13 || Nat.beq f 14, loop := fun _ _ _ _ => False }
theorem F4.ok : F4.ctx.OK where
  mixed := by kernel_rfl
  mono := fun hh _ => hh.elim
  call := fun hh => hh.elim
  qmono := by
    intro f args h K K' hh hk
    change F4.qcall f args h K at hh
    change F4.qcall f args h K'
    unfold F4.qcall at hh ⊢
    split at hh
    · obtain ⟨x0, h1, h2⟩ := hh
      exact ⟨x0, h1, hk _ h2⟩
    · obtain ⟨x0, h1, h2⟩ := hh
      exact ⟨x0, h1, hk _ h2⟩
    · obtain ⟨x0, x1, h1, h2⟩ := hh
      exact ⟨x0, x1, h1, hk _ h2⟩
    · obtain ⟨x0, x1, h1, h2⟩ := hh
      exact ⟨x0, x1, h1, hk _ h2⟩
    · obtain ⟨x0, h1, h2⟩ := hh
      exact ⟨x0, h1, hk _ h2⟩
    · obtain ⟨x0, h1, h2⟩ := hh
      exact ⟨x0, h1, hk _ h2⟩
    · exact hh.elim
  qval := by
    intro f args h K hh
    change F4.qcall f args h K at hh
    suffices H : ∃ v, K v ∧ F4.qcall f args h (· = v) from H
    unfold F4.qcall at hh ⊢
    split at hh
    · obtain ⟨x0, h1, h2⟩ := hh
      exact ⟨_, h2, x0, h1, rfl⟩
    · obtain ⟨x0, h1, h2⟩ := hh
      exact ⟨_, h2, x0, h1, rfl⟩
    · obtain ⟨x0, x1, h1, h2⟩ := hh
      exact ⟨_, h2, x0, x1, h1, rfl⟩
    · obtain ⟨x0, x1, h1, h2⟩ := hh
      exact ⟨_, h2, x0, x1, h1, rfl⟩
    · obtain ⟨x0, h1, h2⟩ := hh
      exact ⟨_, h2, x0, h1, rfl⟩
    · obtain ⟨x0, h1, h2⟩ := hh
      exact ⟨_, h2, x0, h1, rfl⟩
    · exact hh.elim
  qcall := by
    intro f args h v hh w hw
    change F4.qcall f args h (· = v) at hh
    unfold F4.qcall at hh
    split at hh
    · obtain ⟨x0, h1, h2⟩ := hh
      obtain ⟨g1, g2⟩ := F6.calls h1 w hw
      refine .inl ⟨g1, g2.mono fun e w' ⟨u, he, ho, hr⟩ => ?_⟩
      have hq := F6.ret_elim (K' := fun u h' => u = v ∧ h' = h) (fun _ h' hr => by obtain ⟨rfl, rfl⟩ := hr; exact ⟨h2, rfl⟩) hr
      exact ⟨hq.1 ▸ he, ho, hq.2⟩
    · obtain ⟨x0, h1, h2⟩ := hh
      obtain ⟨g1, g2⟩ := F7.calls h1 w hw
      refine .inl ⟨g1, g2.mono fun e w' ⟨u, he, ho, hr⟩ => ?_⟩
      have hq := F7.ret_elim (K' := fun u h' => u = v ∧ h' = h) (fun _ h' hr => by obtain ⟨rfl, rfl⟩ := hr; exact ⟨h2, rfl⟩) hr
      exact ⟨hq.1 ▸ he, ho, hq.2⟩
    · obtain ⟨x0, x1, h1, h2⟩ := hh
      obtain ⟨g1, g2⟩ := F11.calls h1 w hw
      refine .inl ⟨g1, g2.mono fun e w' ⟨u, he, ho, hr⟩ => ?_⟩
      have hq := F11.ret_elim (K' := fun u h' => u = v ∧ h' = h) (fun _ _ h' hr => by obtain ⟨rfl, rfl, rfl⟩ := hr; exact ⟨h2, rfl⟩) hr
      exact ⟨hq.1 ▸ he, ho, hq.2⟩
    · obtain ⟨x0, x1, h1, h2⟩ := hh
      obtain ⟨g1, g2⟩ := F12.calls h1 w hw
      refine .inl ⟨g1, g2.mono fun e w' ⟨u, he, ho, hr⟩ => ?_⟩
      have hq := F12.ret_elim (K' := fun u h' => u = v ∧ h' = h) (fun _ _ h' hr => by obtain ⟨rfl, rfl, rfl⟩ := hr; exact ⟨h2, rfl⟩) hr
      exact ⟨hq.1 ▸ he, ho, hq.2⟩
    · obtain ⟨x0, h1, h2⟩ := hh
      obtain ⟨g1, g2⟩ := F13.calls h1 w hw
      refine .inl ⟨g1, g2.mono fun e w' ⟨u, he, ho, hr⟩ => ?_⟩
      have hq := F13.ret_elim (K' := fun u h' => u = v ∧ h' = h) (fun _ h' hr => by obtain ⟨rfl, rfl⟩ := hr; exact ⟨h2, rfl⟩) hr
      exact ⟨hq.1 ▸ he, ho, hq.2⟩
    · obtain ⟨x0, h1, h2⟩ := hh
      obtain ⟨g1, g2⟩ := F14.calls h1 w hw
      refine .inl ⟨g1, g2.mono fun e w' ⟨u, he, ho, hr⟩ => ?_⟩
      have hq := F14.ret_elim (K' := fun u h' => u = v ∧ h' = h) (fun _ h' hr => by obtain ⟨rfl, rfl⟩ := hr; exact ⟨h2, rfl⟩) hr
      exact ⟨hq.1 ▸ he, ho, hq.2⟩
    · exact hh.elim
noncomputable def F4.code : Code := (Try.f4.body).getD .skip
def F4.ann : Ann := .auto
set_option maxRecDepth 100000 in
theorem F4.eq (a1 : Int) (a2 : Int) (h : Heap) (K : Bool → Heap → Prop) : evF F4.ctx Try.f4 F4.ann [(.int .u64 a1), (.int .i64 a2)] h (F4.ret K) = F4 a1 a2 h K := by kernel_rfl
set_option maxRecDepth 100000 in
theorem F4.calls {a1 : Int} {a2 : Int} {h : Heap} {K : Bool → Heap → Prop} (hh : F4 a1 a2 h K) (w : World) (hw : w.heap = h) :
    (callFunc 4 #[(.int .u64 a1), (.int .i64 a2)]).run Try.prog w = .ok (.enter 4 #[(.int .u64 a1), (.int .i64 a2)]) w ∧ Calls Try.prog 4 #[(.int .u64 a1), (.int .i64 a2)] w fun e w' => ∃ v, e = .returned v ∧ Out w w' ∧ F4.ret K v w'.heap := by
  rw [← F4.eq] at hh
  exact fn_calls (args := [(.int .u64 a1), (.int .i64 a2)]) (c := F4.code) F4.ok Try.func4 (by kernel_rfl) (by kernel_rfl) (by kernel_rfl) (by kernel_rfl) (loops_ok (l := []) (by kernel_rfl) trivial) hh w hw

/-! ### strait/straitref02.Make: function 26 -/
def F26.b1 (K4 : Int → Int → Heap → Prop) (cont : Int → Int → Addr → Int → Heap → Prop) (v1_2001 : Int) (v2_2002 : Int) (c6_2003 : Addr) (c7_2004 : Int) (h2005 : Heap) : Prop :=
  iteB (decide (v1_2001 < (4503599627370496 : Int))) ((iteB (decide (v2_2002 > ((-1074) : Int))) ((((cont (IntKind.u64.wrap (v1_2001 * 2)) (IntKind.i64.wrap (v2_2002 - 1)) c6_2003 c7_2004 h2005)))) (K4 v1_2001 v2_2002 h2005))) (K4 v1_2001 v2_2002 h2005)
def F26.l1 (K4 : Int → Int → Heap → Prop) : Nat → Int → Int → Addr → Int → Heap → Prop
  | 0, _, _, _, _, _ => False
  | m + 1, v1_2001, v2_2002, c6_2003, c7_2004, h => F26.b1 K4 (F26.l1 K4 m) v1_2001 v2_2002 c6_2003 c7_2004 h
def F26.b0 (K2 : Int → Int → Heap → Prop) (cont : Int → Int → Addr → Int → Heap → Prop) (v1_1001 : Int) (v2_1002 : Int) (c6_1003 : Addr) (c7_1004 : Int) (h1005 : Heap) : Prop :=
  (2 : Int) ≠ 0 ∧ (iteB ((v1_1001.tmod 2) == (0 : Int)) (((2 : Int) ≠ 0 ∧ ((cont (IntKind.u64.wrap (v1_1001.tdiv 2)) (IntKind.i64.wrap (v2_1002 + 1)) c6_1003 c7_1004 h1005)))) (K2 v1_1001 v2_1002 h1005))
def F26.l0 (K2 : Int → Int → Heap → Prop) : Nat → Int → Int → Addr → Int → Heap → Prop
  | 0, _, _, _, _, _ => False
  | m + 1, v1_1001, v2_1002, c6_1003, c7_1004, h => F26.b0 K2 (F26.l0 K2 m) v1_1001 v2_1002 c6_1003 c7_1004 h
def F26 (a1 : Bool) (a2 : Int) (a3 : Int) (h : Heap) (K : Int → Bool → Heap → Prop) : Prop :=
  newP h (.cells #[(.int .u64 0), (.bool false)] 48) fun a4 h5 => ((let j59 := (fun (y6 : Int) => (iteB (a2 == (0 : Int)) (stC h5 a4 (.int .u64 y6) fun h7 => stC h7 (a4.add 1) (.bool true) fun h8 => (∃ (x9 : Int), cell h8 a4 = some (.int .u64 x9) ∧ ∃ (x10 : Bool), cell h8 (a4.add 1) = some (.bool x10) ∧ K x9 x10 h8)) ((let j58 : Prop := (∃ m27, F26.l0 (fun z24 z25 h26 => ((let j57 : Prop := (∃ m44, F26.l1 (fun z41 z42 h43 => (((iteB (decide (z41 < (4503599627370496 : Int))) (stC h43 a4 (.int .u64 (IntKind.u64.wrap (y6 + z41))) fun h45 => stC h45 (a4.add 1) (.bool true) fun h46 => (∃ (x47 : Int), cell h46 a4 = some (.int .u64 x47) ∧ ∃ (x48 : Bool), cell h46 (a4.add 1) = some (.bool x48) ∧ K x47 x48 h46)) (((iteB (decide ((IntKind.i64.wrap (z42 + 1075)) > (2046 : Int))) (stC h43 a4 (.int .u64 0) fun h49 => stC h49 (a4.add 1) (.bool false) fun h50 => (∃ (x51 : Int), cell h50 a4 = some (.int .u64 x51) ∧ ∃ (x52 : Bool), cell h50 (a4.add 1) = some (.bool x52) ∧ K x51 x52 h50)) ((0 ≤ (52 : Int) ∧ stC h43 a4 (.int .u64 (IntKind.u64.wrap ((IntKind.u64.wrap (y6 + (IntKind.u64.wrap ((IntKind.u64.wrap (IntKind.i64.wrap (z42 + 1075))) * 2 ^ 52)))) + (IntKind.u64.wrap (z41 - 4503599627370496))))) fun h53 => stC h53 (a4.add 1) (.bool true) fun h54 => (∃ (x55 : Int), cell h54 a4 = some (.int .u64 x55) ∧ ∃ (x56 : Bool), cell h54 (a4.add 1) = some (.bool x56) ∧ K x55 x56 h54)))))))))) m44 z24 z25 a4 y6 h26);
  iteB (decide (z24 ≥ (9007199254740992 : Int))) ((stC h26 a4 (.int .u64 0) fun h33 => stC h33 (a4.add 1) (.bool false) fun h34 => (∃ (x35 : Int), cell h34 a4 = some (.int .u64 x35) ∧ ∃ (x36 : Bool), cell h34 (a4.add 1) = some (.bool x36) ∧ K x35 x36 h34))) ((iteB (decide (z25 < ((-1074) : Int))) (stC h26 a4 (.int .u64 0) fun h37 => stC h37 (a4.add 1) (.bool false) fun h38 => (∃ (x39 : Int), cell h38 a4 = some (.int .u64 x39) ∧ ∃ (x40 : Bool), cell h38 (a4.add 1) = some (.bool x40) ∧ K x39 x40 h38)) ((j57))))))) m27 a2 a3 a4 y6 h5);
  iteB (decide (a3 < ((-3000) : Int))) ((stC h5 a4 (.int .u64 0) fun h16 => stC h16 (a4.add 1) (.bool false) fun h17 => (∃ (x18 : Int), cell h17 a4 = some (.int .u64 x18) ∧ ∃ (x19 : Bool), cell h17 (a4.add 1) = some (.bool x19) ∧ K x18 x19 h17))) ((iteB (decide (a3 > (3000 : Int))) (stC h5 a4 (.int .u64 0) fun h20 => stC h20 (a4.add 1) (.bool false) fun h21 => (∃ (x22 : Int), cell h21 a4 = some (.int .u64 x22) ∧ ∃ (x23 : Bool), cell h21 (a4.add 1) = some (.bool x23) ∧ K x22 x23 h21)) ((j58))))))));
  (iteB a1 ((j59 9223372036854775808)) ((j59 0)))))
def F26.ret (K : Int → Bool → Heap → Prop) (v : Value) (h : Heap) : Prop := match v with
  | (.agg ⟨[(.int .u64 r60), (.bool r61)]⟩) => K r60 r61 h
  | _ => False
theorem F26.ret_elim {K : Int → Bool → Heap → Prop} {K' : Value → Heap → Prop} {v : Value} {h : Heap} (hk : ∀ r60 r61 h, K r60 r61 h → K' (.agg #[(.int .u64 r60), (.bool r61)]) h) (hh : F26.ret K v h) : K' v h := by
  unfold F26.ret at hh
  split at hh
  · exact hk _ _ _ hh
  · exact hh.elim
def F26.r0 (K : Nat → List Value → Heap → Prop) (m : Nat) (vs : List Value) (h : Heap) : Prop := match vs with
  | [(.int .u64 v1_1001), (.int .i64 v2_1002), (.pointer (some c6_1003)), (.int .u64 c7_1004)] => F26.l0 (fun z62 z63 h' => K 2 [(.int .u64 z62), (.int .i64 z63), (.pointer (some c6_1003)), (.int .u64 c7_1004)] h') m v1_1001 v2_1002 c6_1003 c7_1004 h
  | _ => False
def F26.r1 (K : Nat → List Value → Heap → Prop) (m : Nat) (vs : List Value) (h : Heap) : Prop := match vs with
  | [(.int .u64 v1_2001), (.int .i64 v2_2002), (.pointer (some c6_2003)), (.int .u64 c7_2004)] => F26.l1 (fun z64 z65 h' => K 4 [(.int .u64 z64), (.int .i64 z65), (.pointer (some c6_2003)), (.int .u64 c7_2004)] h') m v1_2001 v2_2002 c6_2003 c7_2004 h
  | _ => False
def F26.loop (i : Nat) (vs : List Value) (h : Heap) (K : Nat → List Value → Heap → Prop) : Prop := match i with
  | 0 => ∃ m, F26.r0 K m vs h
  | 1 => ∃ m, F26.r1 K m vs h
  | _ => False
noncomputable def F26.ctx : Ctx := { P := Try.prog, call := fun _ _ _ _ => False, qcall := fun _ _ _ _ => False, quiet := fun f => false, loop := F26.loop }
theorem F26.ok : F26.ctx.OK where
  mixed := by kernel_rfl
  mono := fun hh _ => hh.elim
  call := fun hh => hh.elim
  qmono := fun hh _ => hh.elim
  qval := fun hh => hh.elim
  qcall := fun hh => hh.elim
noncomputable def F26.code : Code := (Try.f26.body).getD .skip
def F26.ann : Ann := (.two .auto (.two .auto (.two .auto (.two .auto (.two .auto (.two (.two (.loop 0 [1, 2, 6, 7] [(2, [1, 2, 6, 7])] .auto) .auto) (.two .auto (.two (.two (.loop 1 [1, 2, 6, 7] [(4, [1, 2, 6, 7])] .auto) .auto) .auto))))))))
noncomputable def F26.c1 : Code := sub F26.code [1, 1, 1, 1, 1, 1, 1, 0, 0, 0]
def F26.a1 : Ann := .auto
def F26.keep1 : List Nat := [1, 2, 6, 7]
def F26.outs1 : List (Nat × List Nat) := [(4, [1, 2, 6, 7])]
noncomputable def F26.c0 : Code := sub F26.code [1, 1, 1, 1, 1, 0, 0, 0]
def F26.a0 : Ann := .auto
def F26.keep0 : List Nat := [1, 2, 6, 7]
def F26.outs0 : List (Nat × List Nat) := [(2, [1, 2, 6, 7])]
set_option maxRecDepth 100000 in
theorem F26.L0 : LoopOK F26.ctx 64 F26.c0 0 F26.keep0 F26.outs0 := by
  refine loop_ok (n := F26.a0) F26.ok (by kernel_rfl) (loops_ok (l := []) (by kernel_rfl) ?_) F26.r0 ?_ ?_ (fun vs h K hh => hh)
  · exact trivial
  · intro K vs h hh
    unfold F26.r0 at hh
    split at hh
    · exact hh
    · exact hh
  · intro K m vs h hh
    unfold F26.r0 at hh
    split at hh
    · exact cast (by kernel_rfl) hh
    · exact hh.elim
set_option maxRecDepth 100000 in
theorem F26.L1 : LoopOK F26.ctx 64 F26.c1 1 F26.keep1 F26.outs1 := by
  refine loop_ok (n := F26.a1) F26.ok (by kernel_rfl) (loops_ok (l := []) (by kernel_rfl) ?_) F26.r1 ?_ ?_ (fun vs h K hh => hh)
  · exact trivial
  · intro K vs h hh
    unfold F26.r1 at hh
    split at hh
    · exact hh
    · exact hh
  · intro K m vs h hh
    unfold F26.r1 at hh
    split at hh
    · exact cast (by kernel_rfl) hh
    · exact hh.elim
set_option maxRecDepth 100000 in
theorem F26.eq (a1 : Bool) (a2 : Int) (a3 : Int) (h : Heap) (K : Int → Bool → Heap → Prop) : evF F26.ctx Try.f26 F26.ann [(.bool a1), (.int .u64 a2), (.int .i64 a3)] h (F26.ret K) = F26 a1 a2 a3 h K := by kernel_rfl
set_option maxRecDepth 100000 in
theorem F26.calls {a1 : Bool} {a2 : Int} {a3 : Int} {h : Heap} {K : Int → Bool → Heap → Prop} (hh : F26 a1 a2 a3 h K) (w : World) (hw : w.heap = h) :
    (callFunc 26 #[(.bool a1), (.int .u64 a2), (.int .i64 a3)]).run Try.prog w = .ok (.enter 26 #[(.bool a1), (.int .u64 a2), (.int .i64 a3)]) w ∧ Calls Try.prog 26 #[(.bool a1), (.int .u64 a2), (.int .i64 a3)] w fun e w' => ∃ v, e = .returned v ∧ Out w w' ∧ F26.ret K v w'.heap := by
  rw [← F26.eq] at hh
  exact fn_calls (args := [(.bool a1), (.int .u64 a2), (.int .i64 a3)]) (c := F26.code) F26.ok Try.func26 (by kernel_rfl) (by kernel_rfl) (by kernel_rfl) (by kernel_rfl) (loops_ok (l := [(F26.c0, none, 0, F26.keep0, F26.outs0), (F26.c1, none, 1, F26.keep1, F26.outs1)]) (by kernel_rfl) ⟨F26.L0, F26.L1, trivial⟩) hh w hw

/-! ### strait/straitref04.Float: function 17 -/
def F17 (a1 : Int) (h : Heap) (K : Int → Bool → Heap → Prop) : Prop :=
  newP h (.cells #[(.int .u64 0), (.bool false)] 48) fun a2 h3 => ((iteB (decide (a1 < (0 : Int))) (callP2 (F26 true (IntKind.u64.wrap ((IntKind.u64.wrap (IntKind.i64.wrap (0 - (IntKind.i64.wrap (a1 + 1))))) + 1)) 0 h3) fun x4 x5 h6 => stC h6 a2 (.int .u64 x4) fun h7 => stC h7 (a2.add 1) (.bool x5) fun h8 => (∃ (x9 : Int), cell h8 a2 = some (.int .u64 x9) ∧ ∃ (x10 : Bool), cell h8 (a2.add 1) = some (.bool x10) ∧ K x9 x10 h8)) ((callP2 (F26 false (IntKind.u64.wrap a1) 0 h3) fun x11 x12 h13 => stC h13 a2 (.int .u64 x11) fun h14 => stC h14 (a2.add 1) (.bool x12) fun h15 => (∃ (x16 : Int), cell h15 a2 = some (.int .u64 x16) ∧ ∃ (x17 : Bool), cell h15 (a2.add 1) = some (.bool x17) ∧ K x16 x17 h15)))))
def F17.ret (K : Int → Bool → Heap → Prop) (v : Value) (h : Heap) : Prop := match v with
  | (.agg ⟨[(.int .u64 r18), (.bool r19)]⟩) => K r18 r19 h
  | _ => False
theorem F17.ret_elim {K : Int → Bool → Heap → Prop} {K' : Value → Heap → Prop} {v : Value} {h : Heap} (hk : ∀ r18 r19 h, K r18 r19 h → K' (.agg #[(.int .u64 r18), (.bool r19)]) h) (hh : F17.ret K v h) : K' v h := by
  unfold F17.ret at hh
  split at hh
  · exact hk _ _ _ hh
  · exact hh.elim
def F17.call (f : FuncId) (vs : List Value) (h : Heap) (K : Value → Heap → Prop) : Prop := match f, vs with
  | 26, [(.bool a1), (.int .u64 a2), (.int .i64 a3)] => callP2 (F26 a1 a2 a3 h) fun r60 r61 h' => K (.agg #[(.int .u64 r60), (.bool r61)]) h'
  | _, _ => False
noncomputable def F17.ctx : Ctx := { P := Try.prog, call := F17.call, qcall := fun _ _ _ _ => False, quiet := fun f => false, loop := fun _ _ _ _ => False }
theorem F17.ok : F17.ctx.OK where
  mixed := by kernel_rfl
  mono := by
    intro f args h K K' hh hk
    change F17.call f args h K at hh
    change F17.call f args h K'
    unfold F17.call at hh ⊢
    split at hh
    · obtain ⟨R, h1, h2⟩ := hh
      exact ⟨R, h1, fun _ _ x hr => hk _ _ (h2 _ _ x hr)⟩
    · exact hh.elim
  call := by
    intro f args h K hh w hw
    change F17.call f args h K at hh
    unfold F17.call at hh
    split at hh
    · obtain ⟨R, h1, h2⟩ := hh
      obtain ⟨g1, g2⟩ := F26.calls h1 w hw
      exact ⟨g1, g2.mono fun e w' ⟨v, he, ho, hr⟩ => ⟨v, he, ho, F26.ret_elim h2 hr⟩⟩
    · exact hh.elim
  qmono := fun hh _ => hh.elim
  qval := fun hh => hh.elim
  qcall := fun hh => hh.elim
noncomputable def F17.code : Code := (Try.f17.body).getD .skip
def F17.ann : Ann := .auto
set_option maxRecDepth 100000 in
theorem F17.eq (a1 : Int) (h : Heap) (K : Int → Bool → Heap → Prop) : evF F17.ctx Try.f17 F17.ann [(.int .i64 a1)] h (F17.ret K) = F17 a1 h K := by kernel_rfl
set_option maxRecDepth 100000 in
theorem F17.calls {a1 : Int} {h : Heap} {K : Int → Bool → Heap → Prop} (hh : F17 a1 h K) (w : World) (hw : w.heap = h) :
    (callFunc 17 #[(.int .i64 a1)]).run Try.prog w = .ok (.enter 17 #[(.int .i64 a1)]) w ∧ Calls Try.prog 17 #[(.int .i64 a1)] w fun e w' => ∃ v, e = .returned v ∧ Out w w' ∧ F17.ret K v w'.heap := by
  rw [← F17.eq] at hh
  exact fn_calls (args := [(.int .i64 a1)]) (c := F17.code) F17.ok Try.func17 (by kernel_rfl) (by kernel_rfl) (by kernel_rfl) (by kernel_rfl) (loops_ok (l := []) (by kernel_rfl) trivial) hh w hw

/-! ### strait/fint.Whole: function 19 -/
def F19 (a1 : Nat) (h : Heap) (K : Bool → Heap → Prop) : Prop :=
  (qcallP1 h (F21 a1 h) fun x2 => (iteB (x2 == (0 : Int)) (K true h) ((K (x2 == (10 : Int)) h))))
def F19.ret (K : Bool → Heap → Prop) (v : Value) (h : Heap) : Prop := match v with
  | (.bool r4) => K r4 h
  | _ => False
theorem F19.ret_elim {K : Bool → Heap → Prop} {K' : Value → Heap → Prop} {v : Value} {h : Heap} (hk : ∀ r4 h, K r4 h → K' (.bool r4) h) (hh : F19.ret K v h) : K' v h := by
  unfold F19.ret at hh
  split at hh
  · exact hk _ _ hh
  · exact hh.elim
def F19.qcall (f : FuncId) (vs : List Value) (h : Heap) (K : Value → Prop) : Prop := match f, vs with
  | 21, [(.float .f64 a1)] => qcallP1 h (F21 a1 h) fun r5 => K (.int .i64 r5)
  | _, _ => False
noncomputable def F19.ctx : Ctx := { P := Try.prog, call := fun _ _ _ _ => False, qcall := F19.qcall, quiet := fun f => Nat.beq f 21, loop := fun _ _ _ _ => False }
theorem F19.ok : F19.ctx.OK where
  mixed := by kernel_rfl
  mono := fun hh _ => hh.elim
  call := fun hh => hh.elim
  qmono := by
    intro f args h K K' hh hk
    change F19.qcall f args h K at hh
    change F19.qcall f args h K'
    unfold F19.qcall at hh ⊢
    split at hh
    · obtain ⟨x0, h1, h2⟩ := hh
      exact ⟨x0, h1, hk _ h2⟩
    · exact hh.elim
  qval := by
    intro f args h K hh
    change F19.qcall f args h K at hh
    suffices H : ∃ v, K v ∧ F19.qcall f args h (· = v) from H
    unfold F19.qcall at hh ⊢
    split at hh
    · obtain ⟨x0, h1, h2⟩ := hh
      exact ⟨_, h2, x0, h1, rfl⟩
    · exact hh.elim
  qcall := by
    intro f args h v hh w hw
    change F19.qcall f args h (· = v) at hh
    unfold F19.qcall at hh
    split at hh
    · obtain ⟨x0, h1, h2⟩ := hh
      obtain ⟨g1, g2⟩ := F21.calls h1 w hw
      refine .inl ⟨g1, g2.mono fun e w' ⟨u, he, ho, hr⟩ => ?_⟩
      have hq := F21.ret_elim (K' := fun u h' => u = v ∧ h' = h) (fun _ h' hr => by obtain ⟨rfl, rfl⟩ := hr; exact ⟨h2, rfl⟩) hr
      exact ⟨hq.1 ▸ he, ho, hq.2⟩
    · exact hh.elim
noncomputable def F19.code : Code := (Try.f19.body).getD .skip
def F19.ann : Ann := .auto
set_option maxRecDepth 100000 in
theorem F19.eq (a1 : Nat) (h : Heap) (K : Bool → Heap → Prop) : evF F19.ctx Try.f19 F19.ann [(.float .f64 a1)] h (F19.ret K) = F19 a1 h K := by kernel_rfl
set_option maxRecDepth 100000 in
theorem F19.calls {a1 : Nat} {h : Heap} {K : Bool → Heap → Prop} (hh : F19 a1 h K) (w : World) (hw : w.heap = h) :
    (callFunc 19 #[(.float .f64 a1)]).run Try.prog w = .ok (.enter 19 #[(.float .f64 a1)]) w ∧ Calls Try.prog 19 #[(.float .f64 a1)] w fun e w' => ∃ v, e = .returned v ∧ Out w w' ∧ F19.ret K v w'.heap := by
  rw [← F19.eq] at hh
  exact fn_calls (args := [(.float .f64 a1)]) (c := F19.code) F19.ok Try.func19 (by kernel_rfl) (by kernel_rfl) (by kernel_rfl) (by kernel_rfl) (loops_ok (l := []) (by kernel_rfl) trivial) hh w hw

/-! ### strait/straitlaw04.FintTells: function 5 -/
def F5 (a1 : Int) (a2 : Int) (h : Heap) (K : Bool → Heap → Prop) : Prop :=
  (qcallP1 h (F7 a1 h) fun x3 => (qcallP2 h (F11 x3 h) fun x4 x5 => (qcallP2 h (F15 x3 h) fun x6 x7 => (qcallP2 h (F12 a2 h) fun x8 x9 => (callP2 (F16 a1 h) fun x10 x11 h12 => newP h12 (.cells #[(.int .i64 0), (.int .i64 0)] 45) fun a13 h14 => stC h14 a13 (.int .i64 x10) fun h15 => stC h15 (a13.add 1) (.int .i64 x11) fun h16 => (callP2 (F17 a2 h16) fun x17 x18 h19 => newP h19 (.cells #[(.int .u64 0), (.bool false)] 48) fun a20 h21 => stC h21 a20 (.int .u64 x17) fun h22 => stC h22 (a20.add 1) (.bool x18) fun h23 => (let j39 := (fun (y26 : Bool) => ∃ (x27 : Int), cell h23 a13 = some (.int .i64 x27) ∧ ∃ (x28 : Int), cell h23 (a13.add 1) = some (.int .i64 x28) ∧ iteB (eqAll [(x27 == x4), (x28 == x5)]) (callP2 (F18 a1 h23) fun x29 x30 h31 => iteB (eqAll [(x29 == x6), (x30 == x7)]) (qcallP1 h31 (F19 x3 h31) fun x32 => iteB (x32 == y26) (∃ (x33 : Bool), cell h31 (a20.add 1) = some (.bool x33) ∧ iteB (x9 == x33) (qcallP1 h31 (F13 x8 h31) fun x34 => ∃ (x35 : Int), cell h31 a20 = some (.int .u64 x35) ∧ iteB (x34 == x35) (qcallP1 h31 (F6 h31) fun x36 => K x36 h31) (K false h31)) (K false h31)) (K false h31)) (K false h31)) (K false h23));
  ∃ (x24 : Int), cell h23 (a13.add 1) = some (.int .i64 x24) ∧ iteB (x24 == (0 : Int)) ((j39 true)) (∃ (x25 : Int), cell h23 (a13.add 1) = some (.int .i64 x25) ∧ (j39 (x25 == (10 : Int)))))))))))
def F5.ret (K : Bool → Heap → Prop) (v : Value) (h : Heap) : Prop := match v with
  | (.bool r40) => K r40 h
  | _ => False
theorem F5.ret_elim {K : Bool → Heap → Prop} {K' : Value → Heap → Prop} {v : Value} {h : Heap} (hk : ∀ r40 h, K r40 h → K' (.bool r40) h) (hh : F5.ret K v h) : K' v h := by
  unfold F5.ret at hh
  split at hh
  · exact hk _ _ hh
  · exact hh.elim
def F5.call (f : FuncId) (vs : List Value) (h : Heap) (K : Value → Heap → Prop) : Prop := match f, vs with
  | 16, [(.int .u64 a1)] => callP2 (F16 a1 h) fun r51 r52 h' => K (.agg #[(.int .i64 r51), (.int .i64 r52)]) h'
  | 17, [(.int .i64 a1)] => callP2 (F17 a1 h) fun r18 r19 h' => K (.agg #[(.int .u64 r18), (.bool r19)]) h'
  | 18, [(.int .u64 a1)] => callP2 (F18 a1 h) fun r26 r27 h' => K (.agg #[(.int .i64 r26), (.int .i64 r27)]) h'
  | _, _ => False
def F5.qcall (f : FuncId) (vs : List Value) (h : Heap) (K : Value → Prop) : Prop := match f, vs with
  | 6, [] => qcallP1 h (F6 h) fun r8 => K (.bool r8)
  | 7, [(.int .u64 a1)] => qcallP1 h (F7 a1 h) fun r2 => K (.float .f64 r2)
  | 11, [(.float .f64 a1)] => qcallP2 h (F11 a1 h) fun r4 r5 => K (.tuple #[(.int .i64 r4), (.int .i64 r5)])
  | 12, [(.int .i64 a1)] => qcallP2 h (F12 a1 h) fun r5 r6 => K (.tuple #[(.float .f64 r5), (.bool r6)])
  | 13, [(.float .f64 a1)] => qcallP1 h (F13 a1 h) fun r2 => K (.int .u64 r2)
  | 15, [(.float .f64 a1)] => qcallP2 h (F15 a1 h) fun r5 r6 => K (.tuple #[(.int .i64 r5), (.int .i64 r6)])
  | 19, [(.float .f64 a1)] => qcallP1 h (F19 a1 h) fun r4 => K (.bool r4)
  | _, _ => False
noncomputable def F5.ctx : Ctx := { P := Try.prog, call := F5.call, qcall := F5.qcall, quiet := fun f => Nat.beq f 6 || Nat.beq f 7 || Nat.beq f 11 || Nat.beq f 12 || Nat.beq f 13 || Nat.beq f 15 || Nat.beq f 19, loop := fun _ _ _ _ => False }
theorem F5.ok : F5.ctx.OK where
  mixed := by kernel_rfl
  mono := by
    intro f args h K K' hh hk
    change F5.call f args h K at hh
    change F5.call f args h K'
    unfold F5.call at hh ⊢
    split at hh
    · obtain ⟨R, h1, h2⟩ := hh
      exact ⟨R, h1, fun _ _ x hr => hk _ _ (h2 _ _ x hr)⟩
    · obtain ⟨R, h1, h2⟩ := hh
      exact ⟨R, h1, fun _ _ x hr => hk _ _ (h2 _ _ x hr)⟩
    · obtain ⟨R, h1, h2⟩ := hh
      exact ⟨R, h1, fun _ _ x hr => hk _ _ (h2 _ _ x hr)⟩
    · exact hh.elim
  call := by
    intro f args h K hh w hw
    change F5.call f args h K at hh
    unfold F5.call at hh
    split at hh
    · obtain ⟨R, h1, h2⟩ := hh
      obtain ⟨g1, g2⟩ := F16.calls h1 w hw
      exact ⟨g1, g2.mono fun e w' ⟨v, he, ho, hr⟩ => ⟨v, he, ho, F16.ret_elim h2 hr⟩⟩
    · obtain ⟨R, h1, h2⟩ := hh
      obtain ⟨g1, g2⟩ := F17.calls h1 w hw
      exact ⟨g1, g2.mono fun e w' ⟨v, he, ho, hr⟩ => ⟨v, he, ho, F17.ret_elim h2 hr⟩⟩
    · obtain ⟨R, h1, h2⟩ := hh
      obtain ⟨g1, g2⟩ := F18.calls h1 w hw
      exact ⟨g1, g2.mono fun e w' ⟨v, he, ho, hr⟩ => ⟨v, he, ho, F18.ret_elim h2 hr⟩⟩
    · exact hh.elim
  qmono := by
    intro f args h K K' hh hk
    change F5.qcall f args h K at hh
    change F5.qcall f args h K'
    unfold F5.qcall at hh ⊢
    split at hh
    · obtain ⟨x0, h1, h2⟩ := hh
      exact ⟨x0, h1, hk _ h2⟩
    · obtain ⟨x0, h1, h2⟩ := hh
      exact ⟨x0, h1, hk _ h2⟩
    · obtain ⟨x0, x1, h1, h2⟩ := hh
      exact ⟨x0, x1, h1, hk _ h2⟩
    · obtain ⟨x0, x1, h1, h2⟩ := hh
      exact ⟨x0, x1, h1, hk _ h2⟩
    · obtain ⟨x0, h1, h2⟩ := hh
      exact ⟨x0, h1, hk _ h2⟩
    · obtain ⟨x0, x1, h1, h2⟩ := hh
      exact ⟨x0, x1, h1, hk _ h2⟩
    · obtain ⟨x0, h1, h2⟩ := hh
      exact ⟨x0, h1, hk _ h2⟩
    · exact hh.elim
  qval := by
    intro f args h K hh
    change F5.qcall f args h K at hh
    suffices H : ∃ v, K v ∧ F5.qcall f args h (· = v) from H
    unfold F5.qcall at hh ⊢
    split at hh
    · obtain ⟨x0, h1, h2⟩ := hh
      exact ⟨_, h2, x0, h1, rfl⟩
    · obtain ⟨x0, h1, h2⟩ := hh
      exact ⟨_, h2, x0, h1, rfl⟩
    · obtain ⟨x0, x1, h1, h2⟩ := hh
      exact ⟨_, h2, x0, x1, h1, rfl⟩
    · obtain ⟨x0, x1, h1, h2⟩ := hh
      exact ⟨_, h2, x0, x1, h1, rfl⟩
    · obtain ⟨x0, h1, h2⟩ := hh
      exact ⟨_, h2, x0, h1, rfl⟩
    · obtain ⟨x0, x1, h1, h2⟩ := hh
      exact ⟨_, h2, x0, x1, h1, rfl⟩
    · obtain ⟨x0, h1, h2⟩ := hh
      exact ⟨_, h2, x0, h1, rfl⟩
    · exact hh.elim
  qcall := by
    intro f args h v hh w hw
    change F5.qcall f args h (· = v) at hh
    unfold F5.qcall at hh
    split at hh
    · obtain ⟨x0, h1, h2⟩ := hh
      obtain ⟨g1, g2⟩ := F6.calls h1 w hw
      refine .inl ⟨g1, g2.mono fun e w' ⟨u, he, ho, hr⟩ => ?_⟩
      have hq := F6.ret_elim (K' := fun u h' => u = v ∧ h' = h) (fun _ h' hr => by obtain ⟨rfl, rfl⟩ := hr; exact ⟨h2, rfl⟩) hr
      exact ⟨hq.1 ▸ he, ho, hq.2⟩
    · obtain ⟨x0, h1, h2⟩ := hh
      obtain ⟨g1, g2⟩ := F7.calls h1 w hw
      refine .inl ⟨g1, g2.mono fun e w' ⟨u, he, ho, hr⟩ => ?_⟩
      have hq := F7.ret_elim (K' := fun u h' => u = v ∧ h' = h) (fun _ h' hr => by obtain ⟨rfl, rfl⟩ := hr; exact ⟨h2, rfl⟩) hr
      exact ⟨hq.1 ▸ he, ho, hq.2⟩
    · obtain ⟨x0, x1, h1, h2⟩ := hh
      obtain ⟨g1, g2⟩ := F11.calls h1 w hw
      refine .inl ⟨g1, g2.mono fun e w' ⟨u, he, ho, hr⟩ => ?_⟩
      have hq := F11.ret_elim (K' := fun u h' => u = v ∧ h' = h) (fun _ _ h' hr => by obtain ⟨rfl, rfl, rfl⟩ := hr; exact ⟨h2, rfl⟩) hr
      exact ⟨hq.1 ▸ he, ho, hq.2⟩
    · obtain ⟨x0, x1, h1, h2⟩ := hh
      obtain ⟨g1, g2⟩ := F12.calls h1 w hw
      refine .inl ⟨g1, g2.mono fun e w' ⟨u, he, ho, hr⟩ => ?_⟩
      have hq := F12.ret_elim (K' := fun u h' => u = v ∧ h' = h) (fun _ _ h' hr => by obtain ⟨rfl, rfl, rfl⟩ := hr; exact ⟨h2, rfl⟩) hr
      exact ⟨hq.1 ▸ he, ho, hq.2⟩
    · obtain ⟨x0, h1, h2⟩ := hh
      obtain ⟨g1, g2⟩ := F13.calls h1 w hw
      refine .inl ⟨g1, g2.mono fun e w' ⟨u, he, ho, hr⟩ => ?_⟩
      have hq := F13.ret_elim (K' := fun u h' => u = v ∧ h' = h) (fun _ h' hr => by obtain ⟨rfl, rfl⟩ := hr; exact ⟨h2, rfl⟩) hr
      exact ⟨hq.1 ▸ he, ho, hq.2⟩
    · obtain ⟨x0, x1, h1, h2⟩ := hh
      obtain ⟨g1, g2⟩ := F15.calls h1 w hw
      refine .inl ⟨g1, g2.mono fun e w' ⟨u, he, ho, hr⟩ => ?_⟩
      have hq := F15.ret_elim (K' := fun u h' => u = v ∧ h' = h) (fun _ _ h' hr => by obtain ⟨rfl, rfl, rfl⟩ := hr; exact ⟨h2, rfl⟩) hr
      exact ⟨hq.1 ▸ he, ho, hq.2⟩
    · obtain ⟨x0, h1, h2⟩ := hh
      obtain ⟨g1, g2⟩ := F19.calls h1 w hw
      refine .inl ⟨g1, g2.mono fun e w' ⟨u, he, ho, hr⟩ => ?_⟩
      have hq := F19.ret_elim (K' := fun u h' => u = v ∧ h' = h) (fun _ h' hr => by obtain ⟨rfl, rfl⟩ := hr; exact ⟨h2, rfl⟩) hr
      exact ⟨hq.1 ▸ he, ho, hq.2⟩
    · exact hh.elim
noncomputable def F5.code : Code := (Try.f5.body).getD .skip
def F5.ann : Ann := (.two .auto (.two .auto (.two .auto (.two .auto (.two .auto (.two .auto (.two .auto (.two .auto (.two (.reg (.take 0 (.take 1 (.take 2 (.take 3 (.take 4 (.take 5 (.take 6 (.take 8 (.take 9 (.take 10 (.alt 7 (.take 11 (.take 12 (.take 13 (.take 14 (.take 15 (.take 16 (.take 17 (.take 18 (.take 19 (.take 20 (.take 21 (.take 22 (.take 23 (.take 24 (.take 25 (.take 26 (.take 27 (.take 28 (.take 29 (.take 30 (.take 31 (.take 32 (.take 33 (.take 34 (.take 35 .done))))))))))))))))))))))))) .noalt)))))))))))) .auto)))))))))
set_option maxRecDepth 100000 in
theorem F5.eq (a1 : Int) (a2 : Int) (h : Heap) (K : Bool → Heap → Prop) : evF F5.ctx Try.f5 F5.ann [(.int .u64 a1), (.int .i64 a2)] h (F5.ret K) = F5 a1 a2 h K := by kernel_rfl
set_option maxRecDepth 100000 in
theorem F5.calls {a1 : Int} {a2 : Int} {h : Heap} {K : Bool → Heap → Prop} (hh : F5 a1 a2 h K) (w : World) (hw : w.heap = h) :
    (callFunc 5 #[(.int .u64 a1), (.int .i64 a2)]).run Try.prog w = .ok (.enter 5 #[(.int .u64 a1), (.int .i64 a2)]) w ∧ Calls Try.prog 5 #[(.int .u64 a1), (.int .i64 a2)] w fun e w' => ∃ v, e = .returned v ∧ Out w w' ∧ F5.ret K v w'.heap := by
  rw [← F5.eq] at hh
  exact fn_calls (args := [(.int .u64 a1), (.int .i64 a2)]) (c := F5.code) F5.ok Try.func5 (by kernel_rfl) (by kernel_rfl) (by kernel_rfl) (by kernel_rfl) (loops_ok (l := []) (by kernel_rfl) trivial) hh w hw

end Go.Proofs.Ytnmeoeakepcieaa
