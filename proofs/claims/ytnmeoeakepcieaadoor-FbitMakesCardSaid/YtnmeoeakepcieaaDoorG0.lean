/- WRITTEN BY A PROGRAM OF THIS SESSION (gen.py): what each function asks of memory, and that the model's run comes to it. -/
import Derived.Test.YtnmeoeakepcieaaDoorProg
import Derived.Test.YtnmeoeakepcieaaDoorFw8

namespace Go.Proofs.YtnmeoeakepcieaaDoor
open Go.Hp
set_option linter.unusedVariables false
set_option linter.unusedSimpArgs false

/-! ### strait/fbit.Of: function 9 -/
def F9 (a1 : Int) (h : Heap) (K : Nat → Heap → Prop) : Prop :=
  K a1.toNat h
def F9.ret (K : Nat → Heap → Prop) (v : Value) (h : Heap) : Prop := match v with
  | (.float .f64 r2) => K r2 h
  | _ => False
theorem F9.ret_elim {K : Nat → Heap → Prop} {K' : Value → Heap → Prop} {v : Value} {h : Heap} (hk : ∀ r2 h, K r2 h → K' (.float .f64 r2) h) (hh : F9.ret K v h) : K' v h := by
  unfold F9.ret at hh
  split at hh
  · exact hk _ _ hh
  · exact hh.elim
def F9.qcall (f : FuncId) (vs : List Value) (h : Heap) (K : Value → Prop) : Prop := match f, vs with
  | 31, [(.int .u64 a1)] => K (.float .f64 a1.toNat)
  | _, _ => False
noncomputable def F9.ctx : Ctx := { P := Tryd.prog, call := fun _ _ _ _ => False, qcall := F9.qcall, quiet := fun f => Nat.beq f 31, loop := fun _ _ _ _ => False }
theorem F9.ok : F9.ctx.OK where
  mixed := by kernel_rfl
  mono := fun hh _ => hh.elim
  call := fun hh => hh.elim
  qmono := by
    intro f args h K K' hh hk
    change F9.qcall f args h K at hh
    change F9.qcall f args h K'
    unfold F9.qcall at hh ⊢
    split at hh
    · exact hk _ hh
    · exact hh.elim
  qval := by
    intro f args h K hh
    change F9.qcall f args h K at hh
    suffices H : ∃ v, K v ∧ F9.qcall f args h (· = v) from H
    unfold F9.qcall at hh ⊢
    split at hh
    · exact ⟨_, hh, rfl⟩
    · exact hh.elim
  qcall := by
    intro f args h v hh w hw
    change F9.qcall f args h (· = v) at hh
    unfold F9.qcall at hh
    split at hh
    · subst hh; exact .inr (ext_run Tryd.func31 (by kernel_rfl) (by kernel_rfl) (by kernel_rfl) (e := Extern.MathFloatBits.float64frombits) (by kernel_rfl) (by rfl))
    · exact hh.elim
noncomputable def F9.code : Code := (Tryd.f9.body).getD .skip
def F9.ann : Ann := .auto
set_option maxRecDepth 100000 in
theorem F9.eq (a1 : Int) (h : Heap) (K : Nat → Heap → Prop) : evF F9.ctx Tryd.f9 F9.ann [(.int .u64 a1)] h (F9.ret K) = F9 a1 h K := by kernel_rfl
set_option maxRecDepth 100000 in
theorem F9.calls {a1 : Int} {h : Heap} {K : Nat → Heap → Prop} (hh : F9 a1 h K) (w : World) (hw : w.heap = h) :
    (callFunc 9 #[(.int .u64 a1)]).run Tryd.prog w = .ok (.enter 9 #[(.int .u64 a1)]) w ∧ Calls Tryd.prog 9 #[(.int .u64 a1)] w fun e w' => ∃ v, e = .returned v ∧ Out w w' ∧ F9.ret K v w'.heap := by
  rw [← F9.eq] at hh
  exact fn_calls (args := [(.int .u64 a1)]) (c := F9.code) F9.ok Tryd.func9 (by kernel_rfl) (by kernel_rfl) (by kernel_rfl) (by kernel_rfl) (loops_ok (l := []) (by kernel_rfl) trivial) hh w hw

/-! ### strait/fbit.Kind: function 13 -/
def F13 (a1 : Nat) (h : Heap) (K : Int → Heap → Prop) : Prop :=
  (((iteB (FloatKind.f64.format.order a1 a1 != some .eq) (K 0 h) (0 ≤ (52 : Int) ∧ (iteB (((bits .andNot .u64 (a1 : Int) 9223372036854775808).fdiv (2 ^ 52)) == (2047 : Int)) (K 1 h) ((iteB ((bits .andNot .u64 (a1 : Int) 9223372036854775808) == (0 : Int)) (K 2 h) (0 ≤ (52 : Int) ∧ (iteB (((bits .andNot .u64 (a1 : Int) 9223372036854775808).fdiv (2 ^ 52)) == (0 : Int)) (K 3 h) ((K 4 h)))))))))))
def F13.ret (K : Int → Heap → Prop) (v : Value) (h : Heap) : Prop := match v with
  | (.int .i64 r2) => K r2 h
  | _ => False
theorem F13.ret_elim {K : Int → Heap → Prop} {K' : Value → Heap → Prop} {v : Value} {h : Heap} (hk : ∀ r2 h, K r2 h → K' (.int .i64 r2) h) (hh : F13.ret K v h) : K' v h := by
  unfold F13.ret at hh
  split at hh
  · exact hk _ _ hh
  · exact hh.elim
def F13.qcall (f : FuncId) (vs : List Value) (h : Heap) (K : Value → Prop) : Prop := match f, vs with
  | 32, [(.float .f64 a1)] => K (.int .u64 (a1 : Int))
  | _, _ => False
noncomputable def F13.ctx : Ctx := { P := Tryd.prog, call := fun _ _ _ _ => False, qcall := F13.qcall, quiet := fun f => Nat.beq f 32, loop := fun _ _ _ _ => False }
theorem F13.ok : F13.ctx.OK where
  mixed := by kernel_rfl
  mono := fun hh _ => hh.elim
  call := fun hh => hh.elim
  qmono := by
    intro f args h K K' hh hk
    change F13.qcall f args h K at hh
    change F13.qcall f args h K'
    unfold F13.qcall at hh ⊢
    split at hh
    · exact hk _ hh
    · exact hh.elim
  qval := by
    intro f args h K hh
    change F13.qcall f args h K at hh
    suffices H : ∃ v, K v ∧ F13.qcall f args h (· = v) from H
    unfold F13.qcall at hh ⊢
    split at hh
    · exact ⟨_, hh, rfl⟩
    · exact hh.elim
  qcall := by
    intro f args h v hh w hw
    change F13.qcall f args h (· = v) at hh
    unfold F13.qcall at hh
    split at hh
    · subst hh; exact .inr (ext_run Tryd.func32 (by kernel_rfl) (by kernel_rfl) (by kernel_rfl) (e := Extern.MathFloatBits.float64bits) (by kernel_rfl) (by rfl))
    · exact hh.elim
noncomputable def F13.code : Code := (Tryd.f13.body).getD .skip
def F13.ann : Ann := .auto
set_option maxRecDepth 100000 in
theorem F13.eq (a1 : Nat) (h : Heap) (K : Int → Heap → Prop) : evF F13.ctx Tryd.f13 F13.ann [(.float .f64 a1)] h (F13.ret K) = F13 a1 h K := by kernel_rfl
set_option maxRecDepth 100000 in
theorem F13.calls {a1 : Nat} {h : Heap} {K : Int → Heap → Prop} (hh : F13 a1 h K) (w : World) (hw : w.heap = h) :
    (callFunc 13 #[(.float .f64 a1)]).run Tryd.prog w = .ok (.enter 13 #[(.float .f64 a1)]) w ∧ Calls Tryd.prog 13 #[(.float .f64 a1)] w fun e w' => ∃ v, e = .returned v ∧ Out w w' ∧ F13.ret K v w'.heap := by
  rw [← F13.eq] at hh
  exact fn_calls (args := [(.float .f64 a1)]) (c := F13.code) F13.ok Tryd.func13 (by kernel_rfl) (by kernel_rfl) (by kernel_rfl) (by kernel_rfl) (loops_ok (l := []) (by kernel_rfl) trivial) hh w hw

/-! ### math/bits.TrailingZeros64: function 33 -/
def F33 (a1 : Int) (h : Heap) (K : Int → Heap → Prop) : Prop :=
  ((iteB (a1 == (0 : Int)) (K 64 h) ((0 ≤ (58 : Int) ∧ (0 ≤ ((IntKind.u64.wrap ((bits .and .u64 a1 (IntKind.u64.wrap (0 - a1))) * 285870213051353865)).fdiv (2 ^ 58)) ∧ ((IntKind.u64.wrap ((bits .and .u64 a1 (IntKind.u64.wrap (0 - a1))) * 285870213051353865)).fdiv (2 ^ 58)) < (64 : Int)) ∧ ∃ (x2 : Int), cell h ((⟨1, 0, none⟩ : Addr).add (((IntKind.u64.wrap ((bits .and .u64 a1 (IntKind.u64.wrap (0 - a1))) * 285870213051353865)).fdiv (2 ^ 58)).toNat * 1)) = some (.int .u8 x2) ∧ (K (IntKind.i64.wrap x2) h)))))
def F33.ret (K : Int → Heap → Prop) (v : Value) (h : Heap) : Prop := match v with
  | (.int .i64 r3) => K r3 h
  | _ => False
theorem F33.ret_elim {K : Int → Heap → Prop} {K' : Value → Heap → Prop} {v : Value} {h : Heap} (hk : ∀ r3 h, K r3 h → K' (.int .i64 r3) h) (hh : F33.ret K v h) : K' v h := by
  unfold F33.ret at hh
  split at hh
  · exact hk _ _ hh
  · exact hh.elim
noncomputable def F33.ctx : Ctx := { P := Tryd.prog, call := fun _ _ _ _ => False, qcall := fun _ _ _ _ => False, quiet := fun f => false, loop := fun _ _ _ _ => False }
theorem F33.ok : F33.ctx.OK where
  mixed := by kernel_rfl
  mono := fun hh _ => hh.elim
  call := fun hh => hh.elim
  qmono := fun hh _ => hh.elim
  qval := fun hh => hh.elim
  qcall := fun hh => hh.elim
noncomputable def F33.code : Code := (Tryd.f33.body).getD .skip
def F33.ann : Ann := .auto
set_option maxRecDepth 100000 in
theorem F33.eq (a1 : Int) (h : Heap) (K : Int → Heap → Prop) : evF F33.ctx Tryd.f33 F33.ann [(.int .u64 a1)] h (F33.ret K) = F33 a1 h K := by kernel_rfl
set_option maxRecDepth 100000 in
theorem F33.calls {a1 : Int} {h : Heap} {K : Int → Heap → Prop} (hh : F33 a1 h K) (w : World) (hw : w.heap = h) :
    (callFunc 33 #[(.int .u64 a1)]).run Tryd.prog w = .ok (.enter 33 #[(.int .u64 a1)]) w ∧ Calls Tryd.prog 33 #[(.int .u64 a1)] w fun e w' => ∃ v, e = .returned v ∧ Out w w' ∧ F33.ret K v w'.heap := by
  rw [← F33.eq] at hh
  exact fn_calls (args := [(.int .u64 a1)]) (c := F33.code) F33.ok Tryd.func33 (by kernel_rfl) (by kernel_rfl) (by kernel_rfl) (by kernel_rfl) (loops_ok (l := []) (by kernel_rfl) trivial) hh w hw

/-! ### strait/fbit.Parts: function 10 -/
def F10 (a1 : Nat) (h : Heap) (K : Int → Int → Bool → Heap → Prop) : Prop :=
  ((0 ≤ (52 : Int) ∧ (let j7 := (fun (y4 : Int) (y5 : Int) => qcallP1 h (F33 y4 h) fun x6 => (0 ≤ x6 ∧ (K (y4.fdiv (2 ^ (min x6.toNat 64))) (IntKind.i64.wrap ((IntKind.i64.wrap (y5 - 1075)) + x6)) true h)));
  qcallP1 h (F13 a1 h) fun x2 => ((iteB (x2 == (0 : Int)) ((iteB (x2 == (0 : Int)) (K 0 0 false h) ((iteB (x2 == (2 : Int)) (K 0 0 true h) ((iteB (x2 == (3 : Int)) (((j7 (bits .and .u64 (bits .andNot .u64 (a1 : Int) 9223372036854775808) 4503599627370495) 1))) ((iteB (x2 == (4 : Int)) (((j7 (bits .or .u64 (bits .and .u64 (bits .andNot .u64 (a1 : Int) 9223372036854775808) 4503599627370495) 4503599627370496) (IntKind.i64.wrap ((bits .andNot .u64 (a1 : Int) 9223372036854775808).fdiv (2 ^ 52)))))) (((j7 (bits .and .u64 (bits .andNot .u64 (a1 : Int) 9223372036854775808) 4503599627370495) (IntKind.i64.wrap ((bits .andNot .u64 (a1 : Int) 9223372036854775808).fdiv (2 ^ 52)))))))))))))) ((iteB (x2 == (1 : Int)) (K 0 0 false h) ((iteB (x2 == (2 : Int)) (K 0 0 true h) ((iteB (x2 == (3 : Int)) (((j7 (bits .and .u64 (bits .andNot .u64 (a1 : Int) 9223372036854775808) 4503599627370495) 1))) ((iteB (x2 == (4 : Int)) (((j7 (bits .or .u64 (bits .and .u64 (bits .andNot .u64 (a1 : Int) 9223372036854775808) 4503599627370495) 4503599627370496) (IntKind.i64.wrap ((bits .andNot .u64 (a1 : Int) 9223372036854775808).fdiv (2 ^ 52)))))) (((j7 (bits .and .u64 (bits .andNot .u64 (a1 : Int) 9223372036854775808) 4503599627370495) (IntKind.i64.wrap ((bits .andNot .u64 (a1 : Int) 9223372036854775808).fdiv (2 ^ 52)))))))))))))))))))
def F10.ret (K : Int → Int → Bool → Heap → Prop) (v : Value) (h : Heap) : Prop := match v with
  | (.tuple ⟨[(.int .u64 r8), (.int .i64 r9), (.bool r10)]⟩) => K r8 r9 r10 h
  | _ => False
theorem F10.ret_elim {K : Int → Int → Bool → Heap → Prop} {K' : Value → Heap → Prop} {v : Value} {h : Heap} (hk : ∀ r8 r9 r10 h, K r8 r9 r10 h → K' (.tuple #[(.int .u64 r8), (.int .i64 r9), (.bool r10)]) h) (hh : F10.ret K v h) : K' v h := by
  unfold F10.ret at hh
  split at hh
  · exact hk _ _ _ _ hh
  · exact hh.elim
def F10.qcall (f : FuncId) (vs : List Value) (h : Heap) (K : Value → Prop) : Prop := match f, vs with
  | 13, [(.float .f64 a1)] => qcallP1 h (F13 a1 h) fun r2 => K (.int .i64 r2)
  | 32, [(.float .f64 a1)] => K (.int .u64 (a1 : Int))
  | 33, [(.int .u64 a1)] => qcallP1 h (F33 a1 h) fun r3 => K (.int .i64 r3)
  | _, _ => False
noncomputable def F10.ctx : Ctx := { P := Tryd.prog, call := fun _ _ _ _ => False, qcall := F10.qcall, quiet := fun f => Nat.beq f 13 || Nat.beq f 32 || Nat.beq f 33, loop := fun _ _ _ _ => False }
theorem F10.ok : F10.ctx.OK where
  mixed := by kernel_rfl
  mono := fun hh _ => hh.elim
  call := fun hh => hh.elim
  qmono := by
    intro f args h K K' hh hk
    change F10.qcall f args h K at hh
    change F10.qcall f args h K'
    unfold F10.qcall at hh ⊢
    split at hh
    · obtain ⟨x0, h1, h2⟩ := hh
      exact ⟨x0, h1, hk _ h2⟩
    · exact hk _ hh
    · obtain ⟨x0, h1, h2⟩ := hh
      exact ⟨x0, h1, hk _ h2⟩
    · exact hh.elim
  qval := by
    intro f args h K hh
    change F10.qcall f args h K at hh
    suffices H : ∃ v, K v ∧ F10.qcall f args h (· = v) from H
    unfold F10.qcall at hh ⊢
    split at hh
    · obtain ⟨x0, h1, h2⟩ := hh
      exact ⟨_, h2, x0, h1, rfl⟩
    · exact ⟨_, hh, rfl⟩
    · obtain ⟨x0, h1, h2⟩ := hh
      exact ⟨_, h2, x0, h1, rfl⟩
    · exact hh.elim
  qcall := by
    intro f args h v hh w hw
    change F10.qcall f args h (· = v) at hh
    unfold F10.qcall at hh
    split at hh
    · obtain ⟨x0, h1, h2⟩ := hh
      obtain ⟨g1, g2⟩ := F13.calls h1 w hw
      refine .inl ⟨g1, g2.mono fun e w' ⟨u, he, ho, hr⟩ => ?_⟩
      have hq := F13.ret_elim (K' := fun u h' => u = v ∧ h' = h) (fun _ h' hr => by obtain ⟨rfl, rfl⟩ := hr; exact ⟨h2, rfl⟩) hr
      exact ⟨hq.1 ▸ he, ho, hq.2⟩
    · subst hh; exact .inr (ext_run Tryd.func32 (by kernel_rfl) (by kernel_rfl) (by kernel_rfl) (e := Extern.MathFloatBits.float64bits) (by kernel_rfl) (by rfl))
    · obtain ⟨x0, h1, h2⟩ := hh
      obtain ⟨g1, g2⟩ := F33.calls h1 w hw
      refine .inl ⟨g1, g2.mono fun e w' ⟨u, he, ho, hr⟩ => ?_⟩
      have hq := F33.ret_elim (K' := fun u h' => u = v ∧ h' = h) (fun _ h' hr => by obtain ⟨rfl, rfl⟩ := hr; exact ⟨h2, rfl⟩) hr
      exact ⟨hq.1 ▸ he, ho, hq.2⟩
    · exact hh.elim
noncomputable def F10.code : Code := (Tryd.f10.body).getD .skip
def F10.ann : Ann := .auto
set_option maxRecDepth 100000 in
theorem F10.eq (a1 : Nat) (h : Heap) (K : Int → Int → Bool → Heap → Prop) : evF F10.ctx Tryd.f10 F10.ann [(.float .f64 a1)] h (F10.ret K) = F10 a1 h K := by kernel_rfl
set_option maxRecDepth 100000 in
theorem F10.calls {a1 : Nat} {h : Heap} {K : Int → Int → Bool → Heap → Prop} (hh : F10 a1 h K) (w : World) (hw : w.heap = h) :
    (callFunc 10 #[(.float .f64 a1)]).run Tryd.prog w = .ok (.enter 10 #[(.float .f64 a1)]) w ∧ Calls Tryd.prog 10 #[(.float .f64 a1)] w fun e w' => ∃ v, e = .returned v ∧ Out w w' ∧ F10.ret K v w'.heap := by
  rw [← F10.eq] at hh
  exact fn_calls (args := [(.float .f64 a1)]) (c := F10.code) F10.ok Tryd.func10 (by kernel_rfl) (by kernel_rfl) (by kernel_rfl) (by kernel_rfl) (loops_ok (l := []) (by kernel_rfl) trivial) hh w hw

/-! ### strait/fbit.Bits: function 11 -/
def F11 (a1 : Nat) (h : Heap) (K : Int → Heap → Prop) : Prop :=
  ((iteB (FloatKind.f64.format.order a1 a1 != some .eq) (K 9221120237041090560 h) (((K (a1 : Int) h)))))
def F11.ret (K : Int → Heap → Prop) (v : Value) (h : Heap) : Prop := match v with
  | (.int .u64 r2) => K r2 h
  | _ => False
theorem F11.ret_elim {K : Int → Heap → Prop} {K' : Value → Heap → Prop} {v : Value} {h : Heap} (hk : ∀ r2 h, K r2 h → K' (.int .u64 r2) h) (hh : F11.ret K v h) : K' v h := by
  unfold F11.ret at hh
  split at hh
  · exact hk _ _ hh
  · exact hh.elim
def F11.qcall (f : FuncId) (vs : List Value) (h : Heap) (K : Value → Prop) : Prop := match f, vs with
  | 32, [(.float .f64 a1)] => K (.int .u64 (a1 : Int))
  | _, _ => False
noncomputable def F11.ctx : Ctx := { P := Tryd.prog, call := fun _ _ _ _ => False, qcall := F11.qcall, quiet := fun f => Nat.beq f 32, loop := fun _ _ _ _ => False }
theorem F11.ok : F11.ctx.OK where
  mixed := by kernel_rfl
  mono := fun hh _ => hh.elim
  call := fun hh => hh.elim
  qmono := by
    intro f args h K K' hh hk
    change F11.qcall f args h K at hh
    change F11.qcall f args h K'
    unfold F11.qcall at hh ⊢
    split at hh
    · exact hk _ hh
    · exact hh.elim
  qval := by
    intro f args h K hh
    change F11.qcall f args h K at hh
    suffices H : ∃ v, K v ∧ F11.qcall f args h (· = v) from H
    unfold F11.qcall at hh ⊢
    split at hh
    · exact ⟨_, hh, rfl⟩
    · exact hh.elim
  qcall := by
    intro f args h v hh w hw
    change F11.qcall f args h (· = v) at hh
    unfold F11.qcall at hh
    split at hh
    · subst hh; exact .inr (ext_run Tryd.func32 (by kernel_rfl) (by kernel_rfl) (by kernel_rfl) (e := Extern.MathFloatBits.float64bits) (by kernel_rfl) (by rfl))
    · exact hh.elim
noncomputable def F11.code : Code := (Tryd.f11.body).getD .skip
def F11.ann : Ann := .auto
set_option maxRecDepth 100000 in
theorem F11.eq (a1 : Nat) (h : Heap) (K : Int → Heap → Prop) : evF F11.ctx Tryd.f11 F11.ann [(.float .f64 a1)] h (F11.ret K) = F11 a1 h K := by kernel_rfl
set_option maxRecDepth 100000 in
theorem F11.calls {a1 : Nat} {h : Heap} {K : Int → Heap → Prop} (hh : F11 a1 h K) (w : World) (hw : w.heap = h) :
    (callFunc 11 #[(.float .f64 a1)]).run Tryd.prog w = .ok (.enter 11 #[(.float .f64 a1)]) w ∧ Calls Tryd.prog 11 #[(.float .f64 a1)] w fun e w' => ∃ v, e = .returned v ∧ Out w w' ∧ F11.ret K v w'.heap := by
  rw [← F11.eq] at hh
  exact fn_calls (args := [(.float .f64 a1)]) (c := F11.code) F11.ok Tryd.func11 (by kernel_rfl) (by kernel_rfl) (by kernel_rfl) (by kernel_rfl) (loops_ok (l := []) (by kernel_rfl) trivial) hh w hw

/-! ### strait/straitref02.Kind: function 14 -/
def F14 (a1 : Int) (h : Heap) (K : Int → Heap → Prop) : Prop :=
  (0 ≤ (52 : Int) ∧ (let j4 : Prop := ((iteB ((bits .and .u64 (a1.fdiv (2 ^ 52)) 2047) == (2047 : Int)) (K 1 h) ((iteB ((bits .and .u64 (a1.fdiv (2 ^ 52)) 2047) == (0 : Int)) ((iteB ((bits .and .u64 a1 4503599627370495) == (0 : Int)) (K 2 h) (((iteB ((bits .and .u64 (a1.fdiv (2 ^ 52)) 2047) == (0 : Int)) (K 3 h) (K 4 h)))))) ((((iteB ((bits .and .u64 (a1.fdiv (2 ^ 52)) 2047) == (0 : Int)) (K 3 h) (K 4 h)))))))));
  iteB ((bits .and .u64 (a1.fdiv (2 ^ 52)) 2047) == (2047 : Int)) ((iteB ((bits .and .u64 a1 4503599627370495) != (0 : Int)) (K 0 h) ((j4)))) (((j4)))))
def F14.ret (K : Int → Heap → Prop) (v : Value) (h : Heap) : Prop := match v with
  | (.int .i64 r5) => K r5 h
  | _ => False
theorem F14.ret_elim {K : Int → Heap → Prop} {K' : Value → Heap → Prop} {v : Value} {h : Heap} (hk : ∀ r5 h, K r5 h → K' (.int .i64 r5) h) (hh : F14.ret K v h) : K' v h := by
  unfold F14.ret at hh
  split at hh
  · exact hk _ _ hh
  · exact hh.elim
noncomputable def F14.ctx : Ctx := { P := Tryd.prog, call := fun _ _ _ _ => False, qcall := fun _ _ _ _ => False, quiet := fun f => false, loop := fun _ _ _ _ => False }
theorem F14.ok : F14.ctx.OK where
  mixed := by kernel_rfl
  mono := fun hh _ => hh.elim
  call := fun hh => hh.elim
  qmono := fun hh _ => hh.elim
  qval := fun hh => hh.elim
  qcall := fun hh => hh.elim
noncomputable def F14.code : Code := (Tryd.f14.body).getD .skip
def F14.ann : Ann := .auto
set_option maxRecDepth 100000 in
theorem F14.eq (a1 : Int) (h : Heap) (K : Int → Heap → Prop) : evF F14.ctx Tryd.f14 F14.ann [(.int .u64 a1)] h (F14.ret K) = F14 a1 h K := by kernel_rfl
set_option maxRecDepth 100000 in
theorem F14.calls {a1 : Int} {h : Heap} {K : Int → Heap → Prop} (hh : F14 a1 h K) (w : World) (hw : w.heap = h) :
    (callFunc 14 #[(.int .u64 a1)]).run Tryd.prog w = .ok (.enter 14 #[(.int .u64 a1)]) w ∧ Calls Tryd.prog 14 #[(.int .u64 a1)] w fun e w' => ∃ v, e = .returned v ∧ Out w w' ∧ F14.ret K v w'.heap := by
  rw [← F14.eq] at hh
  exact fn_calls (args := [(.int .u64 a1)]) (c := F14.code) F14.ok Tryd.func14 (by kernel_rfl) (by kernel_rfl) (by kernel_rfl) (by kernel_rfl) (loops_ok (l := []) (by kernel_rfl) trivial) hh w hw

/-! ### strait/straitref02.Bits: function 12 -/
def F12 (a1 : Int) (h : Heap) (K : Int → Heap → Prop) : Prop :=
  (qcallP1 h (F14 a1 h) fun x2 => (iteB (x2 == (0 : Int)) (K 9221120237041090560 h) (K a1 h)))
def F12.ret (K : Int → Heap → Prop) (v : Value) (h : Heap) : Prop := match v with
  | (.int .u64 r3) => K r3 h
  | _ => False
theorem F12.ret_elim {K : Int → Heap → Prop} {K' : Value → Heap → Prop} {v : Value} {h : Heap} (hk : ∀ r3 h, K r3 h → K' (.int .u64 r3) h) (hh : F12.ret K v h) : K' v h := by
  unfold F12.ret at hh
  split at hh
  · exact hk _ _ hh
  · exact hh.elim
def F12.qcall (f : FuncId) (vs : List Value) (h : Heap) (K : Value → Prop) : Prop := match f, vs with
  | 14, [(.int .u64 a1)] => qcallP1 h (F14 a1 h) fun r5 => K (.int .i64 r5)
  | _, _ => False
noncomputable def F12.ctx : Ctx := { P := Tryd.prog, call := fun _ _ _ _ => False, qcall := F12.qcall, quiet := fun f => Nat.beq f 14, loop := fun _ _ _ _ => False }
theorem F12.ok : F12.ctx.OK where
  mixed := by kernel_rfl
  mono := fun hh _ => hh.elim
  call := fun hh => hh.elim
  qmono := by
    intro f args h K K' hh hk
    change F12.qcall f args h K at hh
    change F12.qcall f args h K'
    unfold F12.qcall at hh ⊢
    split at hh
    · obtain ⟨x0, h1, h2⟩ := hh
      exact ⟨x0, h1, hk _ h2⟩
    · exact hh.elim
  qval := by
    intro f args h K hh
    change F12.qcall f args h K at hh
    suffices H : ∃ v, K v ∧ F12.qcall f args h (· = v) from H
    unfold F12.qcall at hh ⊢
    split at hh
    · obtain ⟨x0, h1, h2⟩ := hh
      exact ⟨_, h2, x0, h1, rfl⟩
    · exact hh.elim
  qcall := by
    intro f args h v hh w hw
    change F12.qcall f args h (· = v) at hh
    unfold F12.qcall at hh
    split at hh
    · obtain ⟨x0, h1, h2⟩ := hh
      obtain ⟨g1, g2⟩ := F14.calls h1 w hw
      refine .inl ⟨g1, g2.mono fun e w' ⟨u, he, ho, hr⟩ => ?_⟩
      have hq := F14.ret_elim (K' := fun u h' => u = v ∧ h' = h) (fun _ h' hr => by obtain ⟨rfl, rfl⟩ := hr; exact ⟨h2, rfl⟩) hr
      exact ⟨hq.1 ▸ he, ho, hq.2⟩
    · exact hh.elim
noncomputable def F12.code : Code := (Tryd.f12.body).getD .skip
def F12.ann : Ann := .auto
set_option maxRecDepth 100000 in
theorem F12.eq (a1 : Int) (h : Heap) (K : Int → Heap → Prop) : evF F12.ctx Tryd.f12 F12.ann [(.int .u64 a1)] h (F12.ret K) = F12 a1 h K := by kernel_rfl
set_option maxRecDepth 100000 in
theorem F12.calls {a1 : Int} {h : Heap} {K : Int → Heap → Prop} (hh : F12 a1 h K) (w : World) (hw : w.heap = h) :
    (callFunc 12 #[(.int .u64 a1)]).run Tryd.prog w = .ok (.enter 12 #[(.int .u64 a1)]) w ∧ Calls Tryd.prog 12 #[(.int .u64 a1)] w fun e w' => ∃ v, e = .returned v ∧ Out w w' ∧ F12.ret K v w'.heap := by
  rw [← F12.eq] at hh
  exact fn_calls (args := [(.int .u64 a1)]) (c := F12.code) F12.ok Tryd.func12 (by kernel_rfl) (by kernel_rfl) (by kernel_rfl) (by kernel_rfl) (loops_ok (l := []) (by kernel_rfl) trivial) hh w hw

/-! ### math.Signbit: function 34 -/
def F34 (a1 : Nat) (h : Heap) (K : Bool → Heap → Prop) : Prop :=
  ((K (decide ((IntKind.i64.wrap (a1 : Int)) < (0 : Int))) h))
def F34.ret (K : Bool → Heap → Prop) (v : Value) (h : Heap) : Prop := match v with
  | (.bool r2) => K r2 h
  | _ => False
theorem F34.ret_elim {K : Bool → Heap → Prop} {K' : Value → Heap → Prop} {v : Value} {h : Heap} (hk : ∀ r2 h, K r2 h → K' (.bool r2) h) (hh : F34.ret K v h) : K' v h := by
  unfold F34.ret at hh
  split at hh
  · exact hk _ _ hh
  · exact hh.elim
def F34.qcall (f : FuncId) (vs : List Value) (h : Heap) (K : Value → Prop) : Prop := match f, vs with
  | 32, [(.float .f64 a1)] => K (.int .u64 (a1 : Int))
  | _, _ => False
noncomputable def F34.ctx : Ctx := { P := Tryd.prog, call := fun _ _ _ _ => False, qcall := F34.qcall, quiet := fun f => Nat.beq f 32, loop := fun _ _ _ _ => False }
theorem F34.ok : F34.ctx.OK where
  mixed := by kernel_rfl
  mono := fun hh _ => hh.elim
  call := fun hh => hh.elim
  qmono := by
    intro f args h K K' hh hk
    change F34.qcall f args h K at hh
    change F34.qcall f args h K'
    unfold F34.qcall at hh ⊢
    split at hh
    · exact hk _ hh
    · exact hh.elim
  qval := by
    intro f args h K hh
    change F34.qcall f args h K at hh
    suffices H : ∃ v, K v ∧ F34.qcall f args h (· = v) from H
    unfold F34.qcall at hh ⊢
    split at hh
    · exact ⟨_, hh, rfl⟩
    · exact hh.elim
  qcall := by
    intro f args h v hh w hw
    change F34.qcall f args h (· = v) at hh
    unfold F34.qcall at hh
    split at hh
    · subst hh; exact .inr (ext_run Tryd.func32 (by kernel_rfl) (by kernel_rfl) (by kernel_rfl) (e := Extern.MathFloatBits.float64bits) (by kernel_rfl) (by rfl))
    · exact hh.elim
noncomputable def F34.code : Code := (Tryd.f34.body).getD .skip
def F34.ann : Ann := .auto
set_option maxRecDepth 100000 in
theorem F34.eq (a1 : Nat) (h : Heap) (K : Bool → Heap → Prop) : evF F34.ctx Tryd.f34 F34.ann [(.float .f64 a1)] h (F34.ret K) = F34 a1 h K := by kernel_rfl
set_option maxRecDepth 100000 in
theorem F34.calls {a1 : Nat} {h : Heap} {K : Bool → Heap → Prop} (hh : F34 a1 h K) (w : World) (hw : w.heap = h) :
    (callFunc 34 #[(.float .f64 a1)]).run Tryd.prog w = .ok (.enter 34 #[(.float .f64 a1)]) w ∧ Calls Tryd.prog 34 #[(.float .f64 a1)] w fun e w' => ∃ v, e = .returned v ∧ Out w w' ∧ F34.ret K v w'.heap := by
  rw [← F34.eq] at hh
  exact fn_calls (args := [(.float .f64 a1)]) (c := F34.code) F34.ok Tryd.func34 (by kernel_rfl) (by kernel_rfl) (by kernel_rfl) (by kernel_rfl) (loops_ok (l := []) (by kernel_rfl) trivial) hh w hw

/-! ### strait/fbit.Neg: function 15 -/
def F15 (a1 : Nat) (h : Heap) (K : Bool → Heap → Prop) : Prop :=
  (iteB (FloatKind.f64.format.order a1 a1 == some .eq) (qcallP1 h (F34 a1 h) fun x2 => K x2 h) (K false h))
def F15.ret (K : Bool → Heap → Prop) (v : Value) (h : Heap) : Prop := match v with
  | (.bool r4) => K r4 h
  | _ => False
theorem F15.ret_elim {K : Bool → Heap → Prop} {K' : Value → Heap → Prop} {v : Value} {h : Heap} (hk : ∀ r4 h, K r4 h → K' (.bool r4) h) (hh : F15.ret K v h) : K' v h := by
  unfold F15.ret at hh
  split at hh
  · exact hk _ _ hh
  · exact hh.elim
def F15.qcall (f : FuncId) (vs : List Value) (h : Heap) (K : Value → Prop) : Prop := match f, vs with
  | 34, [(.float .f64 a1)] => qcallP1 h (F34 a1 h) fun r2 => K (.bool r2)
  | _, _ => False
noncomputable def F15.ctx : Ctx := { P := Tryd.prog, call := fun _ _ _ _ => False, qcall := F15.qcall, quiet := fun f => Nat.beq f 34, loop := fun _ _ _ _ => False }
theorem F15.ok : F15.ctx.OK where
  mixed := by kernel_rfl
  mono := fun hh _ => hh.elim
  call := fun hh => hh.elim
  qmono := by
    intro f args h K K' hh hk
    change F15.qcall f args h K at hh
    change F15.qcall f args h K'
    unfold F15.qcall at hh ⊢
    split at hh
    · obtain ⟨x0, h1, h2⟩ := hh
      exact ⟨x0, h1, hk _ h2⟩
    · exact hh.elim
  qval := by
    intro f args h K hh
    change F15.qcall f args h K at hh
    suffices H : ∃ v, K v ∧ F15.qcall f args h (· = v) from H
    unfold F15.qcall at hh ⊢
    split at hh
    · obtain ⟨x0, h1, h2⟩ := hh
      exact ⟨_, h2, x0, h1, rfl⟩
    · exact hh.elim
  qcall := by
    intro f args h v hh w hw
    change F15.qcall f args h (· = v) at hh
    unfold F15.qcall at hh
    split at hh
    · obtain ⟨x0, h1, h2⟩ := hh
      obtain ⟨g1, g2⟩ := F34.calls h1 w hw
      refine .inl ⟨g1, g2.mono fun e w' ⟨u, he, ho, hr⟩ => ?_⟩
      have hq := F34.ret_elim (K' := fun u h' => u = v ∧ h' = h) (fun _ h' hr => by obtain ⟨rfl, rfl⟩ := hr; exact ⟨h2, rfl⟩) hr
      exact ⟨hq.1 ▸ he, ho, hq.2⟩
    · exact hh.elim
noncomputable def F15.code : Code := (Tryd.f15.body).getD .skip
def F15.ann : Ann := .auto
set_option maxRecDepth 100000 in
theorem F15.eq (a1 : Nat) (h : Heap) (K : Bool → Heap → Prop) : evF F15.ctx Tryd.f15 F15.ann [(.float .f64 a1)] h (F15.ret K) = F15 a1 h K := by kernel_rfl
set_option maxRecDepth 100000 in
theorem F15.calls {a1 : Nat} {h : Heap} {K : Bool → Heap → Prop} (hh : F15 a1 h K) (w : World) (hw : w.heap = h) :
    (callFunc 15 #[(.float .f64 a1)]).run Tryd.prog w = .ok (.enter 15 #[(.float .f64 a1)]) w ∧ Calls Tryd.prog 15 #[(.float .f64 a1)] w fun e w' => ∃ v, e = .returned v ∧ Out w w' ∧ F15.ret K v w'.heap := by
  rw [← F15.eq] at hh
  exact fn_calls (args := [(.float .f64 a1)]) (c := F15.code) F15.ok Tryd.func15 (by kernel_rfl) (by kernel_rfl) (by kernel_rfl) (by kernel_rfl) (loops_ok (l := []) (by kernel_rfl) trivial) hh w hw

/-! ### strait/straitref02.Neg: function 16 -/
def F16 (a1 : Int) (h : Heap) (K : Bool → Heap → Prop) : Prop :=
  (qcallP1 h (F14 a1 h) fun x2 => iteB (x2 != (0 : Int)) (0 ≤ (63 : Int) ∧ (K ((a1.fdiv (2 ^ 63)) == (1 : Int)) h)) (K false h))
def F16.ret (K : Bool → Heap → Prop) (v : Value) (h : Heap) : Prop := match v with
  | (.bool r4) => K r4 h
  | _ => False
theorem F16.ret_elim {K : Bool → Heap → Prop} {K' : Value → Heap → Prop} {v : Value} {h : Heap} (hk : ∀ r4 h, K r4 h → K' (.bool r4) h) (hh : F16.ret K v h) : K' v h := by
  unfold F16.ret at hh
  split at hh
  · exact hk _ _ hh
  · exact hh.elim
def F16.qcall (f : FuncId) (vs : List Value) (h : Heap) (K : Value → Prop) : Prop := match f, vs with
  | 14, [(.int .u64 a1)] => qcallP1 h (F14 a1 h) fun r5 => K (.int .i64 r5)
  | _, _ => False
noncomputable def F16.ctx : Ctx := { P := Tryd.prog, call := fun _ _ _ _ => False, qcall := F16.qcall, quiet := fun f => Nat.beq f 14, loop := fun _ _ _ _ => False }
theorem F16.ok : F16.ctx.OK where
  mixed := by kernel_rfl
  mono := fun hh _ => hh.elim
  call := fun hh => hh.elim
  qmono := by
    intro f args h K K' hh hk
    change F16.qcall f args h K at hh
    change F16.qcall f args h K'
    unfold F16.qcall at hh ⊢
    split at hh
    · obtain ⟨x0, h1, h2⟩ := hh
      exact ⟨x0, h1, hk _ h2⟩
    · exact hh.elim
  qval := by
    intro f args h K hh
    change F16.qcall f args h K at hh
    suffices H : ∃ v, K v ∧ F16.qcall f args h (· = v) from H
    unfold F16.qcall at hh ⊢
    split at hh
    · obtain ⟨x0, h1, h2⟩ := hh
      exact ⟨_, h2, x0, h1, rfl⟩
    · exact hh.elim
  qcall := by
    intro f args h v hh w hw
    change F16.qcall f args h (· = v) at hh
    unfold F16.qcall at hh
    split at hh
    · obtain ⟨x0, h1, h2⟩ := hh
      obtain ⟨g1, g2⟩ := F14.calls h1 w hw
      refine .inl ⟨g1, g2.mono fun e w' ⟨u, he, ho, hr⟩ => ?_⟩
      have hq := F14.ret_elim (K' := fun u h' => u = v ∧ h' = h) (fun _ h' hr => by obtain ⟨rfl, rfl⟩ := hr; exact ⟨h2, rfl⟩) hr
      exact ⟨hq.1 ▸ he, ho, hq.2⟩
    · exact hh.elim
noncomputable def F16.code : Code := (Tryd.f16.body).getD .skip
def F16.ann : Ann := .auto
set_option maxRecDepth 100000 in
theorem F16.eq (a1 : Int) (h : Heap) (K : Bool → Heap → Prop) : evF F16.ctx Tryd.f16 F16.ann [(.int .u64 a1)] h (F16.ret K) = F16 a1 h K := by kernel_rfl
set_option maxRecDepth 100000 in
theorem F16.calls {a1 : Int} {h : Heap} {K : Bool → Heap → Prop} (hh : F16 a1 h K) (w : World) (hw : w.heap = h) :
    (callFunc 16 #[(.int .u64 a1)]).run Tryd.prog w = .ok (.enter 16 #[(.int .u64 a1)]) w ∧ Calls Tryd.prog 16 #[(.int .u64 a1)] w fun e w' => ∃ v, e = .returned v ∧ Out w w' ∧ F16.ret K v w'.heap := by
  rw [← F16.eq] at hh
  exact fn_calls (args := [(.int .u64 a1)]) (c := F16.code) F16.ok Tryd.func16 (by kernel_rfl) (by kernel_rfl) (by kernel_rfl) (by kernel_rfl) (loops_ok (l := []) (by kernel_rfl) trivial) hh w hw

/-! ### strait/straitref02.Parts: function 17 -/
def F17.b0 (K3 : Int → Int → Heap → Prop) (cont : Addr → Int → Int → Heap → Prop) (c2_1001 : Addr) (v3_1002 : Int) (v4_1003 : Int) (h1004 : Heap) : Prop :=
  (2 : Int) ≠ 0 ∧ (iteB ((v4_1003.tmod 2) == (0 : Int)) (((2 : Int) ≠ 0 ∧ ((cont c2_1001 (IntKind.i64.wrap (v3_1002 + 1)) (IntKind.u64.wrap (v4_1003.tdiv 2)) h1004)))) (K3 v3_1002 v4_1003 h1004))
def F17.l0 (K3 : Int → Int → Heap → Prop) : Nat → Addr → Int → Int → Heap → Prop
  | 0, _, _, _, _ => False
  | m + 1, c2_1001, v3_1002, v4_1003, h => F17.b0 K3 (F17.l0 K3 m) c2_1001 v3_1002 v4_1003 h
def F17 (a1 : Int) (h : Heap) (K : Int → Int → Bool → Heap → Prop) : Prop :=
  newP h (.cells #[(.int .u64 0), (.int .i64 0), (.bool false)] 35) fun a2 h3 => (0 ≤ (52 : Int) ∧ (let j31 := (fun (y19 : Int) (y20 : Int) => (∃ m24, F17.l0 (fun z21 z22 h23 => ((stC h23 a2 (.int .u64 z22) fun h25 => stC h25 (a2.add 1) (.int .i64 z21) fun h26 => stC h26 (a2.add 2) (.bool true) fun h27 => (∃ (x28 : Int), cell h27 a2 = some (.int .u64 x28) ∧ ∃ (x29 : Int), cell h27 (a2.add 1) = some (.int .i64 x29) ∧ ∃ (x30 : Bool), cell h27 (a2.add 2) = some (.bool x30) ∧ K x28 x29 x30 h27)))) m24 a2 (IntKind.i64.wrap (y19 - 1075)) y20 h3));
  qcallP1 h3 (F14 a1 h3) fun x4 => (let j18 := (fun (y5 : Bool) => iteB y5 (stC h3 a2 (.int .u64 0) fun h6 => stC h6 (a2.add 1) (.int .i64 0) fun h7 => stC h7 (a2.add 2) (.bool false) fun h8 => (∃ (x9 : Int), cell h8 a2 = some (.int .u64 x9) ∧ ∃ (x10 : Int), cell h8 (a2.add 1) = some (.int .i64 x10) ∧ ∃ (x11 : Bool), cell h8 (a2.add 2) = some (.bool x11) ∧ K x9 x10 x11 h8)) ((iteB (x4 == (2 : Int)) (stC h3 a2 (.int .u64 0) fun h12 => stC h12 (a2.add 1) (.int .i64 0) fun h13 => stC h13 (a2.add 2) (.bool true) fun h14 => (∃ (x15 : Int), cell h14 a2 = some (.int .u64 x15) ∧ ∃ (x16 : Int), cell h14 (a2.add 1) = some (.int .i64 x16) ∧ ∃ (x17 : Bool), cell h14 (a2.add 2) = some (.bool x17) ∧ K x15 x16 x17 h14)) ((iteB (x4 == (3 : Int)) (((j31 1 (bits .and .u64 a1 4503599627370495)))) (((j31 (IntKind.i64.wrap (bits .and .u64 (a1.fdiv (2 ^ 52)) 2047)) (IntKind.u64.wrap ((bits .and .u64 a1 4503599627370495) + 4503599627370496))))))))));
  (iteB (x4 == (0 : Int)) ((j18 (x4 == (0 : Int)))) ((j18 (x4 == (1 : Int))))))))
def F17.ret (K : Int → Int → Bool → Heap → Prop) (v : Value) (h : Heap) : Prop := match v with
  | (.agg ⟨[(.int .u64 r32), (.int .i64 r33), (.bool r34)]⟩) => K r32 r33 r34 h
  | _ => False
theorem F17.ret_elim {K : Int → Int → Bool → Heap → Prop} {K' : Value → Heap → Prop} {v : Value} {h : Heap} (hk : ∀ r32 r33 r34 h, K r32 r33 r34 h → K' (.agg #[(.int .u64 r32), (.int .i64 r33), (.bool r34)]) h) (hh : F17.ret K v h) : K' v h := by
  unfold F17.ret at hh
  split at hh
  · exact hk _ _ _ _ hh
  · exact hh.elim
def F17.qcall (f : FuncId) (vs : List Value) (h : Heap) (K : Value → Prop) : Prop := match f, vs with
  | 14, [(.int .u64 a1)] => qcallP1 h (F14 a1 h) fun r5 => K (.int .i64 r5)
  | _, _ => False
def F17.r0 (K : Nat → List Value → Heap → Prop) (m : Nat) (vs : List Value) (h : Heap) : Prop := match vs with
  | [(.pointer (some c2_1001)), (.int .i64 v3_1002), (.int .u64 v4_1003)] => F17.l0 (fun z35 z36 h' => K 3 [(.pointer (some c2_1001)), (.int .i64 z35), (.int .u64 z36)] h') m c2_1001 v3_1002 v4_1003 h
  | _ => False
def F17.loop (i : Nat) (vs : List Value) (h : Heap) (K : Nat → List Value → Heap → Prop) : Prop := match i with
  | 0 => ∃ m, F17.r0 K m vs h
  | _ => False
noncomputable def F17.ctx : Ctx := { P := Tryd.prog, call := fun _ _ _ _ => False, qcall := F17.qcall, quiet := fun f => Nat.beq f 14, loop := F17.loop }
theorem F17.ok : F17.ctx.OK where
  mixed := by kernel_rfl
  mono := fun hh _ => hh.elim
  call := fun hh => hh.elim
  qmono := by
    intro f args h K K' hh hk
    change F17.qcall f args h K at hh
    change F17.qcall f args h K'
    unfold F17.qcall at hh ⊢
    split at hh
    · obtain ⟨x0, h1, h2⟩ := hh
      exact ⟨x0, h1, hk _ h2⟩
    · exact hh.elim
  qval := by
    intro f args h K hh
    change F17.qcall f args h K at hh
    suffices H : ∃ v, K v ∧ F17.qcall f args h (· = v) from H
    unfold F17.qcall at hh ⊢
    split at hh
    · obtain ⟨x0, h1, h2⟩ := hh
      exact ⟨_, h2, x0, h1, rfl⟩
    · exact hh.elim
  qcall := by
    intro f args h v hh w hw
    change F17.qcall f args h (· = v) at hh
    unfold F17.qcall at hh
    split at hh
    · obtain ⟨x0, h1, h2⟩ := hh
      obtain ⟨g1, g2⟩ := F14.calls h1 w hw
      refine .inl ⟨g1, g2.mono fun e w' ⟨u, he, ho, hr⟩ => ?_⟩
      have hq := F14.ret_elim (K' := fun u h' => u = v ∧ h' = h) (fun _ h' hr => by obtain ⟨rfl, rfl⟩ := hr; exact ⟨h2, rfl⟩) hr
      exact ⟨hq.1 ▸ he, ho, hq.2⟩
    · exact hh.elim
noncomputable def F17.code : Code := (Tryd.f17.body).getD .skip
def F17.ann : Ann := (.two .auto (.two .auto (.two .auto (.two .auto (.two (.two (.loop 0 [2, 3, 4] [(3, [2, 3, 4])] .auto) .auto) .auto)))))
noncomputable def F17.c0 : Code := sub F17.code [1, 1, 1, 1, 0, 0, 0]
def F17.a0 : Ann := .auto
def F17.keep0 : List Nat := [2, 3, 4]
def F17.outs0 : List (Nat × List Nat) := [(3, [2, 3, 4])]
set_option maxRecDepth 100000 in
theorem F17.L0 : LoopOK F17.ctx 36 F17.c0 0 F17.keep0 F17.outs0 := by
  refine loop_ok (n := F17.a0) F17.ok (by kernel_rfl) (loops_ok (l := []) (by kernel_rfl) ?_) F17.r0 ?_ ?_ (fun vs h K hh => hh)
  · exact trivial
  · intro K vs h hh
    unfold F17.r0 at hh
    split at hh
    · exact hh
    · exact hh
  · intro K m vs h hh
    unfold F17.r0 at hh
    split at hh
    · exact cast (by kernel_rfl) hh
    · exact hh.elim
set_option maxRecDepth 100000 in
theorem F17.eq (a1 : Int) (h : Heap) (K : Int → Int → Bool → Heap → Prop) : evF F17.ctx Tryd.f17 F17.ann [(.int .u64 a1)] h (F17.ret K) = F17 a1 h K := by kernel_rfl
set_option maxRecDepth 100000 in
theorem F17.calls {a1 : Int} {h : Heap} {K : Int → Int → Bool → Heap → Prop} (hh : F17 a1 h K) (w : World) (hw : w.heap = h) :
    (callFunc 17 #[(.int .u64 a1)]).run Tryd.prog w = .ok (.enter 17 #[(.int .u64 a1)]) w ∧ Calls Tryd.prog 17 #[(.int .u64 a1)] w fun e w' => ∃ v, e = .returned v ∧ Out w w' ∧ F17.ret K v w'.heap := by
  rw [← F17.eq] at hh
  exact fn_calls (args := [(.int .u64 a1)]) (c := F17.code) F17.ok Tryd.func17 (by kernel_rfl) (by kernel_rfl) (by kernel_rfl) (by kernel_rfl) (loops_ok (l := [(F17.c0, none, 0, F17.keep0, F17.outs0)]) (by kernel_rfl) ⟨F17.L0, trivial⟩) hh w hw

/-! ### strait/straitlaw02.awake: function 18 -/
def F18 (h : Heap) (K : Bool → Heap → Prop) : Prop :=
  (qcallP3 h (F10 4609434218613702656 h) fun x1 x2 x3 => (iteB (x1 == (3 : Int)) (iteB (x2 == ((-1) : Int)) (iteB x3 (qcallP1 h (F13 0 h) fun x4 => iteB (x4 == (2 : Int)) (qcallP1 h (F11 4607182418800017408 h) fun x5 => (K (x5 == (4607182418800017408 : Int)) h)) (K false h)) (K false h)) (K false h)) (K false h)))
def F18.ret (K : Bool → Heap → Prop) (v : Value) (h : Heap) : Prop := match v with
  | (.bool r7) => K r7 h
  | _ => False
theorem F18.ret_elim {K : Bool → Heap → Prop} {K' : Value → Heap → Prop} {v : Value} {h : Heap} (hk : ∀ r7 h, K r7 h → K' (.bool r7) h) (hh : F18.ret K v h) : K' v h := by
  unfold F18.ret at hh
  split at hh
  · exact hk _ _ hh
  · exact hh.elim
def F18.qcall (f : FuncId) (vs : List Value) (h : Heap) (K : Value → Prop) : Prop := match f, vs with
  | 10, [(.float .f64 a1)] => qcallP3 h (F10 a1 h) fun r8 r9 r10 => K (.tuple #[(.int .u64 r8), (.int .i64 r9), (.bool r10)])
  | 11, [(.float .f64 a1)] => qcallP1 h (F11 a1 h) fun r2 => K (.int .u64 r2)
  | 13, [(.float .f64 a1)] => qcallP1 h (F13 a1 h) fun r2 => K (.int .i64 r2)
  | _, _ => False
noncomputable def F18.ctx : Ctx := { P := Tryd.prog, call := fun _ _ _ _ => False, qcall := F18.qcall, quiet := fun f => Nat.beq f 10 || Nat.beq f 11 || Nat.beq f 13, loop := fun _ _ _ _ => False }
theorem F18.ok : F18.ctx.OK where
  mixed := by kernel_rfl
  mono := fun hh _ => hh.elim
  call := fun hh => hh.elim
  qmono := by
    intro f args h K K' hh hk
    change F18.qcall f args h K at hh
    change F18.qcall f args h K'
    unfold F18.qcall at hh ⊢
    split at hh
    · obtain ⟨x0, x1, x2, h1, h2⟩ := hh
      exact ⟨x0, x1, x2, h1, hk _ h2⟩
    · obtain ⟨x0, h1, h2⟩ := hh
      exact ⟨x0, h1, hk _ h2⟩
    · obtain ⟨x0, h1, h2⟩ := hh
      exact ⟨x0, h1, hk _ h2⟩
    · exact hh.elim
  qval := by
    intro f args h K hh
    change F18.qcall f args h K at hh
    suffices H : ∃ v, K v ∧ F18.qcall f args h (· = v) from H
    unfold F18.qcall at hh ⊢
    split at hh
    · obtain ⟨x0, x1, x2, h1, h2⟩ := hh
      exact ⟨_, h2, x0, x1, x2, h1, rfl⟩
    · obtain ⟨x0, h1, h2⟩ := hh
      exact ⟨_, h2, x0, h1, rfl⟩
    · obtain ⟨x0, h1, h2⟩ := hh
      exact ⟨_, h2, x0, h1, rfl⟩
    · exact hh.elim
  qcall := by
    intro f args h v hh w hw
    change F18.qcall f args h (· = v) at hh
    unfold F18.qcall at hh
    split at hh
    · obtain ⟨x0, x1, x2, h1, h2⟩ := hh
      obtain ⟨g1, g2⟩ := F10.calls h1 w hw
      refine .inl ⟨g1, g2.mono fun e w' ⟨u, he, ho, hr⟩ => ?_⟩
      have hq := F10.ret_elim (K' := fun u h' => u = v ∧ h' = h) (fun _ _ _ h' hr => by obtain ⟨rfl, rfl, rfl, rfl⟩ := hr; exact ⟨h2, rfl⟩) hr
      exact ⟨hq.1 ▸ he, ho, hq.2⟩
    · obtain ⟨x0, h1, h2⟩ := hh
      obtain ⟨g1, g2⟩ := F11.calls h1 w hw
      refine .inl ⟨g1, g2.mono fun e w' ⟨u, he, ho, hr⟩ => ?_⟩
      have hq := F11.ret_elim (K' := fun u h' => u = v ∧ h' = h) (fun _ h' hr => by obtain ⟨rfl, rfl⟩ := hr; exact ⟨h2, rfl⟩) hr
      exact ⟨hq.1 ▸ he, ho, hq.2⟩
    · obtain ⟨x0, h1, h2⟩ := hh
      obtain ⟨g1, g2⟩ := F13.calls h1 w hw
      refine .inl ⟨g1, g2.mono fun e w' ⟨u, he, ho, hr⟩ => ?_⟩
      have hq := F13.ret_elim (K' := fun u h' => u = v ∧ h' = h) (fun _ h' hr => by obtain ⟨rfl, rfl⟩ := hr; exact ⟨h2, rfl⟩) hr
      exact ⟨hq.1 ▸ he, ho, hq.2⟩
    · exact hh.elim
noncomputable def F18.code : Code := (Tryd.f18.body).getD .skip
def F18.ann : Ann := .auto
set_option maxRecDepth 100000 in
theorem F18.eq (h : Heap) (K : Bool → Heap → Prop) : evF F18.ctx Tryd.f18 F18.ann [] h (F18.ret K) = F18 h K := by kernel_rfl
set_option maxRecDepth 100000 in
theorem F18.calls {h : Heap} {K : Bool → Heap → Prop} (hh : F18 h K) (w : World) (hw : w.heap = h) :
    (callFunc 18 #[]).run Tryd.prog w = .ok (.enter 18 #[]) w ∧ Calls Tryd.prog 18 #[] w fun e w' => ∃ v, e = .returned v ∧ Out w w' ∧ F18.ret K v w'.heap := by
  rw [← F18.eq] at hh
  exact fn_calls (args := []) (c := F18.code) F18.ok Tryd.func18 (by kernel_rfl) (by kernel_rfl) (by kernel_rfl) (by kernel_rfl) (loops_ok (l := []) (by kernel_rfl) trivial) hh w hw

/-! ### strait/straitlaw02.FbitTells: function 3 -/
def F3 (a1 : Int) (h : Heap) (K : Bool → Heap → Prop) : Prop :=
  (qcallP1 h (F9 a1 h) fun x2 => (qcallP3 h (F10 x2 h) fun x3 x4 x5 => (qcallP1 h (F11 x2 h) fun x6 => qcallP1 h (F12 a1 h) fun x7 => iteB (x6 == x7) (qcallP1 h (F13 x2 h) fun x8 => qcallP1 h (F14 a1 h) fun x9 => iteB (x8 == x9) (qcallP1 h (F15 x2 h) fun x10 => qcallP1 h (F16 a1 h) fun x11 => iteB (x10 == x11) (callP3 (F17 a1 h) fun x12 x13 x14 h15 => iteB (eqAll [(x12 == x3), (x13 == x4), (x14 == x5)]) (qcallP1 h15 (F18 h15) fun x16 => K x16 h15) (K false h15)) (K false h)) (K false h)) (K false h))))
def F3.ret (K : Bool → Heap → Prop) (v : Value) (h : Heap) : Prop := match v with
  | (.bool r19) => K r19 h
  | _ => False
theorem F3.ret_elim {K : Bool → Heap → Prop} {K' : Value → Heap → Prop} {v : Value} {h : Heap} (hk : ∀ r19 h, K r19 h → K' (.bool r19) h) (hh : F3.ret K v h) : K' v h := by
  unfold F3.ret at hh
  split at hh
  · exact hk _ _ hh
  · exact hh.elim
def F3.call (f : FuncId) (vs : List Value) (h : Heap) (K : Value → Heap → Prop) : Prop := match f, vs with
  | 17, [(.int .u64 a1)] => callP3 (F17 a1 h) fun r32 r33 r34 h' => K (.agg #[(.int .u64 r32), (.int .i64 r33), (.bool r34)]) h'
  | _, _ => False
def F3.qcall (f : FuncId) (vs : List Value) (h : Heap) (K : Value → Prop) : Prop := match f, vs with
  | 9, [(.int .u64 a1)] => qcallP1 h (F9 a1 h) fun r2 => K (.float .f64 r2)
  | 10, [(.float .f64 a1)] => qcallP3 h (F10 a1 h) fun r8 r9 r10 => K (.tuple #[(.int .u64 r8), (.int .i64 r9), (.bool r10)])
  | 11, [(.float .f64 a1)] => qcallP1 h (F11 a1 h) fun r2 => K (.int .u64 r2)
  | 12, [(.int .u64 a1)] => qcallP1 h (F12 a1 h) fun r3 => K (.int .u64 r3)
  | 13, [(.float .f64 a1)] => qcallP1 h (F13 a1 h) fun r2 => K (.int .i64 r2)
  | 14, [(.int .u64 a1)] => qcallP1 h (F14 a1 h) fun r5 => K (.int .i64 r5)
  | 15, [(.float .f64 a1)] => qcallP1 h (F15 a1 h) fun r4 => K (.bool r4)
  | 16, [(.int .u64 a1)] => qcallP1 h (F16 a1 h) fun r4 => K (.bool r4)
  | 18, [] => qcallP1 h (F18 h) fun r7 => K (.bool r7)
  | _, _ => False
noncomputable def F3.ctx : Ctx := { P := Tryd.prog, call := F3.call, qcall := F3.qcall, quiet := fun f => Nat.beq f 9 || Nat.beq f 10 || Nat.beq f 11 || Nat.beq f 12 || Nat.beq f 13 || Nat.beq f 14 || Nat.beq f 15 || Nat.beq f 16 || Nat.beq f 18, loop := fun _ _ _ _ => False }
theorem F3.ok : F3.ctx.OK where
  mixed := by kernel_rfl
  mono := by
    intro f args h K K' hh hk
    change F3.call f args h K at hh
    change F3.call f args h K'
    unfold F3.call at hh ⊢
    split at hh
    · obtain ⟨R, h1, h2⟩ := hh
      exact ⟨R, h1, fun _ _ _ x hr => hk _ _ (h2 _ _ _ x hr)⟩
    · exact hh.elim
  call := by
    intro f args h K hh w hw
    change F3.call f args h K at hh
    unfold F3.call at hh
    split at hh
    · obtain ⟨R, h1, h2⟩ := hh
      obtain ⟨g1, g2⟩ := F17.calls h1 w hw
      exact ⟨g1, g2.mono fun e w' ⟨v, he, ho, hr⟩ => ⟨v, he, ho, F17.ret_elim h2 hr⟩⟩
    · exact hh.elim
  qmono := by
    intro f args h K K' hh hk
    change F3.qcall f args h K at hh
    change F3.qcall f args h K'
    unfold F3.qcall at hh ⊢
    split at hh
    · obtain ⟨x0, h1, h2⟩ := hh
      exact ⟨x0, h1, hk _ h2⟩
    · obtain ⟨x0, x1, x2, h1, h2⟩ := hh
      exact ⟨x0, x1, x2, h1, hk _ h2⟩
    · obtain ⟨x0, h1, h2⟩ := hh
      exact ⟨x0, h1, hk _ h2⟩
    · obtain ⟨x0, h1, h2⟩ := hh
      exact ⟨x0, h1, hk _ h2⟩
    · obtain ⟨x0, h1, h2⟩ := hh
      exact ⟨x0, h1, hk _ h2⟩
    · obtain ⟨x0, h1, h2⟩ := hh
      exact ⟨x0, h1, hk _ h2⟩
    · obtain ⟨x0, h1, h2⟩ := hh
      exact ⟨x0, h1, hk _ h2⟩
    · obtain ⟨x0, h1, h2⟩ := hh
      exact ⟨x0, h1, hk _ h2⟩
    · obtain ⟨x0, h1, h2⟩ := hh
      exact ⟨x0, h1, hk _ h2⟩
    · exact hh.elim
  qval := by
    intro f args h K hh
    change F3.qcall f args h K at hh
    suffices H : ∃ v, K v ∧ F3.qcall f args h (· = v) from H
    unfold F3.qcall at hh ⊢
    split at hh
    · obtain ⟨x0, h1, h2⟩ := hh
      exact ⟨_, h2, x0, h1, rfl⟩
    · obtain ⟨x0, x1, x2, h1, h2⟩ := hh
      exact ⟨_, h2, x0, x1, x2, h1, rfl⟩
    · obtain ⟨x0, h1, h2⟩ := hh
      exact ⟨_, h2, x0, h1, rfl⟩
    · obtain ⟨x0, h1, h2⟩ := hh
      exact ⟨_, h2, x0, h1, rfl⟩
    · obtain ⟨x0, h1, h2⟩ := hh
      exact ⟨_, h2, x0, h1, rfl⟩
    · obtain ⟨x0, h1, h2⟩ := hh
      exact ⟨_, h2, x0, h1, rfl⟩
    · obtain ⟨x0, h1, h2⟩ := hh
      exact ⟨_, h2, x0, h1, rfl⟩
    · obtain ⟨x0, h1, h2⟩ := hh
      exact ⟨_, h2, x0, h1, rfl⟩
    · obtain ⟨x0, h1, h2⟩ := hh
      exact ⟨_, h2, x0, h1, rfl⟩
    · exact hh.elim
  qcall := by
    intro f args h v hh w hw
    change F3.qcall f args h (· = v) at hh
    unfold F3.qcall at hh
    split at hh
    · obtain ⟨x0, h1, h2⟩ := hh
      obtain ⟨g1, g2⟩ := F9.calls h1 w hw
      refine .inl ⟨g1, g2.mono fun e w' ⟨u, he, ho, hr⟩ => ?_⟩
      have hq := F9.ret_elim (K' := fun u h' => u = v ∧ h' = h) (fun _ h' hr => by obtain ⟨rfl, rfl⟩ := hr; exact ⟨h2, rfl⟩) hr
      exact ⟨hq.1 ▸ he, ho, hq.2⟩
    · obtain ⟨x0, x1, x2, h1, h2⟩ := hh
      obtain ⟨g1, g2⟩ := F10.calls h1 w hw
      refine .inl ⟨g1, g2.mono fun e w' ⟨u, he, ho, hr⟩ => ?_⟩
      have hq := F10.ret_elim (K' := fun u h' => u = v ∧ h' = h) (fun _ _ _ h' hr => by obtain ⟨rfl, rfl, rfl, rfl⟩ := hr; exact ⟨h2, rfl⟩) hr
      exact ⟨hq.1 ▸ he, ho, hq.2⟩
    · obtain ⟨x0, h1, h2⟩ := hh
      obtain ⟨g1, g2⟩ := F11.calls h1 w hw
      refine .inl ⟨g1, g2.mono fun e w' ⟨u, he, ho, hr⟩ => ?_⟩
      have hq := F11.ret_elim (K' := fun u h' => u = v ∧ h' = h) (fun _ h' hr => by obtain ⟨rfl, rfl⟩ := hr; exact ⟨h2, rfl⟩) hr
      exact ⟨hq.1 ▸ he, ho, hq.2⟩
    · obtain ⟨x0, h1, h2⟩ := hh
      obtain ⟨g1, g2⟩ := F12.calls h1 w hw
      refine .inl ⟨g1, g2.mono fun e w' ⟨u, he, ho, hr⟩ => ?_⟩
      have hq := F12.ret_elim (K' := fun u h' => u = v ∧ h' = h) (fun _ h' hr => by obtain ⟨rfl, rfl⟩ := hr; exact ⟨h2, rfl⟩) hr
      exact ⟨hq.1 ▸ he, ho, hq.2⟩
    · obtain ⟨x0, h1, h2⟩ := hh
      obtain ⟨g1, g2⟩ := F13.calls h1 w hw
      refine .inl ⟨g1, g2.mono fun e w' ⟨u, he, ho, hr⟩ => ?_⟩
      have hq := F13.ret_elim (K' := fun u h' => u = v ∧ h' = h) (fun _ h' hr => by obtain ⟨rfl, rfl⟩ := hr; exact ⟨h2, rfl⟩) hr
      exact ⟨hq.1 ▸ he, ho, hq.2⟩
    · obtain ⟨x0, h1, h2⟩ := hh
      obtain ⟨g1, g2⟩ := F14.calls h1 w hw
      refine .inl ⟨g1, g2.mono fun e w' ⟨u, he, ho, hr⟩ => ?_⟩
      have hq := F14.ret_elim (K' := fun u h' => u = v ∧ h' = h) (fun _ h' hr => by obtain ⟨rfl, rfl⟩ := hr; exact ⟨h2, rfl⟩) hr
      exact ⟨hq.1 ▸ he, ho, hq.2⟩
    · obtain ⟨x0, h1, h2⟩ := hh
      obtain ⟨g1, g2⟩ := F15.calls h1 w hw
      refine .inl ⟨g1, g2.mono fun e w' ⟨u, he, ho, hr⟩ => ?_⟩
      have hq := F15.ret_elim (K' := fun u h' => u = v ∧ h' = h) (fun _ h' hr => by obtain ⟨rfl, rfl⟩ := hr; exact ⟨h2, rfl⟩) hr
      exact ⟨hq.1 ▸ he, ho, hq.2⟩
    · obtain ⟨x0, h1, h2⟩ := hh
      obtain ⟨g1, g2⟩ := F16.calls h1 w hw
      refine .inl ⟨g1, g2.mono fun e w' ⟨u, he, ho, hr⟩ => ?_⟩
      have hq := F16.ret_elim (K' := fun u h' => u = v ∧ h' = h) (fun _ h' hr => by obtain ⟨rfl, rfl⟩ := hr; exact ⟨h2, rfl⟩) hr
      exact ⟨hq.1 ▸ he, ho, hq.2⟩
    · obtain ⟨x0, h1, h2⟩ := hh
      obtain ⟨g1, g2⟩ := F18.calls h1 w hw
      refine .inl ⟨g1, g2.mono fun e w' ⟨u, he, ho, hr⟩ => ?_⟩
      have hq := F18.ret_elim (K' := fun u h' => u = v ∧ h' = h) (fun _ h' hr => by obtain ⟨rfl, rfl⟩ := hr; exact ⟨h2, rfl⟩) hr
      exact ⟨hq.1 ▸ he, ho, hq.2⟩
    · exact hh.elim
noncomputable def F3.code : Code := (Tryd.f3.body).getD .skip
def F3.ann : Ann := .auto
set_option maxRecDepth 100000 in
theorem F3.eq (a1 : Int) (h : Heap) (K : Bool → Heap → Prop) : evF F3.ctx Tryd.f3 F3.ann [(.int .u64 a1)] h (F3.ret K) = F3 a1 h K := by kernel_rfl
set_option maxRecDepth 100000 in
theorem F3.calls {a1 : Int} {h : Heap} {K : Bool → Heap → Prop} (hh : F3 a1 h K) (w : World) (hw : w.heap = h) :
    (callFunc 3 #[(.int .u64 a1)]).run Tryd.prog w = .ok (.enter 3 #[(.int .u64 a1)]) w ∧ Calls Tryd.prog 3 #[(.int .u64 a1)] w fun e w' => ∃ v, e = .returned v ∧ Out w w' ∧ F3.ret K v w'.heap := by
  rw [← F3.eq] at hh
  exact fn_calls (args := [(.int .u64 a1)]) (c := F3.code) F3.ok Tryd.func3 (by kernel_rfl) (by kernel_rfl) (by kernel_rfl) (by kernel_rfl) (loops_ok (l := []) (by kernel_rfl) trivial) hh w hw

/-! ### math/bits.Len64: function 35 -/
def F35 (a1 : Int) (h : Heap) (K : Int → Heap → Prop) : Prop :=
  (let j11 := (fun (y2 : Int) (y3 : Int) => let j10 := (fun (y4 : Int) (y5 : Int) => let j9 := (fun (y6 : Int) (y7 : Int) => 0 ≤ (IntKind.u8.wrap y6) ∧ ∃ b8 : UInt8, (⟨#[0, 1, 2, 2, 3, 3, 3, 3, 4, 4, 4, 4, 4, 4, 4, 4, 5, 5, 5, 5, 5, 5, 5, 5, 5, 5, 5, 5, 5, 5, 5, 5, 6, 6, 6, 6, 6, 6, 6, 6, 6, 6, 6, 6, 6, 6, 6, 6, 6, 6, 6, 6, 6, 6, 6, 6, 6, 6, 6, 6, 6, 6, 6, 6, 7, 7, 7, 7, 7, 7, 7, 7, 7, 7, 7, 7, 7, 7, 7, 7, 7, 7, 7, 7, 7, 7, 7, 7, 7, 7, 7, 7, 7, 7, 7, 7, 7, 7, 7, 7, 7, 7, 7, 7, 7, 7, 7, 7, 7, 7, 7, 7, 7, 7, 7, 7, 7, 7, 7, 7, 7, 7, 7, 7, 7, 7, 7, 7, 8, 8, 8, 8, 8, 8, 8, 8, 8, 8, 8, 8, 8, 8, 8, 8, 8, 8, 8, 8, 8, 8, 8, 8, 8, 8, 8, 8, 8, 8, 8, 8, 8, 8, 8, 8, 8, 8, 8, 8, 8, 8, 8, 8, 8, 8, 8, 8, 8, 8, 8, 8, 8, 8, 8, 8, 8, 8, 8, 8, 8, 8, 8, 8, 8, 8, 8, 8, 8, 8, 8, 8, 8, 8, 8, 8, 8, 8, 8, 8, 8, 8, 8, 8, 8, 8, 8, 8, 8, 8, 8, 8, 8, 8, 8, 8, 8, 8, 8, 8, 8, 8, 8, 8, 8, 8, 8, 8, 8, 8, 8, 8, 8, 8, 8, 8, 8, 8, 8, 8, 8, 8, 8, 8, 8, 8, 8, 8]⟩ : ByteArray)[(IntKind.u8.wrap y6).toNat]? = some b8 ∧ (K (IntKind.i64.wrap (y7 + (IntKind.i64.wrap (b8.toNat : Int)))) h));
  (iteB (decide (y4 ≥ (256 : Int))) (0 ≤ (8 : Int) ∧ ((j9 (y4.fdiv (2 ^ 8)) (IntKind.i64.wrap (y5 + 8))))) ((j9 y4 y5))));
  (iteB (decide (y2 ≥ (65536 : Int))) (0 ≤ (16 : Int) ∧ ((j10 (y2.fdiv (2 ^ 16)) (IntKind.i64.wrap (y3 + 16))))) ((j10 y2 y3))));
  (iteB (decide (a1 ≥ (4294967296 : Int))) (0 ≤ (32 : Int) ∧ ((j11 (a1.fdiv (2 ^ 32)) 32))) ((j11 a1 0))))
def F35.ret (K : Int → Heap → Prop) (v : Value) (h : Heap) : Prop := match v with
  | (.int .i64 r12) => K r12 h
  | _ => False
theorem F35.ret_elim {K : Int → Heap → Prop} {K' : Value → Heap → Prop} {v : Value} {h : Heap} (hk : ∀ r12 h, K r12 h → K' (.int .i64 r12) h) (hh : F35.ret K v h) : K' v h := by
  unfold F35.ret at hh
  split at hh
  · exact hk _ _ hh
  · exact hh.elim
noncomputable def F35.ctx : Ctx := { P := Tryd.prog, call := fun _ _ _ _ => False, qcall := fun _ _ _ _ => False, quiet := fun f => false, loop := fun _ _ _ _ => False }
theorem F35.ok : F35.ctx.OK where
  mixed := by kernel_rfl
  mono := fun hh _ => hh.elim
  call := fun hh => hh.elim
  qmono := fun hh _ => hh.elim
  qval := fun hh => hh.elim
  qcall := fun hh => hh.elim
noncomputable def F35.code : Code := (Tryd.f35.body).getD .skip
def F35.ann : Ann := .auto
set_option maxRecDepth 100000 in
theorem F35.eq (a1 : Int) (h : Heap) (K : Int → Heap → Prop) : evF F35.ctx Tryd.f35 F35.ann [(.int .u64 a1)] h (F35.ret K) = F35 a1 h K := by kernel_rfl
set_option maxRecDepth 100000 in
theorem F35.calls {a1 : Int} {h : Heap} {K : Int → Heap → Prop} (hh : F35 a1 h K) (w : World) (hw : w.heap = h) :
    (callFunc 35 #[(.int .u64 a1)]).run Tryd.prog w = .ok (.enter 35 #[(.int .u64 a1)]) w ∧ Calls Tryd.prog 35 #[(.int .u64 a1)] w fun e w' => ∃ v, e = .returned v ∧ Out w w' ∧ F35.ret K v w'.heap := by
  rw [← F35.eq] at hh
  exact fn_calls (args := [(.int .u64 a1)]) (c := F35.code) F35.ok Tryd.func35 (by kernel_rfl) (by kernel_rfl) (by kernel_rfl) (by kernel_rfl) (loops_ok (l := []) (by kernel_rfl) trivial) hh w hw

/-! ### strait/fbit.Make: function 19 -/
def F19 (a1 : Bool) (a2 : Int) (a3 : Int) (h : Heap) (K : Nat → Bool → Heap → Prop) : Prop :=
  ((let j12 := (fun (y4 : Int) => (iteB (a2 == (0 : Int)) (qcallP1 h (F9 y4 h) fun x5 => K x5 true h) ((qcallP1 h (F33 a2 h) fun x6 => (0 ≤ x6 ∧ (qcallP1 h (F35 (a2.fdiv (2 ^ (min x6.toNat 64))) h) fun x7 => (let j11 : Prop := (((0 ≤ (if (IntKind.i64.wrap ((IntKind.i64.wrap (a3 + x6)) - (-1074))) < (IntKind.i64.wrap (53 - x7)) then (IntKind.i64.wrap ((IntKind.i64.wrap (a3 + x6)) - (-1074))) else (IntKind.i64.wrap (53 - x7))) ∧ ((iteB (decide ((IntKind.u64.wrap ((a2.fdiv (2 ^ (min x6.toNat 64))) * 2 ^ (min (if (IntKind.i64.wrap ((IntKind.i64.wrap (a3 + x6)) - (-1074))) < (IntKind.i64.wrap (53 - x7)) then (IntKind.i64.wrap ((IntKind.i64.wrap (a3 + x6)) - (-1074))) else (IntKind.i64.wrap (53 - x7))).toNat 64))) < (4503599627370496 : Int))) (qcallP1 h (F9 (bits .or .u64 y4 (IntKind.u64.wrap ((a2.fdiv (2 ^ (min x6.toNat 64))) * 2 ^ (min (if (IntKind.i64.wrap ((IntKind.i64.wrap (a3 + x6)) - (-1074))) < (IntKind.i64.wrap (53 - x7)) then (IntKind.i64.wrap ((IntKind.i64.wrap (a3 + x6)) - (-1074))) else (IntKind.i64.wrap (53 - x7))).toNat 64)))) h) fun x9 => K x9 true h) ((0 ≤ (52 : Int) ∧ qcallP1 h (F9 (bits .or .u64 (bits .or .u64 y4 (IntKind.u64.wrap ((IntKind.u64.wrap (IntKind.i64.wrap ((IntKind.i64.wrap ((IntKind.i64.wrap (a3 + x6)) - (if (IntKind.i64.wrap ((IntKind.i64.wrap (a3 + x6)) - (-1074))) < (IntKind.i64.wrap (53 - x7)) then (IntKind.i64.wrap ((IntKind.i64.wrap (a3 + x6)) - (-1074))) else (IntKind.i64.wrap (53 - x7))))) + 1075))) * 2 ^ 52))) (bits .and .u64 (IntKind.u64.wrap ((a2.fdiv (2 ^ (min x6.toNat 64))) * 2 ^ (min (if (IntKind.i64.wrap ((IntKind.i64.wrap (a3 + x6)) - (-1074))) < (IntKind.i64.wrap (53 - x7)) then (IntKind.i64.wrap ((IntKind.i64.wrap (a3 + x6)) - (-1074))) else (IntKind.i64.wrap (53 - x7))).toNat 64))) 4503599627370495)) h) fun x10 => K x10 true h)))))));
  iteB (decide (a3 < ((-2000) : Int))) (K 0 false h) (iteB (decide (a3 > (2000 : Int))) (K 0 false h) (iteB (decide (x7 > (53 : Int))) (K 0 false h) (iteB (decide ((IntKind.i64.wrap (a3 + x6)) < ((-1074) : Int))) (K 0 false h) ((iteB (decide ((IntKind.i64.wrap ((IntKind.i64.wrap (a3 + x6)) + x7)) > (1024 : Int))) (K 0 false h) ((j11))))))))))))));
  (iteB a1 ((j12 9223372036854775808)) ((j12 0)))))
def F19.ret (K : Nat → Bool → Heap → Prop) (v : Value) (h : Heap) : Prop := match v with
  | (.tuple ⟨[(.float .f64 r13), (.bool r14)]⟩) => K r13 r14 h
  | _ => False
theorem F19.ret_elim {K : Nat → Bool → Heap → Prop} {K' : Value → Heap → Prop} {v : Value} {h : Heap} (hk : ∀ r13 r14 h, K r13 r14 h → K' (.tuple #[(.float .f64 r13), (.bool r14)]) h) (hh : F19.ret K v h) : K' v h := by
  unfold F19.ret at hh
  split at hh
  · exact hk _ _ _ hh
  · exact hh.elim
def F19.qcall (f : FuncId) (vs : List Value) (h : Heap) (K : Value → Prop) : Prop := match f, vs with
  | 9, [(.int .u64 a1)] => qcallP1 h (F9 a1 h) fun r2 => K (.float .f64 r2)
  | 33, [(.int .u64 a1)] => qcallP1 h (F33 a1 h) fun r3 => K (.int .i64 r3)
  | 35, [(.int .u64 a1)] => qcallP1 h (F35 a1 h) fun r12 => K (.int .i64 r12)
  | _, _ => False
noncomputable def F19.ctx : Ctx := { P := Tryd.prog, call := fun _ _ _ _ => False, qcall := F19.qcall, quiet := fun f => Nat.beq f 9 || Nat.beq f 33 || Nat.beq f 35, loop := fun _ _ _ _ => False }
theorem F19.ok : F19.ctx.OK where
  mixed := by kernel_rfl
  mono := fun hh _ => hh.elim
  call := fun hh => hh.elim
  qmono := by
    intro f args h K K' hh hk
    change F19.qcall f args h K at hh
    change F19.qcall f args h K'
    unfold F19.qcall at hh ⊢
    split at hh
    · obtain ⟨x0, h1, h2⟩ := hh
      exact ⟨x0, h1, hk _ h2⟩
    · obtain ⟨x0, h1, h2⟩ := hh
      exact ⟨x0, h1, hk _ h2⟩
    · obtain ⟨x0, h1, h2⟩ := hh
      exact ⟨x0, h1, hk _ h2⟩
    · exact hh.elim
  qval := by
    intro f args h K hh
    change F19.qcall f args h K at hh
    suffices H : ∃ v, K v ∧ F19.qcall f args h (· = v) from H
    unfold F19.qcall at hh ⊢
    split at hh
    · obtain ⟨x0, h1, h2⟩ := hh
      exact ⟨_, h2, x0, h1, rfl⟩
    · obtain ⟨x0, h1, h2⟩ := hh
      exact ⟨_, h2, x0, h1, rfl⟩
    · obtain ⟨x0, h1, h2⟩ := hh
      exact ⟨_, h2, x0, h1, rfl⟩
    · exact hh.elim
  qcall := by
    intro f args h v hh w hw
    change F19.qcall f args h (· = v) at hh
    unfold F19.qcall at hh
    split at hh
    · obtain ⟨x0, h1, h2⟩ := hh
      obtain ⟨g1, g2⟩ := F9.calls h1 w hw
      refine .inl ⟨g1, g2.mono fun e w' ⟨u, he, ho, hr⟩ => ?_⟩
      have hq := F9.ret_elim (K' := fun u h' => u = v ∧ h' = h) (fun _ h' hr => by obtain ⟨rfl, rfl⟩ := hr; exact ⟨h2, rfl⟩) hr
      exact ⟨hq.1 ▸ he, ho, hq.2⟩
    · obtain ⟨x0, h1, h2⟩ := hh
      obtain ⟨g1, g2⟩ := F33.calls h1 w hw
      refine .inl ⟨g1, g2.mono fun e w' ⟨u, he, ho, hr⟩ => ?_⟩
      have hq := F33.ret_elim (K' := fun u h' => u = v ∧ h' = h) (fun _ h' hr => by obtain ⟨rfl, rfl⟩ := hr; exact ⟨h2, rfl⟩) hr
      exact ⟨hq.1 ▸ he, ho, hq.2⟩
    · obtain ⟨x0, h1, h2⟩ := hh
      obtain ⟨g1, g2⟩ := F35.calls h1 w hw
      refine .inl ⟨g1, g2.mono fun e w' ⟨u, he, ho, hr⟩ => ?_⟩
      have hq := F35.ret_elim (K' := fun u h' => u = v ∧ h' = h) (fun _ h' hr => by obtain ⟨rfl, rfl⟩ := hr; exact ⟨h2, rfl⟩) hr
      exact ⟨hq.1 ▸ he, ho, hq.2⟩
    · exact hh.elim
noncomputable def F19.code : Code := (Tryd.f19.body).getD .skip
def F19.ann : Ann := .auto
set_option maxRecDepth 100000 in
theorem F19.eq (a1 : Bool) (a2 : Int) (a3 : Int) (h : Heap) (K : Nat → Bool → Heap → Prop) : evF F19.ctx Tryd.f19 F19.ann [(.bool a1), (.int .u64 a2), (.int .i64 a3)] h (F19.ret K) = F19 a1 a2 a3 h K := by kernel_rfl
set_option maxRecDepth 100000 in
theorem F19.calls {a1 : Bool} {a2 : Int} {a3 : Int} {h : Heap} {K : Nat → Bool → Heap → Prop} (hh : F19 a1 a2 a3 h K) (w : World) (hw : w.heap = h) :
    (callFunc 19 #[(.bool a1), (.int .u64 a2), (.int .i64 a3)]).run Tryd.prog w = .ok (.enter 19 #[(.bool a1), (.int .u64 a2), (.int .i64 a3)]) w ∧ Calls Tryd.prog 19 #[(.bool a1), (.int .u64 a2), (.int .i64 a3)] w fun e w' => ∃ v, e = .returned v ∧ Out w w' ∧ F19.ret K v w'.heap := by
  rw [← F19.eq] at hh
  exact fn_calls (args := [(.bool a1), (.int .u64 a2), (.int .i64 a3)]) (c := F19.code) F19.ok Tryd.func19 (by kernel_rfl) (by kernel_rfl) (by kernel_rfl) (by kernel_rfl) (loops_ok (l := []) (by kernel_rfl) trivial) hh w hw

/-! ### strait/straitref02.Make: function 20 -/
def F20.b1 (K4 : Int → Int → Heap → Prop) (cont : Int → Int → Addr → Int → Heap → Prop) (v1_2001 : Int) (v2_2002 : Int) (c6_2003 : Addr) (c7_2004 : Int) (h2005 : Heap) : Prop :=
  iteB (decide (v1_2001 < (4503599627370496 : Int))) ((iteB (decide (v2_2002 > ((-1074) : Int))) ((((cont (IntKind.u64.wrap (v1_2001 * 2)) (IntKind.i64.wrap (v2_2002 - 1)) c6_2003 c7_2004 h2005)))) (K4 v1_2001 v2_2002 h2005))) (K4 v1_2001 v2_2002 h2005)
def F20.l1 (K4 : Int → Int → Heap → Prop) : Nat → Int → Int → Addr → Int → Heap → Prop
  | 0, _, _, _, _, _ => False
  | m + 1, v1_2001, v2_2002, c6_2003, c7_2004, h => F20.b1 K4 (F20.l1 K4 m) v1_2001 v2_2002 c6_2003 c7_2004 h
def F20.b0 (K2 : Int → Int → Heap → Prop) (cont : Int → Int → Addr → Int → Heap → Prop) (v1_1001 : Int) (v2_1002 : Int) (c6_1003 : Addr) (c7_1004 : Int) (h1005 : Heap) : Prop :=
  (2 : Int) ≠ 0 ∧ (iteB ((v1_1001.tmod 2) == (0 : Int)) (((2 : Int) ≠ 0 ∧ ((cont (IntKind.u64.wrap (v1_1001.tdiv 2)) (IntKind.i64.wrap (v2_1002 + 1)) c6_1003 c7_1004 h1005)))) (K2 v1_1001 v2_1002 h1005))
def F20.l0 (K2 : Int → Int → Heap → Prop) : Nat → Int → Int → Addr → Int → Heap → Prop
  | 0, _, _, _, _, _ => False
  | m + 1, v1_1001, v2_1002, c6_1003, c7_1004, h => F20.b0 K2 (F20.l0 K2 m) v1_1001 v2_1002 c6_1003 c7_1004 h
def F20 (a1 : Bool) (a2 : Int) (a3 : Int) (h : Heap) (K : Int → Bool → Heap → Prop) : Prop :=
  newP h (.cells #[(.int .u64 0), (.bool false)] 41) fun a4 h5 => ((let j59 := (fun (y6 : Int) => (iteB (a2 == (0 : Int)) (stC h5 a4 (.int .u64 y6) fun h7 => stC h7 (a4.add 1) (.bool true) fun h8 => (∃ (x9 : Int), cell h8 a4 = some (.int .u64 x9) ∧ ∃ (x10 : Bool), cell h8 (a4.add 1) = some (.bool x10) ∧ K x9 x10 h8)) ((let j58 : Prop := (∃ m27, F20.l0 (fun z24 z25 h26 => ((let j57 : Prop := (∃ m44, F20.l1 (fun z41 z42 h43 => (((iteB (decide (z41 < (4503599627370496 : Int))) (stC h43 a4 (.int .u64 (IntKind.u64.wrap (y6 + z41))) fun h45 => stC h45 (a4.add 1) (.bool true) fun h46 => (∃ (x47 : Int), cell h46 a4 = some (.int .u64 x47) ∧ ∃ (x48 : Bool), cell h46 (a4.add 1) = some (.bool x48) ∧ K x47 x48 h46)) (((iteB (decide ((IntKind.i64.wrap (z42 + 1075)) > (2046 : Int))) (stC h43 a4 (.int .u64 0) fun h49 => stC h49 (a4.add 1) (.bool false) fun h50 => (∃ (x51 : Int), cell h50 a4 = some (.int .u64 x51) ∧ ∃ (x52 : Bool), cell h50 (a4.add 1) = some (.bool x52) ∧ K x51 x52 h50)) ((0 ≤ (52 : Int) ∧ stC h43 a4 (.int .u64 (IntKind.u64.wrap ((IntKind.u64.wrap (y6 + (IntKind.u64.wrap ((IntKind.u64.wrap (IntKind.i64.wrap (z42 + 1075))) * 2 ^ 52)))) + (IntKind.u64.wrap (z41 - 4503599627370496))))) fun h53 => stC h53 (a4.add 1) (.bool true) fun h54 => (∃ (x55 : Int), cell h54 a4 = some (.int .u64 x55) ∧ ∃ (x56 : Bool), cell h54 (a4.add 1) = some (.bool x56) ∧ K x55 x56 h54)))))))))) m44 z24 z25 a4 y6 h26);
  iteB (decide (z24 ≥ (9007199254740992 : Int))) ((stC h26 a4 (.int .u64 0) fun h33 => stC h33 (a4.add 1) (.bool false) fun h34 => (∃ (x35 : Int), cell h34 a4 = some (.int .u64 x35) ∧ ∃ (x36 : Bool), cell h34 (a4.add 1) = some (.bool x36) ∧ K x35 x36 h34))) ((iteB (decide (z25 < ((-1074) : Int))) (stC h26 a4 (.int .u64 0) fun h37 => stC h37 (a4.add 1) (.bool false) fun h38 => (∃ (x39 : Int), cell h38 a4 = some (.int .u64 x39) ∧ ∃ (x40 : Bool), cell h38 (a4.add 1) = some (.bool x40) ∧ K x39 x40 h38)) ((j57))))))) m27 a2 a3 a4 y6 h5);
  iteB (decide (a3 < ((-3000) : Int))) ((stC h5 a4 (.int .u64 0) fun h16 => stC h16 (a4.add 1) (.bool false) fun h17 => (∃ (x18 : Int), cell h17 a4 = some (.int .u64 x18) ∧ ∃ (x19 : Bool), cell h17 (a4.add 1) = some (.bool x19) ∧ K x18 x19 h17))) ((iteB (decide (a3 > (3000 : Int))) (stC h5 a4 (.int .u64 0) fun h20 => stC h20 (a4.add 1) (.bool false) fun h21 => (∃ (x22 : Int), cell h21 a4 = some (.int .u64 x22) ∧ ∃ (x23 : Bool), cell h21 (a4.add 1) = some (.bool x23) ∧ K x22 x23 h21)) ((j58))))))));
  (iteB a1 ((j59 9223372036854775808)) ((j59 0)))))
def F20.ret (K : Int → Bool → Heap → Prop) (v : Value) (h : Heap) : Prop := match v with
  | (.agg ⟨[(.int .u64 r60), (.bool r61)]⟩) => K r60 r61 h
  | _ => False
theorem F20.ret_elim {K : Int → Bool → Heap → Prop} {K' : Value → Heap → Prop} {v : Value} {h : Heap} (hk : ∀ r60 r61 h, K r60 r61 h → K' (.agg #[(.int .u64 r60), (.bool r61)]) h) (hh : F20.ret K v h) : K' v h := by
  unfold F20.ret at hh
  split at hh
  · exact hk _ _ _ hh
  · exact hh.elim
def F20.r0 (K : Nat → List Value → Heap → Prop) (m : Nat) (vs : List Value) (h : Heap) : Prop := match vs with
  | [(.int .u64 v1_1001), (.int .i64 v2_1002), (.pointer (some c6_1003)), (.int .u64 c7_1004)] => F20.l0 (fun z62 z63 h' => K 2 [(.int .u64 z62), (.int .i64 z63), (.pointer (some c6_1003)), (.int .u64 c7_1004)] h') m v1_1001 v2_1002 c6_1003 c7_1004 h
  | _ => False
def F20.r1 (K : Nat → List Value → Heap → Prop) (m : Nat) (vs : List Value) (h : Heap) : Prop := match vs with
  | [(.int .u64 v1_2001), (.int .i64 v2_2002), (.pointer (some c6_2003)), (.int .u64 c7_2004)] => F20.l1 (fun z64 z65 h' => K 4 [(.int .u64 z64), (.int .i64 z65), (.pointer (some c6_2003)), (.int .u64 c7_2004)] h') m v1_2001 v2_2002 c6_2003 c7_2004 h
  | _ => False
def F20.loop (i : Nat) (vs : List Value) (h : Heap) (K : Nat → List Value → Heap → Prop) : Prop := match i with
  | 0 => ∃ m, F20.r0 K m vs h
  | 1 => ∃ m, F20.r1 K m vs h
  | _ => False
noncomputable def F20.ctx : Ctx := { P := Tryd.prog, call := fun _ _ _ _ => False, qcall := fun _ _ _ _ => False, quiet := fun f => false, loop := F20.loop }
theorem F20.ok : F20.ctx.OK where
  mixed := by kernel_rfl
  mono := fun hh _ => hh.elim
  call := fun hh => hh.elim
  qmono := fun hh _ => hh.elim
  qval := fun hh => hh.elim
  qcall := fun hh => hh.elim
noncomputable def F20.code : Code := (Tryd.f20.body).getD .skip
def F20.ann : Ann := (.two .auto (.two .auto (.two .auto (.two .auto (.two .auto (.two (.two (.loop 0 [1, 2, 6, 7] [(2, [1, 2, 6, 7])] .auto) .auto) (.two .auto (.two (.two (.loop 1 [1, 2, 6, 7] [(4, [1, 2, 6, 7])] .auto) .auto) .auto))))))))
noncomputable def F20.c1 : Code := sub F20.code [1, 1, 1, 1, 1, 1, 1, 0, 0, 0]
def F20.a1 : Ann := .auto
def F20.keep1 : List Nat := [1, 2, 6, 7]
def F20.outs1 : List (Nat × List Nat) := [(4, [1, 2, 6, 7])]
noncomputable def F20.c0 : Code := sub F20.code [1, 1, 1, 1, 1, 0, 0, 0]
def F20.a0 : Ann := .auto
def F20.keep0 : List Nat := [1, 2, 6, 7]
def F20.outs0 : List (Nat × List Nat) := [(2, [1, 2, 6, 7])]
set_option maxRecDepth 100000 in
theorem F20.L0 : LoopOK F20.ctx 64 F20.c0 0 F20.keep0 F20.outs0 := by
  refine loop_ok (n := F20.a0) F20.ok (by kernel_rfl) (loops_ok (l := []) (by kernel_rfl) ?_) F20.r0 ?_ ?_ (fun vs h K hh => hh)
  · exact trivial
  · intro K vs h hh
    unfold F20.r0 at hh
    split at hh
    · exact hh
    · exact hh
  · intro K m vs h hh
    unfold F20.r0 at hh
    split at hh
    · exact cast (by kernel_rfl) hh
    · exact hh.elim
set_option maxRecDepth 100000 in
theorem F20.L1 : LoopOK F20.ctx 64 F20.c1 1 F20.keep1 F20.outs1 := by
  refine loop_ok (n := F20.a1) F20.ok (by kernel_rfl) (loops_ok (l := []) (by kernel_rfl) ?_) F20.r1 ?_ ?_ (fun vs h K hh => hh)
  · exact trivial
  · intro K vs h hh
    unfold F20.r1 at hh
    split at hh
    · exact hh
    · exact hh
  · intro K m vs h hh
    unfold F20.r1 at hh
    split at hh
    · exact cast (by kernel_rfl) hh
    · exact hh.elim
set_option maxRecDepth 100000 in
theorem F20.eq (a1 : Bool) (a2 : Int) (a3 : Int) (h : Heap) (K : Int → Bool → Heap → Prop) : evF F20.ctx Tryd.f20 F20.ann [(.bool a1), (.int .u64 a2), (.int .i64 a3)] h (F20.ret K) = F20 a1 a2 a3 h K := by kernel_rfl
set_option maxRecDepth 100000 in
theorem F20.calls {a1 : Bool} {a2 : Int} {a3 : Int} {h : Heap} {K : Int → Bool → Heap → Prop} (hh : F20 a1 a2 a3 h K) (w : World) (hw : w.heap = h) :
    (callFunc 20 #[(.bool a1), (.int .u64 a2), (.int .i64 a3)]).run Tryd.prog w = .ok (.enter 20 #[(.bool a1), (.int .u64 a2), (.int .i64 a3)]) w ∧ Calls Tryd.prog 20 #[(.bool a1), (.int .u64 a2), (.int .i64 a3)] w fun e w' => ∃ v, e = .returned v ∧ Out w w' ∧ F20.ret K v w'.heap := by
  rw [← F20.eq] at hh
  exact fn_calls (args := [(.bool a1), (.int .u64 a2), (.int .i64 a3)]) (c := F20.code) F20.ok Tryd.func20 (by kernel_rfl) (by kernel_rfl) (by kernel_rfl) (by kernel_rfl) (loops_ok (l := [(F20.c0, none, 0, F20.keep0, F20.outs0), (F20.c1, none, 1, F20.keep1, F20.outs1)]) (by kernel_rfl) ⟨F20.L0, F20.L1, trivial⟩) hh w hw

/-! ### strait/straitlaw02.FbitMakes: function 4 -/
def F4 (a1 : Bool) (a2 : Int) (a3 : Int) (h : Heap) (K : Bool → Heap → Prop) : Prop :=
  (qcallP2 h (F19 a1 a2 a3 h) fun x4 x5 => (callP2 (F20 a1 a2 a3 h) fun x6 x7 h8 => newP h8 (.cells #[(.int .u64 0), (.bool false)] 41) fun a9 h10 => stC h10 a9 (.int .u64 x6) fun h11 => stC h11 (a9.add 1) (.bool x7) fun h12 => (∃ (x13 : Bool), cell h12 (a9.add 1) = some (.bool x13) ∧ iteB (x5 == x13) (qcallP1 h12 (F11 x4 h12) fun x14 => ∃ (x15 : Int), cell h12 a9 = some (.int .u64 x15) ∧ iteB (x14 == x15) (qcallP1 h12 (F18 h12) fun x16 => K x16 h12) (K false h12)) (K false h12))))
def F4.ret (K : Bool → Heap → Prop) (v : Value) (h : Heap) : Prop := match v with
  | (.bool r18) => K r18 h
  | _ => False
theorem F4.ret_elim {K : Bool → Heap → Prop} {K' : Value → Heap → Prop} {v : Value} {h : Heap} (hk : ∀ r18 h, K r18 h → K' (.bool r18) h) (hh : F4.ret K v h) : K' v h := by
  unfold F4.ret at hh
  split at hh
  · exact hk _ _ hh
  · exact hh.elim
def F4.call (f : FuncId) (vs : List Value) (h : Heap) (K : Value → Heap → Prop) : Prop := match f, vs with
  | 20, [(.bool a1), (.int .u64 a2), (.int .i64 a3)] => callP2 (F20 a1 a2 a3 h) fun r60 r61 h' => K (.agg #[(.int .u64 r60), (.bool r61)]) h'
  | _, _ => False
def F4.qcall (f : FuncId) (vs : List Value) (h : Heap) (K : Value → Prop) : Prop := match f, vs with
  | 11, [(.float .f64 a1)] => qcallP1 h (F11 a1 h) fun r2 => K (.int .u64 r2)
  | 18, [] => qcallP1 h (F18 h) fun r7 => K (.bool r7)
  | 19, [(.bool a1), (.int .u64 a2), (.int .i64 a3)] => qcallP2 h (F19 a1 a2 a3 h) fun r13 r14 => K (.tuple #[(.float .f64 r13), (.bool r14)])
  | _, _ => False
noncomputable def F4.ctx : Ctx := { P := Tryd.prog, call := F4.call, qcall := F4.qcall, quiet := fun f => Nat.beq f 11 || Nat.beq f 18 || Nat.beq f 19, loop := fun _ _ _ _ => False }
theorem F4.ok : F4.ctx.OK where
  mixed := by kernel_rfl
  mono := by
    intro f args h K K' hh hk
    change F4.call f args h K at hh
    change F4.call f args h K'
    unfold F4.call at hh ⊢
    split at hh
    · obtain ⟨R, h1, h2⟩ := hh
      exact ⟨R, h1, fun _ _ x hr => hk _ _ (h2 _ _ x hr)⟩
    · exact hh.elim
  call := by
    intro f args h K hh w hw
    change F4.call f args h K at hh
    unfold F4.call at hh
    split at hh
    · obtain ⟨R, h1, h2⟩ := hh
      obtain ⟨g1, g2⟩ := F20.calls h1 w hw
      exact ⟨g1, g2.mono fun e w' ⟨v, he, ho, hr⟩ => ⟨v, he, ho, F20.ret_elim h2 hr⟩⟩
    · exact hh.elim
  qmono := by
    intro f args h K K' hh hk
    change F4.qcall f args h K at hh
    change F4.qcall f args h K'
    unfold F4.qcall at hh ⊢
    split at hh
    · obtain ⟨x0, h1, h2⟩ := hh
      exact ⟨x0, h1, hk _ h2⟩
    · obtain ⟨x0, h1, h2⟩ := hh
      exact ⟨x0, h1, hk _ h2⟩
    · obtain ⟨x0, x1, h1, h2⟩ := hh
      exact ⟨x0, x1, h1, hk _ h2⟩
    · exact hh.elim
  qval := by
    intro f args h K hh
    change F4.qcall f args h K at hh
    suffices H : ∃ v, K v ∧ F4.qcall f args h (· = v) from H
    unfold F4.qcall at hh ⊢
    split at hh
    · obtain ⟨x0, h1, h2⟩ := hh
      exact ⟨_, h2, x0, h1, rfl⟩
    · obtain ⟨x0, h1, h2⟩ := hh
      exact ⟨_, h2, x0, h1, rfl⟩
    · obtain ⟨x0, x1, h1, h2⟩ := hh
      exact ⟨_, h2, x0, x1, h1, rfl⟩
    · exact hh.elim
  qcall := by
    intro f args h v hh w hw
    change F4.qcall f args h (· = v) at hh
    unfold F4.qcall at hh
    split at hh
    · obtain ⟨x0, h1, h2⟩ := hh
      obtain ⟨g1, g2⟩ := F11.calls h1 w hw
      refine .inl ⟨g1, g2.mono fun e w' ⟨u, he, ho, hr⟩ => ?_⟩
      have hq := F11.ret_elim (K' := fun u h' => u = v ∧ h' = h) (fun _ h' hr => by obtain ⟨rfl, rfl⟩ := hr; exact ⟨h2, rfl⟩) hr
      exact ⟨hq.1 ▸ he, ho, hq.2⟩
    · obtain ⟨x0, h1, h2⟩ := hh
      obtain ⟨g1, g2⟩ := F18.calls h1 w hw
      refine .inl ⟨g1, g2.mono fun e w' ⟨u, he, ho, hr⟩ => ?_⟩
      have hq := F18.ret_elim (K' := fun u h' => u = v ∧ h' = h) (fun _ h' hr => by obtain ⟨rfl, rfl⟩ := hr; exact ⟨h2, rfl⟩) hr
      exact ⟨hq.1 ▸ he, ho, hq.2⟩
    · obtain ⟨x0, x1, h1, h2⟩ := hh
      obtain ⟨g1, g2⟩ := F19.calls h1 w hw
      refine .inl ⟨g1, g2.mono fun e w' ⟨u, he, ho, hr⟩ => ?_⟩
      have hq := F19.ret_elim (K' := fun u h' => u = v ∧ h' = h) (fun _ _ h' hr => by obtain ⟨rfl, rfl, rfl⟩ := hr; exact ⟨h2, rfl⟩) hr
      exact ⟨hq.1 ▸ he, ho, hq.2⟩
    · exact hh.elim
noncomputable def F4.code : Code := (Tryd.f4.body).getD .skip
def F4.ann : Ann := (.two .auto (.two .auto (.two .auto (.two (.reg (.take 0 (.take 1 (.take 2 (.take 3 (.take 4 (.take 5 (.take 6 (.take 7 (.take 8 (.take 9 (.take 10 (.take 11 (.take 12 (.take 13 (.take 14 .done)))))))))))))))) .auto))))
set_option maxRecDepth 100000 in
theorem F4.eq (a1 : Bool) (a2 : Int) (a3 : Int) (h : Heap) (K : Bool → Heap → Prop) : evF F4.ctx Tryd.f4 F4.ann [(.bool a1), (.int .u64 a2), (.int .i64 a3)] h (F4.ret K) = F4 a1 a2 a3 h K := by kernel_rfl
set_option maxRecDepth 100000 in
theorem F4.calls {a1 : Bool} {a2 : Int} {a3 : Int} {h : Heap} {K : Bool → Heap → Prop} (hh : F4 a1 a2 a3 h K) (w : World) (hw : w.heap = h) :
    (callFunc 4 #[(.bool a1), (.int .u64 a2), (.int .i64 a3)]).run Tryd.prog w = .ok (.enter 4 #[(.bool a1), (.int .u64 a2), (.int .i64 a3)]) w ∧ Calls Tryd.prog 4 #[(.bool a1), (.int .u64 a2), (.int .i64 a3)] w fun e w' => ∃ v, e = .returned v ∧ Out w w' ∧ F4.ret K v w'.heap := by
  rw [← F4.eq] at hh
  exact fn_calls (args := [(.bool a1), (.int .u64 a2), (.int .i64 a3)]) (c := F4.code) F4.ok Tryd.func4 (by kernel_rfl) (by kernel_rfl) (by kernel_rfl) (by kernel_rfl) (loops_ok (l := []) (by kernel_rfl) trivial) hh w hw

/-! ### strait/straitlaw02.FbitBack: function 5 -/
def F5.b0 (K2 : Int → Int → Heap → Prop) (cont : Int → Int → Int → Int → Bool → Int → Heap → Prop) (v1_1001 : Int) (v2_1002 : Int) (c15_1003 : Int) (c16_1004 : Int) (c17_1005 : Bool) (v18_1006 : Int) (h1007 : Heap) : Prop :=
  iteB (decide (v18_1006 < (32 : Int))) (iteB (decide (v1_1001 > (0 : Int))) ((2 : Int) ≠ 0 ∧ (iteB ((v1_1001.tmod 2) == (0 : Int)) (((2 : Int) ≠ 0 ∧ (((cont (IntKind.u32.wrap (v1_1001.tdiv 2)) (IntKind.i16.wrap (v2_1002 + 1)) c15_1003 c16_1004 c17_1005 (IntKind.i64.wrap (v18_1006 + 1)) h1007))))) (K2 v1_1001 v2_1002 h1007))) (K2 v1_1001 v2_1002 h1007)) (K2 v1_1001 v2_1002 h1007)
def F5.l0 (K2 : Int → Int → Heap → Prop) : Nat → Int → Int → Int → Int → Bool → Int → Heap → Prop
  | 0, _, _, _, _, _, _, _ => False
  | m + 1, v1_1001, v2_1002, c15_1003, c16_1004, c17_1005, v18_1006, h => F5.b0 K2 (F5.l0 K2 m) v1_1001 v2_1002 c15_1003 c16_1004 c17_1005 v18_1006 h
def F5 (a1 : Int) (a2 : Int) (a3 : Int) (h : Heap) (K : Bool → Heap → Prop) : Prop :=
  (qcallP1 h (F9 a1 h) fun x4 => (qcallP3 h (F10 x4 h) fun x5 x6 x7 => (qcallP1 h (F15 x4 h) fun x8 => qcallP2 h (F19 x8 x5 x6 h) fun x9 x10 => (let j29 : Prop := (qcallP2 h (F19 false (IntKind.u64.wrap a2) (IntKind.i64.wrap a3) h) fun x13 x14 => (qcallP3 h (F10 x13 h) fun x15 x16 x17 => ((iteB (!x14) (qcallP1 h (F11 x13 h) fun x18 => iteB (x18 == (0 : Int)) (qcallP1 h (F18 h) fun x19 => K x19 h) (K false h)) (((∃ m24, F5.l0 (fun z21 z22 h23 => ((iteB x17 (iteB (x15 == (IntKind.u64.wrap z21)) (iteB (z21 == (0 : Int)) (iteB (x16 == (0 : Int)) (qcallP1 h23 (F18 h23) fun x25 => K x25 h23) (iteB (decide (z21 > (0 : Int))) (iteB (x16 == (IntKind.i64.wrap z22)) (qcallP1 h23 (F18 h23) fun x26 => K x26 h23) (K false h23)) (K false h23))) (iteB (decide (z21 > (0 : Int))) (iteB (x16 == (IntKind.i64.wrap z22)) (qcallP1 h23 (F18 h23) fun x27 => K x27 h23) (K false h23)) (K false h23))) (K false h23)) (K false h23)))) m24 a2 a3 x15 x16 x17 0 h)))))));
  iteB x7 (iteB (!x10) (K false h) (qcallP1 h (F11 x9 h) fun x11 => iteB (x11 != a1) (K false h) (iteB (!x7) (iteB (x5 != (0 : Int)) (K false h) ((iteB (x6 != (0 : Int)) (K false h) ((j29))))) (((j29)))))) (iteB (!x7) (iteB (x5 != (0 : Int)) (K false h) ((iteB (x6 != (0 : Int)) (K false h) ((j29))))) (((j29))))))))
def F5.ret (K : Bool → Heap → Prop) (v : Value) (h : Heap) : Prop := match v with
  | (.bool r30) => K r30 h
  | _ => False
theorem F5.ret_elim {K : Bool → Heap → Prop} {K' : Value → Heap → Prop} {v : Value} {h : Heap} (hk : ∀ r30 h, K r30 h → K' (.bool r30) h) (hh : F5.ret K v h) : K' v h := by
  unfold F5.ret at hh
  split at hh
  · exact hk _ _ hh
  · exact hh.elim
def F5.qcall (f : FuncId) (vs : List Value) (h : Heap) (K : Value → Prop) : Prop := match f, vs with
  | 9, [(.int .u64 a1)] => qcallP1 h (F9 a1 h) fun r2 => K (.float .f64 r2)
  | 10, [(.float .f64 a1)] => qcallP3 h (F10 a1 h) fun r8 r9 r10 => K (.tuple #[(.int .u64 r8), (.int .i64 r9), (.bool r10)])
  | 11, [(.float .f64 a1)] => qcallP1 h (F11 a1 h) fun r2 => K (.int .u64 r2)
  | 15, [(.float .f64 a1)] => qcallP1 h (F15 a1 h) fun r4 => K (.bool r4)
  | 18, [] => qcallP1 h (F18 h) fun r7 => K (.bool r7)
  | 19, [(.bool a1), (.int .u64 a2), (.int .i64 a3)] => qcallP2 h (F19 a1 a2 a3 h) fun r13 r14 => K (.tuple #[(.float .f64 r13), (.bool r14)])
  | _, _ => False
def F5.r0 (K : Nat → List Value → Heap → Prop) (m : Nat) (vs : List Value) (h : Heap) : Prop := match vs with
  | [(.int .u32 v1_1001), (.int .i16 v2_1002), (.int .u64 c15_1003), (.int .i64 c16_1004), (.bool c17_1005), (.int .i64 v18_1006)] => F5.l0 (fun z31 z32 h' => K 2 [(.int .u32 z31), (.int .i16 z32), (.int .u64 c15_1003), (.int .i64 c16_1004), (.bool c17_1005)] h') m v1_1001 v2_1002 c15_1003 c16_1004 c17_1005 v18_1006 h
  | _ => False
def F5.loop (i : Nat) (vs : List Value) (h : Heap) (K : Nat → List Value → Heap → Prop) : Prop := match i with
  | 0 => ∃ m, F5.r0 K m vs h
  | _ => False
noncomputable def F5.ctx : Ctx := { P := Tryd.prog, call := fun _ _ _ _ => False, qcall := F5.qcall, quiet := fun f => Nat.beq f 9 || Nat.beq f 10 || Nat.beq f 11 || Nat.beq f 15 || Nat.beq f 18 || Nat.beq f 19, loop := F5.loop }
theorem F5.ok : F5.ctx.OK where
  mixed := by kernel_rfl
  mono := fun hh _ => hh.elim
  call := fun hh => hh.elim
  qmono := by
    intro f args h K K' hh hk
    change F5.qcall f args h K at hh
    change F5.qcall f args h K'
    unfold F5.qcall at hh ⊢
    split at hh
    · obtain ⟨x0, h1, h2⟩ := hh
      exact ⟨x0, h1, hk _ h2⟩
    · obtain ⟨x0, x1, x2, h1, h2⟩ := hh
      exact ⟨x0, x1, x2, h1, hk _ h2⟩
    · obtain ⟨x0, h1, h2⟩ := hh
      exact ⟨x0, h1, hk _ h2⟩
    · obtain ⟨x0, h1, h2⟩ := hh
      exact ⟨x0, h1, hk _ h2⟩
    · obtain ⟨x0, h1, h2⟩ := hh
      exact ⟨x0, h1, hk _ h2⟩
    · obtain ⟨x0, x1, h1, h2⟩ := hh
      exact ⟨x0, x1, h1, hk _ h2⟩
    · exact hh.elim
  qval := by
    intro f args h K hh
    change F5.qcall f args h K at hh
    suffices H : ∃ v, K v ∧ F5.qcall f args h (· = v) from H
    unfold F5.qcall at hh ⊢
    split at hh
    · obtain ⟨x0, h1, h2⟩ := hh
      exact ⟨_, h2, x0, h1, rfl⟩
    · obtain ⟨x0, x1, x2, h1, h2⟩ := hh
      exact ⟨_, h2, x0, x1, x2, h1, rfl⟩
    · obtain ⟨x0, h1, h2⟩ := hh
      exact ⟨_, h2, x0, h1, rfl⟩
    · obtain ⟨x0, h1, h2⟩ := hh
      exact ⟨_, h2, x0, h1, rfl⟩
    · obtain ⟨x0, h1, h2⟩ := hh
      exact ⟨_, h2, x0, h1, rfl⟩
    · obtain ⟨x0, x1, h1, h2⟩ := hh
      exact ⟨_, h2, x0, x1, h1, rfl⟩
    · exact hh.elim
  qcall := by
    intro f args h v hh w hw
    change F5.qcall f args h (· = v) at hh
    unfold F5.qcall at hh
    split at hh
    · obtain ⟨x0, h1, h2⟩ := hh
      obtain ⟨g1, g2⟩ := F9.calls h1 w hw
      refine .inl ⟨g1, g2.mono fun e w' ⟨u, he, ho, hr⟩ => ?_⟩
      have hq := F9.ret_elim (K' := fun u h' => u = v ∧ h' = h) (fun _ h' hr => by obtain ⟨rfl, rfl⟩ := hr; exact ⟨h2, rfl⟩) hr
      exact ⟨hq.1 ▸ he, ho, hq.2⟩
    · obtain ⟨x0, x1, x2, h1, h2⟩ := hh
      obtain ⟨g1, g2⟩ := F10.calls h1 w hw
      refine .inl ⟨g1, g2.mono fun e w' ⟨u, he, ho, hr⟩ => ?_⟩
      have hq := F10.ret_elim (K' := fun u h' => u = v ∧ h' = h) (fun _ _ _ h' hr => by obtain ⟨rfl, rfl, rfl, rfl⟩ := hr; exact ⟨h2, rfl⟩) hr
      exact ⟨hq.1 ▸ he, ho, hq.2⟩
    · obtain ⟨x0, h1, h2⟩ := hh
      obtain ⟨g1, g2⟩ := F11.calls h1 w hw
      refine .inl ⟨g1, g2.mono fun e w' ⟨u, he, ho, hr⟩ => ?_⟩
      have hq := F11.ret_elim (K' := fun u h' => u = v ∧ h' = h) (fun _ h' hr => by obtain ⟨rfl, rfl⟩ := hr; exact ⟨h2, rfl⟩) hr
      exact ⟨hq.1 ▸ he, ho, hq.2⟩
    · obtain ⟨x0, h1, h2⟩ := hh
      obtain ⟨g1, g2⟩ := F15.calls h1 w hw
      refine .inl ⟨g1, g2.mono fun e w' ⟨u, he, ho, hr⟩ => ?_⟩
      have hq := F15.ret_elim (K' := fun u h' => u = v ∧ h' = h) (fun _ h' hr => by obtain ⟨rfl, rfl⟩ := hr; exact ⟨h2, rfl⟩) hr
      exact ⟨hq.1 ▸ he, ho, hq.2⟩
    · obtain ⟨x0, h1, h2⟩ := hh
      obtain ⟨g1, g2⟩ := F18.calls h1 w hw
      refine .inl ⟨g1, g2.mono fun e w' ⟨u, he, ho, hr⟩ => ?_⟩
      have hq := F18.ret_elim (K' := fun u h' => u = v ∧ h' = h) (fun _ h' hr => by obtain ⟨rfl, rfl⟩ := hr; exact ⟨h2, rfl⟩) hr
      exact ⟨hq.1 ▸ he, ho, hq.2⟩
    · obtain ⟨x0, x1, h1, h2⟩ := hh
      obtain ⟨g1, g2⟩ := F19.calls h1 w hw
      refine .inl ⟨g1, g2.mono fun e w' ⟨u, he, ho, hr⟩ => ?_⟩
      have hq := F19.ret_elim (K' := fun u h' => u = v ∧ h' = h) (fun _ _ h' hr => by obtain ⟨rfl, rfl, rfl⟩ := hr; exact ⟨h2, rfl⟩) hr
      exact ⟨hq.1 ▸ he, ho, hq.2⟩
    · exact hh.elim
noncomputable def F5.code : Code := (Tryd.f5.body).getD .skip
def F5.ann : Ann := (.two .auto (.two .auto (.two .auto (.two .auto (.two .auto (.two .auto (.two .auto (.two .auto (.two (.two .auto (.two (.loop 0 [1, 2, 15, 16, 17, 18] [(2, [1, 2, 15, 16, 17])] .auto) .auto)) .auto)))))))))
noncomputable def F5.c0 : Code := sub F5.code [1, 1, 1, 1, 1, 1, 1, 1, 0, 1, 0, 0]
def F5.a0 : Ann := .auto
def F5.keep0 : List Nat := [1, 2, 15, 16, 17, 18]
def F5.outs0 : List (Nat × List Nat) := [(2, [1, 2, 15, 16, 17])]
set_option maxRecDepth 100000 in
theorem F5.L0 : LoopOK F5.ctx 125 F5.c0 0 F5.keep0 F5.outs0 := by
  refine loop_ok (n := F5.a0) F5.ok (by kernel_rfl) (loops_ok (l := []) (by kernel_rfl) ?_) F5.r0 ?_ ?_ (fun vs h K hh => hh)
  · exact trivial
  · intro K vs h hh
    unfold F5.r0 at hh
    split at hh
    · exact hh
    · exact hh
  · intro K m vs h hh
    unfold F5.r0 at hh
    split at hh
    · exact cast (by kernel_rfl) hh
    · exact hh.elim
set_option maxRecDepth 100000 in
theorem F5.eq (a1 : Int) (a2 : Int) (a3 : Int) (h : Heap) (K : Bool → Heap → Prop) : evF F5.ctx Tryd.f5 F5.ann [(.int .u64 a1), (.int .u32 a2), (.int .i16 a3)] h (F5.ret K) = F5 a1 a2 a3 h K := by kernel_rfl
set_option maxRecDepth 100000 in
theorem F5.calls {a1 : Int} {a2 : Int} {a3 : Int} {h : Heap} {K : Bool → Heap → Prop} (hh : F5 a1 a2 a3 h K) (w : World) (hw : w.heap = h) :
    (callFunc 5 #[(.int .u64 a1), (.int .u32 a2), (.int .i16 a3)]).run Tryd.prog w = .ok (.enter 5 #[(.int .u64 a1), (.int .u32 a2), (.int .i16 a3)]) w ∧ Calls Tryd.prog 5 #[(.int .u64 a1), (.int .u32 a2), (.int .i16 a3)] w fun e w' => ∃ v, e = .returned v ∧ Out w w' ∧ F5.ret K v w'.heap := by
  rw [← F5.eq] at hh
  exact fn_calls (args := [(.int .u64 a1), (.int .u32 a2), (.int .i16 a3)]) (c := F5.code) F5.ok Tryd.func5 (by kernel_rfl) (by kernel_rfl) (by kernel_rfl) (by kernel_rfl) (loops_ok (l := [(F5.c0, none, 0, F5.keep0, F5.outs0)]) (by kernel_rfl) ⟨F5.L0, trivial⟩) hh w hw

/-! ### strait/straitref04.Same: function 27 -/
def F27.b0 (K0 : Bool → Heap → Prop) (K2 : Heap → Prop) (cont : (Option Addr) → Nat → Nat → (Option Addr) → Nat → Nat → Int → Heap → Prop) (c0_1001 : Option Addr) (c0_1002 : Nat) (c0_1003 : Nat) (c1_1004 : Option Addr) (c1_1005 : Nat) (c1_1006 : Nat) (v5_1007 : Int) (h1008 : Heap) : Prop :=
  (iteB (decide (v5_1007 < (c0_1002 : Int))) ((chkP c0_1001 fun a1009 => (0 ≤ v5_1007 ∧ v5_1007 < (c0_1002 : Int)) ∧ ∃ (x1010 : Int), cell h1008 (a1009.add (v5_1007.toNat * 1)) = some (.int .i64 x1010) ∧ chkP c1_1004 fun a1011 => (0 ≤ v5_1007 ∧ v5_1007 < (c1_1005 : Int)) ∧ ∃ (x1012 : Int), cell h1008 (a1011.add (v5_1007.toNat * 1)) = some (.int .i64 x1012) ∧ (iteB (x1010 != x1012) (K0 false h1008) (((cont c0_1001 c0_1002 c0_1003 c1_1004 c1_1005 c1_1006 (IntKind.i64.wrap (v5_1007 + 1)) h1008)))))) (K2 h1008))
def F27.l0 (K0 : Bool → Heap → Prop) (K2 : Heap → Prop) : Nat → (Option Addr) → Nat → Nat → (Option Addr) → Nat → Nat → Int → Heap → Prop
  | 0, _, _, _, _, _, _, _, _ => False
  | m + 1, c0_1001, c0_1002, c0_1003, c1_1004, c1_1005, c1_1006, v5_1007, h => F27.b0 K0 K2 (F27.l0 K0 K2 m) c0_1001 c0_1002 c0_1003 c1_1004 c1_1005 c1_1006 v5_1007 h
def F27 (a1 : Option Addr) (a1l : Nat) (a1c : Nat) (a2 : Option Addr) (a2l : Nat) (a2c : Nat) (h : Heap) (K : Bool → Heap → Prop) : Prop :=
  ((iteB ((a1l : Int) != (a2l : Int)) (K false h) (((∃ m6, F27.l0 (fun z3 h4 => K z3 h4) (fun h5 => (K true h5)) m6 a1 a1l a1c a2 a2l a2c 0 h)))))
def F27.ret (K : Bool → Heap → Prop) (v : Value) (h : Heap) : Prop := match v with
  | (.bool r7) => K r7 h
  | _ => False
theorem F27.ret_elim {K : Bool → Heap → Prop} {K' : Value → Heap → Prop} {v : Value} {h : Heap} (hk : ∀ r7 h, K r7 h → K' (.bool r7) h) (hh : F27.ret K v h) : K' v h := by
  unfold F27.ret at hh
  split at hh
  · exact hk _ _ hh
  · exact hh.elim
def F27.r0 (K : Nat → List Value → Heap → Prop) (m : Nat) (vs : List Value) (h : Heap) : Prop := match vs with
  | [(.slice c0_1001 c0_1002 c0_1003), (.slice c1_1004 c1_1005 c1_1006), (.int .i64 v5_1007)] => F27.l0 (fun z8 h' => K 0 [(.bool z8)] h') (fun h' => K 2 [] h') m c0_1001 c0_1002 c0_1003 c1_1004 c1_1005 c1_1006 v5_1007 h
  | _ => False
def F27.loop (i : Nat) (vs : List Value) (h : Heap) (K : Nat → List Value → Heap → Prop) : Prop := match i with
  | 0 => ∃ m, F27.r0 K m vs h
  | _ => False
noncomputable def F27.ctx : Ctx := { P := Tryd.prog, call := fun _ _ _ _ => False, qcall := fun _ _ _ _ => False, quiet := fun f => false, loop := F27.loop }
theorem F27.ok : F27.ctx.OK where
  mixed := by kernel_rfl
  mono := fun hh _ => hh.elim
  call := fun hh => hh.elim
  qmono := fun hh _ => hh.elim
  qval := fun hh => hh.elim
  qcall := fun hh => hh.elim
noncomputable def F27.code : Code := (Tryd.f27.body).getD .skip
def F27.ann : Ann := (.two .auto (.two .auto (.two (.two .auto (.two (.loop 0 [0, 1, 5] [(2, []), (0, [4])] (.two .auto (.two (.two (.two (.reg (.take 0 (.take 1 (.take 2 (.take 3 (.take 4 (.take 5 (.take 6 (.take 7 (.take 8 .done)))))))))) .auto) .auto) .auto))) .auto)) .auto)))
noncomputable def F27.c0 : Code := sub F27.code [1, 1, 0, 1, 0, 0]
def F27.a0 : Ann := (.two .auto (.two (.two (.two (.reg (.take 0 (.take 1 (.take 2 (.take 3 (.take 4 (.take 5 (.take 6 (.take 7 (.take 8 .done)))))))))) .auto) .auto) .auto))
def F27.keep0 : List Nat := [0, 1, 5]
def F27.outs0 : List (Nat × List Nat) := [(2, []), (0, [4])]
set_option maxRecDepth 100000 in
theorem F27.L0 : LoopOK F27.ctx 26 F27.c0 0 F27.keep0 F27.outs0 := by
  refine loop_ok (n := F27.a0) F27.ok (by kernel_rfl) (loops_ok (l := []) (by kernel_rfl) ?_) F27.r0 ?_ ?_ (fun vs h K hh => hh)
  · exact trivial
  · intro K vs h hh
    unfold F27.r0 at hh
    split at hh
    · exact hh
    · exact hh
  · intro K m vs h hh
    unfold F27.r0 at hh
    split at hh
    · exact cast (by kernel_rfl) hh
    · exact hh.elim
set_option maxRecDepth 100000 in
theorem F27.eq (a1 : Option Addr) (a1l : Nat) (a1c : Nat) (a2 : Option Addr) (a2l : Nat) (a2c : Nat) (h : Heap) (K : Bool → Heap → Prop) : evF F27.ctx Tryd.f27 F27.ann [(.slice a1 a1l a1c), (.slice a2 a2l a2c)] h (F27.ret K) = F27 a1 a1l a1c a2 a2l a2c h K := by kernel_rfl
set_option maxRecDepth 100000 in
theorem F27.calls {a1 : Option Addr} {a1l : Nat} {a1c : Nat} {a2 : Option Addr} {a2l : Nat} {a2c : Nat} {h : Heap} {K : Bool → Heap → Prop} (hh : F27 a1 a1l a1c a2 a2l a2c h K) (w : World) (hw : w.heap = h) :
    (callFunc 27 #[(.slice a1 a1l a1c), (.slice a2 a2l a2c)]).run Tryd.prog w = .ok (.enter 27 #[(.slice a1 a1l a1c), (.slice a2 a2l a2c)]) w ∧ Calls Tryd.prog 27 #[(.slice a1 a1l a1c), (.slice a2 a2l a2c)] w fun e w' => ∃ v, e = .returned v ∧ Out w w' ∧ F27.ret K v w'.heap := by
  rw [← F27.eq] at hh
  exact fn_calls (args := [(.slice a1 a1l a1c), (.slice a2 a2l a2c)]) (c := F27.code) F27.ok Tryd.func27 (by kernel_rfl) (by kernel_rfl) (by kernel_rfl) (by kernel_rfl) (loops_ok (l := [(F27.c0, none, 0, F27.keep0, F27.outs0)]) (by kernel_rfl) ⟨F27.L0, trivial⟩) hh w hw

end Go.Proofs.YtnmeoeakepcieaaDoor
