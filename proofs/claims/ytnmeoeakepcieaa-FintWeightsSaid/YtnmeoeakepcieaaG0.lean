/- WRITTEN BY A PROGRAM OF THIS SESSION (gen.py): what each function asks of memory, and that the model's run comes to it. -/
import Derived.Test.YtnmeoeakepcieaaProg
import Derived.Test.YtnmeoeakepcieaaFw8

namespace Go.Proofs.Ytnmeoeakepcieaa
open Go.Hp
set_option linter.unusedVariables false
set_option linter.unusedSimpArgs false

/-! ### strait/fbit.Kind: function 27 -/
def F27 (a1 : Nat) (h : Heap) (K : Int → Heap → Prop) : Prop :=
  (((iteB (FloatKind.f64.format.order a1 a1 != some .eq) (K 0 h) (0 ≤ (52 : Int) ∧ (iteB (((bits .andNot .u64 (a1 : Int) 9223372036854775808).fdiv (2 ^ 52)) == (2047 : Int)) (K 1 h) ((iteB ((bits .andNot .u64 (a1 : Int) 9223372036854775808) == (0 : Int)) (K 2 h) (0 ≤ (52 : Int) ∧ (iteB (((bits .andNot .u64 (a1 : Int) 9223372036854775808).fdiv (2 ^ 52)) == (0 : Int)) (K 3 h) ((K 4 h)))))))))))
def F27.ret (K : Int → Heap → Prop) (v : Value) (h : Heap) : Prop := match v with
  | (.int .i64 r2) => K r2 h
  | _ => False
theorem F27.ret_elim {K : Int → Heap → Prop} {K' : Value → Heap → Prop} {v : Value} {h : Heap} (hk : ∀ r2 h, K r2 h → K' (.int .i64 r2) h) (hh : F27.ret K v h) : K' v h := by
  unfold F27.ret at hh
  split at hh
  · exact hk _ _ hh
  · exact hh.elim
def F27.qcall (f : FuncId) (vs : List Value) (h : Heap) (K : Value → Prop) : Prop := match f, vs with
  | 22, [(.float .f64 a1)] => K (.int .u64 (a1 : Int))
  | _, _ => False
noncomputable def F27.ctx : Ctx := { P := Try.prog, call := fun _ _ _ _ => False, qcall := F27.qcall, quiet := fun f => Nat.beq f 22, loop := fun _ _ _ _ => False }
theorem F27.ok : F27.ctx.OK where
  mixed := by kernel_rfl
  mono := fun hh _ => hh.elim
  call := fun hh => hh.elim
  qmono := by
    intro f args h K K' hh hk
    change F27.qcall f args h K at hh
    change F27.qcall f args h K'
    unfold F27.qcall at hh ⊢
    split at hh
    · exact hk _ hh
    · exact hh.elim
  qval := by
    intro f args h K hh
    change F27.qcall f args h K at hh
    suffices H : ∃ v, K v ∧ F27.qcall f args h (· = v) from H
    unfold F27.qcall at hh ⊢
    split at hh
    · exact ⟨_, hh, rfl⟩
    · exact hh.elim
  qcall := by
    intro f args h v hh w hw
    change F27.qcall f args h (· = v) at hh
    unfold F27.qcall at hh
    split at hh
    · subst hh; exact .inr (ext_run Try.func22 (by kernel_rfl) (by kernel_rfl) (by kernel_rfl) (e := Extern.MathFloatBits.float64bits) (by kernel_rfl) (by rfl))
    · exact hh.elim
noncomputable def F27.code : Code := (Try.f27.body).getD .skip
def F27.ann : Ann := .auto
set_option maxRecDepth 100000 in
theorem F27.eq (a1 : Nat) (h : Heap) (K : Int → Heap → Prop) : evF F27.ctx Try.f27 F27.ann [(.float .f64 a1)] h (F27.ret K) = F27 a1 h K := by kernel_rfl
set_option maxRecDepth 100000 in
theorem F27.calls {a1 : Nat} {h : Heap} {K : Int → Heap → Prop} (hh : F27 a1 h K) (w : World) (hw : w.heap = h) :
    (callFunc 27 #[(.float .f64 a1)]).run Try.prog w = .ok (.enter 27 #[(.float .f64 a1)]) w ∧ Calls Try.prog 27 #[(.float .f64 a1)] w fun e w' => ∃ v, e = .returned v ∧ Out w w' ∧ F27.ret K v w'.heap := by
  rw [← F27.eq] at hh
  exact fn_calls (args := [(.float .f64 a1)]) (c := F27.code) F27.ok Try.func27 (by kernel_rfl) (by kernel_rfl) (by kernel_rfl) (by kernel_rfl) (loops_ok (l := []) (by kernel_rfl) trivial) hh w hw

/-! ### math.Abs: function 31 -/
def F31 (a1 : Nat) (h : Heap) (K : Nat → Heap → Prop) : Prop :=
  ((K ((bits .andNot .u64 (a1 : Int) 9223372036854775808).toNat) h))
def F31.ret (K : Nat → Heap → Prop) (v : Value) (h : Heap) : Prop := match v with
  | (.float .f64 r2) => K r2 h
  | _ => False
theorem F31.ret_elim {K : Nat → Heap → Prop} {K' : Value → Heap → Prop} {v : Value} {h : Heap} (hk : ∀ r2 h, K r2 h → K' (.float .f64 r2) h) (hh : F31.ret K v h) : K' v h := by
  unfold F31.ret at hh
  split at hh
  · exact hk _ _ hh
  · exact hh.elim
def F31.qcall (f : FuncId) (vs : List Value) (h : Heap) (K : Value → Prop) : Prop := match f, vs with
  | 20, [(.int .u64 a1)] => K (.float .f64 a1.toNat)
  | 22, [(.float .f64 a1)] => K (.int .u64 (a1 : Int))
  | _, _ => False
noncomputable def F31.ctx : Ctx := { P := Try.prog, call := fun _ _ _ _ => False, qcall := F31.qcall, quiet := fun f => Nat.beq f 20 || Nat.beq f 22, loop := fun _ _ _ _ => False }
theorem F31.ok : F31.ctx.OK where
  mixed := by kernel_rfl
  mono := fun hh _ => hh.elim
  call := fun hh => hh.elim
  qmono := by
    intro f args h K K' hh hk
    change F31.qcall f args h K at hh
    change F31.qcall f args h K'
    unfold F31.qcall at hh ⊢
    split at hh
    · exact hk _ hh
    · exact hk _ hh
    · exact hh.elim
  qval := by
    intro f args h K hh
    change F31.qcall f args h K at hh
    suffices H : ∃ v, K v ∧ F31.qcall f args h (· = v) from H
    unfold F31.qcall at hh ⊢
    split at hh
    · exact ⟨_, hh, rfl⟩
    · exact ⟨_, hh, rfl⟩
    · exact hh.elim
  qcall := by
    intro f args h v hh w hw
    change F31.qcall f args h (· = v) at hh
    unfold F31.qcall at hh
    split at hh
    · subst hh; exact .inr (ext_run Try.func20 (by kernel_rfl) (by kernel_rfl) (by kernel_rfl) (e := Extern.MathFloatBits.float64frombits) (by kernel_rfl) (by rfl))
    · subst hh; exact .inr (ext_run Try.func22 (by kernel_rfl) (by kernel_rfl) (by kernel_rfl) (e := Extern.MathFloatBits.float64bits) (by kernel_rfl) (by rfl))
    · exact hh.elim
noncomputable def F31.code : Code := (Try.f31.body).getD .skip
def F31.ann : Ann := .auto
set_option maxRecDepth 100000 in
theorem F31.eq (a1 : Nat) (h : Heap) (K : Nat → Heap → Prop) : evF F31.ctx Try.f31 F31.ann [(.float .f64 a1)] h (F31.ret K) = F31 a1 h K := by kernel_rfl
set_option maxRecDepth 100000 in
theorem F31.calls {a1 : Nat} {h : Heap} {K : Nat → Heap → Prop} (hh : F31 a1 h K) (w : World) (hw : w.heap = h) :
    (callFunc 31 #[(.float .f64 a1)]).run Try.prog w = .ok (.enter 31 #[(.float .f64 a1)]) w ∧ Calls Try.prog 31 #[(.float .f64 a1)] w fun e w' => ∃ v, e = .returned v ∧ Out w w' ∧ F31.ret K v w'.heap := by
  rw [← F31.eq] at hh
  exact fn_calls (args := [(.float .f64 a1)]) (c := F31.code) F31.ok Try.func31 (by kernel_rfl) (by kernel_rfl) (by kernel_rfl) (by kernel_rfl) (loops_ok (l := []) (by kernel_rfl) trivial) hh w hw

/-! ### math.Copysign: function 32 -/
def F32 (a1 : Nat) (a2 : Nat) (h : Heap) (K : Nat → Heap → Prop) : Prop :=
  ((K ((bits .or .u64 (bits .andNot .u64 (a1 : Int) 9223372036854775808) (bits .and .u64 (a2 : Int) 9223372036854775808)).toNat) h))
def F32.ret (K : Nat → Heap → Prop) (v : Value) (h : Heap) : Prop := match v with
  | (.float .f64 r3) => K r3 h
  | _ => False
theorem F32.ret_elim {K : Nat → Heap → Prop} {K' : Value → Heap → Prop} {v : Value} {h : Heap} (hk : ∀ r3 h, K r3 h → K' (.float .f64 r3) h) (hh : F32.ret K v h) : K' v h := by
  unfold F32.ret at hh
  split at hh
  · exact hk _ _ hh
  · exact hh.elim
def F32.qcall (f : FuncId) (vs : List Value) (h : Heap) (K : Value → Prop) : Prop := match f, vs with
  | 20, [(.int .u64 a1)] => K (.float .f64 a1.toNat)
  | 22, [(.float .f64 a1)] => K (.int .u64 (a1 : Int))
  | _, _ => False
noncomputable def F32.ctx : Ctx := { P := Try.prog, call := fun _ _ _ _ => False, qcall := F32.qcall, quiet := fun f => Nat.beq f 20 || Nat.beq f 22, loop := fun _ _ _ _ => False }
theorem F32.ok : F32.ctx.OK where
  mixed := by kernel_rfl
  mono := fun hh _ => hh.elim
  call := fun hh => hh.elim
  qmono := by
    intro f args h K K' hh hk
    change F32.qcall f args h K at hh
    change F32.qcall f args h K'
    unfold F32.qcall at hh ⊢
    split at hh
    · exact hk _ hh
    · exact hk _ hh
    · exact hh.elim
  qval := by
    intro f args h K hh
    change F32.qcall f args h K at hh
    suffices H : ∃ v, K v ∧ F32.qcall f args h (· = v) from H
    unfold F32.qcall at hh ⊢
    split at hh
    · exact ⟨_, hh, rfl⟩
    · exact ⟨_, hh, rfl⟩
    · exact hh.elim
  qcall := by
    intro f args h v hh w hw
    change F32.qcall f args h (· = v) at hh
    unfold F32.qcall at hh
    split at hh
    · subst hh; exact .inr (ext_run Try.func20 (by kernel_rfl) (by kernel_rfl) (by kernel_rfl) (e := Extern.MathFloatBits.float64frombits) (by kernel_rfl) (by rfl))
    · subst hh; exact .inr (ext_run Try.func22 (by kernel_rfl) (by kernel_rfl) (by kernel_rfl) (e := Extern.MathFloatBits.float64bits) (by kernel_rfl) (by rfl))
    · exact hh.elim
noncomputable def F32.code : Code := (Try.f32.body).getD .skip
def F32.ann : Ann := .auto
set_option maxRecDepth 100000 in
theorem F32.eq (a1 : Nat) (a2 : Nat) (h : Heap) (K : Nat → Heap → Prop) : evF F32.ctx Try.f32 F32.ann [(.float .f64 a1), (.float .f64 a2)] h (F32.ret K) = F32 a1 a2 h K := by kernel_rfl
set_option maxRecDepth 100000 in
theorem F32.calls {a1 : Nat} {a2 : Nat} {h : Heap} {K : Nat → Heap → Prop} (hh : F32 a1 a2 h K) (w : World) (hw : w.heap = h) :
    (callFunc 32 #[(.float .f64 a1), (.float .f64 a2)]).run Try.prog w = .ok (.enter 32 #[(.float .f64 a1), (.float .f64 a2)]) w ∧ Calls Try.prog 32 #[(.float .f64 a1), (.float .f64 a2)] w fun e w' => ∃ v, e = .returned v ∧ Out w w' ∧ F32.ret K v w'.heap := by
  rw [← F32.eq] at hh
  exact fn_calls (args := [(.float .f64 a1), (.float .f64 a2)]) (c := F32.code) F32.ok Try.func32 (by kernel_rfl) (by kernel_rfl) (by kernel_rfl) (by kernel_rfl) (loops_ok (l := []) (by kernel_rfl) trivial) hh w hw

/-! ### math.trunc: function 30 -/
def F30 (a1 : Nat) (h : Heap) (K : Nat → Heap → Prop) : Prop :=
  (qcallP1 h (F31 a1 h) fun x2 => (iteB (FloatKind.f64.format.order x2 4607182418800017408 == some .lt) (qcallP1 h (F32 0 a1 h) fun x3 => K x3 h) (((0 ≤ (52 : Int) ∧ ((iteB (decide ((IntKind.u64.wrap ((bits .and .u64 ((a1 : Int).fdiv (2 ^ 52)) 2047) - 1023)) < (52 : Int))) (0 ≤ (IntKind.u64.wrap (52 - (IntKind.u64.wrap ((bits .and .u64 ((a1 : Int).fdiv (2 ^ 52)) 2047) - 1023)))) ∧ ((K ((bits .andNot .u64 (a1 : Int) (IntKind.u64.wrap ((IntKind.u64.wrap ((1 : Int) * 2 ^ (min (IntKind.u64.wrap (52 - (IntKind.u64.wrap ((bits .and .u64 ((a1 : Int).fdiv (2 ^ 52)) 2047) - 1023)))).toNat 64))) - 1))).toNat) h))) (((K ((a1 : Int).toNat) h))))))))))
def F30.ret (K : Nat → Heap → Prop) (v : Value) (h : Heap) : Prop := match v with
  | (.float .f64 r5) => K r5 h
  | _ => False
theorem F30.ret_elim {K : Nat → Heap → Prop} {K' : Value → Heap → Prop} {v : Value} {h : Heap} (hk : ∀ r5 h, K r5 h → K' (.float .f64 r5) h) (hh : F30.ret K v h) : K' v h := by
  unfold F30.ret at hh
  split at hh
  · exact hk _ _ hh
  · exact hh.elim
def F30.qcall (f : FuncId) (vs : List Value) (h : Heap) (K : Value → Prop) : Prop := match f, vs with
  | 20, [(.int .u64 a1)] => K (.float .f64 a1.toNat)
  | 22, [(.float .f64 a1)] => K (.int .u64 (a1 : Int))
  | 31, [(.float .f64 a1)] => qcallP1 h (F31 a1 h) fun r2 => K (.float .f64 r2)
  | 32, [(.float .f64 a1), (.float .f64 a2)] => qcallP1 h (F32 a1 a2 h) fun r3 => K (.float .f64 r3)
  | _, _ => False
noncomputable def F30.ctx : Ctx := { P := Try.prog, call := fun _ _ _ _ => False, qcall := F30.qcall, quiet := fun f => Nat.beq f 20 || Nat.beq f 22 || Nat.beq f 31 || Nat.beq f 32, loop := fun _ _ _ _ => False }
theorem F30.ok : F30.ctx.OK where
  mixed := by kernel_rfl
  mono := fun hh _ => hh.elim
  call := fun hh => hh.elim
  qmono := by
    intro f args h K K' hh hk
    change F30.qcall f args h K at hh
    change F30.qcall f args h K'
    unfold F30.qcall at hh ⊢
    split at hh
    · exact hk _ hh
    · exact hk _ hh
    · obtain ⟨x0, h1, h2⟩ := hh
      exact ⟨x0, h1, hk _ h2⟩
    · obtain ⟨x0, h1, h2⟩ := hh
      exact ⟨x0, h1, hk _ h2⟩
    · exact hh.elim
  qval := by
    intro f args h K hh
    change F30.qcall f args h K at hh
    suffices H : ∃ v, K v ∧ F30.qcall f args h (· = v) from H
    unfold F30.qcall at hh ⊢
    split at hh
    · exact ⟨_, hh, rfl⟩
    · exact ⟨_, hh, rfl⟩
    · obtain ⟨x0, h1, h2⟩ := hh
      exact ⟨_, h2, x0, h1, rfl⟩
    · obtain ⟨x0, h1, h2⟩ := hh
      exact ⟨_, h2, x0, h1, rfl⟩
    · exact hh.elim
  qcall := by
    intro f args h v hh w hw
    change F30.qcall f args h (· = v) at hh
    unfold F30.qcall at hh
    split at hh
    · subst hh; exact .inr (ext_run Try.func20 (by kernel_rfl) (by kernel_rfl) (by kernel_rfl) (e := Extern.MathFloatBits.float64frombits) (by kernel_rfl) (by rfl))
    · subst hh; exact .inr (ext_run Try.func22 (by kernel_rfl) (by kernel_rfl) (by kernel_rfl) (e := Extern.MathFloatBits.float64bits) (by kernel_rfl) (by rfl))
    · obtain ⟨x0, h1, h2⟩ := hh
      obtain ⟨g1, g2⟩ := F31.calls h1 w hw
      refine .inl ⟨g1, g2.mono fun e w' ⟨u, he, ho, hr⟩ => ?_⟩
      have hq := F31.ret_elim (K' := fun u h' => u = v ∧ h' = h) (fun _ h' hr => by obtain ⟨rfl, rfl⟩ := hr; exact ⟨h2, rfl⟩) hr
      exact ⟨hq.1 ▸ he, ho, hq.2⟩
    · obtain ⟨x0, h1, h2⟩ := hh
      obtain ⟨g1, g2⟩ := F32.calls h1 w hw
      refine .inl ⟨g1, g2.mono fun e w' ⟨u, he, ho, hr⟩ => ?_⟩
      have hq := F32.ret_elim (K' := fun u h' => u = v ∧ h' = h) (fun _ h' hr => by obtain ⟨rfl, rfl⟩ := hr; exact ⟨h2, rfl⟩) hr
      exact ⟨hq.1 ▸ he, ho, hq.2⟩
    · exact hh.elim
noncomputable def F30.code : Code := (Try.f30.body).getD .skip
def F30.ann : Ann := .auto
set_option maxRecDepth 100000 in
theorem F30.eq (a1 : Nat) (h : Heap) (K : Nat → Heap → Prop) : evF F30.ctx Try.f30 F30.ann [(.float .f64 a1)] h (F30.ret K) = F30 a1 h K := by kernel_rfl
set_option maxRecDepth 100000 in
theorem F30.calls {a1 : Nat} {h : Heap} {K : Nat → Heap → Prop} (hh : F30 a1 h K) (w : World) (hw : w.heap = h) :
    (callFunc 30 #[(.float .f64 a1)]).run Try.prog w = .ok (.enter 30 #[(.float .f64 a1)]) w ∧ Calls Try.prog 30 #[(.float .f64 a1)] w fun e w' => ∃ v, e = .returned v ∧ Out w w' ∧ F30.ret K v w'.heap := by
  rw [← F30.eq] at hh
  exact fn_calls (args := [(.float .f64 a1)]) (c := F30.code) F30.ok Try.func30 (by kernel_rfl) (by kernel_rfl) (by kernel_rfl) (by kernel_rfl) (loops_ok (l := []) (by kernel_rfl) trivial) hh w hw

/-! ### math.Trunc: function 28 -/
def F28 (a1 : Nat) (h : Heap) (K : Nat → Heap → Prop) : Prop :=
  ((truncOK a1 ∧ (K (truncF a1) h)))
def F28.ret (K : Nat → Heap → Prop) (v : Value) (h : Heap) : Prop := match v with
  | (.float .f64 r2) => K r2 h
  | _ => False
theorem F28.ret_elim {K : Nat → Heap → Prop} {K' : Value → Heap → Prop} {v : Value} {h : Heap} (hk : ∀ r2 h, K r2 h → K' (.float .f64 r2) h) (hh : F28.ret K v h) : K' v h := by
  unfold F28.ret at hh
  split at hh
  · exact hk _ _ hh
  · exact hh.elim
def F28.qcall (f : FuncId) (vs : List Value) (h : Heap) (K : Value → Prop) : Prop := match f, vs with
  | 29, [(.float .f64 a1)] => truncOK a1 ∧ K (.float .f64 (truncF a1))
  | _, _ => False
noncomputable def F28.ctx : Ctx := { P := Try.prog, call := fun _ _ _ _ => False, qcall := F28.qcall, quiet := fun f => Nat.beq f 29 || Nat.beq f 30, loop := fun _ _ _ _ => False }
theorem F28.ok : F28.ctx.OK where
  mixed := by kernel_rfl
  mono := fun hh _ => hh.elim
  call := fun hh => hh.elim
  qmono := by
    intro f args h K K' hh hk
    change F28.qcall f args h K at hh
    change F28.qcall f args h K'
    unfold F28.qcall at hh ⊢
    split at hh
    · exact ⟨hh.1, hk _ hh.2⟩
    · exact hh.elim
  qval := by
    intro f args h K hh
    change F28.qcall f args h K at hh
    suffices H : ∃ v, K v ∧ F28.qcall f args h (· = v) from H
    unfold F28.qcall at hh ⊢
    split at hh
    · exact ⟨_, hh.2, hh.1, rfl⟩
    · exact hh.elim
  qcall := by
    intro f args h v hh w hw
    change F28.qcall f args h (· = v) at hh
    unfold F28.qcall at hh
    split at hh
    · obtain ⟨hc, rfl⟩ := hh; exact .inr (ext_run Try.func29 (by kernel_rfl) (by kernel_rfl) (by kernel_rfl) (e := Extern.MathFloor.toIntegral "math.archTrunc" .zero) (by kernel_rfl) (by exact trunc_run hc))
    · exact hh.elim
noncomputable def F28.code : Code := (Try.f28.body).getD .skip
def F28.ann : Ann := .auto
set_option maxRecDepth 100000 in
theorem F28.eq (a1 : Nat) (h : Heap) (K : Nat → Heap → Prop) : evF F28.ctx Try.f28 F28.ann [(.float .f64 a1)] h (F28.ret K) = F28 a1 h K := by kernel_rfl
set_option maxRecDepth 100000 in
theorem F28.calls {a1 : Nat} {h : Heap} {K : Nat → Heap → Prop} (hh : F28 a1 h K) (w : World) (hw : w.heap = h) :
    (callFunc 28 #[(.float .f64 a1)]).run Try.prog w = .ok (.enter 28 #[(.float .f64 a1)]) w ∧ Calls Try.prog 28 #[(.float .f64 a1)] w fun e w' => ∃ v, e = .returned v ∧ Out w w' ∧ F28.ret K v w'.heap := by
  rw [← F28.eq] at hh
  exact fn_calls (args := [(.float .f64 a1)]) (c := F28.code) F28.ok Try.func28 (by kernel_rfl) (by kernel_rfl) (by kernel_rfl) (by kernel_rfl) (loops_ok (l := []) (by kernel_rfl) trivial) hh w hw

/-! ### strait/fint.wrong: function 21 -/
def F21 (a1 : Nat) (h : Heap) (K : Int → Heap → Prop) : Prop :=
  (qcallP1 h (F27 a1 h) fun x2 => ((iteB (x2 == (0 : Int)) ((K 11 h)) (((iteB (x2 == (1 : Int)) ((K 12 h)) (((iteB (x2 == (3 : Int)) ((K 13 h)) (((iteB (x2 == (4 : Int)) (((qcallP1 h (F28 a1 h) fun x3 => (iteB (FloatKind.f64.format.order x3 a1 != some .eq) (K 13 h) ((iteB (FloatKind.f64.format.order a1 14114281232179134464 == some .lt) (K 10 h) ((iteB (FloatKind.f64.format.order a1 4890909195324358656 == some .gt || FloatKind.f64.format.order a1 4890909195324358656 == some .eq) (K 10 h) ((K 0 h)))))))))) (((iteB (x2 == (2 : Int)) ((K 0 h)) (((K 1 h))))))))))))))))))
def F21.ret (K : Int → Heap → Prop) (v : Value) (h : Heap) : Prop := match v with
  | (.int .i64 r5) => K r5 h
  | _ => False
theorem F21.ret_elim {K : Int → Heap → Prop} {K' : Value → Heap → Prop} {v : Value} {h : Heap} (hk : ∀ r5 h, K r5 h → K' (.int .i64 r5) h) (hh : F21.ret K v h) : K' v h := by
  unfold F21.ret at hh
  split at hh
  · exact hk _ _ hh
  · exact hh.elim
def F21.qcall (f : FuncId) (vs : List Value) (h : Heap) (K : Value → Prop) : Prop := match f, vs with
  | 27, [(.float .f64 a1)] => qcallP1 h (F27 a1 h) fun r2 => K (.int .i64 r2)
  | 28, [(.float .f64 a1)] => qcallP1 h (F28 a1 h) fun r2 => K (.float .f64 r2)
  | _, _ => False
noncomputable def F21.ctx : Ctx := { P := Try.prog, call := fun _ _ _ _ => False, qcall := F21.qcall, quiet := fun f => Nat.beq f 27 || Nat.beq f 28, loop := fun _ _ _ _ => False }
theorem F21.ok : F21.ctx.OK where
  mixed := by kernel_rfl
  mono := fun hh _ => hh.elim
  call := fun hh => hh.elim
  qmono := by
    intro f args h K K' hh hk
    change F21.qcall f args h K at hh
    change F21.qcall f args h K'
    unfold F21.qcall at hh ⊢
    split at hh
    · obtain ⟨x0, h1, h2⟩ := hh
      exact ⟨x0, h1, hk _ h2⟩
    · obtain ⟨x0, h1, h2⟩ := hh
      exact ⟨x0, h1, hk _ h2⟩
    · exact hh.elim
  qval := by
    intro f args h K hh
    change F21.qcall f args h K at hh
    suffices H : ∃ v, K v ∧ F21.qcall f args h (· = v) from H
    unfold F21.qcall at hh ⊢
    split at hh
    · obtain ⟨x0, h1, h2⟩ := hh
      exact ⟨_, h2, x0, h1, rfl⟩
    · obtain ⟨x0, h1, h2⟩ := hh
      exact ⟨_, h2, x0, h1, rfl⟩
    · exact hh.elim
  qcall := by
    intro f args h v hh w hw
    change F21.qcall f args h (· = v) at hh
    unfold F21.qcall at hh
    split at hh
    · obtain ⟨x0, h1, h2⟩ := hh
      obtain ⟨g1, g2⟩ := F27.calls h1 w hw
      refine .inl ⟨g1, g2.mono fun e w' ⟨u, he, ho, hr⟩ => ?_⟩
      have hq := F27.ret_elim (K' := fun u h' => u = v ∧ h' = h) (fun _ h' hr => by obtain ⟨rfl, rfl⟩ := hr; exact ⟨h2, rfl⟩) hr
      exact ⟨hq.1 ▸ he, ho, hq.2⟩
    · obtain ⟨x0, h1, h2⟩ := hh
      obtain ⟨g1, g2⟩ := F28.calls h1 w hw
      refine .inl ⟨g1, g2.mono fun e w' ⟨u, he, ho, hr⟩ => ?_⟩
      have hq := F28.ret_elim (K' := fun u h' => u = v ∧ h' = h) (fun _ h' hr => by obtain ⟨rfl, rfl⟩ := hr; exact ⟨h2, rfl⟩) hr
      exact ⟨hq.1 ▸ he, ho, hq.2⟩
    · exact hh.elim
noncomputable def F21.code : Code := (Try.f21.body).getD .skip
def F21.ann : Ann := .auto
set_option maxRecDepth 100000 in
theorem F21.eq (a1 : Nat) (h : Heap) (K : Int → Heap → Prop) : evF F21.ctx Try.f21 F21.ann [(.float .f64 a1)] h (F21.ret K) = F21 a1 h K := by kernel_rfl
set_option maxRecDepth 100000 in
theorem F21.calls {a1 : Nat} {h : Heap} {K : Int → Heap → Prop} (hh : F21 a1 h K) (w : World) (hw : w.heap = h) :
    (callFunc 21 #[(.float .f64 a1)]).run Try.prog w = .ok (.enter 21 #[(.float .f64 a1)]) w ∧ Calls Try.prog 21 #[(.float .f64 a1)] w fun e w' => ∃ v, e = .returned v ∧ Out w w' ∧ F21.ret K v w'.heap := by
  rw [← F21.eq] at hh
  exact fn_calls (args := [(.float .f64 a1)]) (c := F21.code) F21.ok Try.func21 (by kernel_rfl) (by kernel_rfl) (by kernel_rfl) (by kernel_rfl) (loops_ok (l := []) (by kernel_rfl) trivial) hh w hw

/-! ### strait/fint.Int: function 11 -/
def F11 (a1 : Nat) (h : Heap) (K : Int → Int → Heap → Prop) : Prop :=
  (qcallP1 h (F21 a1 h) fun x2 => ((iteB (x2 != (0 : Int)) (K 0 x2 h) ((∃ n3 : Int, (FloatKind.f64.decode a1).toInt .zero = some n3 ∧ (IntKind.i64.min ≤ n3 ∧ n3 ≤ IntKind.i64.max) ∧ K n3 0 h)))))
def F11.ret (K : Int → Int → Heap → Prop) (v : Value) (h : Heap) : Prop := match v with
  | (.tuple ⟨[(.int .i64 r4), (.int .i64 r5)]⟩) => K r4 r5 h
  | _ => False
theorem F11.ret_elim {K : Int → Int → Heap → Prop} {K' : Value → Heap → Prop} {v : Value} {h : Heap} (hk : ∀ r4 r5 h, K r4 r5 h → K' (.tuple #[(.int .i64 r4), (.int .i64 r5)]) h) (hh : F11.ret K v h) : K' v h := by
  unfold F11.ret at hh
  split at hh
  · exact hk _ _ _ hh
  · exact hh.elim
def F11.qcall (f : FuncId) (vs : List Value) (h : Heap) (K : Value → Prop) : Prop := match f, vs with
  | 21, [(.float .f64 a1)] => qcallP1 h (F21 a1 h) fun r5 => K (.int .i64 r5)
  | _, _ => False
noncomputable def F11.ctx : Ctx := { P := Try.prog, call := fun _ _ _ _ => False, qcall := F11.qcall, quiet := fun f => Nat.beq f 21, loop := fun _ _ _ _ => False }
theorem F11.ok : F11.ctx.OK where
  mixed := by kernel_rfl
  mono := fun hh _ => hh.elim
  call := fun hh => hh.elim
  qmono := by
    intro f args h K K' hh hk
    change F11.qcall f args h K at hh
    change F11.qcall f args h K'
    unfold F11.qcall at hh ⊢
    split at hh
    · obtain ⟨x0, h1, h2⟩ := hh
      exact ⟨x0, h1, hk _ h2⟩
    · exact hh.elim
  qval := by
    intro f args h K hh
    change F11.qcall f args h K at hh
    suffices H : ∃ v, K v ∧ F11.qcall f args h (· = v) from H
    unfold F11.qcall at hh ⊢
    split at hh
    · obtain ⟨x0, h1, h2⟩ := hh
      exact ⟨_, h2, x0, h1, rfl⟩
    · exact hh.elim
  qcall := by
    intro f args h v hh w hw
    change F11.qcall f args h (· = v) at hh
    unfold F11.qcall at hh
    split at hh
    · obtain ⟨x0, h1, h2⟩ := hh
      obtain ⟨g1, g2⟩ := F21.calls h1 w hw
      refine .inl ⟨g1, g2.mono fun e w' ⟨u, he, ho, hr⟩ => ?_⟩
      have hq := F21.ret_elim (K' := fun u h' => u = v ∧ h' = h) (fun _ h' hr => by obtain ⟨rfl, rfl⟩ := hr; exact ⟨h2, rfl⟩) hr
      exact ⟨hq.1 ▸ he, ho, hq.2⟩
    · exact hh.elim
noncomputable def F11.code : Code := (Try.f11.body).getD .skip
def F11.ann : Ann := .auto
set_option maxRecDepth 100000 in
theorem F11.eq (a1 : Nat) (h : Heap) (K : Int → Int → Heap → Prop) : evF F11.ctx Try.f11 F11.ann [(.float .f64 a1)] h (F11.ret K) = F11 a1 h K := by kernel_rfl
set_option maxRecDepth 100000 in
theorem F11.calls {a1 : Nat} {h : Heap} {K : Int → Int → Heap → Prop} (hh : F11 a1 h K) (w : World) (hw : w.heap = h) :
    (callFunc 11 #[(.float .f64 a1)]).run Try.prog w = .ok (.enter 11 #[(.float .f64 a1)]) w ∧ Calls Try.prog 11 #[(.float .f64 a1)] w fun e w' => ∃ v, e = .returned v ∧ Out w w' ∧ F11.ret K v w'.heap := by
  rw [← F11.eq] at hh
  exact fn_calls (args := [(.float .f64 a1)]) (c := F11.code) F11.ok Try.func11 (by kernel_rfl) (by kernel_rfl) (by kernel_rfl) (by kernel_rfl) (loops_ok (l := []) (by kernel_rfl) trivial) hh w hw

/-! ### strait/fint.Weight: function 15 -/
def F15 (a1 : Nat) (h : Heap) (K : Int → Int → Heap → Prop) : Prop :=
  (qcallP2 h (F11 a1 h) fun x2 x3 => ((iteB (x3 != (0 : Int)) (K 0 x3 h) ((iteB (decide (x2 < (0 : Int))) ((iteB (decide (x2 < (0 : Int))) (K 0 5 h) ((K x2 0 h)))) ((iteB (decide (x2 > (2147483648 : Int))) (K 0 5 h) ((K x2 0 h)))))))))
def F15.ret (K : Int → Int → Heap → Prop) (v : Value) (h : Heap) : Prop := match v with
  | (.tuple ⟨[(.int .i64 r5), (.int .i64 r6)]⟩) => K r5 r6 h
  | _ => False
theorem F15.ret_elim {K : Int → Int → Heap → Prop} {K' : Value → Heap → Prop} {v : Value} {h : Heap} (hk : ∀ r5 r6 h, K r5 r6 h → K' (.tuple #[(.int .i64 r5), (.int .i64 r6)]) h) (hh : F15.ret K v h) : K' v h := by
  unfold F15.ret at hh
  split at hh
  · exact hk _ _ _ hh
  · exact hh.elim
def F15.qcall (f : FuncId) (vs : List Value) (h : Heap) (K : Value → Prop) : Prop := match f, vs with
  | 11, [(.float .f64 a1)] => qcallP2 h (F11 a1 h) fun r4 r5 => K (.tuple #[(.int .i64 r4), (.int .i64 r5)])
  | _, _ => False
noncomputable def F15.ctx : Ctx := { P := Try.prog, call := fun _ _ _ _ => False, qcall := F15.qcall, quiet := fun f => Nat.beq f 11, loop := fun _ _ _ _ => False }
theorem F15.ok : F15.ctx.OK where
  mixed := by kernel_rfl
  mono := fun hh _ => hh.elim
  call := fun hh => hh.elim
  qmono := by
    intro f args h K K' hh hk
    change F15.qcall f args h K at hh
    change F15.qcall f args h K'
    unfold F15.qcall at hh ⊢
    split at hh
    · obtain ⟨x0, x1, h1, h2⟩ := hh
      exact ⟨x0, x1, h1, hk _ h2⟩
    · exact hh.elim
  qval := by
    intro f args h K hh
    change F15.qcall f args h K at hh
    suffices H : ∃ v, K v ∧ F15.qcall f args h (· = v) from H
    unfold F15.qcall at hh ⊢
    split at hh
    · obtain ⟨x0, x1, h1, h2⟩ := hh
      exact ⟨_, h2, x0, x1, h1, rfl⟩
    · exact hh.elim
  qcall := by
    intro f args h v hh w hw
    change F15.qcall f args h (· = v) at hh
    unfold F15.qcall at hh
    split at hh
    · obtain ⟨x0, x1, h1, h2⟩ := hh
      obtain ⟨g1, g2⟩ := F11.calls h1 w hw
      refine .inl ⟨g1, g2.mono fun e w' ⟨u, he, ho, hr⟩ => ?_⟩
      have hq := F11.ret_elim (K' := fun u h' => u = v ∧ h' = h) (fun _ _ h' hr => by obtain ⟨rfl, rfl, rfl⟩ := hr; exact ⟨h2, rfl⟩) hr
      exact ⟨hq.1 ▸ he, ho, hq.2⟩
    · exact hh.elim
noncomputable def F15.code : Code := (Try.f15.body).getD .skip
def F15.ann : Ann := .auto
set_option maxRecDepth 100000 in
theorem F15.eq (a1 : Nat) (h : Heap) (K : Int → Int → Heap → Prop) : evF F15.ctx Try.f15 F15.ann [(.float .f64 a1)] h (F15.ret K) = F15 a1 h K := by kernel_rfl
set_option maxRecDepth 100000 in
theorem F15.calls {a1 : Nat} {h : Heap} {K : Int → Int → Heap → Prop} (hh : F15 a1 h K) (w : World) (hw : w.heap = h) :
    (callFunc 15 #[(.float .f64 a1)]).run Try.prog w = .ok (.enter 15 #[(.float .f64 a1)]) w ∧ Calls Try.prog 15 #[(.float .f64 a1)] w fun e w' => ∃ v, e = .returned v ∧ Out w w' ∧ F15.ret K v w'.heap := by
  rw [← F15.eq] at hh
  exact fn_calls (args := [(.float .f64 a1)]) (c := F15.code) F15.ok Try.func15 (by kernel_rfl) (by kernel_rfl) (by kernel_rfl) (by kernel_rfl) (loops_ok (l := []) (by kernel_rfl) trivial) hh w hw

/-! ### strait/straitlaw04.awake: function 6 -/
def F6 (h : Heap) (K : Bool → Heap → Prop) : Prop :=
  (qcallP2 h (F11 13837309855095848960 h) fun x1 x2 => (qcallP2 h (F11 4602678819172646912 h) fun x3 x4 => (qcallP2 h (F15 4619567317775286272 h) fun x5 x6 => (iteB (x1 == ((-3) : Int)) (iteB (x2 == (0 : Int)) (iteB (x4 == (13 : Int)) (iteB (x5 == (7 : Int)) ((K (x6 == (0 : Int)) h)) (K false h)) (K false h)) (K false h)) (K false h)))))
def F6.ret (K : Bool → Heap → Prop) (v : Value) (h : Heap) : Prop := match v with
  | (.bool r8) => K r8 h
  | _ => False
theorem F6.ret_elim {K : Bool → Heap → Prop} {K' : Value → Heap → Prop} {v : Value} {h : Heap} (hk : ∀ r8 h, K r8 h → K' (.bool r8) h) (hh : F6.ret K v h) : K' v h := by
  unfold F6.ret at hh
  split at hh
  · exact hk _ _ hh
  · exact hh.elim
def F6.qcall (f : FuncId) (vs : List Value) (h : Heap) (K : Value → Prop) : Prop := match f, vs with
  | 11, [(.float .f64 a1)] => qcallP2 h (F11 a1 h) fun r4 r5 => K (.tuple #[(.int .i64 r4), (.int .i64 r5)])
  | 15, [(.float .f64 a1)] => qcallP2 h (F15 a1 h) fun r5 r6 => K (.tuple #[(.int .i64 r5), (.int .i64 r6)])
  | _, _ => False
noncomputable def F6.ctx : Ctx := { P := Try.prog, call := fun _ _ _ _ => False, qcall := F6.qcall, quiet := fun f => Nat.beq f 11 || Nat.beq f 15, loop := fun _ _ _ _ => False }
theorem F6.ok : F6.ctx.OK where
  mixed := by kernel_rfl
  mono := fun hh _ => hh.elim
  call := fun hh => hh.elim
  qmono := by
    intro f args h K K' hh hk
    change F6.qcall f args h K at hh
    change F6.qcall f args h K'
    unfold F6.qcall at hh ⊢
    split at hh
    · obtain ⟨x0, x1, h1, h2⟩ := hh
      exact ⟨x0, x1, h1, hk _ h2⟩
    · obtain ⟨x0, x1, h1, h2⟩ := hh
      exact ⟨x0, x1, h1, hk _ h2⟩
    · exact hh.elim
  qval := by
    intro f args h K hh
    change F6.qcall f args h K at hh
    suffices H : ∃ v, K v ∧ F6.qcall f args h (· = v) from H
    unfold F6.qcall at hh ⊢
    split at hh
    · obtain ⟨x0, x1, h1, h2⟩ := hh
      exact ⟨_, h2, x0, x1, h1, rfl⟩
    · obtain ⟨x0, x1, h1, h2⟩ := hh
      exact ⟨_, h2, x0, x1, h1, rfl⟩
    · exact hh.elim
  qcall := by
    intro f args h v hh w hw
    change F6.qcall f args h (· = v) at hh
    unfold F6.qcall at hh
    split at hh
    · obtain ⟨x0, x1, h1, h2⟩ := hh
      obtain ⟨g1, g2⟩ := F11.calls h1 w hw
      refine .inl ⟨g1, g2.mono fun e w' ⟨u, he, ho, hr⟩ => ?_⟩
      have hq := F11.ret_elim (K' := fun u h' => u = v ∧ h' = h) (fun _ _ h' hr => by obtain ⟨rfl, rfl, rfl⟩ := hr; exact ⟨h2, rfl⟩) hr
      exact ⟨hq.1 ▸ he, ho, hq.2⟩
    · obtain ⟨x0, x1, h1, h2⟩ := hh
      obtain ⟨g1, g2⟩ := F15.calls h1 w hw
      refine .inl ⟨g1, g2.mono fun e w' ⟨u, he, ho, hr⟩ => ?_⟩
      have hq := F15.ret_elim (K' := fun u h' => u = v ∧ h' = h) (fun _ _ h' hr => by obtain ⟨rfl, rfl, rfl⟩ := hr; exact ⟨h2, rfl⟩) hr
      exact ⟨hq.1 ▸ he, ho, hq.2⟩
    · exact hh.elim
noncomputable def F6.code : Code := (Try.f6.body).getD .skip
def F6.ann : Ann := .auto
set_option maxRecDepth 100000 in
theorem F6.eq (h : Heap) (K : Bool → Heap → Prop) : evF F6.ctx Try.f6 F6.ann [] h (F6.ret K) = F6 h K := by kernel_rfl
set_option maxRecDepth 100000 in
theorem F6.calls {h : Heap} {K : Bool → Heap → Prop} (hh : F6 h K) (w : World) (hw : w.heap = h) :
    (callFunc 6 #[]).run Try.prog w = .ok (.enter 6 #[]) w ∧ Calls Try.prog 6 #[] w fun e w' => ∃ v, e = .returned v ∧ Out w w' ∧ F6.ret K v w'.heap := by
  rw [← F6.eq] at hh
  exact fn_calls (args := []) (c := F6.code) F6.ok Try.func6 (by kernel_rfl) (by kernel_rfl) (by kernel_rfl) (by kernel_rfl) (loops_ok (l := []) (by kernel_rfl) trivial) hh w hw

/-! ### strait/fbit.Of: function 7 -/
def F7 (a1 : Int) (h : Heap) (K : Nat → Heap → Prop) : Prop :=
  K a1.toNat h
def F7.ret (K : Nat → Heap → Prop) (v : Value) (h : Heap) : Prop := match v with
  | (.float .f64 r2) => K r2 h
  | _ => False
theorem F7.ret_elim {K : Nat → Heap → Prop} {K' : Value → Heap → Prop} {v : Value} {h : Heap} (hk : ∀ r2 h, K r2 h → K' (.float .f64 r2) h) (hh : F7.ret K v h) : K' v h := by
  unfold F7.ret at hh
  split at hh
  · exact hk _ _ hh
  · exact hh.elim
def F7.qcall (f : FuncId) (vs : List Value) (h : Heap) (K : Value → Prop) : Prop := match f, vs with
  | 20, [(.int .u64 a1)] => K (.float .f64 a1.toNat)
  | _, _ => False
noncomputable def F7.ctx : Ctx := { P := Try.prog, call := fun _ _ _ _ => False, qcall := F7.qcall, quiet := fun f => Nat.beq f 20, loop := fun _ _ _ _ => False }
theorem F7.ok : F7.ctx.OK where
  mixed := by kernel_rfl
  mono := fun hh _ => hh.elim
  call := fun hh => hh.elim
  qmono := by
    intro f args h K K' hh hk
    change F7.qcall f args h K at hh
    change F7.qcall f args h K'
    unfold F7.qcall at hh ⊢
    split at hh
    · exact hk _ hh
    · exact hh.elim
  qval := by
    intro f args h K hh
    change F7.qcall f args h K at hh
    suffices H : ∃ v, K v ∧ F7.qcall f args h (· = v) from H
    unfold F7.qcall at hh ⊢
    split at hh
    · exact ⟨_, hh, rfl⟩
    · exact hh.elim
  qcall := by
    intro f args h v hh w hw
    change F7.qcall f args h (· = v) at hh
    unfold F7.qcall at hh
    split at hh
    · subst hh; exact .inr (ext_run Try.func20 (by kernel_rfl) (by kernel_rfl) (by kernel_rfl) (e := Extern.MathFloatBits.float64frombits) (by kernel_rfl) (by rfl))
    · exact hh.elim
noncomputable def F7.code : Code := (Try.f7.body).getD .skip
def F7.ann : Ann := .auto
set_option maxRecDepth 100000 in
theorem F7.eq (a1 : Int) (h : Heap) (K : Nat → Heap → Prop) : evF F7.ctx Try.f7 F7.ann [(.int .u64 a1)] h (F7.ret K) = F7 a1 h K := by kernel_rfl
set_option maxRecDepth 100000 in
theorem F7.calls {a1 : Int} {h : Heap} {K : Nat → Heap → Prop} (hh : F7 a1 h K) (w : World) (hw : w.heap = h) :
    (callFunc 7 #[(.int .u64 a1)]).run Try.prog w = .ok (.enter 7 #[(.int .u64 a1)]) w ∧ Calls Try.prog 7 #[(.int .u64 a1)] w fun e w' => ∃ v, e = .returned v ∧ Out w w' ∧ F7.ret K v w'.heap := by
  rw [← F7.eq] at hh
  exact fn_calls (args := [(.int .u64 a1)]) (c := F7.code) F7.ok Try.func7 (by kernel_rfl) (by kernel_rfl) (by kernel_rfl) (by kernel_rfl) (loops_ok (l := []) (by kernel_rfl) trivial) hh w hw

/-! ### strait/fint.Weights: function 8 -/
def F8.b0 (K0 : (Option Addr) → Nat → Nat → Int → Int → Heap → Prop) (K2 : Heap → Prop) (cont : Addr → Nat → Nat → (Option Addr) → Nat → Nat → Int → Int → Heap → Prop) (c5_1001 : Addr) (c5_1002 : Nat) (c5_1003 : Nat) (c13_1004 : Option Addr) (c13_1005 : Nat) (c13_1006 : Nat) (c14_1007 : Int) (v15_1008 : Int) (h1009 : Heap) : Prop :=
  (iteB (decide (v15_1008 < c14_1007)) ((chkP c13_1004 fun a1010 => (0 ≤ v15_1008 ∧ v15_1008 < (c13_1005 : Int)) ∧ ∃ (x1011 : Nat), cell h1009 (a1010.add (v15_1008.toNat * 1)) = some (.float .f64 x1011) ∧ (qcallP2 h1009 (F15 x1011 h1009) fun x1012 x1013 => ((iteB (x1013 != (0 : Int)) (K0 none 0 0 x1013 v15_1008 h1009) (((0 ≤ v15_1008 ∧ v15_1008 < (c5_1002 : Int)) ∧ stC h1009 (c5_1001.add (v15_1008.toNat * 1)) (.int .i64 x1012) fun h1014 => ((cont c5_1001 c5_1002 c5_1003 c13_1004 c13_1005 c13_1006 c14_1007 (IntKind.i64.wrap (v15_1008 + 1)) h1014))))))))) (K2 h1009))
def F8.l0 (K0 : (Option Addr) → Nat → Nat → Int → Int → Heap → Prop) (K2 : Heap → Prop) : Nat → Addr → Nat → Nat → (Option Addr) → Nat → Nat → Int → Int → Heap → Prop
  | 0, _, _, _, _, _, _, _, _, _ => False
  | m + 1, c5_1001, c5_1002, c5_1003, c13_1004, c13_1005, c13_1006, c14_1007, v15_1008, h => F8.b0 K0 K2 (F8.l0 K0 K2 m) c5_1001 c5_1002 c5_1003 c13_1004 c13_1005 c13_1006 c14_1007 v15_1008 h
def F8 (a1 : Option Addr) (a1l : Nat) (a1c : Nat) (h : Heap) (K : (Option Addr) → Nat → Nat → Int → Int → Heap → Prop) : Prop :=
  ((0 ≤ (a1l : Int) ∧ (a1l : Int) ≤ (a1l : Int) ∧ (a1l : Int) * (8 : Nat) ≤ 2 ^ 47 ∧ (a1l : Int) ≤ 2 ^ 47) ∧ newP h (.cells (zeroRow [(.int .i64 0)] (a1l : Int).toNat).toArray 2) fun a2 h3 => ((∃ m9, F8.l0 (fun z4 z4l z4c z5 z6 h7 => K z4 z4l z4c z5 z6 h7) (fun h8 => (((K (some a2) ((a1l : Int).toNat) ((a1l : Int).toNat) 0 0 h8)))) m9 a2 ((a1l : Int).toNat) ((a1l : Int).toNat) a1 a1l a1c (a1l : Int) 0 h3)))
def F8.ret (K : (Option Addr) → Nat → Nat → Int → Int → Heap → Prop) (v : Value) (h : Heap) : Prop := match v with
  | (.tuple ⟨[(.slice r10 r10l r10c), (.int .i64 r11), (.int .i64 r12)]⟩) => K r10 r10l r10c r11 r12 h
  | _ => False
theorem F8.ret_elim {K : (Option Addr) → Nat → Nat → Int → Int → Heap → Prop} {K' : Value → Heap → Prop} {v : Value} {h : Heap} (hk : ∀ r10 r10l r10c r11 r12 h, K r10 r10l r10c r11 r12 h → K' (.tuple #[(.slice r10 r10l r10c), (.int .i64 r11), (.int .i64 r12)]) h) (hh : F8.ret K v h) : K' v h := by
  unfold F8.ret at hh
  split at hh
  · exact hk _ _ _ _ _ _ hh
  · exact hh.elim
def F8.qcall (f : FuncId) (vs : List Value) (h : Heap) (K : Value → Prop) : Prop := match f, vs with
  | 15, [(.float .f64 a1)] => qcallP2 h (F15 a1 h) fun r5 r6 => K (.tuple #[(.int .i64 r5), (.int .i64 r6)])
  | _, _ => False
def F8.r0 (K : Nat → List Value → Heap → Prop) (m : Nat) (vs : List Value) (h : Heap) : Prop := match vs with
  | [(.slice (some c5_1001) c5_1002 c5_1003), (.slice c13_1004 c13_1005 c13_1006), (.int .i64 c14_1007), (.int .i64 v15_1008)] => F8.l0 (fun z13 z13l z13c z14 z15 h' => K 0 [(.slice z13 z13l z13c), (.int .i64 z14), (.int .i64 z15)] h') (fun h' => K 2 [(.slice (some c5_1001) c5_1002 c5_1003)] h') m c5_1001 c5_1002 c5_1003 c13_1004 c13_1005 c13_1006 c14_1007 v15_1008 h
  | _ => False
def F8.loop (i : Nat) (vs : List Value) (h : Heap) (K : Nat → List Value → Heap → Prop) : Prop := match i with
  | 0 => ∃ m, F8.r0 K m vs h
  | _ => False
noncomputable def F8.ctx : Ctx := { P := Try.prog, call := fun _ _ _ _ => False, qcall := F8.qcall, quiet := fun f => Nat.beq f 15, loop := F8.loop }
theorem F8.ok : F8.ctx.OK where
  mixed := by kernel_rfl
  mono := fun hh _ => hh.elim
  call := fun hh => hh.elim
  qmono := by
    intro f args h K K' hh hk
    change F8.qcall f args h K at hh
    change F8.qcall f args h K'
    unfold F8.qcall at hh ⊢
    split at hh
    · obtain ⟨x0, x1, h1, h2⟩ := hh
      exact ⟨x0, x1, h1, hk _ h2⟩
    · exact hh.elim
  qval := by
    intro f args h K hh
    change F8.qcall f args h K at hh
    suffices H : ∃ v, K v ∧ F8.qcall f args h (· = v) from H
    unfold F8.qcall at hh ⊢
    split at hh
    · obtain ⟨x0, x1, h1, h2⟩ := hh
      exact ⟨_, h2, x0, x1, h1, rfl⟩
    · exact hh.elim
  qcall := by
    intro f args h v hh w hw
    change F8.qcall f args h (· = v) at hh
    unfold F8.qcall at hh
    split at hh
    · obtain ⟨x0, x1, h1, h2⟩ := hh
      obtain ⟨g1, g2⟩ := F15.calls h1 w hw
      refine .inl ⟨g1, g2.mono fun e w' ⟨u, he, ho, hr⟩ => ?_⟩
      have hq := F15.ret_elim (K' := fun u h' => u = v ∧ h' = h) (fun _ _ h' hr => by obtain ⟨rfl, rfl, rfl⟩ := hr; exact ⟨h2, rfl⟩) hr
      exact ⟨hq.1 ▸ he, ho, hq.2⟩
    · exact hh.elim
noncomputable def F8.code : Code := (Try.f8.body).getD .skip
def F8.ann : Ann := (.two .auto (.two .auto (.two (.two .auto (.two (.loop 0 [5, 13, 14, 15] [(2, [5]), (0, [2, 3, 4])] .auto) .auto)) .auto)))
noncomputable def F8.c0 : Code := sub F8.code [1, 1, 0, 1, 0, 0]
def F8.a0 : Ann := .auto
def F8.keep0 : List Nat := [5, 13, 14, 15]
def F8.outs0 : List (Nat × List Nat) := [(2, [5]), (0, [2, 3, 4])]
set_option maxRecDepth 100000 in
theorem F8.L0 : LoopOK F8.ctx 35 F8.c0 0 F8.keep0 F8.outs0 := by
  refine loop_ok (n := F8.a0) F8.ok (by kernel_rfl) (loops_ok (l := []) (by kernel_rfl) ?_) F8.r0 ?_ ?_ (fun vs h K hh => hh)
  · exact trivial
  · intro K vs h hh
    unfold F8.r0 at hh
    split at hh
    · exact hh
    · exact hh
  · intro K m vs h hh
    unfold F8.r0 at hh
    split at hh
    · exact cast (by kernel_rfl) hh
    · exact hh.elim
set_option maxRecDepth 100000 in
theorem F8.eq (a1 : Option Addr) (a1l : Nat) (a1c : Nat) (h : Heap) (K : (Option Addr) → Nat → Nat → Int → Int → Heap → Prop) : evF F8.ctx Try.f8 F8.ann [(.slice a1 a1l a1c)] h (F8.ret K) = F8 a1 a1l a1c h K := by kernel_rfl
set_option maxRecDepth 100000 in
theorem F8.calls {a1 : Option Addr} {a1l : Nat} {a1c : Nat} {h : Heap} {K : (Option Addr) → Nat → Nat → Int → Int → Heap → Prop} (hh : F8 a1 a1l a1c h K) (w : World) (hw : w.heap = h) :
    (callFunc 8 #[(.slice a1 a1l a1c)]).run Try.prog w = .ok (.enter 8 #[(.slice a1 a1l a1c)]) w ∧ Calls Try.prog 8 #[(.slice a1 a1l a1c)] w fun e w' => ∃ v, e = .returned v ∧ Out w w' ∧ F8.ret K v w'.heap := by
  rw [← F8.eq] at hh
  exact fn_calls (args := [(.slice a1 a1l a1c)]) (c := F8.code) F8.ok Try.func8 (by kernel_rfl) (by kernel_rfl) (by kernel_rfl) (by kernel_rfl) (loops_ok (l := [(F8.c0, none, 0, F8.keep0, F8.outs0)]) (by kernel_rfl) ⟨F8.L0, trivial⟩) hh w hw

/-! ### strait/straitref02.Kind: function 23 -/
def F23 (a1 : Int) (h : Heap) (K : Int → Heap → Prop) : Prop :=
  (0 ≤ (52 : Int) ∧ (let j4 : Prop := ((iteB ((bits .and .u64 (a1.fdiv (2 ^ 52)) 2047) == (2047 : Int)) (K 1 h) ((iteB ((bits .and .u64 (a1.fdiv (2 ^ 52)) 2047) == (0 : Int)) ((iteB ((bits .and .u64 a1 4503599627370495) == (0 : Int)) (K 2 h) (((iteB ((bits .and .u64 (a1.fdiv (2 ^ 52)) 2047) == (0 : Int)) (K 3 h) (K 4 h)))))) ((((iteB ((bits .and .u64 (a1.fdiv (2 ^ 52)) 2047) == (0 : Int)) (K 3 h) (K 4 h)))))))));
  iteB ((bits .and .u64 (a1.fdiv (2 ^ 52)) 2047) == (2047 : Int)) ((iteB ((bits .and .u64 a1 4503599627370495) != (0 : Int)) (K 0 h) ((j4)))) (((j4)))))
def F23.ret (K : Int → Heap → Prop) (v : Value) (h : Heap) : Prop := match v with
  | (.int .i64 r5) => K r5 h
  | _ => False
theorem F23.ret_elim {K : Int → Heap → Prop} {K' : Value → Heap → Prop} {v : Value} {h : Heap} (hk : ∀ r5 h, K r5 h → K' (.int .i64 r5) h) (hh : F23.ret K v h) : K' v h := by
  unfold F23.ret at hh
  split at hh
  · exact hk _ _ hh
  · exact hh.elim
noncomputable def F23.ctx : Ctx := { P := Try.prog, call := fun _ _ _ _ => False, qcall := fun _ _ _ _ => False, quiet := fun f => false, loop := fun _ _ _ _ => False }
theorem F23.ok : F23.ctx.OK where
  mixed := by kernel_rfl
  mono := fun hh _ => hh.elim
  call := fun hh => hh.elim
  qmono := fun hh _ => hh.elim
  qval := fun hh => hh.elim
  qcall := fun hh => hh.elim
noncomputable def F23.code : Code := (Try.f23.body).getD .skip
def F23.ann : Ann := .auto
set_option maxRecDepth 100000 in
theorem F23.eq (a1 : Int) (h : Heap) (K : Int → Heap → Prop) : evF F23.ctx Try.f23 F23.ann [(.int .u64 a1)] h (F23.ret K) = F23 a1 h K := by kernel_rfl
set_option maxRecDepth 100000 in
theorem F23.calls {a1 : Int} {h : Heap} {K : Int → Heap → Prop} (hh : F23 a1 h K) (w : World) (hw : w.heap = h) :
    (callFunc 23 #[(.int .u64 a1)]).run Try.prog w = .ok (.enter 23 #[(.int .u64 a1)]) w ∧ Calls Try.prog 23 #[(.int .u64 a1)] w fun e w' => ∃ v, e = .returned v ∧ Out w w' ∧ F23.ret K v w'.heap := by
  rw [← F23.eq] at hh
  exact fn_calls (args := [(.int .u64 a1)]) (c := F23.code) F23.ok Try.func23 (by kernel_rfl) (by kernel_rfl) (by kernel_rfl) (by kernel_rfl) (loops_ok (l := []) (by kernel_rfl) trivial) hh w hw

/-! ### strait/straitref02.Parts: function 24 -/
def F24.b0 (K3 : Int → Int → Heap → Prop) (cont : Addr → Int → Int → Heap → Prop) (c2_1001 : Addr) (v3_1002 : Int) (v4_1003 : Int) (h1004 : Heap) : Prop :=
  (2 : Int) ≠ 0 ∧ (iteB ((v4_1003.tmod 2) == (0 : Int)) (((2 : Int) ≠ 0 ∧ ((cont c2_1001 (IntKind.i64.wrap (v3_1002 + 1)) (IntKind.u64.wrap (v4_1003.tdiv 2)) h1004)))) (K3 v3_1002 v4_1003 h1004))
def F24.l0 (K3 : Int → Int → Heap → Prop) : Nat → Addr → Int → Int → Heap → Prop
  | 0, _, _, _, _ => False
  | m + 1, c2_1001, v3_1002, v4_1003, h => F24.b0 K3 (F24.l0 K3 m) c2_1001 v3_1002 v4_1003 h
def F24 (a1 : Int) (h : Heap) (K : Int → Int → Bool → Heap → Prop) : Prop :=
  newP h (.cells #[(.int .u64 0), (.int .i64 0), (.bool false)] 54) fun a2 h3 => (0 ≤ (52 : Int) ∧ (let j31 := (fun (y19 : Int) (y20 : Int) => (∃ m24, F24.l0 (fun z21 z22 h23 => ((stC h23 a2 (.int .u64 z22) fun h25 => stC h25 (a2.add 1) (.int .i64 z21) fun h26 => stC h26 (a2.add 2) (.bool true) fun h27 => (∃ (x28 : Int), cell h27 a2 = some (.int .u64 x28) ∧ ∃ (x29 : Int), cell h27 (a2.add 1) = some (.int .i64 x29) ∧ ∃ (x30 : Bool), cell h27 (a2.add 2) = some (.bool x30) ∧ K x28 x29 x30 h27)))) m24 a2 (IntKind.i64.wrap (y19 - 1075)) y20 h3));
  qcallP1 h3 (F23 a1 h3) fun x4 => (let j18 := (fun (y5 : Bool) => iteB y5 (stC h3 a2 (.int .u64 0) fun h6 => stC h6 (a2.add 1) (.int .i64 0) fun h7 => stC h7 (a2.add 2) (.bool false) fun h8 => (∃ (x9 : Int), cell h8 a2 = some (.int .u64 x9) ∧ ∃ (x10 : Int), cell h8 (a2.add 1) = some (.int .i64 x10) ∧ ∃ (x11 : Bool), cell h8 (a2.add 2) = some (.bool x11) ∧ K x9 x10 x11 h8)) ((iteB (x4 == (2 : Int)) (stC h3 a2 (.int .u64 0) fun h12 => stC h12 (a2.add 1) (.int .i64 0) fun h13 => stC h13 (a2.add 2) (.bool true) fun h14 => (∃ (x15 : Int), cell h14 a2 = some (.int .u64 x15) ∧ ∃ (x16 : Int), cell h14 (a2.add 1) = some (.int .i64 x16) ∧ ∃ (x17 : Bool), cell h14 (a2.add 2) = some (.bool x17) ∧ K x15 x16 x17 h14)) ((iteB (x4 == (3 : Int)) (((j31 1 (bits .and .u64 a1 4503599627370495)))) (((j31 (IntKind.i64.wrap (bits .and .u64 (a1.fdiv (2 ^ 52)) 2047)) (IntKind.u64.wrap ((bits .and .u64 a1 4503599627370495) + 4503599627370496))))))))));
  (iteB (x4 == (0 : Int)) ((j18 (x4 == (0 : Int)))) ((j18 (x4 == (1 : Int))))))))
def F24.ret (K : Int → Int → Bool → Heap → Prop) (v : Value) (h : Heap) : Prop := match v with
  | (.agg ⟨[(.int .u64 r32), (.int .i64 r33), (.bool r34)]⟩) => K r32 r33 r34 h
  | _ => False
theorem F24.ret_elim {K : Int → Int → Bool → Heap → Prop} {K' : Value → Heap → Prop} {v : Value} {h : Heap} (hk : ∀ r32 r33 r34 h, K r32 r33 r34 h → K' (.agg #[(.int .u64 r32), (.int .i64 r33), (.bool r34)]) h) (hh : F24.ret K v h) : K' v h := by
  unfold F24.ret at hh
  split at hh
  · exact hk _ _ _ _ hh
  · exact hh.elim
def F24.qcall (f : FuncId) (vs : List Value) (h : Heap) (K : Value → Prop) : Prop := match f, vs with
  | 23, [(.int .u64 a1)] => qcallP1 h (F23 a1 h) fun r5 => K (.int .i64 r5)
  | _, _ => False
def F24.r0 (K : Nat → List Value → Heap → Prop) (m : Nat) (vs : List Value) (h : Heap) : Prop := match vs with
  | [(.pointer (some c2_1001)), (.int .i64 v3_1002), (.int .u64 v4_1003)] => F24.l0 (fun z35 z36 h' => K 3 [(.pointer (some c2_1001)), (.int .i64 z35), (.int .u64 z36)] h') m c2_1001 v3_1002 v4_1003 h
  | _ => False
def F24.loop (i : Nat) (vs : List Value) (h : Heap) (K : Nat → List Value → Heap → Prop) : Prop := match i with
  | 0 => ∃ m, F24.r0 K m vs h
  | _ => False
noncomputable def F24.ctx : Ctx := { P := Try.prog, call := fun _ _ _ _ => False, qcall := F24.qcall, quiet := fun f => Nat.beq f 23, loop := F24.loop }
theorem F24.ok : F24.ctx.OK where
  mixed := by kernel_rfl
  mono := fun hh _ => hh.elim
  call := fun hh => hh.elim
  qmono := by
    intro f args h K K' hh hk
    change F24.qcall f args h K at hh
    change F24.qcall f args h K'
    unfold F24.qcall at hh ⊢
    split at hh
    · obtain ⟨x0, h1, h2⟩ := hh
      exact ⟨x0, h1, hk _ h2⟩
    · exact hh.elim
  qval := by
    intro f args h K hh
    change F24.qcall f args h K at hh
    suffices H : ∃ v, K v ∧ F24.qcall f args h (· = v) from H
    unfold F24.qcall at hh ⊢
    split at hh
    · obtain ⟨x0, h1, h2⟩ := hh
      exact ⟨_, h2, x0, h1, rfl⟩
    · exact hh.elim
  qcall := by
    intro f args h v hh w hw
    change F24.qcall f args h (· = v) at hh
    unfold F24.qcall at hh
    split at hh
    · obtain ⟨x0, h1, h2⟩ := hh
      obtain ⟨g1, g2⟩ := F23.calls h1 w hw
      refine .inl ⟨g1, g2.mono fun e w' ⟨u, he, ho, hr⟩ => ?_⟩
      have hq := F23.ret_elim (K' := fun u h' => u = v ∧ h' = h) (fun _ h' hr => by obtain ⟨rfl, rfl⟩ := hr; exact ⟨h2, rfl⟩) hr
      exact ⟨hq.1 ▸ he, ho, hq.2⟩
    · exact hh.elim
noncomputable def F24.code : Code := (Try.f24.body).getD .skip
def F24.ann : Ann := (.two .auto (.two .auto (.two .auto (.two .auto (.two (.two (.loop 0 [2, 3, 4] [(3, [2, 3, 4])] .auto) .auto) .auto)))))
noncomputable def F24.c0 : Code := sub F24.code [1, 1, 1, 1, 0, 0, 0]
def F24.a0 : Ann := .auto
def F24.keep0 : List Nat := [2, 3, 4]
def F24.outs0 : List (Nat × List Nat) := [(3, [2, 3, 4])]
set_option maxRecDepth 100000 in
theorem F24.L0 : LoopOK F24.ctx 36 F24.c0 0 F24.keep0 F24.outs0 := by
  refine loop_ok (n := F24.a0) F24.ok (by kernel_rfl) (loops_ok (l := []) (by kernel_rfl) ?_) F24.r0 ?_ ?_ (fun vs h K hh => hh)
  · exact trivial
  · intro K vs h hh
    unfold F24.r0 at hh
    split at hh
    · exact hh
    · exact hh
  · intro K m vs h hh
    unfold F24.r0 at hh
    split at hh
    · exact cast (by kernel_rfl) hh
    · exact hh.elim
set_option maxRecDepth 100000 in
theorem F24.eq (a1 : Int) (h : Heap) (K : Int → Int → Bool → Heap → Prop) : evF F24.ctx Try.f24 F24.ann [(.int .u64 a1)] h (F24.ret K) = F24 a1 h K := by kernel_rfl
set_option maxRecDepth 100000 in
theorem F24.calls {a1 : Int} {h : Heap} {K : Int → Int → Bool → Heap → Prop} (hh : F24 a1 h K) (w : World) (hw : w.heap = h) :
    (callFunc 24 #[(.int .u64 a1)]).run Try.prog w = .ok (.enter 24 #[(.int .u64 a1)]) w ∧ Calls Try.prog 24 #[(.int .u64 a1)] w fun e w' => ∃ v, e = .returned v ∧ Out w w' ∧ F24.ret K v w'.heap := by
  rw [← F24.eq] at hh
  exact fn_calls (args := [(.int .u64 a1)]) (c := F24.code) F24.ok Try.func24 (by kernel_rfl) (by kernel_rfl) (by kernel_rfl) (by kernel_rfl) (loops_ok (l := [(F24.c0, none, 0, F24.keep0, F24.outs0)]) (by kernel_rfl) ⟨F24.L0, trivial⟩) hh w hw

/-! ### strait/straitref02.Neg: function 25 -/
def F25 (a1 : Int) (h : Heap) (K : Bool → Heap → Prop) : Prop :=
  (qcallP1 h (F23 a1 h) fun x2 => iteB (x2 != (0 : Int)) (0 ≤ (63 : Int) ∧ (K ((a1.fdiv (2 ^ 63)) == (1 : Int)) h)) (K false h))
def F25.ret (K : Bool → Heap → Prop) (v : Value) (h : Heap) : Prop := match v with
  | (.bool r4) => K r4 h
  | _ => False
theorem F25.ret_elim {K : Bool → Heap → Prop} {K' : Value → Heap → Prop} {v : Value} {h : Heap} (hk : ∀ r4 h, K r4 h → K' (.bool r4) h) (hh : F25.ret K v h) : K' v h := by
  unfold F25.ret at hh
  split at hh
  · exact hk _ _ hh
  · exact hh.elim
def F25.qcall (f : FuncId) (vs : List Value) (h : Heap) (K : Value → Prop) : Prop := match f, vs with
  | 23, [(.int .u64 a1)] => qcallP1 h (F23 a1 h) fun r5 => K (.int .i64 r5)
  | _, _ => False
noncomputable def F25.ctx : Ctx := { P := Try.prog, call := fun _ _ _ _ => False, qcall := F25.qcall, quiet := fun f => Nat.beq f 23, loop := fun _ _ _ _ => False }
theorem F25.ok : F25.ctx.OK where
  mixed := by kernel_rfl
  mono := fun hh _ => hh.elim
  call := fun hh => hh.elim
  qmono := by
    intro f args h K K' hh hk
    change F25.qcall f args h K at hh
    change F25.qcall f args h K'
    unfold F25.qcall at hh ⊢
    split at hh
    · obtain ⟨x0, h1, h2⟩ := hh
      exact ⟨x0, h1, hk _ h2⟩
    · exact hh.elim
  qval := by
    intro f args h K hh
    change F25.qcall f args h K at hh
    suffices H : ∃ v, K v ∧ F25.qcall f args h (· = v) from H
    unfold F25.qcall at hh ⊢
    split at hh
    · obtain ⟨x0, h1, h2⟩ := hh
      exact ⟨_, h2, x0, h1, rfl⟩
    · exact hh.elim
  qcall := by
    intro f args h v hh w hw
    change F25.qcall f args h (· = v) at hh
    unfold F25.qcall at hh
    split at hh
    · obtain ⟨x0, h1, h2⟩ := hh
      obtain ⟨g1, g2⟩ := F23.calls h1 w hw
      refine .inl ⟨g1, g2.mono fun e w' ⟨u, he, ho, hr⟩ => ?_⟩
      have hq := F23.ret_elim (K' := fun u h' => u = v ∧ h' = h) (fun _ h' hr => by obtain ⟨rfl, rfl⟩ := hr; exact ⟨h2, rfl⟩) hr
      exact ⟨hq.1 ▸ he, ho, hq.2⟩
    · exact hh.elim
noncomputable def F25.code : Code := (Try.f25.body).getD .skip
def F25.ann : Ann := .auto
set_option maxRecDepth 100000 in
theorem F25.eq (a1 : Int) (h : Heap) (K : Bool → Heap → Prop) : evF F25.ctx Try.f25 F25.ann [(.int .u64 a1)] h (F25.ret K) = F25 a1 h K := by kernel_rfl
set_option maxRecDepth 100000 in
theorem F25.calls {a1 : Int} {h : Heap} {K : Bool → Heap → Prop} (hh : F25 a1 h K) (w : World) (hw : w.heap = h) :
    (callFunc 25 #[(.int .u64 a1)]).run Try.prog w = .ok (.enter 25 #[(.int .u64 a1)]) w ∧ Calls Try.prog 25 #[(.int .u64 a1)] w fun e w' => ∃ v, e = .returned v ∧ Out w w' ∧ F25.ret K v w'.heap := by
  rw [← F25.eq] at hh
  exact fn_calls (args := [(.int .u64 a1)]) (c := F25.code) F25.ok Try.func25 (by kernel_rfl) (by kernel_rfl) (by kernel_rfl) (by kernel_rfl) (loops_ok (l := []) (by kernel_rfl) trivial) hh w hw

/-! ### strait/straitref04.Int: function 16 -/
def F16.b0 (K0 : Heap → Prop) (K3 : Int → Heap → Prop) (cont : Int → Addr → Addr → Int → Int → Heap → Prop) (c0_1001 : Int) (c2_1002 : Addr) (c3_1003 : Addr) (v4_1004 : Int) (v5_1005 : Int) (h1006 : Heap) : Prop :=
  ∃ (x1007 : Int), cell h1006 (c3_1003.add 1) = some (.int .i64 x1007) ∧ iteB (decide (v5_1005 < x1007)) (∃ (x1008 : Int), cell h1006 c3_1003 = some (.int .u64 x1008) ∧ (iteB (decide (x1008 > (0 : Int))) (((iteB (decide (v4_1004 ≥ (9223372036854775808 : Int))) (stC h1006 c2_1002 (.int .i64 0) fun h1014 => stC h1014 (c2_1002.add 1) (.int .i64 10) fun h1015 => K0 h1015) ((((cont c0_1001 c2_1002 c3_1003 (IntKind.u64.wrap (v4_1004 * 2)) (IntKind.i64.wrap (v5_1005 + 1)) h1006))))))) (K3 v4_1004 h1006))) (K3 v4_1004 h1006)
def F16.l0 (K0 : Heap → Prop) (K3 : Int → Heap → Prop) : Nat → Int → Addr → Addr → Int → Int → Heap → Prop
  | 0, _, _, _, _, _, _ => False
  | m + 1, c0_1001, c2_1002, c3_1003, v4_1004, v5_1005, h => F16.b0 K0 K3 (F16.l0 K0 K3 m) c0_1001 c2_1002 c3_1003 v4_1004 v5_1005 h
def F16 (a1 : Int) (h : Heap) (K : Int → Int → Heap → Prop) : Prop :=
  newP h (.cells #[(.int .i64 0), (.int .i64 0)] 45) fun a2 h3 => (qcallP1 h3 (F23 a1 h3) fun x4 => ((iteB (x4 == (0 : Int)) (stC h3 a2 (.int .i64 0) fun h5 => stC h5 (a2.add 1) (.int .i64 11) fun h6 => (∃ (x7 : Int), cell h6 a2 = some (.int .i64 x7) ∧ ∃ (x8 : Int), cell h6 (a2.add 1) = some (.int .i64 x8) ∧ K x7 x8 h6)) ((iteB (x4 == (1 : Int)) (stC h3 a2 (.int .i64 0) fun h9 => stC h9 (a2.add 1) (.int .i64 12) fun h10 => (∃ (x11 : Int), cell h10 a2 = some (.int .i64 x11) ∧ ∃ (x12 : Int), cell h10 (a2.add 1) = some (.int .i64 x12) ∧ K x11 x12 h10)) (((callP3 (F24 a1 h3) fun x13 x14 x15 h16 => newP h16 (.cells #[(.int .u64 0), (.int .i64 0), (.bool false)] 54) fun a17 h18 => stC h18 a17 (.int .u64 x13) fun h19 => stC h19 (a17.add 1) (.int .i64 x14) fun h20 => stC h20 (a17.add 2) (.bool x15) fun h21 => (∃ (x22 : Int), cell h21 (a17.add 1) = some (.int .i64 x22) ∧ (iteB (decide (x22 < (0 : Int))) (stC h21 a2 (.int .i64 0) fun h23 => stC h23 (a2.add 1) (.int .i64 13) fun h24 => (∃ (x25 : Int), cell h24 a2 = some (.int .i64 x25) ∧ ∃ (x26 : Int), cell h24 (a2.add 1) = some (.int .i64 x26) ∧ K x25 x26 h24)) ((∃ (x27 : Int), cell h21 a17 = some (.int .u64 x27) ∧ ((∃ m33, F16.l0 (fun h28 => ∃ (x29 : Int), cell h28 a2 = some (.int .i64 x29) ∧ ∃ (x30 : Int), cell h28 (a2.add 1) = some (.int .i64 x30) ∧ K x29 x30 h28) (fun z31 h32 => ((qcallP1 h32 (F25 a1 h32) fun x34 => (iteB x34 ((iteB (decide (z31 > (9223372036854775808 : Int))) (stC h32 a2 (.int .i64 0) fun h35 => stC h35 (a2.add 1) (.int .i64 10) fun h36 => (∃ (x37 : Int), cell h36 a2 = some (.int .i64 x37) ∧ ∃ (x38 : Int), cell h36 (a2.add 1) = some (.int .i64 x38) ∧ K x37 x38 h36)) ((stC h32 a2 (.int .i64 (IntKind.i64.wrap (0 - (IntKind.i64.wrap z31)))) fun h39 => stC h39 (a2.add 1) (.int .i64 0) fun h40 => (∃ (x41 : Int), cell h40 a2 = some (.int .i64 x41) ∧ ∃ (x42 : Int), cell h40 (a2.add 1) = some (.int .i64 x42) ∧ K x41 x42 h40))))) (((iteB (decide (z31 ≥ (9223372036854775808 : Int))) (stC h32 a2 (.int .i64 0) fun h43 => stC h43 (a2.add 1) (.int .i64 10) fun h44 => (∃ (x45 : Int), cell h44 a2 = some (.int .i64 x45) ∧ ∃ (x46 : Int), cell h44 (a2.add 1) = some (.int .i64 x46) ∧ K x45 x46 h44)) ((stC h32 a2 (.int .i64 (IntKind.i64.wrap z31)) fun h47 => stC h47 (a2.add 1) (.int .i64 0) fun h48 => (∃ (x49 : Int), cell h48 a2 = some (.int .i64 x49) ∧ ∃ (x50 : Int), cell h48 (a2.add 1) = some (.int .i64 x50) ∧ K x49 x50 h48)))))))))) m33 a1 a2 a17 x27 0 h21))))))))))))))
def F16.ret (K : Int → Int → Heap → Prop) (v : Value) (h : Heap) : Prop := match v with
  | (.agg ⟨[(.int .i64 r51), (.int .i64 r52)]⟩) => K r51 r52 h
  | _ => False
theorem F16.ret_elim {K : Int → Int → Heap → Prop} {K' : Value → Heap → Prop} {v : Value} {h : Heap} (hk : ∀ r51 r52 h, K r51 r52 h → K' (.agg #[(.int .i64 r51), (.int .i64 r52)]) h) (hh : F16.ret K v h) : K' v h := by
  unfold F16.ret at hh
  split at hh
  · exact hk _ _ _ hh
  · exact hh.elim
def F16.call (f : FuncId) (vs : List Value) (h : Heap) (K : Value → Heap → Prop) : Prop := match f, vs with
  | 24, [(.int .u64 a1)] => callP3 (F24 a1 h) fun r32 r33 r34 h' => K (.agg #[(.int .u64 r32), (.int .i64 r33), (.bool r34)]) h'
  | _, _ => False
def F16.qcall (f : FuncId) (vs : List Value) (h : Heap) (K : Value → Prop) : Prop := match f, vs with
  | 23, [(.int .u64 a1)] => qcallP1 h (F23 a1 h) fun r5 => K (.int .i64 r5)
  | 25, [(.int .u64 a1)] => qcallP1 h (F25 a1 h) fun r4 => K (.bool r4)
  | _, _ => False
def F16.r0 (K : Nat → List Value → Heap → Prop) (m : Nat) (vs : List Value) (h : Heap) : Prop := match vs with
  | [(.int .u64 c0_1001), (.pointer (some c2_1002)), (.pointer (some c3_1003)), (.int .u64 v4_1004), (.int .i64 v5_1005)] => F16.l0 (fun h' => K 0 [(.pointer (some c2_1002))] h') (fun z53 h' => K 3 [(.int .u64 c0_1001), (.pointer (some c2_1002)), (.int .u64 z53)] h') m c0_1001 c2_1002 c3_1003 v4_1004 v5_1005 h
  | _ => False
def F16.loop (i : Nat) (vs : List Value) (h : Heap) (K : Nat → List Value → Heap → Prop) : Prop := match i with
  | 0 => ∃ m, F16.r0 K m vs h
  | _ => False
noncomputable def F16.ctx : Ctx := { P := Try.prog, call := F16.call, qcall := F16.qcall, quiet := fun f => Nat.beq f 23 || Nat.beq f 25, loop := F16.loop }
theorem F16.ok : F16.ctx.OK where
  mixed := by kernel_rfl
  mono := by
    intro f args h K K' hh hk
    change F16.call f args h K at hh
    change F16.call f args h K'
    unfold F16.call at hh ⊢
    split at hh
    · obtain ⟨R, h1, h2⟩ := hh
      exact ⟨R, h1, fun _ _ _ x hr => hk _ _ (h2 _ _ _ x hr)⟩
    · exact hh.elim
  call := by
    intro f args h K hh w hw
    change F16.call f args h K at hh
    unfold F16.call at hh
    split at hh
    · obtain ⟨R, h1, h2⟩ := hh
      obtain ⟨g1, g2⟩ := F24.calls h1 w hw
      exact ⟨g1, g2.mono fun e w' ⟨v, he, ho, hr⟩ => ⟨v, he, ho, F24.ret_elim h2 hr⟩⟩
    · exact hh.elim
  qmono := by
    intro f args h K K' hh hk
    change F16.qcall f args h K at hh
    change F16.qcall f args h K'
    unfold F16.qcall at hh ⊢
    split at hh
    · obtain ⟨x0, h1, h2⟩ := hh
      exact ⟨x0, h1, hk _ h2⟩
    · obtain ⟨x0, h1, h2⟩ := hh
      exact ⟨x0, h1, hk _ h2⟩
    · exact hh.elim
  qval := by
    intro f args h K hh
    change F16.qcall f args h K at hh
    suffices H : ∃ v, K v ∧ F16.qcall f args h (· = v) from H
    unfold F16.qcall at hh ⊢
    split at hh
    · obtain ⟨x0, h1, h2⟩ := hh
      exact ⟨_, h2, x0, h1, rfl⟩
    · obtain ⟨x0, h1, h2⟩ := hh
      exact ⟨_, h2, x0, h1, rfl⟩
    · exact hh.elim
  qcall := by
    intro f args h v hh w hw
    change F16.qcall f args h (· = v) at hh
    unfold F16.qcall at hh
    split at hh
    · obtain ⟨x0, h1, h2⟩ := hh
      obtain ⟨g1, g2⟩ := F23.calls h1 w hw
      refine .inl ⟨g1, g2.mono fun e w' ⟨u, he, ho, hr⟩ => ?_⟩
      have hq := F23.ret_elim (K' := fun u h' => u = v ∧ h' = h) (fun _ h' hr => by obtain ⟨rfl, rfl⟩ := hr; exact ⟨h2, rfl⟩) hr
      exact ⟨hq.1 ▸ he, ho, hq.2⟩
    · obtain ⟨x0, h1, h2⟩ := hh
      obtain ⟨g1, g2⟩ := F25.calls h1 w hw
      refine .inl ⟨g1, g2.mono fun e w' ⟨u, he, ho, hr⟩ => ?_⟩
      have hq := F25.ret_elim (K' := fun u h' => u = v ∧ h' = h) (fun _ h' hr => by obtain ⟨rfl, rfl⟩ := hr; exact ⟨h2, rfl⟩) hr
      exact ⟨hq.1 ▸ he, ho, hq.2⟩
    · exact hh.elim
noncomputable def F16.code : Code := (Try.f16.body).getD .skip
def F16.ann : Ann := (.two .auto (.two .auto (.two .auto (.two .auto (.two .auto (.two (.two .auto (.two (.loop 0 [0, 2, 3, 4, 5] [(3, [0, 2, 4]), (0, [2])] .auto) .auto)) .auto))))))
noncomputable def F16.c0 : Code := sub F16.code [1, 1, 1, 1, 1, 0, 1, 0, 0]
def F16.a0 : Ann := .auto
def F16.keep0 : List Nat := [0, 2, 3, 4, 5]
def F16.outs0 : List (Nat × List Nat) := [(3, [0, 2, 4]), (0, [2])]
set_option maxRecDepth 100000 in
theorem F16.L0 : LoopOK F16.ctx 53 F16.c0 0 F16.keep0 F16.outs0 := by
  refine loop_ok (n := F16.a0) F16.ok (by kernel_rfl) (loops_ok (l := []) (by kernel_rfl) ?_) F16.r0 ?_ ?_ (fun vs h K hh => hh)
  · exact trivial
  · intro K vs h hh
    unfold F16.r0 at hh
    split at hh
    · exact hh
    · exact hh
  · intro K m vs h hh
    unfold F16.r0 at hh
    split at hh
    · exact cast (by kernel_rfl) hh
    · exact hh.elim
set_option maxRecDepth 100000 in
theorem F16.eq (a1 : Int) (h : Heap) (K : Int → Int → Heap → Prop) : evF F16.ctx Try.f16 F16.ann [(.int .u64 a1)] h (F16.ret K) = F16 a1 h K := by kernel_rfl
set_option maxRecDepth 100000 in
theorem F16.calls {a1 : Int} {h : Heap} {K : Int → Int → Heap → Prop} (hh : F16 a1 h K) (w : World) (hw : w.heap = h) :
    (callFunc 16 #[(.int .u64 a1)]).run Try.prog w = .ok (.enter 16 #[(.int .u64 a1)]) w ∧ Calls Try.prog 16 #[(.int .u64 a1)] w fun e w' => ∃ v, e = .returned v ∧ Out w w' ∧ F16.ret K v w'.heap := by
  rw [← F16.eq] at hh
  exact fn_calls (args := [(.int .u64 a1)]) (c := F16.code) F16.ok Try.func16 (by kernel_rfl) (by kernel_rfl) (by kernel_rfl) (by kernel_rfl) (loops_ok (l := [(F16.c0, none, 0, F16.keep0, F16.outs0)]) (by kernel_rfl) ⟨F16.L0, trivial⟩) hh w hw

/-! ### strait/straitref04.Weight: function 18 -/
def F18 (a1 : Int) (h : Heap) (K : Int → Int → Heap → Prop) : Prop :=
  newP h (.cells #[(.int .i64 0), (.int .i64 0)] 45) fun a2 h3 => (callP2 (F16 a1 h3) fun x4 x5 h6 => newP h6 (.cells #[(.int .i64 0), (.int .i64 0)] 45) fun a7 h8 => stC h8 a7 (.int .i64 x4) fun h9 => stC h9 (a7.add 1) (.int .i64 x5) fun h10 => (let j19 := (fun (y14 : Bool) => iteB y14 (stC h10 a2 (.int .i64 0) fun h15 => stC h15 (a2.add 1) (.int .i64 5) fun h16 => (∃ (x17 : Int), cell h16 a2 = some (.int .i64 x17) ∧ ∃ (x18 : Int), cell h16 (a2.add 1) = some (.int .i64 x18) ∧ K x17 x18 h16)) ((∃ (x20 : Int), cell h10 a7 = some (.int .i64 x20) ∧ ∃ (x21 : Int), cell h10 (a7.add 1) = some (.int .i64 x21) ∧ stC h10 a2 (.int .i64 x20) fun h22 => stC h22 (a2.add 1) (.int .i64 x21) fun h23 => (∃ (x24 : Int), cell h23 a2 = some (.int .i64 x24) ∧ ∃ (x25 : Int), cell h23 (a2.add 1) = some (.int .i64 x25) ∧ K x24 x25 h23))));
  ∃ (x11 : Int), cell h10 (a7.add 1) = some (.int .i64 x11) ∧ iteB (x11 == (0 : Int)) (∃ (x12 : Int), cell h10 a7 = some (.int .i64 x12) ∧ iteB (decide (x12 < (0 : Int))) ((j19 true)) (∃ (x13 : Int), cell h10 a7 = some (.int .i64 x13) ∧ (j19 (decide (x13 > (2147483648 : Int)))))) ((j19 false))))
def F18.ret (K : Int → Int → Heap → Prop) (v : Value) (h : Heap) : Prop := match v with
  | (.agg ⟨[(.int .i64 r26), (.int .i64 r27)]⟩) => K r26 r27 h
  | _ => False
theorem F18.ret_elim {K : Int → Int → Heap → Prop} {K' : Value → Heap → Prop} {v : Value} {h : Heap} (hk : ∀ r26 r27 h, K r26 r27 h → K' (.agg #[(.int .i64 r26), (.int .i64 r27)]) h) (hh : F18.ret K v h) : K' v h := by
  unfold F18.ret at hh
  split at hh
  · exact hk _ _ _ hh
  · exact hh.elim
def F18.call (f : FuncId) (vs : List Value) (h : Heap) (K : Value → Heap → Prop) : Prop := match f, vs with
  | 16, [(.int .u64 a1)] => callP2 (F16 a1 h) fun r51 r52 h' => K (.agg #[(.int .i64 r51), (.int .i64 r52)]) h'
  | _, _ => False
noncomputable def F18.ctx : Ctx := { P := Try.prog, call := F18.call, qcall := fun _ _ _ _ => False, quiet := fun f => false, loop := fun _ _ _ _ => False }
theorem F18.ok : F18.ctx.OK where
  mixed := by kernel_rfl
  mono := by
    intro f args h K K' hh hk
    change F18.call f args h K at hh
    change F18.call f args h K'
    unfold F18.call at hh ⊢
    split at hh
    · obtain ⟨R, h1, h2⟩ := hh
      exact ⟨R, h1, fun _ _ x hr => hk _ _ (h2 _ _ x hr)⟩
    · exact hh.elim
  call := by
    intro f args h K hh w hw
    change F18.call f args h K at hh
    unfold F18.call at hh
    split at hh
    · obtain ⟨R, h1, h2⟩ := hh
      obtain ⟨g1, g2⟩ := F16.calls h1 w hw
      exact ⟨g1, g2.mono fun e w' ⟨v, he, ho, hr⟩ => ⟨v, he, ho, F16.ret_elim h2 hr⟩⟩
    · exact hh.elim
  qmono := fun hh _ => hh.elim
  qval := fun hh => hh.elim
  qcall := fun hh => hh.elim
noncomputable def F18.code : Code := (Try.f18.body).getD .skip
def F18.ann : Ann := .auto
set_option maxRecDepth 100000 in
theorem F18.eq (a1 : Int) (h : Heap) (K : Int → Int → Heap → Prop) : evF F18.ctx Try.f18 F18.ann [(.int .u64 a1)] h (F18.ret K) = F18 a1 h K := by kernel_rfl
set_option maxRecDepth 100000 in
theorem F18.calls {a1 : Int} {h : Heap} {K : Int → Int → Heap → Prop} (hh : F18 a1 h K) (w : World) (hw : w.heap = h) :
    (callFunc 18 #[(.int .u64 a1)]).run Try.prog w = .ok (.enter 18 #[(.int .u64 a1)]) w ∧ Calls Try.prog 18 #[(.int .u64 a1)] w fun e w' => ∃ v, e = .returned v ∧ Out w w' ∧ F18.ret K v w'.heap := by
  rw [← F18.eq] at hh
  exact fn_calls (args := [(.int .u64 a1)]) (c := F18.code) F18.ok Try.func18 (by kernel_rfl) (by kernel_rfl) (by kernel_rfl) (by kernel_rfl) (loops_ok (l := []) (by kernel_rfl) trivial) hh w hw

/-! ### strait/straitref04.Weights: function 9 -/
def F9.b0 (K0 : Heap → Prop) (K2 : (Option Addr) → Nat → Nat → Heap → Prop) (cont : (Option Addr) → Nat → Nat → Addr → (Option Addr) → Nat → Nat → Int → Heap → Prop) (c0_1001 : Option Addr) (c0_1002 : Nat) (c0_1003 : Nat) (c2_1004 : Addr) (v3_1005 : Option Addr) (v3_1005l : Nat) (v3_1005c : Nat) (v4_1006 : Int) (h1007 : Heap) : Prop :=
  (iteB (decide (v4_1006 < (c0_1002 : Int))) ((chkP c0_1001 fun a1008 => (0 ≤ v4_1006 ∧ v4_1006 < (c0_1002 : Int)) ∧ ∃ (x1009 : Int), cell h1007 (a1008.add (v4_1006.toNat * 1)) = some (.int .u64 x1009) ∧ callP2 (F18 x1009 h1007) fun x1010 x1011 h1012 => newP h1012 (.cells #[(.int .i64 0), (.int .i64 0)] 45) fun a1013 h1014 => stC h1014 a1013 (.int .i64 x1010) fun h1015 => stC h1015 (a1013.add 1) (.int .i64 x1011) fun h1016 => (∃ (x1017 : Int), cell h1016 (a1013.add 1) = some (.int .i64 x1017) ∧ (iteB (x1017 != (0 : Int)) (∃ (x1018 : Int), cell h1016 (a1013.add 1) = some (.int .i64 x1018) ∧ stC h1016 c2_1004 (.slice none 0 0) fun h1019 => stC h1019 (c2_1004.add 1) (.int .i64 x1018) fun h1020 => stC h1020 (c2_1004.add 2) (.int .i64 v4_1006) fun h1021 => K0 h1021) ((∃ (x1022 : Int), cell h1016 a1013 = some (.int .i64 x1022) ∧ newP h1016 (.cells #[(.int .i64 x1022)] 2) fun a1023 h1024 => ∃ n1029, cellsAt h1024 (some a1023) (1 * 1) n1029 ∧ appP 2 1 8 [(.int .i64 0)] v3_1005 v3_1005l v3_1005c 1 n1029 h1024 fun q1025 l1026 c1027 h1028 => ((cont c0_1001 c0_1002 c0_1003 c2_1004 q1025 l1026 c1027 (IntKind.i64.wrap (v4_1006 + 1)) h1028)))))))) (K2 v3_1005 v3_1005l v3_1005c h1007))
def F9.l0 (K0 : Heap → Prop) (K2 : (Option Addr) → Nat → Nat → Heap → Prop) : Nat → (Option Addr) → Nat → Nat → Addr → (Option Addr) → Nat → Nat → Int → Heap → Prop
  | 0, _, _, _, _, _, _, _, _, _ => False
  | m + 1, c0_1001, c0_1002, c0_1003, c2_1004, v3_1005, v3_1005l, v3_1005c, v4_1006, h => F9.b0 K0 K2 (F9.l0 K0 K2 m) c0_1001 c0_1002 c0_1003 c2_1004 v3_1005 v3_1005l v3_1005c v4_1006 h
def F9 (a1 : Option Addr) (a1l : Nat) (a1c : Nat) (h : Heap) (K : (Option Addr) → Nat → Nat → Int → Int → Heap → Prop) : Prop :=
  newP h (.cells #[(.slice none 0 0), (.int .i64 0), (.int .i64 0)] 33) fun a2 h3 => (((∃ m10, F9.l0 (fun h4 => ∃ (x5 : Option Addr) (x5l : Nat) (x5c : Nat), cell h4 a2 = some (.slice x5 x5l x5c) ∧ ∃ (x6 : Int), cell h4 (a2.add 1) = some (.int .i64 x6) ∧ ∃ (x7 : Int), cell h4 (a2.add 2) = some (.int .i64 x7) ∧ K x5 x5l x5c x6 x7 h4) (fun z8 z8l z8c h9 => ((stC h9 a2 (.slice z8 z8l z8c) fun h11 => stC h11 (a2.add 1) (.int .i64 0) fun h12 => stC h12 (a2.add 2) (.int .i64 0) fun h13 => (∃ (x14 : Option Addr) (x14l : Nat) (x14c : Nat), cell h13 a2 = some (.slice x14 x14l x14c) ∧ ∃ (x15 : Int), cell h13 (a2.add 1) = some (.int .i64 x15) ∧ ∃ (x16 : Int), cell h13 (a2.add 2) = some (.int .i64 x16) ∧ K x14 x14l x14c x15 x16 h13)))) m10 a1 a1l a1c a2 none 0 0 0 h3)))
def F9.ret (K : (Option Addr) → Nat → Nat → Int → Int → Heap → Prop) (v : Value) (h : Heap) : Prop := match v with
  | (.agg ⟨[(.slice r17 r17l r17c), (.int .i64 r18), (.int .i64 r19)]⟩) => K r17 r17l r17c r18 r19 h
  | _ => False
theorem F9.ret_elim {K : (Option Addr) → Nat → Nat → Int → Int → Heap → Prop} {K' : Value → Heap → Prop} {v : Value} {h : Heap} (hk : ∀ r17 r17l r17c r18 r19 h, K r17 r17l r17c r18 r19 h → K' (.agg #[(.slice r17 r17l r17c), (.int .i64 r18), (.int .i64 r19)]) h) (hh : F9.ret K v h) : K' v h := by
  unfold F9.ret at hh
  split at hh
  · exact hk _ _ _ _ _ _ hh
  · exact hh.elim
def F9.call (f : FuncId) (vs : List Value) (h : Heap) (K : Value → Heap → Prop) : Prop := match f, vs with
  | 18, [(.int .u64 a1)] => callP2 (F18 a1 h) fun r26 r27 h' => K (.agg #[(.int .i64 r26), (.int .i64 r27)]) h'
  | _, _ => False
def F9.r0 (K : Nat → List Value → Heap → Prop) (m : Nat) (vs : List Value) (h : Heap) : Prop := match vs with
  | [(.slice c0_1001 c0_1002 c0_1003), (.pointer (some c2_1004)), (.slice v3_1005 v3_1005l v3_1005c), (.int .i64 v4_1006)] => F9.l0 (fun h' => K 0 [(.pointer (some c2_1004))] h') (fun z20 z20l z20c h' => K 2 [(.pointer (some c2_1004)), (.slice z20 z20l z20c)] h') m c0_1001 c0_1002 c0_1003 c2_1004 v3_1005 v3_1005l v3_1005c v4_1006 h
  | _ => False
def F9.loop (i : Nat) (vs : List Value) (h : Heap) (K : Nat → List Value → Heap → Prop) : Prop := match i with
  | 0 => ∃ m, F9.r0 K m vs h
  | _ => False
noncomputable def F9.ctx : Ctx := { P := Try.prog, call := F9.call, qcall := fun _ _ _ _ => False, quiet := fun f => false, loop := F9.loop }
theorem F9.ok : F9.ctx.OK where
  mixed := by kernel_rfl
  mono := by
    intro f args h K K' hh hk
    change F9.call f args h K at hh
    change F9.call f args h K'
    unfold F9.call at hh ⊢
    split at hh
    · obtain ⟨R, h1, h2⟩ := hh
      exact ⟨R, h1, fun _ _ x hr => hk _ _ (h2 _ _ x hr)⟩
    · exact hh.elim
  call := by
    intro f args h K hh w hw
    change F9.call f args h K at hh
    unfold F9.call at hh
    split at hh
    · obtain ⟨R, h1, h2⟩ := hh
      obtain ⟨g1, g2⟩ := F18.calls h1 w hw
      exact ⟨g1, g2.mono fun e w' ⟨v, he, ho, hr⟩ => ⟨v, he, ho, F18.ret_elim h2 hr⟩⟩
    · exact hh.elim
  qmono := fun hh _ => hh.elim
  qval := fun hh => hh.elim
  qcall := fun hh => hh.elim
noncomputable def F9.code : Code := (Try.f9.body).getD .skip
def F9.ann : Ann := (.two .auto (.two .auto (.two (.two .auto (.two (.loop 0 [0, 2, 3, 4] [(2, [2, 3]), (0, [2])] .auto) .auto)) .auto)))
noncomputable def F9.c0 : Code := sub F9.code [1, 1, 0, 1, 0, 0]
def F9.a0 : Ann := .auto
def F9.keep0 : List Nat := [0, 2, 3, 4]
def F9.outs0 : List (Nat × List Nat) := [(2, [2, 3]), (0, [2])]
set_option maxRecDepth 100000 in
theorem F9.L0 : LoopOK F9.ctx 31 F9.c0 0 F9.keep0 F9.outs0 := by
  refine loop_ok (n := F9.a0) F9.ok (by kernel_rfl) (loops_ok (l := []) (by kernel_rfl) ?_) F9.r0 ?_ ?_ (fun vs h K hh => hh)
  · exact trivial
  · intro K vs h hh
    unfold F9.r0 at hh
    split at hh
    · exact hh
    · exact hh
  · intro K m vs h hh
    unfold F9.r0 at hh
    split at hh
    · exact cast (by kernel_rfl) hh
    · exact hh.elim
set_option maxRecDepth 100000 in
theorem F9.eq (a1 : Option Addr) (a1l : Nat) (a1c : Nat) (h : Heap) (K : (Option Addr) → Nat → Nat → Int → Int → Heap → Prop) : evF F9.ctx Try.f9 F9.ann [(.slice a1 a1l a1c)] h (F9.ret K) = F9 a1 a1l a1c h K := by kernel_rfl
set_option maxRecDepth 100000 in
theorem F9.calls {a1 : Option Addr} {a1l : Nat} {a1c : Nat} {h : Heap} {K : (Option Addr) → Nat → Nat → Int → Int → Heap → Prop} (hh : F9 a1 a1l a1c h K) (w : World) (hw : w.heap = h) :
    (callFunc 9 #[(.slice a1 a1l a1c)]).run Try.prog w = .ok (.enter 9 #[(.slice a1 a1l a1c)]) w ∧ Calls Try.prog 9 #[(.slice a1 a1l a1c)] w fun e w' => ∃ v, e = .returned v ∧ Out w w' ∧ F9.ret K v w'.heap := by
  rw [← F9.eq] at hh
  exact fn_calls (args := [(.slice a1 a1l a1c)]) (c := F9.code) F9.ok Try.func9 (by kernel_rfl) (by kernel_rfl) (by kernel_rfl) (by kernel_rfl) (loops_ok (l := [(F9.c0, none, 0, F9.keep0, F9.outs0)]) (by kernel_rfl) ⟨F9.L0, trivial⟩) hh w hw

/-! ### strait/straitref04.Same: function 10 -/
def F10.b0 (K0 : Bool → Heap → Prop) (K2 : Heap → Prop) (cont : (Option Addr) → Nat → Nat → (Option Addr) → Nat → Nat → Int → Heap → Prop) (c0_1001 : Option Addr) (c0_1002 : Nat) (c0_1003 : Nat) (c1_1004 : Option Addr) (c1_1005 : Nat) (c1_1006 : Nat) (v5_1007 : Int) (h1008 : Heap) : Prop :=
  (iteB (decide (v5_1007 < (c0_1002 : Int))) ((chkP c0_1001 fun a1009 => (0 ≤ v5_1007 ∧ v5_1007 < (c0_1002 : Int)) ∧ ∃ (x1010 : Int), cell h1008 (a1009.add (v5_1007.toNat * 1)) = some (.int .i64 x1010) ∧ chkP c1_1004 fun a1011 => (0 ≤ v5_1007 ∧ v5_1007 < (c1_1005 : Int)) ∧ ∃ (x1012 : Int), cell h1008 (a1011.add (v5_1007.toNat * 1)) = some (.int .i64 x1012) ∧ (iteB (x1010 != x1012) (K0 false h1008) (((cont c0_1001 c0_1002 c0_1003 c1_1004 c1_1005 c1_1006 (IntKind.i64.wrap (v5_1007 + 1)) h1008)))))) (K2 h1008))
def F10.l0 (K0 : Bool → Heap → Prop) (K2 : Heap → Prop) : Nat → (Option Addr) → Nat → Nat → (Option Addr) → Nat → Nat → Int → Heap → Prop
  | 0, _, _, _, _, _, _, _, _ => False
  | m + 1, c0_1001, c0_1002, c0_1003, c1_1004, c1_1005, c1_1006, v5_1007, h => F10.b0 K0 K2 (F10.l0 K0 K2 m) c0_1001 c0_1002 c0_1003 c1_1004 c1_1005 c1_1006 v5_1007 h
def F10 (a1 : Option Addr) (a1l : Nat) (a1c : Nat) (a2 : Option Addr) (a2l : Nat) (a2c : Nat) (h : Heap) (K : Bool → Heap → Prop) : Prop :=
  ((iteB ((a1l : Int) != (a2l : Int)) (K false h) (((∃ m6, F10.l0 (fun z3 h4 => K z3 h4) (fun h5 => (K true h5)) m6 a1 a1l a1c a2 a2l a2c 0 h)))))
def F10.ret (K : Bool → Heap → Prop) (v : Value) (h : Heap) : Prop := match v with
  | (.bool r7) => K r7 h
  | _ => False
theorem F10.ret_elim {K : Bool → Heap → Prop} {K' : Value → Heap → Prop} {v : Value} {h : Heap} (hk : ∀ r7 h, K r7 h → K' (.bool r7) h) (hh : F10.ret K v h) : K' v h := by
  unfold F10.ret at hh
  split at hh
  · exact hk _ _ hh
  · exact hh.elim
def F10.r0 (K : Nat → List Value → Heap → Prop) (m : Nat) (vs : List Value) (h : Heap) : Prop := match vs with
  | [(.slice c0_1001 c0_1002 c0_1003), (.slice c1_1004 c1_1005 c1_1006), (.int .i64 v5_1007)] => F10.l0 (fun z8 h' => K 0 [(.bool z8)] h') (fun h' => K 2 [] h') m c0_1001 c0_1002 c0_1003 c1_1004 c1_1005 c1_1006 v5_1007 h
  | _ => False
def F10.loop (i : Nat) (vs : List Value) (h : Heap) (K : Nat → List Value → Heap → Prop) : Prop := match i with
  | 0 => ∃ m, F10.r0 K m vs h
  | _ => False
noncomputable def F10.ctx : Ctx := { P := Try.prog, call := fun _ _ _ _ => False, qcall := fun _ _ _ _ => False, quiet := fun f => false, loop := F10.loop }
theorem F10.ok : F10.ctx.OK where
  mixed := by kernel_rfl
  mono := fun hh _ => hh.elim
  call := fun hh => hh.elim
  qmono := fun hh _ => hh.elim
  qval := fun hh => hh.elim
  qcall := fun hh => hh.elim
noncomputable def F10.code : Code := (Try.f10.body).getD .skip
def F10.ann : Ann := (.two .auto (.two .auto (.two (.two .auto (.two (.loop 0 [0, 1, 5] [(2, []), (0, [4])] (.two .auto (.two (.two (.two (.reg (.take 0 (.take 1 (.take 2 (.take 3 (.take 4 (.take 5 (.take 6 (.take 7 (.take 8 .done)))))))))) .auto) .auto) .auto))) .auto)) .auto)))
noncomputable def F10.c0 : Code := sub F10.code [1, 1, 0, 1, 0, 0]
def F10.a0 : Ann := (.two .auto (.two (.two (.two (.reg (.take 0 (.take 1 (.take 2 (.take 3 (.take 4 (.take 5 (.take 6 (.take 7 (.take 8 .done)))))))))) .auto) .auto) .auto))
def F10.keep0 : List Nat := [0, 1, 5]
def F10.outs0 : List (Nat × List Nat) := [(2, []), (0, [4])]
set_option maxRecDepth 100000 in
theorem F10.L0 : LoopOK F10.ctx 26 F10.c0 0 F10.keep0 F10.outs0 := by
  refine loop_ok (n := F10.a0) F10.ok (by kernel_rfl) (loops_ok (l := []) (by kernel_rfl) ?_) F10.r0 ?_ ?_ (fun vs h K hh => hh)
  · exact trivial
  · intro K vs h hh
    unfold F10.r0 at hh
    split at hh
    · exact hh
    · exact hh
  · intro K m vs h hh
    unfold F10.r0 at hh
    split at hh
    · exact cast (by kernel_rfl) hh
    · exact hh.elim
set_option maxRecDepth 100000 in
theorem F10.eq (a1 : Option Addr) (a1l : Nat) (a1c : Nat) (a2 : Option Addr) (a2l : Nat) (a2c : Nat) (h : Heap) (K : Bool → Heap → Prop) : evF F10.ctx Try.f10 F10.ann [(.slice a1 a1l a1c), (.slice a2 a2l a2c)] h (F10.ret K) = F10 a1 a1l a1c a2 a2l a2c h K := by kernel_rfl
set_option maxRecDepth 100000 in
theorem F10.calls {a1 : Option Addr} {a1l : Nat} {a1c : Nat} {a2 : Option Addr} {a2l : Nat} {a2c : Nat} {h : Heap} {K : Bool → Heap → Prop} (hh : F10 a1 a1l a1c a2 a2l a2c h K) (w : World) (hw : w.heap = h) :
    (callFunc 10 #[(.slice a1 a1l a1c), (.slice a2 a2l a2c)]).run Try.prog w = .ok (.enter 10 #[(.slice a1 a1l a1c), (.slice a2 a2l a2c)]) w ∧ Calls Try.prog 10 #[(.slice a1 a1l a1c), (.slice a2 a2l a2c)] w fun e w' => ∃ v, e = .returned v ∧ Out w w' ∧ F10.ret K v w'.heap := by
  rw [← F10.eq] at hh
  exact fn_calls (args := [(.slice a1 a1l a1c), (.slice a2 a2l a2c)]) (c := F10.code) F10.ok Try.func10 (by kernel_rfl) (by kernel_rfl) (by kernel_rfl) (by kernel_rfl) (loops_ok (l := [(F10.c0, none, 0, F10.keep0, F10.outs0)]) (by kernel_rfl) ⟨F10.L0, trivial⟩) hh w hw

/-! ### strait/straitlaw04.FintWeights: function 3 -/
def F3.b0 (K2 : (Option Addr) → Nat → Nat → Heap → Prop) (cont : (Option Addr) → Nat → Nat → (Option Addr) → Nat → Nat → Int → Heap → Prop) (c0_1001 : Option Addr) (c0_1002 : Nat) (c0_1003 : Nat) (v3_1004 : Option Addr) (v3_1004l : Nat) (v3_1004c : Nat) (v4_1005 : Int) (h1006 : Heap) : Prop :=
  (iteB (decide (v4_1005 < (c0_1002 : Int))) ((chkP c0_1001 fun a1007 => (0 ≤ v4_1005 ∧ v4_1005 < (c0_1002 : Int)) ∧ ∃ (x1008 : Int), cell h1006 (a1007.add (v4_1005.toNat * 1)) = some (.int .u64 x1008) ∧ qcallP1 h1006 (F7 x1008 h1006) fun x1009 => newP h1006 (.cells #[(.float .f64 x1009)] 25) fun a1010 h1011 => ∃ n1016, cellsAt h1011 (some a1010) (1 * 1) n1016 ∧ appP 25 1 8 [(.float .f64 0)] v3_1004 v3_1004l v3_1004c 1 n1016 h1011 fun q1012 l1013 c1014 h1015 => ((cont c0_1001 c0_1002 c0_1003 q1012 l1013 c1014 (IntKind.i64.wrap (v4_1005 + 1)) h1015)))) (K2 v3_1004 v3_1004l v3_1004c h1006))
def F3.l0 (K2 : (Option Addr) → Nat → Nat → Heap → Prop) : Nat → (Option Addr) → Nat → Nat → (Option Addr) → Nat → Nat → Int → Heap → Prop
  | 0, _, _, _, _, _, _, _, _ => False
  | m + 1, c0_1001, c0_1002, c0_1003, v3_1004, v3_1004l, v3_1004c, v4_1005, h => F3.b0 K2 (F3.l0 K2 m) c0_1001 c0_1002 c0_1003 v3_1004 v3_1004l v3_1004c v4_1005 h
def F3 (a1 : Option Addr) (a1l : Nat) (a1c : Nat) (h : Heap) (K : Bool → Heap → Prop) : Prop :=
  ((iteB (decide ((a1l : Int) > (100 : Int))) (qcallP1 h (F6 h) fun x2 => K x2 h) ((((∃ m5, F3.l0 (fun z3 z3l z3c h4 => ((callP5 (F8 z3 z3l z3c h4) fun x6 x6l x6c x7 x8 h9 => (callP5 (F9 a1 a1l a1c h9) fun x10 x10l x10c x11 x12 h13 => newP h13 (.cells #[(.slice none 0 0), (.int .i64 0), (.int .i64 0)] 33) fun a14 h15 => stC h15 a14 (.slice x10 x10l x10c) fun h16 => stC h16 (a14.add 1) (.int .i64 x11) fun h17 => stC h17 (a14.add 2) (.int .i64 x12) fun h18 => (∃ (x19 : Option Addr) (x19l : Nat) (x19c : Nat), cell h18 a14 = some (.slice x19 x19l x19c) ∧ qcallP1 h18 (F10 x6 x6l x6c x19 x19l x19c h18) fun x20 => iteB x20 (∃ (x21 : Int), cell h18 (a14.add 1) = some (.int .i64 x21) ∧ iteB (x7 == x21) (∃ (x22 : Int), cell h18 (a14.add 2) = some (.int .i64 x22) ∧ iteB (x8 == x22) (qcallP1 h18 (F6 h18) fun x23 => K x23 h18) (K false h18)) (K false h18)) (K false h18)))))) m5 a1 a1l a1c none 0 0 0 h))))))
def F3.ret (K : Bool → Heap → Prop) (v : Value) (h : Heap) : Prop := match v with
  | (.bool r25) => K r25 h
  | _ => False
theorem F3.ret_elim {K : Bool → Heap → Prop} {K' : Value → Heap → Prop} {v : Value} {h : Heap} (hk : ∀ r25 h, K r25 h → K' (.bool r25) h) (hh : F3.ret K v h) : K' v h := by
  unfold F3.ret at hh
  split at hh
  · exact hk _ _ hh
  · exact hh.elim
def F3.call (f : FuncId) (vs : List Value) (h : Heap) (K : Value → Heap → Prop) : Prop := match f, vs with
  | 8, [(.slice a1 a1l a1c)] => callP5 (F8 a1 a1l a1c h) fun r10 r10l r10c r11 r12 h' => K (.tuple #[(.slice r10 r10l r10c), (.int .i64 r11), (.int .i64 r12)]) h'
  | 9, [(.slice a1 a1l a1c)] => callP5 (F9 a1 a1l a1c h) fun r17 r17l r17c r18 r19 h' => K (.agg #[(.slice r17 r17l r17c), (.int .i64 r18), (.int .i64 r19)]) h'
  | _, _ => False
def F3.qcall (f : FuncId) (vs : List Value) (h : Heap) (K : Value → Prop) : Prop := match f, vs with
  | 6, [] => qcallP1 h (F6 h) fun r8 => K (.bool r8)
  | 7, [(.int .u64 a1)] => qcallP1 h (F7 a1 h) fun r2 => K (.float .f64 r2)
  | 10, [(.slice a1 a1l a1c), (.slice a2 a2l a2c)] => qcallP1 h (F10 a1 a1l a1c a2 a2l a2c h) fun r7 => K (.bool r7)
  | _, _ => False
def F3.r0 (K : Nat → List Value → Heap → Prop) (m : Nat) (vs : List Value) (h : Heap) : Prop := match vs with
  | [(.slice c0_1001 c0_1002 c0_1003), (.slice v3_1004 v3_1004l v3_1004c), (.int .i64 v4_1005)] => F3.l0 (fun z26 z26l z26c h' => K 2 [(.slice c0_1001 c0_1002 c0_1003), (.slice z26 z26l z26c)] h') m c0_1001 c0_1002 c0_1003 v3_1004 v3_1004l v3_1004c v4_1005 h
  | _ => False
def F3.loop (i : Nat) (vs : List Value) (h : Heap) (K : Nat → List Value → Heap → Prop) : Prop := match i with
  | 0 => ∃ m, F3.r0 K m vs h
  | _ => False
noncomputable def F3.ctx : Ctx := { P := Try.prog, call := F3.call, qcall := F3.qcall, quiet := fun f => Nat.beq f 6 || Nat.beq f 7 || Nat.beq f 10, loop := F3.loop }
theorem F3.ok : F3.ctx.OK where
  mixed := by kernel_rfl
  mono := by
    intro f args h K K' hh hk
    change F3.call f args h K at hh
    change F3.call f args h K'
    unfold F3.call at hh ⊢
    split at hh
    · obtain ⟨R, h1, h2⟩ := hh
      exact ⟨R, h1, fun _ _ _ _ _ x hr => hk _ _ (h2 _ _ _ _ _ x hr)⟩
    · obtain ⟨R, h1, h2⟩ := hh
      exact ⟨R, h1, fun _ _ _ _ _ x hr => hk _ _ (h2 _ _ _ _ _ x hr)⟩
    · exact hh.elim
  call := by
    intro f args h K hh w hw
    change F3.call f args h K at hh
    unfold F3.call at hh
    split at hh
    · obtain ⟨R, h1, h2⟩ := hh
      obtain ⟨g1, g2⟩ := F8.calls h1 w hw
      exact ⟨g1, g2.mono fun e w' ⟨v, he, ho, hr⟩ => ⟨v, he, ho, F8.ret_elim h2 hr⟩⟩
    · obtain ⟨R, h1, h2⟩ := hh
      obtain ⟨g1, g2⟩ := F9.calls h1 w hw
      exact ⟨g1, g2.mono fun e w' ⟨v, he, ho, hr⟩ => ⟨v, he, ho, F9.ret_elim h2 hr⟩⟩
    · exact hh.elim
  qmono := by
    intro f args h K K' hh hk
    change F3.qcall f args h K at hh
    change F3.qcall f args h K'
    unfold F3.qcall at hh ⊢
    split at hh
    · obtain ⟨x0, h1, h2⟩ := hh
      exact ⟨x0, h1, hk _ h2⟩
    · obtain ⟨x0, h1, h2⟩ := hh
      exact ⟨x0, h1, hk _ h2⟩
    · obtain ⟨x0, h1, h2⟩ := hh
      exact ⟨x0, h1, hk _ h2⟩
    · exact hh.elim
  qval := by
    intro f args h K hh
    change F3.qcall f args h K at hh
    suffices H : ∃ v, K v ∧ F3.qcall f args h (· = v) from H
    unfold F3.qcall at hh ⊢
    split at hh
    · obtain ⟨x0, h1, h2⟩ := hh
      exact ⟨_, h2, x0, h1, rfl⟩
    · obtain ⟨x0, h1, h2⟩ := hh
      exact ⟨_, h2, x0, h1, rfl⟩
    · obtain ⟨x0, h1, h2⟩ := hh
      exact ⟨_, h2, x0, h1, rfl⟩
    · exact hh.elim
  qcall := by
    intro f args h v hh w hw
    change F3.qcall f args h (· = v) at hh
    unfold F3.qcall at hh
    split at hh
    · obtain ⟨x0, h1, h2⟩ := hh
      obtain ⟨g1, g2⟩ := F6.calls h1 w hw
      refine .inl ⟨g1, g2.mono fun e w' ⟨u, he, ho, hr⟩ => ?_⟩
      have hq := F6.ret_elim (K' := fun u h' => u = v ∧ h' = h) (fun _ h' hr => by obtain ⟨rfl, rfl⟩ := hr; exact ⟨h2, rfl⟩) hr
      exact ⟨hq.1 ▸ he, ho, hq.2⟩
    · obtain ⟨x0, h1, h2⟩ := hh
      obtain ⟨g1, g2⟩ := F7.calls h1 w hw
      refine .inl ⟨g1, g2.mono fun e w' ⟨u, he, ho, hr⟩ => ?_⟩
      have hq := F7.ret_elim (K' := fun u h' => u = v ∧ h' = h) (fun _ h' hr => by obtain ⟨rfl, rfl⟩ := hr; exact ⟨h2, rfl⟩) hr
      exact ⟨hq.1 ▸ he, ho, hq.2⟩
    · obtain ⟨x0, h1, h2⟩ := hh
      obtain ⟨g1, g2⟩ := F10.calls h1 w hw
      refine .inl ⟨g1, g2.mono fun e w' ⟨u, he, ho, hr⟩ => ?_⟩
      have hq := F10.ret_elim (K' := fun u h' => u = v ∧ h' = h) (fun _ h' hr => by obtain ⟨rfl, rfl⟩ := hr; exact ⟨h2, rfl⟩) hr
      exact ⟨hq.1 ▸ he, ho, hq.2⟩
    · exact hh.elim
noncomputable def F3.code : Code := (Try.f3.body).getD .skip
def F3.ann : Ann := (.two .auto (.two .auto (.two .auto (.two (.two .auto (.two (.loop 0 [0, 3, 4] [(2, [0, 3])] .auto) .auto)) .auto))))
noncomputable def F3.c0 : Code := sub F3.code [1, 1, 1, 0, 1, 0, 0]
def F3.a0 : Ann := .auto
def F3.keep0 : List Nat := [0, 3, 4]
def F3.outs0 : List (Nat × List Nat) := [(2, [0, 3])]
set_option maxRecDepth 100000 in
theorem F3.L0 : LoopOK F3.ctx 54 F3.c0 0 F3.keep0 F3.outs0 := by
  refine loop_ok (n := F3.a0) F3.ok (by kernel_rfl) (loops_ok (l := []) (by kernel_rfl) ?_) F3.r0 ?_ ?_ (fun vs h K hh => hh)
  · exact trivial
  · intro K vs h hh
    unfold F3.r0 at hh
    split at hh
    · exact hh
    · exact hh
  · intro K m vs h hh
    unfold F3.r0 at hh
    split at hh
    · exact cast (by kernel_rfl) hh
    · exact hh.elim
set_option maxRecDepth 100000 in
theorem F3.eq (a1 : Option Addr) (a1l : Nat) (a1c : Nat) (h : Heap) (K : Bool → Heap → Prop) : evF F3.ctx Try.f3 F3.ann [(.slice a1 a1l a1c)] h (F3.ret K) = F3 a1 a1l a1c h K := by kernel_rfl
set_option maxRecDepth 100000 in
theorem F3.calls {a1 : Option Addr} {a1l : Nat} {a1c : Nat} {h : Heap} {K : Bool → Heap → Prop} (hh : F3 a1 a1l a1c h K) (w : World) (hw : w.heap = h) :
    (callFunc 3 #[(.slice a1 a1l a1c)]).run Try.prog w = .ok (.enter 3 #[(.slice a1 a1l a1c)]) w ∧ Calls Try.prog 3 #[(.slice a1 a1l a1c)] w fun e w' => ∃ v, e = .returned v ∧ Out w w' ∧ F3.ret K v w'.heap := by
  rw [← F3.eq] at hh
  exact fn_calls (args := [(.slice a1 a1l a1c)]) (c := F3.code) F3.ok Try.func3 (by kernel_rfl) (by kernel_rfl) (by kernel_rfl) (by kernel_rfl) (loops_ok (l := [(F3.c0, none, 0, F3.keep0, F3.outs0)]) (by kernel_rfl) ⟨F3.L0, trivial⟩) hh w hw

/-! ### strait/fint.Float: function 12 -/
def F12 (a1 : Int) (h : Heap) (K : Nat → Bool → Heap → Prop) : Prop :=
  ((qcallP2 h (F11 (FloatKind.f64.nearest a1) h) fun x2 x3 => (iteB (x3 != (0 : Int)) (K 0 false h) ((iteB (x2 != a1) (K 0 false h) (((K (FloatKind.f64.nearest a1) true h))))))))
def F12.ret (K : Nat → Bool → Heap → Prop) (v : Value) (h : Heap) : Prop := match v with
  | (.tuple ⟨[(.float .f64 r5), (.bool r6)]⟩) => K r5 r6 h
  | _ => False
theorem F12.ret_elim {K : Nat → Bool → Heap → Prop} {K' : Value → Heap → Prop} {v : Value} {h : Heap} (hk : ∀ r5 r6 h, K r5 r6 h → K' (.tuple #[(.float .f64 r5), (.bool r6)]) h) (hh : F12.ret K v h) : K' v h := by
  unfold F12.ret at hh
  split at hh
  · exact hk _ _ _ hh
  · exact hh.elim
def F12.qcall (f : FuncId) (vs : List Value) (h : Heap) (K : Value → Prop) : Prop := match f, vs with
  | 11, [(.float .f64 a1)] => qcallP2 h (F11 a1 h) fun r4 r5 => K (.tuple #[(.int .i64 r4), (.int .i64 r5)])
  | _, _ => False
noncomputable def F12.ctx : Ctx := { P := Try.prog, call := fun _ _ _ _ => False, qcall := F12.qcall, quiet := fun f => Nat.beq f 11, loop := fun _ _ _ _ => False }
theorem F12.ok : F12.ctx.OK where
  mixed := by kernel_rfl
  mono := fun hh _ => hh.elim
  call := fun hh => hh.elim
  qmono := by
    intro f args h K K' hh hk
    change F12.qcall f args h K at hh
    change F12.qcall f args h K'
    unfold F12.qcall at hh ⊢
    split at hh
    · obtain ⟨x0, x1, h1, h2⟩ := hh
      exact ⟨x0, x1, h1, hk _ h2⟩
    · exact hh.elim
  qval := by
    intro f args h K hh
    change F12.qcall f args h K at hh
    suffices H : ∃ v, K v ∧ F12.qcall f args h (· = v) from H
    unfold F12.qcall at hh ⊢
    split at hh
    · obtain ⟨x0, x1, h1, h2⟩ := hh
      exact ⟨_, h2, x0, x1, h1, rfl⟩
    · exact hh.elim
  qcall := by
    intro f args h v hh w hw
    change F12.qcall f args h (· = v) at hh
    unfold F12.qcall at hh
    split at hh
    · obtain ⟨x0, x1, h1, h2⟩ := hh
      obtain ⟨g1, g2⟩ := F11.calls h1 w hw
      refine .inl ⟨g1, g2.mono fun e w' ⟨u, he, ho, hr⟩ => ?_⟩
      have hq := F11.ret_elim (K' := fun u h' => u = v ∧ h' = h) (fun _ _ h' hr => by obtain ⟨rfl, rfl, rfl⟩ := hr; exact ⟨h2, rfl⟩) hr
      exact ⟨hq.1 ▸ he, ho, hq.2⟩
    · exact hh.elim
noncomputable def F12.code : Code := (Try.f12.body).getD .skip
def F12.ann : Ann := .auto
set_option maxRecDepth 100000 in
theorem F12.eq (a1 : Int) (h : Heap) (K : Nat → Bool → Heap → Prop) : evF F12.ctx Try.f12 F12.ann [(.int .i64 a1)] h (F12.ret K) = F12 a1 h K := by kernel_rfl
set_option maxRecDepth 100000 in
theorem F12.calls {a1 : Int} {h : Heap} {K : Nat → Bool → Heap → Prop} (hh : F12 a1 h K) (w : World) (hw : w.heap = h) :
    (callFunc 12 #[(.int .i64 a1)]).run Try.prog w = .ok (.enter 12 #[(.int .i64 a1)]) w ∧ Calls Try.prog 12 #[(.int .i64 a1)] w fun e w' => ∃ v, e = .returned v ∧ Out w w' ∧ F12.ret K v w'.heap := by
  rw [← F12.eq] at hh
  exact fn_calls (args := [(.int .i64 a1)]) (c := F12.code) F12.ok Try.func12 (by kernel_rfl) (by kernel_rfl) (by kernel_rfl) (by kernel_rfl) (loops_ok (l := []) (by kernel_rfl) trivial) hh w hw

/-! ### strait/fbit.Bits: function 13 -/
def F13 (a1 : Nat) (h : Heap) (K : Int → Heap → Prop) : Prop :=
  ((iteB (FloatKind.f64.format.order a1 a1 != some .eq) (K 9221120237041090560 h) (((K (a1 : Int) h)))))
def F13.ret (K : Int → Heap → Prop) (v : Value) (h : Heap) : Prop := match v with
  | (.int .u64 r2) => K r2 h
  | _ => False
theorem F13.ret_elim {K : Int → Heap → Prop} {K' : Value → Heap → Prop} {v : Value} {h : Heap} (hk : ∀ r2 h, K r2 h → K' (.int .u64 r2) h) (hh : F13.ret K v h) : K' v h := by
  unfold F13.ret at hh
  split at hh
  · exact hk _ _ hh
  · exact hh.elim
def F13.qcall (f : FuncId) (vs : List Value) (h : Heap) (K : Value → Prop) : Prop := match f, vs with
  | 22, [(.float .f64 a1)] => K (.int .u64 (a1 : Int))
  | _, _ => False
noncomputable def F13.ctx : Ctx := { P := Try.prog, call := fun _ _ _ _ => False, qcall := F13.qcall, quiet := fun f => Nat.beq f 22, loop := fun _ _ _ _ => False }
theorem F13.ok : F13.ctx.OK where
  mixed := by kernel_rfl
  mono := fun hh _ => hh.elim
  call := fun hh => hh.elim
  qmono := by
    intro f args h K K' hh hk
    change F13.qcall f args h K at hh
    change F13.qcall f args h K'
    unfold F13.qcall at hh ⊢
    split at hh
    · exact hk _ hh
    · exact hh.elim
  qval := by
    intro f args h K hh
    change F13.qcall f args h K at hh
    suffices H : ∃ v, K v ∧ F13.qcall f args h (· = v) from H
    unfold F13.qcall at hh ⊢
    split at hh
    · exact ⟨_, hh, rfl⟩
    · exact hh.elim
  qcall := by
    intro f args h v hh w hw
    change F13.qcall f args h (· = v) at hh
    unfold F13.qcall at hh
    split at hh
    · subst hh; exact .inr (ext_run Try.func22 (by kernel_rfl) (by kernel_rfl) (by kernel_rfl) (e := Extern.MathFloatBits.float64bits) (by kernel_rfl) (by rfl))
    · exact hh.elim
noncomputable def F13.code : Code := (Try.f13.body).getD .skip
def F13.ann : Ann := .auto
set_option maxRecDepth 100000 in
theorem F13.eq (a1 : Nat) (h : Heap) (K : Int → Heap → Prop) : evF F13.ctx Try.f13 F13.ann [(.float .f64 a1)] h (F13.ret K) = F13 a1 h K := by kernel_rfl
set_option maxRecDepth 100000 in
theorem F13.calls {a1 : Nat} {h : Heap} {K : Int → Heap → Prop} (hh : F13 a1 h K) (w : World) (hw : w.heap = h) :
    (callFunc 13 #[(.float .f64 a1)]).run Try.prog w = .ok (.enter 13 #[(.float .f64 a1)]) w ∧ Calls Try.prog 13 #[(.float .f64 a1)] w fun e w' => ∃ v, e = .returned v ∧ Out w w' ∧ F13.ret K v w'.heap := by
  rw [← F13.eq] at hh
  exact fn_calls (args := [(.float .f64 a1)]) (c := F13.code) F13.ok Try.func13 (by kernel_rfl) (by kernel_rfl) (by kernel_rfl) (by kernel_rfl) (loops_ok (l := []) (by kernel_rfl) trivial) hh w hw

end Go.Proofs.Ytnmeoeakepcieaa
