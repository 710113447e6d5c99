/- WRITTEN BY A PROGRAM OF THIS SESSION (gen.py): what each function asks of memory, and that the model's run comes to it. -/
import Derived.Test.YtcmbgiekffgcoaaProg
import Derived.Test.YtcmbgiekffgcoaaFw8

namespace Go.Proofs.Ytcmbgiekffgcoaa
open Go.Hp
set_option linter.unusedVariables false
set_option linter.unusedSimpArgs false

/-! ### strait/fbit.Of: function 6 -/
def fbit_Of (a1 : Int) (h : Heap) (K : Nat → Heap → Prop) : Prop :=
  K a1.toNat h
def fbit_Of.ret (K : Nat → Heap → Prop) (v : Value) (h : Heap) : Prop := match v with
  | (.float .f64 r2) => K r2 h
  | _ => False
theorem fbit_Of.ret_elim {K : Nat → Heap → Prop} {K' : Value → Heap → Prop} {v : Value} {h : Heap} (hk : ∀ r2 h, K r2 h → K' (.float .f64 r2) h) (hh : fbit_Of.ret K v h) : K' v h := by
  unfold fbit_Of.ret at hh
  split at hh
  · exact hk _ _ hh
  · exact hh.elim
def fbit_Of.qcall (f : FuncId) (vs : List Value) (h : Heap) (K : Value → Prop) : Prop := match f, vs with
  | 22, [(.int .u64 a1)] => K (.float .f64 a1.toNat)
  | _, _ => False
noncomputable def fbit_Of.ctx : Ctx := { P := Try.prog, call := fun _ _ _ _ => False, qcall := fbit_Of.qcall, quiet := fun f => Nat.beq f 22, loop := fun _ _ _ _ => False }
theorem fbit_Of.ok : fbit_Of.ctx.OK where
  mixed := by kernel_rfl
  mono := fun hh _ => hh.elim
  call := fun hh => hh.elim
  qmono := by
    intro f args h K K' hh hk
    change fbit_Of.qcall f args h K at hh
    change fbit_Of.qcall f args h K'
    unfold fbit_Of.qcall at hh ⊢
    split at hh
    · exact hk _ hh
    · exact hh.elim
  qval := by
    intro f args h K hh
    change fbit_Of.qcall f args h K at hh
    suffices H : ∃ v, K v ∧ fbit_Of.qcall f args h (· = v) from H
    unfold fbit_Of.qcall at hh ⊢
    split at hh
    · exact ⟨_, hh, rfl⟩
    · exact hh.elim
  qcall := by
    intro f args h v hh w hw
    change fbit_Of.qcall f args h (· = v) at hh
    unfold fbit_Of.qcall at hh
    split at hh
    · subst hh; exact .inr (ext_run Try.func22 (by kernel_rfl) (by kernel_rfl) (by kernel_rfl) (e := Extern.MathFloatBits.float64frombits) (by kernel_rfl) (by rfl))
    · exact hh.elim
noncomputable def fbit_Of.code : Code := (Try.f6.body).getD .skip
def fbit_Of.ann : Ann := .auto
set_option maxRecDepth 100000 in
theorem fbit_Of.eq (a1 : Int) (h : Heap) (K : Nat → Heap → Prop) : evF fbit_Of.ctx Try.f6 fbit_Of.ann [(.int .u64 a1)] h (fbit_Of.ret K) = fbit_Of a1 h K := by kernel_rfl
set_option maxRecDepth 100000 in
theorem fbit_Of.calls {a1 : Int} {h : Heap} {K : Nat → Heap → Prop} (hh : fbit_Of a1 h K) (w : World) (hw : w.heap = h) :
    (callFunc 6 #[(.int .u64 a1)]).run Try.prog w = .ok (.enter 6 #[(.int .u64 a1)]) w ∧ Calls Try.prog 6 #[(.int .u64 a1)] w fun e w' => ∃ v, e = .returned v ∧ Out w w' ∧ fbit_Of.ret K v w'.heap := by
  rw [← fbit_Of.eq] at hh
  exact fn_calls (args := [(.int .u64 a1)]) (c := fbit_Of.code) fbit_Of.ok Try.func6 (by kernel_rfl) (by kernel_rfl) (by kernel_rfl) (by kernel_rfl) (loops_ok (l := []) (by kernel_rfl) trivial) hh w hw

/-! ### strait/fbit.Bits: function 14 -/
def fbit_Bits (a1 : Nat) (h : Heap) (K : Int → Heap → Prop) : Prop :=
  ((iteB (FloatKind.f64.format.order a1 a1 != some .eq) (K 9221120237041090560 h) (((K (a1 : Int) h)))))
def fbit_Bits.ret (K : Int → Heap → Prop) (v : Value) (h : Heap) : Prop := match v with
  | (.int .u64 r2) => K r2 h
  | _ => False
theorem fbit_Bits.ret_elim {K : Int → Heap → Prop} {K' : Value → Heap → Prop} {v : Value} {h : Heap} (hk : ∀ r2 h, K r2 h → K' (.int .u64 r2) h) (hh : fbit_Bits.ret K v h) : K' v h := by
  unfold fbit_Bits.ret at hh
  split at hh
  · exact hk _ _ hh
  · exact hh.elim
def fbit_Bits.qcall (f : FuncId) (vs : List Value) (h : Heap) (K : Value → Prop) : Prop := match f, vs with
  | 29, [(.float .f64 a1)] => K (.int .u64 (a1 : Int))
  | _, _ => False
noncomputable def fbit_Bits.ctx : Ctx := { P := Try.prog, call := fun _ _ _ _ => False, qcall := fbit_Bits.qcall, quiet := fun f => Nat.beq f 29, loop := fun _ _ _ _ => False }
theorem fbit_Bits.ok : fbit_Bits.ctx.OK where
  mixed := by kernel_rfl
  mono := fun hh _ => hh.elim
  call := fun hh => hh.elim
  qmono := by
    intro f args h K K' hh hk
    change fbit_Bits.qcall f args h K at hh
    change fbit_Bits.qcall f args h K'
    unfold fbit_Bits.qcall at hh ⊢
    split at hh
    · exact hk _ hh
    · exact hh.elim
  qval := by
    intro f args h K hh
    change fbit_Bits.qcall f args h K at hh
    suffices H : ∃ v, K v ∧ fbit_Bits.qcall f args h (· = v) from H
    unfold fbit_Bits.qcall at hh ⊢
    split at hh
    · exact ⟨_, hh, rfl⟩
    · exact hh.elim
  qcall := by
    intro f args h v hh w hw
    change fbit_Bits.qcall f args h (· = v) at hh
    unfold fbit_Bits.qcall at hh
    split at hh
    · subst hh; exact .inr (ext_run Try.func29 (by kernel_rfl) (by kernel_rfl) (by kernel_rfl) (e := Extern.MathFloatBits.float64bits) (by kernel_rfl) (by rfl))
    · exact hh.elim
noncomputable def fbit_Bits.code : Code := (Try.f14.body).getD .skip
def fbit_Bits.ann : Ann := .auto
set_option maxRecDepth 100000 in
theorem fbit_Bits.eq (a1 : Nat) (h : Heap) (K : Int → Heap → Prop) : evF fbit_Bits.ctx Try.f14 fbit_Bits.ann [(.float .f64 a1)] h (fbit_Bits.ret K) = fbit_Bits a1 h K := by kernel_rfl
set_option maxRecDepth 100000 in
theorem fbit_Bits.calls {a1 : Nat} {h : Heap} {K : Int → Heap → Prop} (hh : fbit_Bits a1 h K) (w : World) (hw : w.heap = h) :
    (callFunc 14 #[(.float .f64 a1)]).run Try.prog w = .ok (.enter 14 #[(.float .f64 a1)]) w ∧ Calls Try.prog 14 #[(.float .f64 a1)] w fun e w' => ∃ v, e = .returned v ∧ Out w w' ∧ fbit_Bits.ret K v w'.heap := by
  rw [← fbit_Bits.eq] at hh
  exact fn_calls (args := [(.float .f64 a1)]) (c := fbit_Bits.code) fbit_Bits.ok Try.func14 (by kernel_rfl) (by kernel_rfl) (by kernel_rfl) (by kernel_rfl) (loops_ok (l := []) (by kernel_rfl) trivial) hh w hw

/-! ### strait/forder.at: function 23 -/
def forder_at (a1 : Nat) (h : Heap) (K : Int → Heap → Prop) : Prop :=
  ((iteB (FloatKind.f64.format.order a1 a1 != some .eq) (K 9223372036854775807 h) ((qcallP1 h (fbit_Bits a1 h) fun x2 => ((iteB (decide ((IntKind.i64.wrap x2) < (0 : Int))) (bindV (IntKind.i64.wrap ((-9223372036854775808) - (IntKind.i64.wrap x2))) fun n3 => ((K (IntKind.i64.wrap (n3 - 1)) h))) (((K (IntKind.i64.wrap x2) h)))))))))
def forder_at.ret (K : Int → Heap → Prop) (v : Value) (h : Heap) : Prop := match v with
  | (.int .i64 r5) => K r5 h
  | _ => False
theorem forder_at.ret_elim {K : Int → Heap → Prop} {K' : Value → Heap → Prop} {v : Value} {h : Heap} (hk : ∀ r5 h, K r5 h → K' (.int .i64 r5) h) (hh : forder_at.ret K v h) : K' v h := by
  unfold forder_at.ret at hh
  split at hh
  · exact hk _ _ hh
  · exact hh.elim
def forder_at.qcall (f : FuncId) (vs : List Value) (h : Heap) (K : Value → Prop) : Prop := match f, vs with
  | 14, [(.float .f64 a1)] => qcallP1 h (fbit_Bits a1 h) fun r2 => K (.int .u64 r2)
  | _, _ => False
noncomputable def forder_at.ctx : Ctx := { P := Try.prog, call := fun _ _ _ _ => False, qcall := forder_at.qcall, quiet := fun f => Nat.beq f 14, loop := fun _ _ _ _ => False }
theorem forder_at.ok : forder_at.ctx.OK where
  mixed := by kernel_rfl
  mono := fun hh _ => hh.elim
  call := fun hh => hh.elim
  qmono := by
    intro f args h K K' hh hk
    change forder_at.qcall f args h K at hh
    change forder_at.qcall f args h K'
    unfold forder_at.qcall at hh ⊢
    split at hh
    · obtain ⟨x0, h1, h2⟩ := hh
      exact ⟨x0, h1, hk _ h2⟩
    · exact hh.elim
  qval := by
    intro f args h K hh
    change forder_at.qcall f args h K at hh
    suffices H : ∃ v, K v ∧ forder_at.qcall f args h (· = v) from H
    unfold forder_at.qcall at hh ⊢
    split at hh
    · obtain ⟨x0, h1, h2⟩ := hh
      exact ⟨_, h2, x0, h1, rfl⟩
    · exact hh.elim
  qcall := by
    intro f args h v hh w hw
    change forder_at.qcall f args h (· = v) at hh
    unfold forder_at.qcall at hh
    split at hh
    · obtain ⟨x0, h1, h2⟩ := hh
      obtain ⟨g1, g2⟩ := fbit_Bits.calls h1 w hw
      refine .inl ⟨g1, g2.mono fun e w' ⟨u, he, ho, hr⟩ => ?_⟩
      have hq := fbit_Bits.ret_elim (K' := fun u h' => u = v ∧ h' = h) (fun _ h' hr => by obtain ⟨rfl, rfl⟩ := hr; exact ⟨h2, rfl⟩) hr
      exact ⟨hq.1 ▸ he, ho, hq.2⟩
    · exact hh.elim
noncomputable def forder_at.code : Code := (Try.f23.body).getD .skip
def forder_at.ann : Ann := .auto
set_option maxRecDepth 100000 in
theorem forder_at.eq (a1 : Nat) (h : Heap) (K : Int → Heap → Prop) : evF forder_at.ctx Try.f23 forder_at.ann [(.float .f64 a1)] h (forder_at.ret K) = forder_at a1 h K := by kernel_rfl
set_option maxRecDepth 100000 in
theorem forder_at.calls {a1 : Nat} {h : Heap} {K : Int → Heap → Prop} (hh : forder_at a1 h K) (w : World) (hw : w.heap = h) :
    (callFunc 23 #[(.float .f64 a1)]).run Try.prog w = .ok (.enter 23 #[(.float .f64 a1)]) w ∧ Calls Try.prog 23 #[(.float .f64 a1)] w fun e w' => ∃ v, e = .returned v ∧ Out w w' ∧ forder_at.ret K v w'.heap := by
  rw [← forder_at.eq] at hh
  exact fn_calls (args := [(.float .f64 a1)]) (c := forder_at.code) forder_at.ok Try.func23 (by kernel_rfl) (by kernel_rfl) (by kernel_rfl) (by kernel_rfl) (loops_ok (l := []) (by kernel_rfl) trivial) hh w hw

/-! ### cmp.isNaN[strait/forder.place]: function 38 -/
def cmp_isNaN_forder_place (a1 : Int) (h : Heap) (K : Bool → Heap → Prop) : Prop :=
  ((K (a1 != a1) h))
def cmp_isNaN_forder_place.ret (K : Bool → Heap → Prop) (v : Value) (h : Heap) : Prop := match v with
  | (.bool r2) => K r2 h
  | _ => False
theorem cmp_isNaN_forder_place.ret_elim {K : Bool → Heap → Prop} {K' : Value → Heap → Prop} {v : Value} {h : Heap} (hk : ∀ r2 h, K r2 h → K' (.bool r2) h) (hh : cmp_isNaN_forder_place.ret K v h) : K' v h := by
  unfold cmp_isNaN_forder_place.ret at hh
  split at hh
  · exact hk _ _ hh
  · exact hh.elim
noncomputable def cmp_isNaN_forder_place.ctx : Ctx := { P := Try.prog, call := fun _ _ _ _ => False, qcall := fun _ _ _ _ => False, quiet := fun f => false, loop := fun _ _ _ _ => False }
theorem cmp_isNaN_forder_place.ok : cmp_isNaN_forder_place.ctx.OK where
  mixed := by kernel_rfl
  mono := fun hh _ => hh.elim
  call := fun hh => hh.elim
  qmono := fun hh _ => hh.elim
  qval := fun hh => hh.elim
  qcall := fun hh => hh.elim
noncomputable def cmp_isNaN_forder_place.code : Code := (Try.f38.body).getD .skip
def cmp_isNaN_forder_place.ann : Ann := .auto
set_option maxRecDepth 100000 in
theorem cmp_isNaN_forder_place.eq (a1 : Int) (h : Heap) (K : Bool → Heap → Prop) : evF cmp_isNaN_forder_place.ctx Try.f38 cmp_isNaN_forder_place.ann [(.int .i64 a1)] h (cmp_isNaN_forder_place.ret K) = cmp_isNaN_forder_place a1 h K := by kernel_rfl
set_option maxRecDepth 100000 in
theorem cmp_isNaN_forder_place.calls {a1 : Int} {h : Heap} {K : Bool → Heap → Prop} (hh : cmp_isNaN_forder_place a1 h K) (w : World) (hw : w.heap = h) :
    (callFunc 38 #[(.int .i64 a1)]).run Try.prog w = .ok (.enter 38 #[(.int .i64 a1)]) w ∧ Calls Try.prog 38 #[(.int .i64 a1)] w fun e w' => ∃ v, e = .returned v ∧ Out w w' ∧ cmp_isNaN_forder_place.ret K v w'.heap := by
  rw [← cmp_isNaN_forder_place.eq] at hh
  exact fn_calls (args := [(.int .i64 a1)]) (c := cmp_isNaN_forder_place.code) cmp_isNaN_forder_place.ok Try.func38 (by kernel_rfl) (by kernel_rfl) (by kernel_rfl) (by kernel_rfl) (loops_ok (l := []) (by kernel_rfl) trivial) hh w hw

/-! ### cmp.Compare[strait/forder.place]: function 35 -/
def cmp_Compare_forder_place (a1 : Int) (a2 : Int) (h : Heap) (K : Int → Heap → Prop) : Prop :=
  (qcallP1 h (cmp_isNaN_forder_place a1 h) fun x3 => (qcallP1 h (cmp_isNaN_forder_place a2 h) fun x4 => ((iteB x3 ((iteB x4 (K 0 h) (((K (-1) h))))) (((iteB x4 (K 1 h) (((iteB (decide (a1 < a2)) ((K (-1) h)) (((iteB (decide (a1 > a2)) (K 1 h) (K 0 h))))))))))))))
def cmp_Compare_forder_place.ret (K : Int → Heap → Prop) (v : Value) (h : Heap) : Prop := match v with
  | (.int .i64 r5) => K r5 h
  | _ => False
theorem cmp_Compare_forder_place.ret_elim {K : Int → Heap → Prop} {K' : Value → Heap → Prop} {v : Value} {h : Heap} (hk : ∀ r5 h, K r5 h → K' (.int .i64 r5) h) (hh : cmp_Compare_forder_place.ret K v h) : K' v h := by
  unfold cmp_Compare_forder_place.ret at hh
  split at hh
  · exact hk _ _ hh
  · exact hh.elim
def cmp_Compare_forder_place.qcall (f : FuncId) (vs : List Value) (h : Heap) (K : Value → Prop) : Prop := match f, vs with
  | 38, [(.int .i64 a1)] => qcallP1 h (cmp_isNaN_forder_place a1 h) fun r2 => K (.bool r2)
  | _, _ => False
noncomputable def cmp_Compare_forder_place.ctx : Ctx := { P := Try.prog, call := fun _ _ _ _ => False, qcall := cmp_Compare_forder_place.qcall, quiet := fun f => Nat.beq f 38, loop := fun _ _ _ _ => False }
theorem cmp_Compare_forder_place.ok : cmp_Compare_forder_place.ctx.OK where
  mixed := by kernel_rfl
  mono := fun hh _ => hh.elim
  call := fun hh => hh.elim
  qmono := by
    intro f args h K K' hh hk
    change cmp_Compare_forder_place.qcall f args h K at hh
    change cmp_Compare_forder_place.qcall f args h K'
    unfold cmp_Compare_forder_place.qcall at hh ⊢
    split at hh
    · obtain ⟨x0, h1, h2⟩ := hh
      exact ⟨x0, h1, hk _ h2⟩
    · exact hh.elim
  qval := by
    intro f args h K hh
    change cmp_Compare_forder_place.qcall f args h K at hh
    suffices H : ∃ v, K v ∧ cmp_Compare_forder_place.qcall f args h (· = v) from H
    unfold cmp_Compare_forder_place.qcall at hh ⊢
    split at hh
    · obtain ⟨x0, h1, h2⟩ := hh
      exact ⟨_, h2, x0, h1, rfl⟩
    · exact hh.elim
  qcall := by
    intro f args h v hh w hw
    change cmp_Compare_forder_place.qcall f args h (· = v) at hh
    unfold cmp_Compare_forder_place.qcall at hh
    split at hh
    · obtain ⟨x0, h1, h2⟩ := hh
      obtain ⟨g1, g2⟩ := cmp_isNaN_forder_place.calls h1 w hw
      refine .inl ⟨g1, g2.mono fun e w' ⟨u, he, ho, hr⟩ => ?_⟩
      have hq := cmp_isNaN_forder_place.ret_elim (K' := fun u h' => u = v ∧ h' = h) (fun _ h' hr => by obtain ⟨rfl, rfl⟩ := hr; exact ⟨h2, rfl⟩) hr
      exact ⟨hq.1 ▸ he, ho, hq.2⟩
    · exact hh.elim
noncomputable def cmp_Compare_forder_place.code : Code := (Try.f35.body).getD .skip
def cmp_Compare_forder_place.ann : Ann := .auto
set_option maxRecDepth 100000 in
theorem cmp_Compare_forder_place.eq (a1 : Int) (a2 : Int) (h : Heap) (K : Int → Heap → Prop) : evF cmp_Compare_forder_place.ctx Try.f35 cmp_Compare_forder_place.ann [(.int .i64 a1), (.int .i64 a2)] h (cmp_Compare_forder_place.ret K) = cmp_Compare_forder_place a1 a2 h K := by kernel_rfl
set_option maxRecDepth 100000 in
theorem cmp_Compare_forder_place.calls {a1 : Int} {a2 : Int} {h : Heap} {K : Int → Heap → Prop} (hh : cmp_Compare_forder_place a1 a2 h K) (w : World) (hw : w.heap = h) :
    (callFunc 35 #[(.int .i64 a1), (.int .i64 a2)]).run Try.prog w = .ok (.enter 35 #[(.int .i64 a1), (.int .i64 a2)]) w ∧ Calls Try.prog 35 #[(.int .i64 a1), (.int .i64 a2)] w fun e w' => ∃ v, e = .returned v ∧ Out w w' ∧ cmp_Compare_forder_place.ret K v w'.heap := by
  rw [← cmp_Compare_forder_place.eq] at hh
  exact fn_calls (args := [(.int .i64 a1), (.int .i64 a2)]) (c := cmp_Compare_forder_place.code) cmp_Compare_forder_place.ok Try.func35 (by kernel_rfl) (by kernel_rfl) (by kernel_rfl) (by kernel_rfl) (loops_ok (l := []) (by kernel_rfl) trivial) hh w hw

/-! ### (strait/forder.place).cmp: function 24 -/
def forder_place_cmp (a1 : Int) (a2 : Int) (h : Heap) (K : Int → Heap → Prop) : Prop :=
  (qcallP1 h (cmp_Compare_forder_place a1 a2 h) fun x3 => K x3 h)
def forder_place_cmp.ret (K : Int → Heap → Prop) (v : Value) (h : Heap) : Prop := match v with
  | (.int .i64 r4) => K r4 h
  | _ => False
theorem forder_place_cmp.ret_elim {K : Int → Heap → Prop} {K' : Value → Heap → Prop} {v : Value} {h : Heap} (hk : ∀ r4 h, K r4 h → K' (.int .i64 r4) h) (hh : forder_place_cmp.ret K v h) : K' v h := by
  unfold forder_place_cmp.ret at hh
  split at hh
  · exact hk _ _ hh
  · exact hh.elim
def forder_place_cmp.qcall (f : FuncId) (vs : List Value) (h : Heap) (K : Value → Prop) : Prop := match f, vs with
  | 35, [(.int .i64 a1), (.int .i64 a2)] => qcallP1 h (cmp_Compare_forder_place a1 a2 h) fun r5 => K (.int .i64 r5)
  | _, _ => False
noncomputable def forder_place_cmp.ctx : Ctx := { P := Try.prog, call := fun _ _ _ _ => False, qcall := forder_place_cmp.qcall, quiet := fun f => Nat.beq f 35, loop := fun _ _ _ _ => False }
theorem forder_place_cmp.ok : forder_place_cmp.ctx.OK where
  mixed := by kernel_rfl
  mono := fun hh _ => hh.elim
  call := fun hh => hh.elim
  qmono := by
    intro f args h K K' hh hk
    change forder_place_cmp.qcall f args h K at hh
    change forder_place_cmp.qcall f args h K'
    unfold forder_place_cmp.qcall at hh ⊢
    split at hh
    · obtain ⟨x0, h1, h2⟩ := hh
      exact ⟨x0, h1, hk _ h2⟩
    · exact hh.elim
  qval := by
    intro f args h K hh
    change forder_place_cmp.qcall f args h K at hh
    suffices H : ∃ v, K v ∧ forder_place_cmp.qcall f args h (· = v) from H
    unfold forder_place_cmp.qcall at hh ⊢
    split at hh
    · obtain ⟨x0, h1, h2⟩ := hh
      exact ⟨_, h2, x0, h1, rfl⟩
    · exact hh.elim
  qcall := by
    intro f args h v hh w hw
    change forder_place_cmp.qcall f args h (· = v) at hh
    unfold forder_place_cmp.qcall at hh
    split at hh
    · obtain ⟨x0, h1, h2⟩ := hh
      obtain ⟨g1, g2⟩ := cmp_Compare_forder_place.calls h1 w hw
      refine .inl ⟨g1, g2.mono fun e w' ⟨u, he, ho, hr⟩ => ?_⟩
      have hq := cmp_Compare_forder_place.ret_elim (K' := fun u h' => u = v ∧ h' = h) (fun _ h' hr => by obtain ⟨rfl, rfl⟩ := hr; exact ⟨h2, rfl⟩) hr
      exact ⟨hq.1 ▸ he, ho, hq.2⟩
    · exact hh.elim
noncomputable def forder_place_cmp.code : Code := (Try.f24.body).getD .skip
def forder_place_cmp.ann : Ann := .auto
set_option maxRecDepth 100000 in
theorem forder_place_cmp.eq (a1 : Int) (a2 : Int) (h : Heap) (K : Int → Heap → Prop) : evF forder_place_cmp.ctx Try.f24 forder_place_cmp.ann [(.int .i64 a1), (.int .i64 a2)] h (forder_place_cmp.ret K) = forder_place_cmp a1 a2 h K := by kernel_rfl
set_option maxRecDepth 100000 in
theorem forder_place_cmp.calls {a1 : Int} {a2 : Int} {h : Heap} {K : Int → Heap → Prop} (hh : forder_place_cmp a1 a2 h K) (w : World) (hw : w.heap = h) :
    (callFunc 24 #[(.int .i64 a1), (.int .i64 a2)]).run Try.prog w = .ok (.enter 24 #[(.int .i64 a1), (.int .i64 a2)]) w ∧ Calls Try.prog 24 #[(.int .i64 a1), (.int .i64 a2)] w fun e w' => ∃ v, e = .returned v ∧ Out w w' ∧ forder_place_cmp.ret K v w'.heap := by
  rw [← forder_place_cmp.eq] at hh
  exact fn_calls (args := [(.int .i64 a1), (.int .i64 a2)]) (c := forder_place_cmp.code) forder_place_cmp.ok Try.func24 (by kernel_rfl) (by kernel_rfl) (by kernel_rfl) (by kernel_rfl) (loops_ok (l := []) (by kernel_rfl) trivial) hh w hw

/-! ### strait/forder.Cmp: function 7 -/
def forder_Cmp (a1 : Nat) (a2 : Nat) (h : Heap) (K : Int → Heap → Prop) : Prop :=
  (qcallP1 h (forder_at a1 h) fun x3 => qcallP1 h (forder_at a2 h) fun x4 => qcallP1 h (forder_place_cmp x3 x4 h) fun x5 => K x5 h)
def forder_Cmp.ret (K : Int → Heap → Prop) (v : Value) (h : Heap) : Prop := match v with
  | (.int .i64 r6) => K r6 h
  | _ => False
theorem forder_Cmp.ret_elim {K : Int → Heap → Prop} {K' : Value → Heap → Prop} {v : Value} {h : Heap} (hk : ∀ r6 h, K r6 h → K' (.int .i64 r6) h) (hh : forder_Cmp.ret K v h) : K' v h := by
  unfold forder_Cmp.ret at hh
  split at hh
  · exact hk _ _ hh
  · exact hh.elim
def forder_Cmp.qcall (f : FuncId) (vs : List Value) (h : Heap) (K : Value → Prop) : Prop := match f, vs with
  | 23, [(.float .f64 a1)] => qcallP1 h (forder_at a1 h) fun r5 => K (.int .i64 r5)
  | 24, [(.int .i64 a1), (.int .i64 a2)] => qcallP1 h (forder_place_cmp a1 a2 h) fun r4 => K (.int .i64 r4)
  | _, _ => False
noncomputable def forder_Cmp.ctx : Ctx := { P := Try.prog, call := fun _ _ _ _ => False, qcall := forder_Cmp.qcall, quiet := fun f => Nat.beq f 23 || Nat.beq f 24, loop := fun _ _ _ _ => False }
theorem forder_Cmp.ok : forder_Cmp.ctx.OK where
  mixed := by kernel_rfl
  mono := fun hh _ => hh.elim
  call := fun hh => hh.elim
  qmono := by
    intro f args h K K' hh hk
    change forder_Cmp.qcall f args h K at hh
    change forder_Cmp.qcall f args h K'
    unfold forder_Cmp.qcall at hh ⊢
    split at hh
    · obtain ⟨x0, h1, h2⟩ := hh
      exact ⟨x0, h1, hk _ h2⟩
    · obtain ⟨x0, h1, h2⟩ := hh
      exact ⟨x0, h1, hk _ h2⟩
    · exact hh.elim
  qval := by
    intro f args h K hh
    change forder_Cmp.qcall f args h K at hh
    suffices H : ∃ v, K v ∧ forder_Cmp.qcall f args h (· = v) from H
    unfold forder_Cmp.qcall at hh ⊢
    split at hh
    · obtain ⟨x0, h1, h2⟩ := hh
      exact ⟨_, h2, x0, h1, rfl⟩
    · obtain ⟨x0, h1, h2⟩ := hh
      exact ⟨_, h2, x0, h1, rfl⟩
    · exact hh.elim
  qcall := by
    intro f args h v hh w hw
    change forder_Cmp.qcall f args h (· = v) at hh
    unfold forder_Cmp.qcall at hh
    split at hh
    · obtain ⟨x0, h1, h2⟩ := hh
      obtain ⟨g1, g2⟩ := forder_at.calls h1 w hw
      refine .inl ⟨g1, g2.mono fun e w' ⟨u, he, ho, hr⟩ => ?_⟩
      have hq := forder_at.ret_elim (K' := fun u h' => u = v ∧ h' = h) (fun _ h' hr => by obtain ⟨rfl, rfl⟩ := hr; exact ⟨h2, rfl⟩) hr
      exact ⟨hq.1 ▸ he, ho, hq.2⟩
    · obtain ⟨x0, h1, h2⟩ := hh
      obtain ⟨g1, g2⟩ := forder_place_cmp.calls h1 w hw
      refine .inl ⟨g1, g2.mono fun e w' ⟨u, he, ho, hr⟩ => ?_⟩
      have hq := forder_place_cmp.ret_elim (K' := fun u h' => u = v ∧ h' = h) (fun _ h' hr => by obtain ⟨rfl, rfl⟩ := hr; exact ⟨h2, rfl⟩) hr
      exact ⟨hq.1 ▸ he, ho, hq.2⟩
    · exact hh.elim
noncomputable def forder_Cmp.code : Code := (Try.f7.body).getD .skip
def forder_Cmp.ann : Ann := .auto
set_option maxRecDepth 100000 in
theorem forder_Cmp.eq (a1 : Nat) (a2 : Nat) (h : Heap) (K : Int → Heap → Prop) : evF forder_Cmp.ctx Try.f7 forder_Cmp.ann [(.float .f64 a1), (.float .f64 a2)] h (forder_Cmp.ret K) = forder_Cmp a1 a2 h K := by kernel_rfl
set_option maxRecDepth 100000 in
theorem forder_Cmp.calls {a1 : Nat} {a2 : Nat} {h : Heap} {K : Int → Heap → Prop} (hh : forder_Cmp a1 a2 h K) (w : World) (hw : w.heap = h) :
    (callFunc 7 #[(.float .f64 a1), (.float .f64 a2)]).run Try.prog w = .ok (.enter 7 #[(.float .f64 a1), (.float .f64 a2)]) w ∧ Calls Try.prog 7 #[(.float .f64 a1), (.float .f64 a2)] w fun e w' => ∃ v, e = .returned v ∧ Out w w' ∧ forder_Cmp.ret K v w'.heap := by
  rw [← forder_Cmp.eq] at hh
  exact fn_calls (args := [(.float .f64 a1), (.float .f64 a2)]) (c := forder_Cmp.code) forder_Cmp.ok Try.func7 (by kernel_rfl) (by kernel_rfl) (by kernel_rfl) (by kernel_rfl) (loops_ok (l := []) (by kernel_rfl) trivial) hh w hw

/-! ### strait/straitref02.Kind: function 30 -/
def straitref02_Kind (a1 : Int) (h : Heap) (K : Int → Heap → Prop) : Prop :=
  (0 ≤ (52 : Int) ∧ (let j8 := (fun (y5 : Int) (y6 : Int) => (iteB (y5 == (2047 : Int)) (K 1 h) ((iteB (y5 == (0 : Int)) ((iteB (y6 == (0 : Int)) (K 2 h) (((iteB (y5 == (0 : Int)) (K 3 h) (K 4 h)))))) ((((iteB (y5 == (0 : Int)) (K 3 h) (K 4 h)))))))));
  iteB ((bits .and .u64 (a1.fdiv (2 ^ 52)) 2047) == (2047 : Int)) ((iteB ((bits .and .u64 a1 4503599627370495) != (0 : Int)) (K 0 h) ((j8 (bits .and .u64 (a1.fdiv (2 ^ 52)) 2047) (bits .and .u64 a1 4503599627370495))))) (((j8 (bits .and .u64 (a1.fdiv (2 ^ 52)) 2047) (bits .and .u64 a1 4503599627370495))))))
def straitref02_Kind.ret (K : Int → Heap → Prop) (v : Value) (h : Heap) : Prop := match v with
  | (.int .i64 r9) => K r9 h
  | _ => False
theorem straitref02_Kind.ret_elim {K : Int → Heap → Prop} {K' : Value → Heap → Prop} {v : Value} {h : Heap} (hk : ∀ r9 h, K r9 h → K' (.int .i64 r9) h) (hh : straitref02_Kind.ret K v h) : K' v h := by
  unfold straitref02_Kind.ret at hh
  split at hh
  · exact hk _ _ hh
  · exact hh.elim
noncomputable def straitref02_Kind.ctx : Ctx := { P := Try.prog, call := fun _ _ _ _ => False, qcall := fun _ _ _ _ => False, quiet := fun f => false, loop := fun _ _ _ _ => False }
theorem straitref02_Kind.ok : straitref02_Kind.ctx.OK where
  mixed := by kernel_rfl
  mono := fun hh _ => hh.elim
  call := fun hh => hh.elim
  qmono := fun hh _ => hh.elim
  qval := fun hh => hh.elim
  qcall := fun hh => hh.elim
noncomputable def straitref02_Kind.code : Code := (Try.f30.body).getD .skip
def straitref02_Kind.ann : Ann := .auto
set_option maxRecDepth 100000 in
theorem straitref02_Kind.eq (a1 : Int) (h : Heap) (K : Int → Heap → Prop) : evF straitref02_Kind.ctx Try.f30 straitref02_Kind.ann [(.int .u64 a1)] h (straitref02_Kind.ret K) = straitref02_Kind a1 h K := by kernel_rfl
set_option maxRecDepth 100000 in
theorem straitref02_Kind.calls {a1 : Int} {h : Heap} {K : Int → Heap → Prop} (hh : straitref02_Kind a1 h K) (w : World) (hw : w.heap = h) :
    (callFunc 30 #[(.int .u64 a1)]).run Try.prog w = .ok (.enter 30 #[(.int .u64 a1)]) w ∧ Calls Try.prog 30 #[(.int .u64 a1)] w fun e w' => ∃ v, e = .returned v ∧ Out w w' ∧ straitref02_Kind.ret K v w'.heap := by
  rw [← straitref02_Kind.eq] at hh
  exact fn_calls (args := [(.int .u64 a1)]) (c := straitref02_Kind.code) straitref02_Kind.ok Try.func30 (by kernel_rfl) (by kernel_rfl) (by kernel_rfl) (by kernel_rfl) (loops_ok (l := []) (by kernel_rfl) trivial) hh w hw

/-! ### strait/straitref03.key: function 25 -/
def straitref03_key (a1 : Int) (h : Heap) (K : Int → Heap → Prop) : Prop :=
  (qcallP1 h (straitref02_Kind a1 h) fun x2 => (iteB (x2 == (0 : Int)) (K 18446744073709551615 h) ((0 ≤ (63 : Int) ∧ (iteB ((a1.fdiv (2 ^ 63)) == (1 : Int)) (bindV (IntKind.u64.wrap (18446744073709551615 - a1)) fun n3 => K n3 h) ((bindV (IntKind.u64.wrap (9223372036854775808 + a1)) fun n4 => K n4 h)))))))
def straitref03_key.ret (K : Int → Heap → Prop) (v : Value) (h : Heap) : Prop := match v with
  | (.int .u64 r5) => K r5 h
  | _ => False
theorem straitref03_key.ret_elim {K : Int → Heap → Prop} {K' : Value → Heap → Prop} {v : Value} {h : Heap} (hk : ∀ r5 h, K r5 h → K' (.int .u64 r5) h) (hh : straitref03_key.ret K v h) : K' v h := by
  unfold straitref03_key.ret at hh
  split at hh
  · exact hk _ _ hh
  · exact hh.elim
def straitref03_key.qcall (f : FuncId) (vs : List Value) (h : Heap) (K : Value → Prop) : Prop := match f, vs with
  | 30, [(.int .u64 a1)] => qcallP1 h (straitref02_Kind a1 h) fun r9 => K (.int .i64 r9)
  | _, _ => False
noncomputable def straitref03_key.ctx : Ctx := { P := Try.prog, call := fun _ _ _ _ => False, qcall := straitref03_key.qcall, quiet := fun f => Nat.beq f 30, loop := fun _ _ _ _ => False }
theorem straitref03_key.ok : straitref03_key.ctx.OK where
  mixed := by kernel_rfl
  mono := fun hh _ => hh.elim
  call := fun hh => hh.elim
  qmono := by
    intro f args h K K' hh hk
    change straitref03_key.qcall f args h K at hh
    change straitref03_key.qcall f args h K'
    unfold straitref03_key.qcall at hh ⊢
    split at hh
    · obtain ⟨x0, h1, h2⟩ := hh
      exact ⟨x0, h1, hk _ h2⟩
    · exact hh.elim
  qval := by
    intro f args h K hh
    change straitref03_key.qcall f args h K at hh
    suffices H : ∃ v, K v ∧ straitref03_key.qcall f args h (· = v) from H
    unfold straitref03_key.qcall at hh ⊢
    split at hh
    · obtain ⟨x0, h1, h2⟩ := hh
      exact ⟨_, h2, x0, h1, rfl⟩
    · exact hh.elim
  qcall := by
    intro f args h v hh w hw
    change straitref03_key.qcall f args h (· = v) at hh
    unfold straitref03_key.qcall at hh
    split at hh
    · obtain ⟨x0, h1, h2⟩ := hh
      obtain ⟨g1, g2⟩ := straitref02_Kind.calls h1 w hw
      refine .inl ⟨g1, g2.mono fun e w' ⟨u, he, ho, hr⟩ => ?_⟩
      have hq := straitref02_Kind.ret_elim (K' := fun u h' => u = v ∧ h' = h) (fun _ h' hr => by obtain ⟨rfl, rfl⟩ := hr; exact ⟨h2, rfl⟩) hr
      exact ⟨hq.1 ▸ he, ho, hq.2⟩
    · exact hh.elim
noncomputable def straitref03_key.code : Code := (Try.f25.body).getD .skip
def straitref03_key.ann : Ann := .auto
set_option maxRecDepth 100000 in
theorem straitref03_key.eq (a1 : Int) (h : Heap) (K : Int → Heap → Prop) : evF straitref03_key.ctx Try.f25 straitref03_key.ann [(.int .u64 a1)] h (straitref03_key.ret K) = straitref03_key a1 h K := by kernel_rfl
set_option maxRecDepth 100000 in
theorem straitref03_key.calls {a1 : Int} {h : Heap} {K : Int → Heap → Prop} (hh : straitref03_key a1 h K) (w : World) (hw : w.heap = h) :
    (callFunc 25 #[(.int .u64 a1)]).run Try.prog w = .ok (.enter 25 #[(.int .u64 a1)]) w ∧ Calls Try.prog 25 #[(.int .u64 a1)] w fun e w' => ∃ v, e = .returned v ∧ Out w w' ∧ straitref03_key.ret K v w'.heap := by
  rw [← straitref03_key.eq] at hh
  exact fn_calls (args := [(.int .u64 a1)]) (c := straitref03_key.code) straitref03_key.ok Try.func25 (by kernel_rfl) (by kernel_rfl) (by kernel_rfl) (by kernel_rfl) (loops_ok (l := []) (by kernel_rfl) trivial) hh w hw

/-! ### strait/straitref03.Cmp: function 8 -/
def straitref03_Cmp (a1 : Int) (a2 : Int) (h : Heap) (K : Int → Heap → Prop) : Prop :=
  (qcallP1 h (straitref03_key a1 h) fun x3 => qcallP1 h (straitref03_key a2 h) fun x4 => ((iteB (decide (x3 < x4)) ((K (-1) h)) (((iteB (decide (x3 > x4)) (K 1 h) (K 0 h)))))))
def straitref03_Cmp.ret (K : Int → Heap → Prop) (v : Value) (h : Heap) : Prop := match v with
  | (.int .i64 r5) => K r5 h
  | _ => False
theorem straitref03_Cmp.ret_elim {K : Int → Heap → Prop} {K' : Value → Heap → Prop} {v : Value} {h : Heap} (hk : ∀ r5 h, K r5 h → K' (.int .i64 r5) h) (hh : straitref03_Cmp.ret K v h) : K' v h := by
  unfold straitref03_Cmp.ret at hh
  split at hh
  · exact hk _ _ hh
  · exact hh.elim
def straitref03_Cmp.qcall (f : FuncId) (vs : List Value) (h : Heap) (K : Value → Prop) : Prop := match f, vs with
  | 25, [(.int .u64 a1)] => qcallP1 h (straitref03_key a1 h) fun r5 => K (.int .u64 r5)
  | _, _ => False
noncomputable def straitref03_Cmp.ctx : Ctx := { P := Try.prog, call := fun _ _ _ _ => False, qcall := straitref03_Cmp.qcall, quiet := fun f => Nat.beq f 25, loop := fun _ _ _ _ => False }
theorem straitref03_Cmp.ok : straitref03_Cmp.ctx.OK where
  mixed := by kernel_rfl
  mono := fun hh _ => hh.elim
  call := fun hh => hh.elim
  qmono := by
    intro f args h K K' hh hk
    change straitref03_Cmp.qcall f args h K at hh
    change straitref03_Cmp.qcall f args h K'
    unfold straitref03_Cmp.qcall at hh ⊢
    split at hh
    · obtain ⟨x0, h1, h2⟩ := hh
      exact ⟨x0, h1, hk _ h2⟩
    · exact hh.elim
  qval := by
    intro f args h K hh
    change straitref03_Cmp.qcall f args h K at hh
    suffices H : ∃ v, K v ∧ straitref03_Cmp.qcall f args h (· = v) from H
    unfold straitref03_Cmp.qcall at hh ⊢
    split at hh
    · obtain ⟨x0, h1, h2⟩ := hh
      exact ⟨_, h2, x0, h1, rfl⟩
    · exact hh.elim
  qcall := by
    intro f args h v hh w hw
    change straitref03_Cmp.qcall f args h (· = v) at hh
    unfold straitref03_Cmp.qcall at hh
    split at hh
    · obtain ⟨x0, h1, h2⟩ := hh
      obtain ⟨g1, g2⟩ := straitref03_key.calls h1 w hw
      refine .inl ⟨g1, g2.mono fun e w' ⟨u, he, ho, hr⟩ => ?_⟩
      have hq := straitref03_key.ret_elim (K' := fun u h' => u = v ∧ h' = h) (fun _ h' hr => by obtain ⟨rfl, rfl⟩ := hr; exact ⟨h2, rfl⟩) hr
      exact ⟨hq.1 ▸ he, ho, hq.2⟩
    · exact hh.elim
noncomputable def straitref03_Cmp.code : Code := (Try.f8.body).getD .skip
def straitref03_Cmp.ann : Ann := .auto
set_option maxRecDepth 100000 in
theorem straitref03_Cmp.eq (a1 : Int) (a2 : Int) (h : Heap) (K : Int → Heap → Prop) : evF straitref03_Cmp.ctx Try.f8 straitref03_Cmp.ann [(.int .u64 a1), (.int .u64 a2)] h (straitref03_Cmp.ret K) = straitref03_Cmp a1 a2 h K := by kernel_rfl
set_option maxRecDepth 100000 in
theorem straitref03_Cmp.calls {a1 : Int} {a2 : Int} {h : Heap} {K : Int → Heap → Prop} (hh : straitref03_Cmp a1 a2 h K) (w : World) (hw : w.heap = h) :
    (callFunc 8 #[(.int .u64 a1), (.int .u64 a2)]).run Try.prog w = .ok (.enter 8 #[(.int .u64 a1), (.int .u64 a2)]) w ∧ Calls Try.prog 8 #[(.int .u64 a1), (.int .u64 a2)] w fun e w' => ∃ v, e = .returned v ∧ Out w w' ∧ straitref03_Cmp.ret K v w'.heap := by
  rw [← straitref03_Cmp.eq] at hh
  exact fn_calls (args := [(.int .u64 a1), (.int .u64 a2)]) (c := straitref03_Cmp.code) straitref03_Cmp.ok Try.func8 (by kernel_rfl) (by kernel_rfl) (by kernel_rfl) (by kernel_rfl) (loops_ok (l := []) (by kernel_rfl) trivial) hh w hw

/-! ### strait/forder.Less: function 9 -/
def forder_Less (a1 : Nat) (a2 : Nat) (h : Heap) (K : Bool → Heap → Prop) : Prop :=
  (qcallP1 h (forder_Cmp a1 a2 h) fun x3 => (K (decide (x3 < (0 : Int))) h))
def forder_Less.ret (K : Bool → Heap → Prop) (v : Value) (h : Heap) : Prop := match v with
  | (.bool r4) => K r4 h
  | _ => False
theorem forder_Less.ret_elim {K : Bool → Heap → Prop} {K' : Value → Heap → Prop} {v : Value} {h : Heap} (hk : ∀ r4 h, K r4 h → K' (.bool r4) h) (hh : forder_Less.ret K v h) : K' v h := by
  unfold forder_Less.ret at hh
  split at hh
  · exact hk _ _ hh
  · exact hh.elim
def forder_Less.qcall (f : FuncId) (vs : List Value) (h : Heap) (K : Value → Prop) : Prop := match f, vs with
  | 7, [(.float .f64 a1), (.float .f64 a2)] => qcallP1 h (forder_Cmp a1 a2 h) fun r6 => K (.int .i64 r6)
  | _, _ => False
noncomputable def forder_Less.ctx : Ctx := { P := Try.prog, call := fun _ _ _ _ => False, qcall := forder_Less.qcall, quiet := fun f => Nat.beq f 7, loop := fun _ _ _ _ => False }
theorem forder_Less.ok : forder_Less.ctx.OK where
  mixed := by kernel_rfl
  mono := fun hh _ => hh.elim
  call := fun hh => hh.elim
  qmono := by
    intro f args h K K' hh hk
    change forder_Less.qcall f args h K at hh
    change forder_Less.qcall f args h K'
    unfold forder_Less.qcall at hh ⊢
    split at hh
    · obtain ⟨x0, h1, h2⟩ := hh
      exact ⟨x0, h1, hk _ h2⟩
    · exact hh.elim
  qval := by
    intro f args h K hh
    change forder_Less.qcall f args h K at hh
    suffices H : ∃ v, K v ∧ forder_Less.qcall f args h (· = v) from H
    unfold forder_Less.qcall at hh ⊢
    split at hh
    · obtain ⟨x0, h1, h2⟩ := hh
      exact ⟨_, h2, x0, h1, rfl⟩
    · exact hh.elim
  qcall := by
    intro f args h v hh w hw
    change forder_Less.qcall f args h (· = v) at hh
    unfold forder_Less.qcall at hh
    split at hh
    · obtain ⟨x0, h1, h2⟩ := hh
      obtain ⟨g1, g2⟩ := forder_Cmp.calls h1 w hw
      refine .inl ⟨g1, g2.mono fun e w' ⟨u, he, ho, hr⟩ => ?_⟩
      have hq := forder_Cmp.ret_elim (K' := fun u h' => u = v ∧ h' = h) (fun _ h' hr => by obtain ⟨rfl, rfl⟩ := hr; exact ⟨h2, rfl⟩) hr
      exact ⟨hq.1 ▸ he, ho, hq.2⟩
    · exact hh.elim
noncomputable def forder_Less.code : Code := (Try.f9.body).getD .skip
def forder_Less.ann : Ann := .auto
set_option maxRecDepth 100000 in
theorem forder_Less.eq (a1 : Nat) (a2 : Nat) (h : Heap) (K : Bool → Heap → Prop) : evF forder_Less.ctx Try.f9 forder_Less.ann [(.float .f64 a1), (.float .f64 a2)] h (forder_Less.ret K) = forder_Less a1 a2 h K := by kernel_rfl
set_option maxRecDepth 100000 in
theorem forder_Less.calls {a1 : Nat} {a2 : Nat} {h : Heap} {K : Bool → Heap → Prop} (hh : forder_Less a1 a2 h K) (w : World) (hw : w.heap = h) :
    (callFunc 9 #[(.float .f64 a1), (.float .f64 a2)]).run Try.prog w = .ok (.enter 9 #[(.float .f64 a1), (.float .f64 a2)]) w ∧ Calls Try.prog 9 #[(.float .f64 a1), (.float .f64 a2)] w fun e w' => ∃ v, e = .returned v ∧ Out w w' ∧ forder_Less.ret K v w'.heap := by
  rw [← forder_Less.eq] at hh
  exact fn_calls (args := [(.float .f64 a1), (.float .f64 a2)]) (c := forder_Less.code) forder_Less.ok Try.func9 (by kernel_rfl) (by kernel_rfl) (by kernel_rfl) (by kernel_rfl) (loops_ok (l := []) (by kernel_rfl) trivial) hh w hw

/-! ### strait/forder.first: function 31 -/
def forder_first_forder_place_cmp.b0 (K2 : Int → Heap → Prop) (cont : (Option Addr) → Nat → Nat → Int → (Option Addr) → Nat → Nat → Int → Int → Heap → Prop) (c0_1001 : Option Addr) (c0_1002 : Nat) (c0_1003 : Nat) (v5_1004 : Int) (c8_1005 : Option Addr) (c8_1006 : Nat) (c8_1007 : Nat) (c9_1008 : Int) (v10_1009 : Int) (h1010 : Heap) : Prop :=
  (iteB (decide (v10_1009 < c9_1008)) ((let j1023 := (fun (y1021 : Int) (h1022 : Heap) => cont c0_1001 c0_1002 c0_1003 y1021 c8_1005 c8_1006 c8_1007 c9_1008 (IntKind.i64.wrap (v10_1009 + 1)) h1022);
  chkP c8_1005 fun a1011 => (0 ≤ v10_1009 ∧ v10_1009 < (c8_1006 : Int)) ∧ ∃ (x1012 : Nat), cell h1010 (a1011.add (v10_1009.toNat * 1)) = some (.float .f64 x1012) ∧ (iteB (decide (v5_1004 < (0 : Int))) ((((j1023 v10_1009 h1010)))) (qcallP1 h1010 (forder_at x1012 h1010) fun x1013 => chkP c0_1001 fun a1014 => (0 ≤ v5_1004 ∧ v5_1004 < (c0_1002 : Int)) ∧ ∃ (x1015 : Nat), cell h1010 (a1014.add (v5_1004.toNat * 1)) = some (.float .f64 x1015) ∧ qcallP1 h1010 (forder_at x1015 h1010) fun x1016 => callP1 (forder_place_cmp x1013 x1016 h1010) fun x1017 h1018 => (iteB (decide (x1017 < (0 : Int))) (((j1023 v10_1009 h1018))) (((j1023 v5_1004 h1018)))))))) (K2 v5_1004 h1010))
def forder_first_forder_place_cmp.l0 (K2 : Int → Heap → Prop) : Nat → (Option Addr) → Nat → Nat → Int → (Option Addr) → Nat → Nat → Int → Int → Heap → Prop
  | 0, _, _, _, _, _, _, _, _, _, _ => False
  | m + 1, c0_1001, c0_1002, c0_1003, v5_1004, c8_1005, c8_1006, c8_1007, c9_1008, v10_1009, h => forder_first_forder_place_cmp.b0 K2 (forder_first_forder_place_cmp.l0 K2 m) c0_1001 c0_1002 c0_1003 v5_1004 c8_1005 c8_1006 c8_1007 c9_1008 v10_1009 h
def forder_first_forder_place_cmp (a1 : Option Addr) (a1l : Nat) (a1c : Nat) (h : Heap) (K : Int → Heap → Prop) : Prop :=
  (((∃ m4, forder_first_forder_place_cmp.l0 (fun z2 h3 => (K z2 h3)) m4 a1 a1l a1c (-1) a1 a1l a1c (a1l : Int) 0 h)))
def forder_first_forder_place_cmp.ret (K : Int → Heap → Prop) (v : Value) (h : Heap) : Prop := match v with
  | (.int .i64 r5) => K r5 h
  | _ => False
theorem forder_first_forder_place_cmp.ret_elim {K : Int → Heap → Prop} {K' : Value → Heap → Prop} {v : Value} {h : Heap} (hk : ∀ r5 h, K r5 h → K' (.int .i64 r5) h) (hh : forder_first_forder_place_cmp.ret K v h) : K' v h := by
  unfold forder_first_forder_place_cmp.ret at hh
  split at hh
  · exact hk _ _ hh
  · exact hh.elim
def forder_first_forder_place_cmp.call (f : FuncId) (vs : List Value) (h : Heap) (K : Value → Heap → Prop) : Prop := match f, vs with
  | 24, [(.int .i64 a1), (.int .i64 a2)] => callP1 (forder_place_cmp a1 a2 h) fun r4 h' => K (.int .i64 r4) h'
  | _, _ => False
def forder_first_forder_place_cmp.qcall (f : FuncId) (vs : List Value) (h : Heap) (K : Value → Prop) : Prop := match f, vs with
  | 23, [(.float .f64 a1)] => qcallP1 h (forder_at a1 h) fun r5 => K (.int .i64 r5)
  | _, _ => False
def forder_first_forder_place_cmp.r0 (K : Nat → List Value → Heap → Prop) (m : Nat) (vs : List Value) (h : Heap) : Prop := match vs with
  | [(.slice c0_1001 c0_1002 c0_1003), (.func (.func 24) ⟨[]⟩ ⟨[]⟩), (.int .i64 v5_1004), (.slice c8_1005 c8_1006 c8_1007), (.int .i64 c9_1008), (.int .i64 v10_1009)] => forder_first_forder_place_cmp.l0 (fun z6 h' => K 2 [(.int .i64 z6)] h') m c0_1001 c0_1002 c0_1003 v5_1004 c8_1005 c8_1006 c8_1007 c9_1008 v10_1009 h
  | _ => False
def forder_first_forder_place_cmp.loop (i : Nat) (vs : List Value) (h : Heap) (K : Nat → List Value → Heap → Prop) : Prop := match i with
  | 0 => ∃ m, forder_first_forder_place_cmp.r0 K m vs h
  | _ => False
noncomputable def forder_first_forder_place_cmp.ctx : Ctx := { P := Try.prog, call := forder_first_forder_place_cmp.call, qcall := forder_first_forder_place_cmp.qcall, quiet := fun f => Nat.beq f 23, loop := forder_first_forder_place_cmp.loop }
theorem forder_first_forder_place_cmp.ok : forder_first_forder_place_cmp.ctx.OK where
  mixed := by kernel_rfl
  mono := by
    intro f args h K K' hh hk
    change forder_first_forder_place_cmp.call f args h K at hh
    change forder_first_forder_place_cmp.call f args h K'
    unfold forder_first_forder_place_cmp.call at hh ⊢
    split at hh
    · obtain ⟨R, h1, h2⟩ := hh
      exact ⟨R, h1, fun _ x hr => hk _ _ (h2 _ x hr)⟩
    · exact hh.elim
  call := by
    intro f args h K hh w hw
    change forder_first_forder_place_cmp.call f args h K at hh
    unfold forder_first_forder_place_cmp.call at hh
    split at hh
    · obtain ⟨R, h1, h2⟩ := hh
      obtain ⟨g1, g2⟩ := forder_place_cmp.calls h1 w hw
      exact ⟨g1, g2.mono fun e w' ⟨v, he, ho, hr⟩ => ⟨v, he, ho, forder_place_cmp.ret_elim h2 hr⟩⟩
    · exact hh.elim
  qmono := by
    intro f args h K K' hh hk
    change forder_first_forder_place_cmp.qcall f args h K at hh
    change forder_first_forder_place_cmp.qcall f args h K'
    unfold forder_first_forder_place_cmp.qcall at hh ⊢
    split at hh
    · obtain ⟨x0, h1, h2⟩ := hh
      exact ⟨x0, h1, hk _ h2⟩
    · exact hh.elim
  qval := by
    intro f args h K hh
    change forder_first_forder_place_cmp.qcall f args h K at hh
    suffices H : ∃ v, K v ∧ forder_first_forder_place_cmp.qcall f args h (· = v) from H
    unfold forder_first_forder_place_cmp.qcall at hh ⊢
    split at hh
    · obtain ⟨x0, h1, h2⟩ := hh
      exact ⟨_, h2, x0, h1, rfl⟩
    · exact hh.elim
  qcall := by
    intro f args h v hh w hw
    change forder_first_forder_place_cmp.qcall f args h (· = v) at hh
    unfold forder_first_forder_place_cmp.qcall at hh
    split at hh
    · obtain ⟨x0, h1, h2⟩ := hh
      obtain ⟨g1, g2⟩ := forder_at.calls h1 w hw
      refine .inl ⟨g1, g2.mono fun e w' ⟨u, he, ho, hr⟩ => ?_⟩
      have hq := forder_at.ret_elim (K' := fun u h' => u = v ∧ h' = h) (fun _ h' hr => by obtain ⟨rfl, rfl⟩ := hr; exact ⟨h2, rfl⟩) hr
      exact ⟨hq.1 ▸ he, ho, hq.2⟩
    · exact hh.elim
noncomputable def forder_first_forder_place_cmp.code : Code := (Try.f31.body).getD .skip
def forder_first_forder_place_cmp.ann : Ann := (.two .auto (.two .auto (.two (.two .auto (.two (.loop 0 [0, 1, 5, 8, 9, 10] [(2, [5])] (.two .auto (.two .auto (.two (.two (.two .auto (.two (.reg [0, 1, 3, 7, 7, 23, 7, 7, 199, 455, 1015, 2047, 4095, 8191] (.take 0 (.take 1 (.take 2 (.take 3 (.take 4 (.take 5 (.take 6 (.take 7 (.take 8 (.take 9 (.take 10 (.alt 11 (.take 12 (.take 13 .done)) .noalt))))))))))))) .auto)) .auto) .auto)))) .auto)) .auto)))
noncomputable def forder_first_forder_place_cmp.c0 : Code := sub forder_first_forder_place_cmp.code [1, 1, 0, 1, 0, 0]
def forder_first_forder_place_cmp.a0 : Ann := (.two .auto (.two .auto (.two (.two (.two .auto (.two (.reg [0, 1, 3, 7, 7, 23, 7, 7, 199, 455, 1015, 2047, 4095, 8191] (.take 0 (.take 1 (.take 2 (.take 3 (.take 4 (.take 5 (.take 6 (.take 7 (.take 8 (.take 9 (.take 10 (.alt 11 (.take 12 (.take 13 .done)) .noalt))))))))))))) .auto)) .auto) .auto)))
def forder_first_forder_place_cmp.keep0 : List Nat := [0, 1, 5, 8, 9, 10]
def forder_first_forder_place_cmp.outs0 : List (Nat × List Nat) := [(2, [5])]
set_option maxRecDepth 100000 in
theorem forder_first_forder_place_cmp.L0 : LoopOK forder_first_forder_place_cmp.ctx 32 forder_first_forder_place_cmp.c0 0 forder_first_forder_place_cmp.keep0 forder_first_forder_place_cmp.outs0 := by
  refine loop_ok (n := forder_first_forder_place_cmp.a0) forder_first_forder_place_cmp.ok (by kernel_rfl) (loops_ok (l := []) (by kernel_rfl) ?_) forder_first_forder_place_cmp.r0 ?_ ?_ (fun vs h K hh => hh)
  · exact trivial
  · intro K vs h hh
    unfold forder_first_forder_place_cmp.r0 at hh
    split at hh
    · exact hh
    · exact hh
  · intro K m vs h hh
    unfold forder_first_forder_place_cmp.r0 at hh
    split at hh
    · exact cast (by kernel_rfl) hh
    · exact hh.elim
set_option maxRecDepth 100000 in
theorem forder_first_forder_place_cmp.eq (a1 : Option Addr) (a1l : Nat) (a1c : Nat) (h : Heap) (K : Int → Heap → Prop) : evF forder_first_forder_place_cmp.ctx Try.f31 forder_first_forder_place_cmp.ann [(.slice a1 a1l a1c), (.func (.func 24) #[] #[])] h (forder_first_forder_place_cmp.ret K) = forder_first_forder_place_cmp a1 a1l a1c h K := by kernel_rfl
set_option maxRecDepth 100000 in
theorem forder_first_forder_place_cmp.calls {a1 : Option Addr} {a1l : Nat} {a1c : Nat} {h : Heap} {K : Int → Heap → Prop} (hh : forder_first_forder_place_cmp a1 a1l a1c h K) (w : World) (hw : w.heap = h) :
    (callFunc 31 #[(.slice a1 a1l a1c), (.func (.func 24) #[] #[])]).run Try.prog w = .ok (.enter 31 #[(.slice a1 a1l a1c), (.func (.func 24) #[] #[])]) w ∧ Calls Try.prog 31 #[(.slice a1 a1l a1c), (.func (.func 24) #[] #[])] w fun e w' => ∃ v, e = .returned v ∧ Out w w' ∧ forder_first_forder_place_cmp.ret K v w'.heap := by
  rw [← forder_first_forder_place_cmp.eq] at hh
  exact fn_calls (args := [(.slice a1 a1l a1c), (.func (.func 24) #[] #[])]) (c := forder_first_forder_place_cmp.code) forder_first_forder_place_cmp.ok Try.func31 (by kernel_rfl) (by kernel_rfl) (by kernel_rfl) (by kernel_rfl) (loops_ok (l := [(forder_first_forder_place_cmp.c0, none, 0, forder_first_forder_place_cmp.keep0, forder_first_forder_place_cmp.outs0)]) (by kernel_rfl) ⟨forder_first_forder_place_cmp.L0, trivial⟩) hh w hw

/-! ### strait/forder.Least: function 16 -/
def forder_Least (a1 : Option Addr) (a1l : Nat) (a1c : Nat) (h : Heap) (K : Int → Heap → Prop) : Prop :=
  (callP1 (forder_first_forder_place_cmp a1 a1l a1c h) fun x2 h3 => K x2 h3)
def forder_Least.ret (K : Int → Heap → Prop) (v : Value) (h : Heap) : Prop := match v with
  | (.int .i64 r4) => K r4 h
  | _ => False
theorem forder_Least.ret_elim {K : Int → Heap → Prop} {K' : Value → Heap → Prop} {v : Value} {h : Heap} (hk : ∀ r4 h, K r4 h → K' (.int .i64 r4) h) (hh : forder_Least.ret K v h) : K' v h := by
  unfold forder_Least.ret at hh
  split at hh
  · exact hk _ _ hh
  · exact hh.elim
def forder_Least.call (f : FuncId) (vs : List Value) (h : Heap) (K : Value → Heap → Prop) : Prop := match f, vs with
  | 31, [(.slice a1 a1l a1c), (.func (.func 24) ⟨[]⟩ ⟨[]⟩)] => callP1 (forder_first_forder_place_cmp a1 a1l a1c h) fun r5 h' => K (.int .i64 r5) h'
  | _, _ => False
noncomputable def forder_Least.ctx : Ctx := { P := Try.prog, call := forder_Least.call, qcall := fun _ _ _ _ => False, quiet := fun f => false, loop := fun _ _ _ _ => False }
theorem forder_Least.ok : forder_Least.ctx.OK where
  mixed := by kernel_rfl
  mono := by
    intro f args h K K' hh hk
    change forder_Least.call f args h K at hh
    change forder_Least.call f args h K'
    unfold forder_Least.call at hh ⊢
    split at hh
    · obtain ⟨R, h1, h2⟩ := hh
      exact ⟨R, h1, fun _ x hr => hk _ _ (h2 _ x hr)⟩
    · exact hh.elim
  call := by
    intro f args h K hh w hw
    change forder_Least.call f args h K at hh
    unfold forder_Least.call at hh
    split at hh
    · obtain ⟨R, h1, h2⟩ := hh
      obtain ⟨g1, g2⟩ := forder_first_forder_place_cmp.calls h1 w hw
      exact ⟨g1, g2.mono fun e w' ⟨v, he, ho, hr⟩ => ⟨v, he, ho, forder_first_forder_place_cmp.ret_elim h2 hr⟩⟩
    · exact hh.elim
  qmono := fun hh _ => hh.elim
  qval := fun hh => hh.elim
  qcall := fun hh => hh.elim
noncomputable def forder_Least.code : Code := (Try.f16.body).getD .skip
def forder_Least.ann : Ann := .auto
set_option maxRecDepth 100000 in
theorem forder_Least.eq (a1 : Option Addr) (a1l : Nat) (a1c : Nat) (h : Heap) (K : Int → Heap → Prop) : evF forder_Least.ctx Try.f16 forder_Least.ann [(.slice a1 a1l a1c)] h (forder_Least.ret K) = forder_Least a1 a1l a1c h K := by kernel_rfl
set_option maxRecDepth 100000 in
theorem forder_Least.calls {a1 : Option Addr} {a1l : Nat} {a1c : Nat} {h : Heap} {K : Int → Heap → Prop} (hh : forder_Least a1 a1l a1c h K) (w : World) (hw : w.heap = h) :
    (callFunc 16 #[(.slice a1 a1l a1c)]).run Try.prog w = .ok (.enter 16 #[(.slice a1 a1l a1c)]) w ∧ Calls Try.prog 16 #[(.slice a1 a1l a1c)] w fun e w' => ∃ v, e = .returned v ∧ Out w w' ∧ forder_Least.ret K v w'.heap := by
  rw [← forder_Least.eq] at hh
  exact fn_calls (args := [(.slice a1 a1l a1c)]) (c := forder_Least.code) forder_Least.ok Try.func16 (by kernel_rfl) (by kernel_rfl) (by kernel_rfl) (by kernel_rfl) (loops_ok (l := []) (by kernel_rfl) trivial) hh w hw

/-! ### (strait/forder.place).back: function 32 -/
def forder_place_back (a1 : Int) (a2 : Int) (h : Heap) (K : Int → Heap → Prop) : Prop :=
  (qcallP1 h (forder_place_cmp a1 a2 h) fun x3 => (K (IntKind.i64.wrap (0 - x3)) h))
def forder_place_back.ret (K : Int → Heap → Prop) (v : Value) (h : Heap) : Prop := match v with
  | (.int .i64 r4) => K r4 h
  | _ => False
theorem forder_place_back.ret_elim {K : Int → Heap → Prop} {K' : Value → Heap → Prop} {v : Value} {h : Heap} (hk : ∀ r4 h, K r4 h → K' (.int .i64 r4) h) (hh : forder_place_back.ret K v h) : K' v h := by
  unfold forder_place_back.ret at hh
  split at hh
  · exact hk _ _ hh
  · exact hh.elim
def forder_place_back.qcall (f : FuncId) (vs : List Value) (h : Heap) (K : Value → Prop) : Prop := match f, vs with
  | 24, [(.int .i64 a1), (.int .i64 a2)] => qcallP1 h (forder_place_cmp a1 a2 h) fun r4 => K (.int .i64 r4)
  | _, _ => False
noncomputable def forder_place_back.ctx : Ctx := { P := Try.prog, call := fun _ _ _ _ => False, qcall := forder_place_back.qcall, quiet := fun f => Nat.beq f 24, loop := fun _ _ _ _ => False }
theorem forder_place_back.ok : forder_place_back.ctx.OK where
  mixed := by kernel_rfl
  mono := fun hh _ => hh.elim
  call := fun hh => hh.elim
  qmono := by
    intro f args h K K' hh hk
    change forder_place_back.qcall f args h K at hh
    change forder_place_back.qcall f args h K'
    unfold forder_place_back.qcall at hh ⊢
    split at hh
    · obtain ⟨x0, h1, h2⟩ := hh
      exact ⟨x0, h1, hk _ h2⟩
    · exact hh.elim
  qval := by
    intro f args h K hh
    change forder_place_back.qcall f args h K at hh
    suffices H : ∃ v, K v ∧ forder_place_back.qcall f args h (· = v) from H
    unfold forder_place_back.qcall at hh ⊢
    split at hh
    · obtain ⟨x0, h1, h2⟩ := hh
      exact ⟨_, h2, x0, h1, rfl⟩
    · exact hh.elim
  qcall := by
    intro f args h v hh w hw
    change forder_place_back.qcall f args h (· = v) at hh
    unfold forder_place_back.qcall at hh
    split at hh
    · obtain ⟨x0, h1, h2⟩ := hh
      obtain ⟨g1, g2⟩ := forder_place_cmp.calls h1 w hw
      refine .inl ⟨g1, g2.mono fun e w' ⟨u, he, ho, hr⟩ => ?_⟩
      have hq := forder_place_cmp.ret_elim (K' := fun u h' => u = v ∧ h' = h) (fun _ h' hr => by obtain ⟨rfl, rfl⟩ := hr; exact ⟨h2, rfl⟩) hr
      exact ⟨hq.1 ▸ he, ho, hq.2⟩
    · exact hh.elim
noncomputable def forder_place_back.code : Code := (Try.f32.body).getD .skip
def forder_place_back.ann : Ann := .auto
set_option maxRecDepth 100000 in
theorem forder_place_back.eq (a1 : Int) (a2 : Int) (h : Heap) (K : Int → Heap → Prop) : evF forder_place_back.ctx Try.f32 forder_place_back.ann [(.int .i64 a1), (.int .i64 a2)] h (forder_place_back.ret K) = forder_place_back a1 a2 h K := by kernel_rfl
set_option maxRecDepth 100000 in
theorem forder_place_back.calls {a1 : Int} {a2 : Int} {h : Heap} {K : Int → Heap → Prop} (hh : forder_place_back a1 a2 h K) (w : World) (hw : w.heap = h) :
    (callFunc 32 #[(.int .i64 a1), (.int .i64 a2)]).run Try.prog w = .ok (.enter 32 #[(.int .i64 a1), (.int .i64 a2)]) w ∧ Calls Try.prog 32 #[(.int .i64 a1), (.int .i64 a2)] w fun e w' => ∃ v, e = .returned v ∧ Out w w' ∧ forder_place_back.ret K v w'.heap := by
  rw [← forder_place_back.eq] at hh
  exact fn_calls (args := [(.int .i64 a1), (.int .i64 a2)]) (c := forder_place_back.code) forder_place_back.ok Try.func32 (by kernel_rfl) (by kernel_rfl) (by kernel_rfl) (by kernel_rfl) (loops_ok (l := []) (by kernel_rfl) trivial) hh w hw

/-! ### strait/forder.first: function 31 -/
def forder_first_forder_place_back.b0 (K2 : Int → Heap → Prop) (cont : (Option Addr) → Nat → Nat → Int → (Option Addr) → Nat → Nat → Int → Int → Heap → Prop) (c0_1001 : Option Addr) (c0_1002 : Nat) (c0_1003 : Nat) (v5_1004 : Int) (c8_1005 : Option Addr) (c8_1006 : Nat) (c8_1007 : Nat) (c9_1008 : Int) (v10_1009 : Int) (h1010 : Heap) : Prop :=
  (iteB (decide (v10_1009 < c9_1008)) ((let j1023 := (fun (y1021 : Int) (h1022 : Heap) => cont c0_1001 c0_1002 c0_1003 y1021 c8_1005 c8_1006 c8_1007 c9_1008 (IntKind.i64.wrap (v10_1009 + 1)) h1022);
  chkP c8_1005 fun a1011 => (0 ≤ v10_1009 ∧ v10_1009 < (c8_1006 : Int)) ∧ ∃ (x1012 : Nat), cell h1010 (a1011.add (v10_1009.toNat * 1)) = some (.float .f64 x1012) ∧ (iteB (decide (v5_1004 < (0 : Int))) ((((j1023 v10_1009 h1010)))) (qcallP1 h1010 (forder_at x1012 h1010) fun x1013 => chkP c0_1001 fun a1014 => (0 ≤ v5_1004 ∧ v5_1004 < (c0_1002 : Int)) ∧ ∃ (x1015 : Nat), cell h1010 (a1014.add (v5_1004.toNat * 1)) = some (.float .f64 x1015) ∧ qcallP1 h1010 (forder_at x1015 h1010) fun x1016 => callP1 (forder_place_back x1013 x1016 h1010) fun x1017 h1018 => (iteB (decide (x1017 < (0 : Int))) (((j1023 v10_1009 h1018))) (((j1023 v5_1004 h1018)))))))) (K2 v5_1004 h1010))
def forder_first_forder_place_back.l0 (K2 : Int → Heap → Prop) : Nat → (Option Addr) → Nat → Nat → Int → (Option Addr) → Nat → Nat → Int → Int → Heap → Prop
  | 0, _, _, _, _, _, _, _, _, _, _ => False
  | m + 1, c0_1001, c0_1002, c0_1003, v5_1004, c8_1005, c8_1006, c8_1007, c9_1008, v10_1009, h => forder_first_forder_place_back.b0 K2 (forder_first_forder_place_back.l0 K2 m) c0_1001 c0_1002 c0_1003 v5_1004 c8_1005 c8_1006 c8_1007 c9_1008 v10_1009 h
def forder_first_forder_place_back (a1 : Option Addr) (a1l : Nat) (a1c : Nat) (h : Heap) (K : Int → Heap → Prop) : Prop :=
  (((∃ m4, forder_first_forder_place_back.l0 (fun z2 h3 => (K z2 h3)) m4 a1 a1l a1c (-1) a1 a1l a1c (a1l : Int) 0 h)))
def forder_first_forder_place_back.ret (K : Int → Heap → Prop) (v : Value) (h : Heap) : Prop := match v with
  | (.int .i64 r5) => K r5 h
  | _ => False
theorem forder_first_forder_place_back.ret_elim {K : Int → Heap → Prop} {K' : Value → Heap → Prop} {v : Value} {h : Heap} (hk : ∀ r5 h, K r5 h → K' (.int .i64 r5) h) (hh : forder_first_forder_place_back.ret K v h) : K' v h := by
  unfold forder_first_forder_place_back.ret at hh
  split at hh
  · exact hk _ _ hh
  · exact hh.elim
def forder_first_forder_place_back.call (f : FuncId) (vs : List Value) (h : Heap) (K : Value → Heap → Prop) : Prop := match f, vs with
  | 32, [(.int .i64 a1), (.int .i64 a2)] => callP1 (forder_place_back a1 a2 h) fun r4 h' => K (.int .i64 r4) h'
  | _, _ => False
def forder_first_forder_place_back.qcall (f : FuncId) (vs : List Value) (h : Heap) (K : Value → Prop) : Prop := match f, vs with
  | 23, [(.float .f64 a1)] => qcallP1 h (forder_at a1 h) fun r5 => K (.int .i64 r5)
  | _, _ => False
def forder_first_forder_place_back.r0 (K : Nat → List Value → Heap → Prop) (m : Nat) (vs : List Value) (h : Heap) : Prop := match vs with
  | [(.slice c0_1001 c0_1002 c0_1003), (.func (.func 32) ⟨[]⟩ ⟨[]⟩), (.int .i64 v5_1004), (.slice c8_1005 c8_1006 c8_1007), (.int .i64 c9_1008), (.int .i64 v10_1009)] => forder_first_forder_place_back.l0 (fun z6 h' => K 2 [(.int .i64 z6)] h') m c0_1001 c0_1002 c0_1003 v5_1004 c8_1005 c8_1006 c8_1007 c9_1008 v10_1009 h
  | _ => False
def forder_first_forder_place_back.loop (i : Nat) (vs : List Value) (h : Heap) (K : Nat → List Value → Heap → Prop) : Prop := match i with
  | 0 => ∃ m, forder_first_forder_place_back.r0 K m vs h
  | _ => False
noncomputable def forder_first_forder_place_back.ctx : Ctx := { P := Try.prog, call := forder_first_forder_place_back.call, qcall := forder_first_forder_place_back.qcall, quiet := fun f => Nat.beq f 23, loop := forder_first_forder_place_back.loop }
theorem forder_first_forder_place_back.ok : forder_first_forder_place_back.ctx.OK where
  mixed := by kernel_rfl
  mono := by
    intro f args h K K' hh hk
    change forder_first_forder_place_back.call f args h K at hh
    change forder_first_forder_place_back.call f args h K'
    unfold forder_first_forder_place_back.call at hh ⊢
    split at hh
    · obtain ⟨R, h1, h2⟩ := hh
      exact ⟨R, h1, fun _ x hr => hk _ _ (h2 _ x hr)⟩
    · exact hh.elim
  call := by
    intro f args h K hh w hw
    change forder_first_forder_place_back.call f args h K at hh
    unfold forder_first_forder_place_back.call at hh
    split at hh
    · obtain ⟨R, h1, h2⟩ := hh
      obtain ⟨g1, g2⟩ := forder_place_back.calls h1 w hw
      exact ⟨g1, g2.mono fun e w' ⟨v, he, ho, hr⟩ => ⟨v, he, ho, forder_place_back.ret_elim h2 hr⟩⟩
    · exact hh.elim
  qmono := by
    intro f args h K K' hh hk
    change forder_first_forder_place_back.qcall f args h K at hh
    change forder_first_forder_place_back.qcall f args h K'
    unfold forder_first_forder_place_back.qcall at hh ⊢
    split at hh
    · obtain ⟨x0, h1, h2⟩ := hh
      exact ⟨x0, h1, hk _ h2⟩
    · exact hh.elim
  qval := by
    intro f args h K hh
    change forder_first_forder_place_back.qcall f args h K at hh
    suffices H : ∃ v, K v ∧ forder_first_forder_place_back.qcall f args h (· = v) from H
    unfold forder_first_forder_place_back.qcall at hh ⊢
    split at hh
    · obtain ⟨x0, h1, h2⟩ := hh
      exact ⟨_, h2, x0, h1, rfl⟩
    · exact hh.elim
  qcall := by
    intro f args h v hh w hw
    change forder_first_forder_place_back.qcall f args h (· = v) at hh
    unfold forder_first_forder_place_back.qcall at hh
    split at hh
    · obtain ⟨x0, h1, h2⟩ := hh
      obtain ⟨g1, g2⟩ := forder_at.calls h1 w hw
      refine .inl ⟨g1, g2.mono fun e w' ⟨u, he, ho, hr⟩ => ?_⟩
      have hq := forder_at.ret_elim (K' := fun u h' => u = v ∧ h' = h) (fun _ h' hr => by obtain ⟨rfl, rfl⟩ := hr; exact ⟨h2, rfl⟩) hr
      exact ⟨hq.1 ▸ he, ho, hq.2⟩
    · exact hh.elim
noncomputable def forder_first_forder_place_back.code : Code := (Try.f31.body).getD .skip
def forder_first_forder_place_back.ann : Ann := (.two .auto (.two .auto (.two (.two .auto (.two (.loop 0 [0, 1, 5, 8, 9, 10] [(2, [5])] (.two .auto (.two .auto (.two (.two (.two .auto (.two (.reg [0, 1, 3, 7, 7, 23, 7, 7, 199, 455, 1015, 2047, 4095, 8191] (.take 0 (.take 1 (.take 2 (.take 3 (.take 4 (.take 5 (.take 6 (.take 7 (.take 8 (.take 9 (.take 10 (.alt 11 (.take 12 (.take 13 .done)) .noalt))))))))))))) .auto)) .auto) .auto)))) .auto)) .auto)))
noncomputable def forder_first_forder_place_back.c0 : Code := sub forder_first_forder_place_back.code [1, 1, 0, 1, 0, 0]
def forder_first_forder_place_back.a0 : Ann := (.two .auto (.two .auto (.two (.two (.two .auto (.two (.reg [0, 1, 3, 7, 7, 23, 7, 7, 199, 455, 1015, 2047, 4095, 8191] (.take 0 (.take 1 (.take 2 (.take 3 (.take 4 (.take 5 (.take 6 (.take 7 (.take 8 (.take 9 (.take 10 (.alt 11 (.take 12 (.take 13 .done)) .noalt))))))))))))) .auto)) .auto) .auto)))
def forder_first_forder_place_back.keep0 : List Nat := [0, 1, 5, 8, 9, 10]
def forder_first_forder_place_back.outs0 : List (Nat × List Nat) := [(2, [5])]
set_option maxRecDepth 100000 in
theorem forder_first_forder_place_back.L0 : LoopOK forder_first_forder_place_back.ctx 32 forder_first_forder_place_back.c0 0 forder_first_forder_place_back.keep0 forder_first_forder_place_back.outs0 := by
  refine loop_ok (n := forder_first_forder_place_back.a0) forder_first_forder_place_back.ok (by kernel_rfl) (loops_ok (l := []) (by kernel_rfl) ?_) forder_first_forder_place_back.r0 ?_ ?_ (fun vs h K hh => hh)
  · exact trivial
  · intro K vs h hh
    unfold forder_first_forder_place_back.r0 at hh
    split at hh
    · exact hh
    · exact hh
  · intro K m vs h hh
    unfold forder_first_forder_place_back.r0 at hh
    split at hh
    · exact cast (by kernel_rfl) hh
    · exact hh.elim
set_option maxRecDepth 100000 in
theorem forder_first_forder_place_back.eq (a1 : Option Addr) (a1l : Nat) (a1c : Nat) (h : Heap) (K : Int → Heap → Prop) : evF forder_first_forder_place_back.ctx Try.f31 forder_first_forder_place_back.ann [(.slice a1 a1l a1c), (.func (.func 32) #[] #[])] h (forder_first_forder_place_back.ret K) = forder_first_forder_place_back a1 a1l a1c h K := by kernel_rfl
set_option maxRecDepth 100000 in
theorem forder_first_forder_place_back.calls {a1 : Option Addr} {a1l : Nat} {a1c : Nat} {h : Heap} {K : Int → Heap → Prop} (hh : forder_first_forder_place_back a1 a1l a1c h K) (w : World) (hw : w.heap = h) :
    (callFunc 31 #[(.slice a1 a1l a1c), (.func (.func 32) #[] #[])]).run Try.prog w = .ok (.enter 31 #[(.slice a1 a1l a1c), (.func (.func 32) #[] #[])]) w ∧ Calls Try.prog 31 #[(.slice a1 a1l a1c), (.func (.func 32) #[] #[])] w fun e w' => ∃ v, e = .returned v ∧ Out w w' ∧ forder_first_forder_place_back.ret K v w'.heap := by
  rw [← forder_first_forder_place_back.eq] at hh
  exact fn_calls (args := [(.slice a1 a1l a1c), (.func (.func 32) #[] #[])]) (c := forder_first_forder_place_back.code) forder_first_forder_place_back.ok Try.func31 (by kernel_rfl) (by kernel_rfl) (by kernel_rfl) (by kernel_rfl) (loops_ok (l := [(forder_first_forder_place_back.c0, none, 0, forder_first_forder_place_back.keep0, forder_first_forder_place_back.outs0)]) (by kernel_rfl) ⟨forder_first_forder_place_back.L0, trivial⟩) hh w hw

/-! ### strait/forder.Most: function 18 -/
def forder_Most (a1 : Option Addr) (a1l : Nat) (a1c : Nat) (h : Heap) (K : Int → Heap → Prop) : Prop :=
  (callP1 (forder_first_forder_place_back a1 a1l a1c h) fun x2 h3 => K x2 h3)
def forder_Most.ret (K : Int → Heap → Prop) (v : Value) (h : Heap) : Prop := match v with
  | (.int .i64 r4) => K r4 h
  | _ => False
theorem forder_Most.ret_elim {K : Int → Heap → Prop} {K' : Value → Heap → Prop} {v : Value} {h : Heap} (hk : ∀ r4 h, K r4 h → K' (.int .i64 r4) h) (hh : forder_Most.ret K v h) : K' v h := by
  unfold forder_Most.ret at hh
  split at hh
  · exact hk _ _ hh
  · exact hh.elim
def forder_Most.call (f : FuncId) (vs : List Value) (h : Heap) (K : Value → Heap → Prop) : Prop := match f, vs with
  | 31, [(.slice a1 a1l a1c), (.func (.func 32) ⟨[]⟩ ⟨[]⟩)] => callP1 (forder_first_forder_place_back a1 a1l a1c h) fun r5 h' => K (.int .i64 r5) h'
  | _, _ => False
noncomputable def forder_Most.ctx : Ctx := { P := Try.prog, call := forder_Most.call, qcall := fun _ _ _ _ => False, quiet := fun f => false, loop := fun _ _ _ _ => False }
theorem forder_Most.ok : forder_Most.ctx.OK where
  mixed := by kernel_rfl
  mono := by
    intro f args h K K' hh hk
    change forder_Most.call f args h K at hh
    change forder_Most.call f args h K'
    unfold forder_Most.call at hh ⊢
    split at hh
    · obtain ⟨R, h1, h2⟩ := hh
      exact ⟨R, h1, fun _ x hr => hk _ _ (h2 _ x hr)⟩
    · exact hh.elim
  call := by
    intro f args h K hh w hw
    change forder_Most.call f args h K at hh
    unfold forder_Most.call at hh
    split at hh
    · obtain ⟨R, h1, h2⟩ := hh
      obtain ⟨g1, g2⟩ := forder_first_forder_place_back.calls h1 w hw
      exact ⟨g1, g2.mono fun e w' ⟨v, he, ho, hr⟩ => ⟨v, he, ho, forder_first_forder_place_back.ret_elim h2 hr⟩⟩
    · exact hh.elim
  qmono := fun hh _ => hh.elim
  qval := fun hh => hh.elim
  qcall := fun hh => hh.elim
noncomputable def forder_Most.code : Code := (Try.f18.body).getD .skip
def forder_Most.ann : Ann := .auto
set_option maxRecDepth 100000 in
theorem forder_Most.eq (a1 : Option Addr) (a1l : Nat) (a1c : Nat) (h : Heap) (K : Int → Heap → Prop) : evF forder_Most.ctx Try.f18 forder_Most.ann [(.slice a1 a1l a1c)] h (forder_Most.ret K) = forder_Most a1 a1l a1c h K := by kernel_rfl
set_option maxRecDepth 100000 in
theorem forder_Most.calls {a1 : Option Addr} {a1l : Nat} {a1c : Nat} {h : Heap} {K : Int → Heap → Prop} (hh : forder_Most a1 a1l a1c h K) (w : World) (hw : w.heap = h) :
    (callFunc 18 #[(.slice a1 a1l a1c)]).run Try.prog w = .ok (.enter 18 #[(.slice a1 a1l a1c)]) w ∧ Calls Try.prog 18 #[(.slice a1 a1l a1c)] w fun e w' => ∃ v, e = .returned v ∧ Out w w' ∧ forder_Most.ret K v w'.heap := by
  rw [← forder_Most.eq] at hh
  exact fn_calls (args := [(.slice a1 a1l a1c)]) (c := forder_Most.code) forder_Most.ok Try.func18 (by kernel_rfl) (by kernel_rfl) (by kernel_rfl) (by kernel_rfl) (loops_ok (l := []) (by kernel_rfl) trivial) hh w hw

/-! ### slices.Clone[[]float64,float64]: function 26 -/
def slices_Clone_Lfloat64_float64 (a1 : Option Addr) (a1l : Nat) (a1c : Nat) (h : Heap) (K : (Option Addr) → Nat → Nat → Heap → Prop) : Prop :=
  ((iteB a1.isNone (K none 0 0 h) ((newP h (.cells #[] 23) fun a2 h3 => ∃ n8, cellsAt h3 a1 (a1l * 1) n8 ∧ appP 23 1 8 [(.float .f64 0)] (some a2) 0 0 a1l n8 h3 fun q4 l5 c6 h7 => K q4 l5 c6 h7))))
def slices_Clone_Lfloat64_float64.ret (K : (Option Addr) → Nat → Nat → Heap → Prop) (v : Value) (h : Heap) : Prop := match v with
  | (.slice r9 r9l r9c) => K r9 r9l r9c h
  | _ => False
theorem slices_Clone_Lfloat64_float64.ret_elim {K : (Option Addr) → Nat → Nat → Heap → Prop} {K' : Value → Heap → Prop} {v : Value} {h : Heap} (hk : ∀ r9 r9l r9c h, K r9 r9l r9c h → K' (.slice r9 r9l r9c) h) (hh : slices_Clone_Lfloat64_float64.ret K v h) : K' v h := by
  unfold slices_Clone_Lfloat64_float64.ret at hh
  split at hh
  · exact hk _ _ _ _ hh
  · exact hh.elim
noncomputable def slices_Clone_Lfloat64_float64.ctx : Ctx := { P := Try.prog, call := fun _ _ _ _ => False, qcall := fun _ _ _ _ => False, quiet := fun f => false, loop := fun _ _ _ _ => False }
theorem slices_Clone_Lfloat64_float64.ok : slices_Clone_Lfloat64_float64.ctx.OK where
  mixed := by kernel_rfl
  mono := fun hh _ => hh.elim
  call := fun hh => hh.elim
  qmono := fun hh _ => hh.elim
  qval := fun hh => hh.elim
  qcall := fun hh => hh.elim
noncomputable def slices_Clone_Lfloat64_float64.code : Code := (Try.f26.body).getD .skip
def slices_Clone_Lfloat64_float64.ann : Ann := .auto
set_option maxRecDepth 100000 in
theorem slices_Clone_Lfloat64_float64.eq (a1 : Option Addr) (a1l : Nat) (a1c : Nat) (h : Heap) (K : (Option Addr) → Nat → Nat → Heap → Prop) : evF slices_Clone_Lfloat64_float64.ctx Try.f26 slices_Clone_Lfloat64_float64.ann [(.slice a1 a1l a1c)] h (slices_Clone_Lfloat64_float64.ret K) = slices_Clone_Lfloat64_float64 a1 a1l a1c h K := by kernel_rfl
set_option maxRecDepth 100000 in
theorem slices_Clone_Lfloat64_float64.calls {a1 : Option Addr} {a1l : Nat} {a1c : Nat} {h : Heap} {K : (Option Addr) → Nat → Nat → Heap → Prop} (hh : slices_Clone_Lfloat64_float64 a1 a1l a1c h K) (w : World) (hw : w.heap = h) :
    (callFunc 26 #[(.slice a1 a1l a1c)]).run Try.prog w = .ok (.enter 26 #[(.slice a1 a1l a1c)]) w ∧ Calls Try.prog 26 #[(.slice a1 a1l a1c)] w fun e w' => ∃ v, e = .returned v ∧ Out w w' ∧ slices_Clone_Lfloat64_float64.ret K v w'.heap := by
  rw [← slices_Clone_Lfloat64_float64.eq] at hh
  exact fn_calls (args := [(.slice a1 a1l a1c)]) (c := slices_Clone_Lfloat64_float64.code) slices_Clone_Lfloat64_float64.ok Try.func26 (by kernel_rfl) (by kernel_rfl) (by kernel_rfl) (by kernel_rfl) (loops_ok (l := []) (by kernel_rfl) trivial) hh w hw

/-! ### math.NaN: function 27 -/
def math_NaN (h : Heap) (K : Nat → Heap → Prop) : Prop :=
  ((K ((9221120237041090561 : Int).toNat) h))
def math_NaN.ret (K : Nat → Heap → Prop) (v : Value) (h : Heap) : Prop := match v with
  | (.float .f64 r1) => K r1 h
  | _ => False
theorem math_NaN.ret_elim {K : Nat → Heap → Prop} {K' : Value → Heap → Prop} {v : Value} {h : Heap} (hk : ∀ r1 h, K r1 h → K' (.float .f64 r1) h) (hh : math_NaN.ret K v h) : K' v h := by
  unfold math_NaN.ret at hh
  split at hh
  · exact hk _ _ hh
  · exact hh.elim
def math_NaN.qcall (f : FuncId) (vs : List Value) (h : Heap) (K : Value → Prop) : Prop := match f, vs with
  | 22, [(.int .u64 a1)] => K (.float .f64 a1.toNat)
  | _, _ => False
noncomputable def math_NaN.ctx : Ctx := { P := Try.prog, call := fun _ _ _ _ => False, qcall := math_NaN.qcall, quiet := fun f => Nat.beq f 22, loop := fun _ _ _ _ => False }
theorem math_NaN.ok : math_NaN.ctx.OK where
  mixed := by kernel_rfl
  mono := fun hh _ => hh.elim
  call := fun hh => hh.elim
  qmono := by
    intro f args h K K' hh hk
    change math_NaN.qcall f args h K at hh
    change math_NaN.qcall f args h K'
    unfold math_NaN.qcall at hh ⊢
    split at hh
    · exact hk _ hh
    · exact hh.elim
  qval := by
    intro f args h K hh
    change math_NaN.qcall f args h K at hh
    suffices H : ∃ v, K v ∧ math_NaN.qcall f args h (· = v) from H
    unfold math_NaN.qcall at hh ⊢
    split at hh
    · exact ⟨_, hh, rfl⟩
    · exact hh.elim
  qcall := by
    intro f args h v hh w hw
    change math_NaN.qcall f args h (· = v) at hh
    unfold math_NaN.qcall at hh
    split at hh
    · subst hh; exact .inr (ext_run Try.func22 (by kernel_rfl) (by kernel_rfl) (by kernel_rfl) (e := Extern.MathFloatBits.float64frombits) (by kernel_rfl) (by rfl))
    · exact hh.elim
noncomputable def math_NaN.code : Code := (Try.f27.body).getD .skip
def math_NaN.ann : Ann := .auto
set_option maxRecDepth 100000 in
theorem math_NaN.eq (h : Heap) (K : Nat → Heap → Prop) : evF math_NaN.ctx Try.f27 math_NaN.ann [] h (math_NaN.ret K) = math_NaN h K := by kernel_rfl
set_option maxRecDepth 100000 in
theorem math_NaN.calls {h : Heap} {K : Nat → Heap → Prop} (hh : math_NaN h K) (w : World) (hw : w.heap = h) :
    (callFunc 27 #[]).run Try.prog w = .ok (.enter 27 #[]) w ∧ Calls Try.prog 27 #[] w fun e w' => ∃ v, e = .returned v ∧ Out w w' ∧ math_NaN.ret K v w'.heap := by
  rw [← math_NaN.eq] at hh
  exact fn_calls (args := []) (c := math_NaN.code) math_NaN.ok Try.func27 (by kernel_rfl) (by kernel_rfl) (by kernel_rfl) (by kernel_rfl) (loops_ok (l := []) (by kernel_rfl) trivial) hh w hw

/-! ### slices.SortFunc[[]float64,float64]: function 28, by its contract -/
def slices_SortFunc_Lfloat64_float64_forder_Cmp.ret (K : Heap → Prop) (v : Value) (h : Heap) : Prop := match v with
  | (.tuple ⟨[]⟩) => K h
  | _ => False
theorem slices_SortFunc_Lfloat64_float64_forder_Cmp.ret_elim {K : Heap → Prop} {K' : Value → Heap → Prop} {v : Value} {h : Heap} (hk : ∀  h, K h → K' (.tuple #[]) h) (hh : slices_SortFunc_Lfloat64_float64_forder_Cmp.ret K v h) : K' v h := by
  unfold slices_SortFunc_Lfloat64_float64_forder_Cmp.ret at hh
  split at hh
  · exact hk _ hh
  · exact hh.elim
def slices_SortFunc_Lfloat64_float64_forder_Cmp (a1 : Option Addr) (a1l : Nat) (a1c : Nat) (h : Heap) (K : Heap → Prop) : Prop := ∀ w : World, w.heap = h → (callFunc 28 #[(.slice a1 a1l a1c), (.func (.func 7) #[] #[])]).run Try.prog w = .ok (.enter 28 #[(.slice a1 a1l a1c), (.func (.func 7) #[] #[])]) w ∧ Calls Try.prog 28 #[(.slice a1 a1l a1c), (.func (.func 7) #[] #[])] w fun e w' => ∃ v, e = .returned v ∧ Out w w' ∧ slices_SortFunc_Lfloat64_float64_forder_Cmp.ret K v w'.heap
theorem slices_SortFunc_Lfloat64_float64_forder_Cmp.calls {a1 : Option Addr} {a1l : Nat} {a1c : Nat} {h : Heap} {K : Heap → Prop} (hh : slices_SortFunc_Lfloat64_float64_forder_Cmp a1 a1l a1c h K) (w : World) (hw : w.heap = h) : (callFunc 28 #[(.slice a1 a1l a1c), (.func (.func 7) #[] #[])]).run Try.prog w = .ok (.enter 28 #[(.slice a1 a1l a1c), (.func (.func 7) #[] #[])]) w ∧ Calls Try.prog 28 #[(.slice a1 a1l a1c), (.func (.func 7) #[] #[])] w fun e w' => ∃ v, e = .returned v ∧ Out w w' ∧ slices_SortFunc_Lfloat64_float64_forder_Cmp.ret K v w'.heap := hh w hw

/-! ### strait/forder.Sort: function 12 -/
def forder_Sort.b0 (K2 : Heap → Prop) (cont : (Option Addr) → Nat → Nat → (Option Addr) → Nat → Nat → Int → Int → Heap → Prop) (c3_1001 : Option Addr) (c3_1002 : Nat) (c3_1003 : Nat) (c8_1004 : Option Addr) (c8_1005 : Nat) (c8_1006 : Nat) (c9_1007 : Int) (v10_1008 : Int) (h1009 : Heap) : Prop :=
  (iteB (decide (v10_1008 < c9_1007)) ((chkP c8_1004 fun a1010 => (0 ≤ v10_1008 ∧ v10_1008 < (c8_1005 : Int)) ∧ ∃ (x1011 : Nat), cell h1009 (a1010.add (v10_1008.toNat * 1)) = some (.float .f64 x1011) ∧ ((iteB (FloatKind.f64.format.order x1011 x1011 != some .eq) (qcallP1 h1009 (math_NaN h1009) fun x1012 => chkP c3_1001 fun a1013 => (0 ≤ v10_1008 ∧ v10_1008 < (c3_1002 : Int)) ∧ stC h1009 (a1013.add (v10_1008.toNat * 1)) (.float .f64 x1012) fun h1014 => ((cont c3_1001 c3_1002 c3_1003 c8_1004 c8_1005 c8_1006 c9_1007 (IntKind.i64.wrap (v10_1008 + 1)) h1014))) (((cont c3_1001 c3_1002 c3_1003 c8_1004 c8_1005 c8_1006 c9_1007 (IntKind.i64.wrap (v10_1008 + 1)) h1009))))))) (K2 h1009))
def forder_Sort.l0 (K2 : Heap → Prop) : Nat → (Option Addr) → Nat → Nat → (Option Addr) → Nat → Nat → Int → Int → Heap → Prop
  | 0, _, _, _, _, _, _, _, _, _ => False
  | m + 1, c3_1001, c3_1002, c3_1003, c8_1004, c8_1005, c8_1006, c9_1007, v10_1008, h => forder_Sort.b0 K2 (forder_Sort.l0 K2 m) c3_1001 c3_1002 c3_1003 c8_1004 c8_1005 c8_1006 c9_1007 v10_1008 h
def forder_Sort (a1 : Option Addr) (a1l : Nat) (a1c : Nat) (h : Heap) (K : (Option Addr) → Nat → Nat → Heap → Prop) : Prop :=
  (callP3 (slices_Clone_Lfloat64_float64 a1 a1l a1c h) fun x2 x2l x2c h3 => ((∃ m5, forder_Sort.l0 (fun h4 => ((callP0 (slices_SortFunc_Lfloat64_float64_forder_Cmp x2 x2l x2c h4) fun h6 => K x2 x2l x2c h6))) m5 x2 x2l x2c x2 x2l x2c (x2l : Int) 0 h3)))
def forder_Sort.ret (K : (Option Addr) → Nat → Nat → Heap → Prop) (v : Value) (h : Heap) : Prop := match v with
  | (.slice r7 r7l r7c) => K r7 r7l r7c h
  | _ => False
theorem forder_Sort.ret_elim {K : (Option Addr) → Nat → Nat → Heap → Prop} {K' : Value → Heap → Prop} {v : Value} {h : Heap} (hk : ∀ r7 r7l r7c h, K r7 r7l r7c h → K' (.slice r7 r7l r7c) h) (hh : forder_Sort.ret K v h) : K' v h := by
  unfold forder_Sort.ret at hh
  split at hh
  · exact hk _ _ _ _ hh
  · exact hh.elim
def forder_Sort.call (f : FuncId) (vs : List Value) (h : Heap) (K : Value → Heap → Prop) : Prop := match f, vs with
  | 26, [(.slice a1 a1l a1c)] => callP3 (slices_Clone_Lfloat64_float64 a1 a1l a1c h) fun r9 r9l r9c h' => K (.slice r9 r9l r9c) h'
  | 28, [(.slice a1 a1l a1c), (.func (.func 7) ⟨[]⟩ ⟨[]⟩)] => callP0 (slices_SortFunc_Lfloat64_float64_forder_Cmp a1 a1l a1c h) fun h' => K (.tuple #[]) h'
  | _, _ => False
def forder_Sort.qcall (f : FuncId) (vs : List Value) (h : Heap) (K : Value → Prop) : Prop := match f, vs with
  | 27, [] => qcallP1 h (math_NaN h) fun r1 => K (.float .f64 r1)
  | _, _ => False
def forder_Sort.r0 (K : Nat → List Value → Heap → Prop) (m : Nat) (vs : List Value) (h : Heap) : Prop := match vs with
  | [(.slice c3_1001 c3_1002 c3_1003), (.slice c8_1004 c8_1005 c8_1006), (.int .i64 c9_1007), (.int .i64 v10_1008)] => forder_Sort.l0 (fun h' => K 2 [(.slice c3_1001 c3_1002 c3_1003)] h') m c3_1001 c3_1002 c3_1003 c8_1004 c8_1005 c8_1006 c9_1007 v10_1008 h
  | _ => False
def forder_Sort.loop (i : Nat) (vs : List Value) (h : Heap) (K : Nat → List Value → Heap → Prop) : Prop := match i with
  | 0 => ∃ m, forder_Sort.r0 K m vs h
  | _ => False
noncomputable def forder_Sort.ctx : Ctx := { P := Try.prog, call := forder_Sort.call, qcall := forder_Sort.qcall, quiet := fun f => Nat.beq f 27, loop := forder_Sort.loop }
theorem forder_Sort.ok : forder_Sort.ctx.OK where
  mixed := by kernel_rfl
  mono := by
    intro f args h K K' hh hk
    change forder_Sort.call f args h K at hh
    change forder_Sort.call f args h K'
    unfold forder_Sort.call at hh ⊢
    split at hh
    · obtain ⟨R, h1, h2⟩ := hh
      exact ⟨R, h1, fun _ _ _ x hr => hk _ _ (h2 _ _ _ x hr)⟩
    · obtain ⟨R, h1, h2⟩ := hh
      exact ⟨R, h1, fun x hr => hk _ _ (h2 x hr)⟩
    · exact hh.elim
  call := by
    intro f args h K hh w hw
    change forder_Sort.call f args h K at hh
    unfold forder_Sort.call at hh
    split at hh
    · obtain ⟨R, h1, h2⟩ := hh
      obtain ⟨g1, g2⟩ := slices_Clone_Lfloat64_float64.calls h1 w hw
      exact ⟨g1, g2.mono fun e w' ⟨v, he, ho, hr⟩ => ⟨v, he, ho, slices_Clone_Lfloat64_float64.ret_elim h2 hr⟩⟩
    · obtain ⟨R, h1, h2⟩ := hh
      obtain ⟨g1, g2⟩ := slices_SortFunc_Lfloat64_float64_forder_Cmp.calls h1 w hw
      exact ⟨g1, g2.mono fun e w' ⟨v, he, ho, hr⟩ => ⟨v, he, ho, slices_SortFunc_Lfloat64_float64_forder_Cmp.ret_elim h2 hr⟩⟩
    · exact hh.elim
  qmono := by
    intro f args h K K' hh hk
    change forder_Sort.qcall f args h K at hh
    change forder_Sort.qcall f args h K'
    unfold forder_Sort.qcall at hh ⊢
    split at hh
    · obtain ⟨x0, h1, h2⟩ := hh
      exact ⟨x0, h1, hk _ h2⟩
    · exact hh.elim
  qval := by
    intro f args h K hh
    change forder_Sort.qcall f args h K at hh
    suffices H : ∃ v, K v ∧ forder_Sort.qcall f args h (· = v) from H
    unfold forder_Sort.qcall at hh ⊢
    split at hh
    · obtain ⟨x0, h1, h2⟩ := hh
      exact ⟨_, h2, x0, h1, rfl⟩
    · exact hh.elim
  qcall := by
    intro f args h v hh w hw
    change forder_Sort.qcall f args h (· = v) at hh
    unfold forder_Sort.qcall at hh
    split at hh
    · obtain ⟨x0, h1, h2⟩ := hh
      obtain ⟨g1, g2⟩ := math_NaN.calls h1 w hw
      refine .inl ⟨g1, g2.mono fun e w' ⟨u, he, ho, hr⟩ => ?_⟩
      have hq := math_NaN.ret_elim (K' := fun u h' => u = v ∧ h' = h) (fun _ h' hr => by obtain ⟨rfl, rfl⟩ := hr; exact ⟨h2, rfl⟩) hr
      exact ⟨hq.1 ▸ he, ho, hq.2⟩
    · exact hh.elim
noncomputable def forder_Sort.code : Code := (Try.f12.body).getD .skip
def forder_Sort.ann : Ann := (.two .auto (.two .auto (.two (.two .auto (.two (.loop 0 [3, 8, 9, 10] [(2, [3])] .auto) .auto)) .auto)))
noncomputable def forder_Sort.c0 : Code := sub forder_Sort.code [1, 1, 0, 1, 0, 0]
def forder_Sort.a0 : Ann := .auto
def forder_Sort.keep0 : List Nat := [3, 8, 9, 10]
def forder_Sort.outs0 : List (Nat × List Nat) := [(2, [3])]
set_option maxRecDepth 100000 in
theorem forder_Sort.L0 : LoopOK forder_Sort.ctx 26 forder_Sort.c0 0 forder_Sort.keep0 forder_Sort.outs0 := by
  refine loop_ok (n := forder_Sort.a0) forder_Sort.ok (by kernel_rfl) (loops_ok (l := []) (by kernel_rfl) ?_) forder_Sort.r0 ?_ ?_ (fun vs h K hh => hh)
  · exact trivial
  · intro K vs h hh
    unfold forder_Sort.r0 at hh
    split at hh
    · exact hh
    · exact hh
  · intro K m vs h hh
    unfold forder_Sort.r0 at hh
    split at hh
    · exact cast (by kernel_rfl) hh
    · exact hh.elim
set_option maxRecDepth 100000 in
theorem forder_Sort.eq (a1 : Option Addr) (a1l : Nat) (a1c : Nat) (h : Heap) (K : (Option Addr) → Nat → Nat → Heap → Prop) : evF forder_Sort.ctx Try.f12 forder_Sort.ann [(.slice a1 a1l a1c)] h (forder_Sort.ret K) = forder_Sort a1 a1l a1c h K := by kernel_rfl
set_option maxRecDepth 100000 in
theorem forder_Sort.calls {a1 : Option Addr} {a1l : Nat} {a1c : Nat} {h : Heap} {K : (Option Addr) → Nat → Nat → Heap → Prop} (hh : forder_Sort a1 a1l a1c h K) (w : World) (hw : w.heap = h) :
    (callFunc 12 #[(.slice a1 a1l a1c)]).run Try.prog w = .ok (.enter 12 #[(.slice a1 a1l a1c)]) w ∧ Calls Try.prog 12 #[(.slice a1 a1l a1c)] w fun e w' => ∃ v, e = .returned v ∧ Out w w' ∧ forder_Sort.ret K v w'.heap := by
  rw [← forder_Sort.eq] at hh
  exact fn_calls (args := [(.slice a1 a1l a1c)]) (c := forder_Sort.code) forder_Sort.ok Try.func12 (by kernel_rfl) (by kernel_rfl) (by kernel_rfl) (by kernel_rfl) (loops_ok (l := [(forder_Sort.c0, none, 0, forder_Sort.keep0, forder_Sort.outs0)]) (by kernel_rfl) ⟨forder_Sort.L0, trivial⟩) hh w hw

/-! ### strait/forder.Count$1: function 34 -/
def forder_Count_c1 (a1 : Nat) (a2 : Nat) (h : Heap) (K : Bool → Heap → Prop) : Prop :=
  (qcallP1 h (forder_Cmp a1 a2 h) fun x3 => (K (x3 == (0 : Int)) h))
def forder_Count_c1.ret (K : Bool → Heap → Prop) (v : Value) (h : Heap) : Prop := match v with
  | (.bool r4) => K r4 h
  | _ => False
theorem forder_Count_c1.ret_elim {K : Bool → Heap → Prop} {K' : Value → Heap → Prop} {v : Value} {h : Heap} (hk : ∀ r4 h, K r4 h → K' (.bool r4) h) (hh : forder_Count_c1.ret K v h) : K' v h := by
  unfold forder_Count_c1.ret at hh
  split at hh
  · exact hk _ _ hh
  · exact hh.elim
def forder_Count_c1.qcall (f : FuncId) (vs : List Value) (h : Heap) (K : Value → Prop) : Prop := match f, vs with
  | 7, [(.float .f64 a1), (.float .f64 a2)] => qcallP1 h (forder_Cmp a1 a2 h) fun r6 => K (.int .i64 r6)
  | _, _ => False
noncomputable def forder_Count_c1.ctx : Ctx := { P := Try.prog, call := fun _ _ _ _ => False, qcall := forder_Count_c1.qcall, quiet := fun f => Nat.beq f 7, loop := fun _ _ _ _ => False }
theorem forder_Count_c1.ok : forder_Count_c1.ctx.OK where
  mixed := by kernel_rfl
  mono := fun hh _ => hh.elim
  call := fun hh => hh.elim
  qmono := by
    intro f args h K K' hh hk
    change forder_Count_c1.qcall f args h K at hh
    change forder_Count_c1.qcall f args h K'
    unfold forder_Count_c1.qcall at hh ⊢
    split at hh
    · obtain ⟨x0, h1, h2⟩ := hh
      exact ⟨x0, h1, hk _ h2⟩
    · exact hh.elim
  qval := by
    intro f args h K hh
    change forder_Count_c1.qcall f args h K at hh
    suffices H : ∃ v, K v ∧ forder_Count_c1.qcall f args h (· = v) from H
    unfold forder_Count_c1.qcall at hh ⊢
    split at hh
    · obtain ⟨x0, h1, h2⟩ := hh
      exact ⟨_, h2, x0, h1, rfl⟩
    · exact hh.elim
  qcall := by
    intro f args h v hh w hw
    change forder_Count_c1.qcall f args h (· = v) at hh
    unfold forder_Count_c1.qcall at hh
    split at hh
    · obtain ⟨x0, h1, h2⟩ := hh
      obtain ⟨g1, g2⟩ := forder_Cmp.calls h1 w hw
      refine .inl ⟨g1, g2.mono fun e w' ⟨u, he, ho, hr⟩ => ?_⟩
      have hq := forder_Cmp.ret_elim (K' := fun u h' => u = v ∧ h' = h) (fun _ h' hr => by obtain ⟨rfl, rfl⟩ := hr; exact ⟨h2, rfl⟩) hr
      exact ⟨hq.1 ▸ he, ho, hq.2⟩
    · exact hh.elim
noncomputable def forder_Count_c1.code : Code := (Try.f34.body).getD .skip
def forder_Count_c1.ann : Ann := .auto
set_option maxRecDepth 100000 in
theorem forder_Count_c1.eq (a1 : Nat) (a2 : Nat) (h : Heap) (K : Bool → Heap → Prop) : evF forder_Count_c1.ctx Try.f34 forder_Count_c1.ann [(.float .f64 a1), (.float .f64 a2)] h (forder_Count_c1.ret K) = forder_Count_c1 a1 a2 h K := by kernel_rfl
set_option maxRecDepth 100000 in
theorem forder_Count_c1.calls {a1 : Nat} {a2 : Nat} {h : Heap} {K : Bool → Heap → Prop} (hh : forder_Count_c1 a1 a2 h K) (w : World) (hw : w.heap = h) :
    (callFunc 34 #[(.float .f64 a1), (.float .f64 a2)]).run Try.prog w = .ok (.enter 34 #[(.float .f64 a1), (.float .f64 a2)]) w ∧ Calls Try.prog 34 #[(.float .f64 a1), (.float .f64 a2)] w fun e w' => ∃ v, e = .returned v ∧ Out w w' ∧ forder_Count_c1.ret K v w'.heap := by
  rw [← forder_Count_c1.eq] at hh
  exact fn_calls (args := [(.float .f64 a1), (.float .f64 a2)]) (c := forder_Count_c1.code) forder_Count_c1.ok Try.func34 (by kernel_rfl) (by kernel_rfl) (by kernel_rfl) (by kernel_rfl) (loops_ok (l := []) (by kernel_rfl) trivial) hh w hw

end Go.Proofs.Ytcmbgiekffgcoaa
