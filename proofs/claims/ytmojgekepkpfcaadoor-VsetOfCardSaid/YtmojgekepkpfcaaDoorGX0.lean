/- WRITTEN BY A PROGRAM OF THIS SESSION (gen.py): what each function asks of memory, and that the model's run comes to it. -/
import Derived.Test.YtmojgekepkpfcaaDoorProg
import Derived.Test.YtmojgekepkpfcaaDoorFw8

namespace Go.Proofs.YtmojgekepkpfcaaDoor
open Go.Hp
set_option linter.unusedVariables false
set_option linter.unusedSimpArgs false

/-! ### math/bits.TrailingZeros64: function 35 -/
def bits_TrailingZeros64 (a1 : Int) (h : Heap) (K : Int → Heap → Prop) : Prop :=
  ((iteB (a1 == (0 : Int)) (K 64 h) ((bindV (bits .and .u64 a1 (IntKind.u64.wrap (0 - a1))) fun n2 => 0 ≤ (58 : Int) ∧ bindV ((IntKind.u64.wrap (n2 * 285870213051353865)).fdiv (2 ^ 58)) fun n3 => (0 ≤ n3 ∧ n3 < (64 : Int)) ∧ ∃ (x4 : Int), cell h ((⟨0, 0, none⟩ : Addr).add (n3.toNat * 1)) = some (.int .u8 x4) ∧ (K (IntKind.i64.wrap x4) h)))))
def bits_TrailingZeros64.ret (K : Int → Heap → Prop) (v : Value) (h : Heap) : Prop := match v with
  | (.int .i64 r5) => K r5 h
  | _ => False
theorem bits_TrailingZeros64.ret_elim {K : Int → Heap → Prop} {K' : Value → Heap → Prop} {v : Value} {h : Heap} (hk : ∀ r5 h, K r5 h → K' (.int .i64 r5) h) (hh : bits_TrailingZeros64.ret K v h) : K' v h := by
  unfold bits_TrailingZeros64.ret at hh
  split at hh
  · exact hk _ _ hh
  · exact hh.elim
noncomputable def bits_TrailingZeros64.ctx : Ctx := { P := Tryd.prog, call := fun _ _ _ _ => False, qcall := fun _ _ _ _ => False, quiet := fun f => false, loop := fun _ _ _ _ => False }
theorem bits_TrailingZeros64.ok : bits_TrailingZeros64.ctx.OK where
  mixed := by kernel_rfl
  mono := fun hh _ => hh.elim
  call := fun hh => hh.elim
  qmono := fun hh _ => hh.elim
  qval := fun hh => hh.elim
  qcall := fun hh => hh.elim
noncomputable def bits_TrailingZeros64.code : Code := (Tryd.f35.body).getD .skip
def bits_TrailingZeros64.ann : Ann := .auto
set_option maxRecDepth 100000 in
theorem bits_TrailingZeros64.eq (a1 : Int) (h : Heap) (K : Int → Heap → Prop) : evF bits_TrailingZeros64.ctx Tryd.f35 bits_TrailingZeros64.ann [(.int .u64 a1)] h (bits_TrailingZeros64.ret K) = bits_TrailingZeros64 a1 h K := by kernel_rfl
set_option maxRecDepth 100000 in
theorem bits_TrailingZeros64.calls {a1 : Int} {h : Heap} {K : Int → Heap → Prop} (hh : bits_TrailingZeros64 a1 h K) (w : World) (hw : w.heap = h) :
    (callFunc 35 #[(.int .u64 a1)]).run Tryd.prog w = .ok (.enter 35 #[(.int .u64 a1)]) w ∧ Calls Tryd.prog 35 #[(.int .u64 a1)] w fun e w' => ∃ v, e = .returned v ∧ Out w w' ∧ bits_TrailingZeros64.ret K v w'.heap := by
  rw [← bits_TrailingZeros64.eq] at hh
  exact fn_calls (args := [(.int .u64 a1)]) (c := bits_TrailingZeros64.code) bits_TrailingZeros64.ok Tryd.func35 (by kernel_rfl) (by kernel_rfl) (by kernel_rfl) (by kernel_rfl) (loops_ok (l := []) (by kernel_rfl) trivial) hh w hw

end Go.Proofs.YtmojgekepkpfcaaDoor
