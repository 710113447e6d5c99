/- WRITTEN BY A PROGRAM OF THIS SESSION (gen.py): what each function asks of memory, and that the model's run comes to it. -/
import Derived.Test.YtpckmpadeapphaaProg
import Derived.Test.YtpckmpadeapphaaFw8

namespace Go.Proofs.Ytpckmpadeapphaa
open Go.Hp
set_option linter.unusedVariables false
set_option linter.unusedSimpArgs false

/-! ### cmp.isNaN[int]: function 31 -/
def cmp_isNaN_int (a1 : Int) (h : Heap) (K : Bool → Heap → Prop) : Prop :=
  ((K (a1 != a1) h))
def cmp_isNaN_int.ret (K : Bool → Heap → Prop) (v : Value) (h : Heap) : Prop := match v with
  | (.bool r2) => K r2 h
  | _ => False
theorem cmp_isNaN_int.ret_elim {K : Bool → Heap → Prop} {K' : Value → Heap → Prop} {v : Value} {h : Heap} (hk : ∀ r2 h, K r2 h → K' (.bool r2) h) (hh : cmp_isNaN_int.ret K v h) : K' v h := by
  unfold cmp_isNaN_int.ret at hh
  split at hh
  · exact hk _ _ hh
  · exact hh.elim
noncomputable def cmp_isNaN_int.ctx : Ctx := { P := Try.prog, call := fun _ _ _ _ => False, qcall := fun _ _ _ _ => False, quiet := fun f => Nat.beq f 1000045, loop := fun _ _ _ _ => False }
theorem cmp_isNaN_int.ok : cmp_isNaN_int.ctx.OK where
  mixed := by kernel_rfl
  mono := fun hh _ => hh.elim
  call := fun hh => hh.elim
  qmono := fun hh _ => hh.elim
  qval := fun hh => hh.elim
  qcall := fun hh => hh.elim
noncomputable def cmp_isNaN_int.code : Code := (Try.f31.body).getD .skip
def cmp_isNaN_int.ann : Ann := .auto
set_option maxRecDepth 100000 in
theorem cmp_isNaN_int.eq (a1 : Int) (h : Heap) (K : Bool → Heap → Prop) : evF cmp_isNaN_int.ctx Try.f31 cmp_isNaN_int.ann [(.int .i64 a1)] h (cmp_isNaN_int.ret K) = cmp_isNaN_int a1 h K := by kernel_rfl
set_option maxRecDepth 100000 in
theorem cmp_isNaN_int.calls {a1 : Int} {h : Heap} {K : Bool → Heap → Prop} (hh : cmp_isNaN_int a1 h K) (w : World) (hw : w.heap = h) :
    (callFunc 31 #[(.int .i64 a1)]).run Try.prog w = .ok (.enter 31 #[(.int .i64 a1)]) w ∧ Calls Try.prog 31 #[(.int .i64 a1)] w fun e w' => ∃ v, e = .returned v ∧ Out w w' ∧ cmp_isNaN_int.ret K v w'.heap := by
  rw [← cmp_isNaN_int.eq] at hh
  exact fn_calls (args := [(.int .i64 a1)]) (c := cmp_isNaN_int.code) cmp_isNaN_int.ok Try.func31 (by kernel_rfl) (by kernel_rfl) (by kernel_rfl) (by kernel_rfl) (loops_ok (l := []) (by kernel_rfl) trivial) hh w hw

/-! ### cmp.Compare[int]: function 28 -/
def cmp_Compare_int (a1 : Int) (a2 : Int) (h : Heap) (K : Int → Heap → Prop) : Prop :=
  (qcallP1 h (cmp_isNaN_int a1 h) fun x3 => (qcallP1 h (cmp_isNaN_int a2 h) fun x4 => ((iteB x3 ((iteB x4 (K 0 h) (((K (-1) h))))) (((iteB x4 (K 1 h) (((iteB (decide (a1 < a2)) ((K (-1) h)) (((iteB (decide (a1 > a2)) (K 1 h) (K 0 h))))))))))))))
def cmp_Compare_int.ret (K : Int → Heap → Prop) (v : Value) (h : Heap) : Prop := match v with
  | (.int .i64 r5) => K r5 h
  | _ => False
theorem cmp_Compare_int.ret_elim {K : Int → Heap → Prop} {K' : Value → Heap → Prop} {v : Value} {h : Heap} (hk : ∀ r5 h, K r5 h → K' (.int .i64 r5) h) (hh : cmp_Compare_int.ret K v h) : K' v h := by
  unfold cmp_Compare_int.ret at hh
  split at hh
  · exact hk _ _ hh
  · exact hh.elim
def cmp_Compare_int.qcall (f : FuncId) (vs : List Value) (h : Heap) (K : Value → Prop) : Prop := match f, vs with
  | 31, [(.int .i64 a1)] => qcallP1 h (cmp_isNaN_int a1 h) fun r2 => K (.bool r2)
  | _, _ => False
noncomputable def cmp_Compare_int.ctx : Ctx := { P := Try.prog, call := fun _ _ _ _ => False, qcall := cmp_Compare_int.qcall, quiet := fun f => Nat.beq f 31 || Nat.beq f 1000045, loop := fun _ _ _ _ => False }
theorem cmp_Compare_int.ok : cmp_Compare_int.ctx.OK where
  mixed := by kernel_rfl
  mono := fun hh _ => hh.elim
  call := fun hh => hh.elim
  qmono := by
    intro f args h K K' hh hk
    change cmp_Compare_int.qcall f args h K at hh
    change cmp_Compare_int.qcall f args h K'
    unfold cmp_Compare_int.qcall at hh ⊢
    split at hh
    · obtain ⟨x0, h1, h2⟩ := hh
      exact ⟨x0, h1, hk _ h2⟩
    · exact hh.elim
  qval := by
    intro f args h K hh
    change cmp_Compare_int.qcall f args h K at hh
    suffices H : ∃ v, K v ∧ cmp_Compare_int.qcall f args h (· = v) from H
    unfold cmp_Compare_int.qcall at hh ⊢
    split at hh
    · obtain ⟨x0, h1, h2⟩ := hh
      exact ⟨_, h2, x0, h1, rfl⟩
    · exact hh.elim
  qcall := by
    intro f args h v hh w hw
    change cmp_Compare_int.qcall f args h (· = v) at hh
    unfold cmp_Compare_int.qcall at hh
    split at hh
    · obtain ⟨x0, h1, h2⟩ := hh
      obtain ⟨g1, g2⟩ := cmp_isNaN_int.calls h1 w hw
      refine .inl ⟨g1, g2.mono fun e w' ⟨u, he, ho, hr⟩ => ?_⟩
      have hq := cmp_isNaN_int.ret_elim (K' := fun u h' => u = v ∧ h' = h) (fun _ h' hr => by obtain ⟨rfl, rfl⟩ := hr; exact ⟨h2, rfl⟩) hr
      exact ⟨hq.1 ▸ he, ho, hq.2⟩
    · exact hh.elim
noncomputable def cmp_Compare_int.code : Code := (Try.f28.body).getD .skip
def cmp_Compare_int.ann : Ann := .auto
set_option maxRecDepth 100000 in
theorem cmp_Compare_int.eq (a1 : Int) (a2 : Int) (h : Heap) (K : Int → Heap → Prop) : evF cmp_Compare_int.ctx Try.f28 cmp_Compare_int.ann [(.int .i64 a1), (.int .i64 a2)] h (cmp_Compare_int.ret K) = cmp_Compare_int a1 a2 h K := by kernel_rfl
set_option maxRecDepth 100000 in
theorem cmp_Compare_int.calls {a1 : Int} {a2 : Int} {h : Heap} {K : Int → Heap → Prop} (hh : cmp_Compare_int a1 a2 h K) (w : World) (hw : w.heap = h) :
    (callFunc 28 #[(.int .i64 a1), (.int .i64 a2)]).run Try.prog w = .ok (.enter 28 #[(.int .i64 a1), (.int .i64 a2)]) w ∧ Calls Try.prog 28 #[(.int .i64 a1), (.int .i64 a2)] w fun e w' => ∃ v, e = .returned v ∧ Out w w' ∧ cmp_Compare_int.ret K v w'.heap := by
  rw [← cmp_Compare_int.eq] at hh
  exact fn_calls (args := [(.int .i64 a1), (.int .i64 a2)]) (c := cmp_Compare_int.code) cmp_Compare_int.ok Try.func28 (by kernel_rfl) (by kernel_rfl) (by kernel_rfl) (by kernel_rfl) (loops_ok (l := []) (by kernel_rfl) trivial) hh w hw

/-! ### (*strait/dsu.Classes).List$1: function 27 -/
def dsu_Classes_List_c1 (a1 : Option Addr) (a1l : Nat) (a1c : Nat) (a2 : Option Addr) (a2l : Nat) (a2c : Nat) (h : Heap) (K : Int → Heap → Prop) : Prop :=
  (chkP a1 fun a3 => (0 ≤ (0 : Int) ∧ (0 : Int) < (a1l : Int)) ∧ ∃ (x4 : Int), cell h (a3.add ((0 : Int).toNat * 1)) = some (.int .i64 x4) ∧ chkP a2 fun a5 => (0 ≤ (0 : Int) ∧ (0 : Int) < (a2l : Int)) ∧ ∃ (x6 : Int), cell h (a5.add ((0 : Int).toNat * 1)) = some (.int .i64 x6) ∧ qcallP1 h (cmp_Compare_int x4 x6 h) fun x7 => K x7 h)
def dsu_Classes_List_c1.ret (K : Int → Heap → Prop) (v : Value) (h : Heap) : Prop := match v with
  | (.int .i64 r8) => K r8 h
  | _ => False
theorem dsu_Classes_List_c1.ret_elim {K : Int → Heap → Prop} {K' : Value → Heap → Prop} {v : Value} {h : Heap} (hk : ∀ r8 h, K r8 h → K' (.int .i64 r8) h) (hh : dsu_Classes_List_c1.ret K v h) : K' v h := by
  unfold dsu_Classes_List_c1.ret at hh
  split at hh
  · exact hk _ _ hh
  · exact hh.elim
def dsu_Classes_List_c1.qcall (f : FuncId) (vs : List Value) (h : Heap) (K : Value → Prop) : Prop := match f, vs with
  | 28, [(.int .i64 a1), (.int .i64 a2)] => qcallP1 h (cmp_Compare_int a1 a2 h) fun r5 => K (.int .i64 r5)
  | _, _ => False
noncomputable def dsu_Classes_List_c1.ctx : Ctx := { P := Try.prog, call := fun _ _ _ _ => False, qcall := dsu_Classes_List_c1.qcall, quiet := fun f => Nat.beq f 28 || Nat.beq f 1000045, loop := fun _ _ _ _ => False }
theorem dsu_Classes_List_c1.ok : dsu_Classes_List_c1.ctx.OK where
  mixed := by kernel_rfl
  mono := fun hh _ => hh.elim
  call := fun hh => hh.elim
  qmono := by
    intro f args h K K' hh hk
    change dsu_Classes_List_c1.qcall f args h K at hh
    change dsu_Classes_List_c1.qcall f args h K'
    unfold dsu_Classes_List_c1.qcall at hh ⊢
    split at hh
    · obtain ⟨x0, h1, h2⟩ := hh
      exact ⟨x0, h1, hk _ h2⟩
    · exact hh.elim
  qval := by
    intro f args h K hh
    change dsu_Classes_List_c1.qcall f args h K at hh
    suffices H : ∃ v, K v ∧ dsu_Classes_List_c1.qcall f args h (· = v) from H
    unfold dsu_Classes_List_c1.qcall at hh ⊢
    split at hh
    · obtain ⟨x0, h1, h2⟩ := hh
      exact ⟨_, h2, x0, h1, rfl⟩
    · exact hh.elim
  qcall := by
    intro f args h v hh w hw
    change dsu_Classes_List_c1.qcall f args h (· = v) at hh
    unfold dsu_Classes_List_c1.qcall at hh
    split at hh
    · obtain ⟨x0, h1, h2⟩ := hh
      obtain ⟨g1, g2⟩ := cmp_Compare_int.calls h1 w hw
      refine .inl ⟨g1, g2.mono fun e w' ⟨u, he, ho, hr⟩ => ?_⟩
      have hq := cmp_Compare_int.ret_elim (K' := fun u h' => u = v ∧ h' = h) (fun _ h' hr => by obtain ⟨rfl, rfl⟩ := hr; exact ⟨h2, rfl⟩) hr
      exact ⟨hq.1 ▸ he, ho, hq.2⟩
    · exact hh.elim
noncomputable def dsu_Classes_List_c1.code : Code := (Try.f27.body).getD .skip
def dsu_Classes_List_c1.ann : Ann := (.two .auto (.two (.reg [0, 1, 3, 0, 8, 24, 63, 127] (.take 0 (.take 1 (.take 2 (.take 3 (.take 4 (.take 5 (.take 6 (.take 7 .done))))))))) .auto))
set_option maxRecDepth 100000 in
theorem dsu_Classes_List_c1.eq (a1 : Option Addr) (a1l : Nat) (a1c : Nat) (a2 : Option Addr) (a2l : Nat) (a2c : Nat) (h : Heap) (K : Int → Heap → Prop) : evF dsu_Classes_List_c1.ctx Try.f27 dsu_Classes_List_c1.ann [(.slice a1 a1l a1c), (.slice a2 a2l a2c)] h (dsu_Classes_List_c1.ret K) = dsu_Classes_List_c1 a1 a1l a1c a2 a2l a2c h K := by kernel_rfl
set_option maxRecDepth 100000 in
theorem dsu_Classes_List_c1.calls {a1 : Option Addr} {a1l : Nat} {a1c : Nat} {a2 : Option Addr} {a2l : Nat} {a2c : Nat} {h : Heap} {K : Int → Heap → Prop} (hh : dsu_Classes_List_c1 a1 a1l a1c a2 a2l a2c h K) (w : World) (hw : w.heap = h) :
    (callFunc 27 #[(.slice a1 a1l a1c), (.slice a2 a2l a2c)]).run Try.prog w = .ok (.enter 27 #[(.slice a1 a1l a1c), (.slice a2 a2l a2c)]) w ∧ Calls Try.prog 27 #[(.slice a1 a1l a1c), (.slice a2 a2l a2c)] w fun e w' => ∃ v, e = .returned v ∧ Out w w' ∧ dsu_Classes_List_c1.ret K v w'.heap := by
  rw [← dsu_Classes_List_c1.eq] at hh
  exact fn_calls (args := [(.slice a1 a1l a1c), (.slice a2 a2l a2c)]) (c := dsu_Classes_List_c1.code) dsu_Classes_List_c1.ok Try.func27 (by kernel_rfl) (by kernel_rfl) (by kernel_rfl) (by kernel_rfl) (loops_ok (l := []) (by kernel_rfl) trivial) hh w hw

/-! ### strait/dsu.New: function 6 -/
def dsu_New.b0 (K2 : Heap → Prop) (cont : Addr → Int → Int → Heap → Prop) (c3_1001 : Addr) (c17_1002 : Int) (v18_1003 : Int) (h1004 : Heap) : Prop :=
  (iteB (decide (v18_1003 < c17_1002)) (((∃ (x1005 : Option Addr) (x1005l : Nat) (x1005c : Nat), cell h1004 c3_1001 = some (.slice x1005 x1005l x1005c) ∧ ∃ (x1006 : Option Addr) (x1006l : Nat) (x1006c : Nat), cell h1004 (c3_1001.add 1) = some (.slice x1006 x1006l x1006c) ∧ ∃ (x1007 : Option Addr) (x1007l : Nat) (x1007c : Nat), cell h1004 (c3_1001.add 2) = some (.slice x1007 x1007l x1007c) ∧ chkP x1005 fun a1008 => (0 ≤ v18_1003 ∧ v18_1003 < (x1005l : Int)) ∧ stC h1004 (a1008.add (v18_1003.toNat * 1)) (.int .i64 v18_1003) fun h1009 => chkP x1006 fun a1010 => (0 ≤ v18_1003 ∧ v18_1003 < (x1006l : Int)) ∧ stC h1009 (a1010.add (v18_1003.toNat * 1)) (.int .i64 1) fun h1011 => chkP x1007 fun a1012 => (0 ≤ v18_1003 ∧ v18_1003 < (x1007l : Int)) ∧ stC h1011 (a1012.add (v18_1003.toNat * 1)) (.int .i64 v18_1003) fun h1013 => ((cont c3_1001 c17_1002 (IntKind.i64.wrap (v18_1003 + 1)) h1013))))) (K2 h1004))
def dsu_New.l0 (K2 : Heap → Prop) : Nat → Addr → Int → Int → Heap → Prop
  | 0, _, _, _, _ => False
  | m + 1, c3_1001, c17_1002, v18_1003, h => dsu_New.b0 K2 (dsu_New.l0 K2 m) c3_1001 c17_1002 v18_1003 h
def dsu_New (a1 : Int) (h : Heap) (K : (Option Addr) → Heap → Prop) : Prop :=
  (bindV (if 4096 < (if 0 > a1 then 0 else a1) then 4096 else (if 0 > a1 then 0 else a1)) fun n2 => (let j49 := (fun (y45 : Addr) (h46 : Heap) => (∃ m48, dsu_New.l0 (fun h47 => (((K (some y45) h47)))) m48 y45 n2 0 h46));
  ((0 ≤ n2 ∧ n2 ≤ n2 ∧ n2 * (8 : Nat) ≤ 2 ^ 47 ∧ n2 ≤ 2 ^ 47) ∧ newP h (.cells (zeroRow [(.int .i64 0)] n2.toNat).toArray 3) fun a3 h4 => ((0 ≤ n2 ∧ n2 ≤ n2 ∧ n2 * (8 : Nat) ≤ 2 ^ 47 ∧ n2 ≤ 2 ^ 47) ∧ newP h4 (.cells (zeroRow [(.int .i64 0)] n2.toNat).toArray 3) fun a5 h6 => (0 ≤ n2 ∧ n2 ≤ n2 ∧ n2 * (8 : Nat) ≤ 2 ^ 47 ∧ n2 ≤ 2 ^ 47) ∧ newP h6 (.cells (zeroRow [(.int .i64 0)] n2.toNat).toArray 3) fun a7 h8 => newP h8 (.cells #[(.slice (some a3) n2.toNat n2.toNat), (.slice (some a5) n2.toNat n2.toNat), (.slice (some a7) n2.toNat n2.toNat), (.int .i64 n2)] 42) fun a9 h10 => (j49 a9 h10)) ∧ ((0 ≤ n2 ∧ n2 ≤ n2 ∧ n2 * (8 : Nat) ≤ 2 ^ 47 ∧ n2 ≤ 2 ^ 47) ∧ newP h4 (.cells (zeroRow [(.int .i64 0)] n2.toNat).toArray 3) fun a11 h12 => (0 ≤ n2 ∧ n2 ≤ n2 ∧ n2 * (8 : Nat) ≤ 2 ^ 47 ∧ n2 ≤ 2 ^ 47) ∧ newP h12 (.cells (zeroRow [(.int .i64 0)] n2.toNat).toArray 3) fun a13 h14 => newP h14 (.cells #[(.slice (some a3) n2.toNat n2.toNat), (.slice (some a13) n2.toNat n2.toNat), (.slice (some a11) n2.toNat n2.toNat), (.int .i64 n2)] 42) fun a15 h16 => (j49 a15 h16))) ∧ (((0 ≤ n2 ∧ n2 ≤ n2 ∧ n2 * (8 : Nat) ≤ 2 ^ 47 ∧ n2 ≤ 2 ^ 47) ∧ newP h (.cells (zeroRow [(.int .i64 0)] n2.toNat).toArray 3) fun a17 h18 => ((0 ≤ n2 ∧ n2 ≤ n2 ∧ n2 * (8 : Nat) ≤ 2 ^ 47 ∧ n2 ≤ 2 ^ 47) ∧ newP h18 (.cells (zeroRow [(.int .i64 0)] n2.toNat).toArray 3) fun a19 h20 => (0 ≤ n2 ∧ n2 ≤ n2 ∧ n2 * (8 : Nat) ≤ 2 ^ 47 ∧ n2 ≤ 2 ^ 47) ∧ newP h20 (.cells (zeroRow [(.int .i64 0)] n2.toNat).toArray 3) fun a21 h22 => newP h22 (.cells #[(.slice (some a19) n2.toNat n2.toNat), (.slice (some a17) n2.toNat n2.toNat), (.slice (some a21) n2.toNat n2.toNat), (.int .i64 n2)] 42) fun a23 h24 => (j49 a23 h24)) ∧ ((0 ≤ n2 ∧ n2 ≤ n2 ∧ n2 * (8 : Nat) ≤ 2 ^ 47 ∧ n2 ≤ 2 ^ 47) ∧ newP h18 (.cells (zeroRow [(.int .i64 0)] n2.toNat).toArray 3) fun a25 h26 => (0 ≤ n2 ∧ n2 ≤ n2 ∧ n2 * (8 : Nat) ≤ 2 ^ 47 ∧ n2 ≤ 2 ^ 47) ∧ newP h26 (.cells (zeroRow [(.int .i64 0)] n2.toNat).toArray 3) fun a27 h28 => newP h28 (.cells #[(.slice (some a27) n2.toNat n2.toNat), (.slice (some a17) n2.toNat n2.toNat), (.slice (some a25) n2.toNat n2.toNat), (.int .i64 n2)] 42) fun a29 h30 => (j49 a29 h30))) ∧ ((0 ≤ n2 ∧ n2 ≤ n2 ∧ n2 * (8 : Nat) ≤ 2 ^ 47 ∧ n2 ≤ 2 ^ 47) ∧ newP h (.cells (zeroRow [(.int .i64 0)] n2.toNat).toArray 3) fun a31 h32 => ((0 ≤ n2 ∧ n2 ≤ n2 ∧ n2 * (8 : Nat) ≤ 2 ^ 47 ∧ n2 ≤ 2 ^ 47) ∧ newP h32 (.cells (zeroRow [(.int .i64 0)] n2.toNat).toArray 3) fun a33 h34 => (0 ≤ n2 ∧ n2 ≤ n2 ∧ n2 * (8 : Nat) ≤ 2 ^ 47 ∧ n2 ≤ 2 ^ 47) ∧ newP h34 (.cells (zeroRow [(.int .i64 0)] n2.toNat).toArray 3) fun a35 h36 => newP h36 (.cells #[(.slice (some a33) n2.toNat n2.toNat), (.slice (some a35) n2.toNat n2.toNat), (.slice (some a31) n2.toNat n2.toNat), (.int .i64 n2)] 42) fun a37 h38 => (j49 a37 h38)) ∧ ((0 ≤ n2 ∧ n2 ≤ n2 ∧ n2 * (8 : Nat) ≤ 2 ^ 47 ∧ n2 ≤ 2 ^ 47) ∧ newP h32 (.cells (zeroRow [(.int .i64 0)] n2.toNat).toArray 3) fun a39 h40 => (0 ≤ n2 ∧ n2 ≤ n2 ∧ n2 * (8 : Nat) ≤ 2 ^ 47 ∧ n2 ≤ 2 ^ 47) ∧ newP h40 (.cells (zeroRow [(.int .i64 0)] n2.toNat).toArray 3) fun a41 h42 => newP h42 (.cells #[(.slice (some a41) n2.toNat n2.toNat), (.slice (some a39) n2.toNat n2.toNat), (.slice (some a31) n2.toNat n2.toNat), (.int .i64 n2)] 42) fun a43 h44 => (j49 a43 h44))))))
def dsu_New.ret (K : (Option Addr) → Heap → Prop) (v : Value) (h : Heap) : Prop := match v with
  | (.pointer r50) => K r50 h
  | _ => False
theorem dsu_New.ret_elim {K : (Option Addr) → Heap → Prop} {K' : Value → Heap → Prop} {v : Value} {h : Heap} (hk : ∀ r50 h, K r50 h → K' (.pointer r50) h) (hh : dsu_New.ret K v h) : K' v h := by
  unfold dsu_New.ret at hh
  split at hh
  · exact hk _ _ hh
  · exact hh.elim
def dsu_New.r0 (K : Nat → List Value → Heap → Prop) (m : Nat) (vs : List Value) (h : Heap) : Prop := match vs with
  | [(.pointer (some c3_1001)), (.int .i64 c17_1002), (.int .i64 v18_1003)] => dsu_New.l0 (fun h' => K 2 [(.pointer (some c3_1001))] h') m c3_1001 c17_1002 v18_1003 h
  | _ => False
def dsu_New.loop (i : Nat) (vs : List Value) (h : Heap) (K : Nat → List Value → Heap → Prop) : Prop := match i with
  | 0 => ∃ m, dsu_New.r0 K m vs h
  | _ => False
noncomputable def dsu_New.ctx : Ctx := { P := Try.prog, call := fun _ _ _ _ => False, qcall := fun _ _ _ _ => False, quiet := fun f => Nat.beq f 1000045, loop := dsu_New.loop }
theorem dsu_New.ok : dsu_New.ctx.OK where
  mixed := by kernel_rfl
  mono := fun hh _ => hh.elim
  call := fun hh => hh.elim
  qmono := fun hh _ => hh.elim
  qval := fun hh => hh.elim
  qcall := fun hh => hh.elim
noncomputable def dsu_New.code : Code := (Try.f6.body).getD .skip
def dsu_New.ann : Ann := (.two .auto (.two .auto (.two (.reg [0, 1, 0, 4, 0, 16, 0, 127, 255, 511] (.take 0 (.take 2 (.take 4 (.take 6 (.alt 1 (.alt 3 (.alt 5 (.take 7 (.alt 8 (.take 9 .done) .noalt)) .noalt) (.alt 5 (.alt 3 (.take 7 (.alt 8 (.take 9 .done) .noalt)) .noalt) .noalt)) (.alt 3 (.alt 1 (.alt 5 (.take 7 (.alt 8 (.take 9 .done) .noalt)) .noalt) (.alt 5 (.alt 1 (.take 7 (.alt 8 (.take 9 .done) .noalt)) .noalt) .noalt)) (.alt 5 (.alt 1 (.alt 3 (.take 7 (.alt 8 (.take 9 .done) .noalt)) .noalt) (.alt 3 (.alt 1 (.take 7 (.alt 8 (.take 9 .done) .noalt)) .noalt) .noalt)) .noalt)))))))) (.two (.two .auto (.two (.loop 0 [3, 17, 18] [(2, [3])] (.two .auto (.two .auto (.two (.two (.two .auto (.reg [0, 1, 3, 7, 0, 0, 32, 96, 224, 0, 0, 1024, 3072, 7168, 0, 0, 0, 48639, 179711, 442367, 966655, 2097151, 4194303] (.take 0 (.take 1 (.take 2 (.take 3 (.take 4 (.take 5 (.take 6 (.take 7 (.take 8 (.take 9 (.take 10 (.take 11 (.take 12 (.take 13 (.take 14 (.take 15 (.take 16 (.take 17 (.alt 18 (.take 19 (.alt 20 (.take 21 (.alt 22 .done .noalt)) .noalt)) .noalt))))))))))))))))))))) .auto) .auto)))) .auto)) .auto))))
noncomputable def dsu_New.c0 : Code := sub dsu_New.code [1, 1, 1, 0, 1, 0, 0]
def dsu_New.a0 : Ann := (.two .auto (.two .auto (.two (.two (.two .auto (.reg [0, 1, 3, 7, 0, 0, 32, 96, 224, 0, 0, 1024, 3072, 7168, 0, 0, 0, 48639, 179711, 442367, 966655, 2097151, 4194303] (.take 0 (.take 1 (.take 2 (.take 3 (.take 4 (.take 5 (.take 6 (.take 7 (.take 8 (.take 9 (.take 10 (.take 11 (.take 12 (.take 13 (.take 14 (.take 15 (.take 16 (.take 17 (.alt 18 (.take 19 (.alt 20 (.take 21 (.alt 22 .done .noalt)) .noalt)) .noalt))))))))))))))))))))) .auto) .auto)))
def dsu_New.keep0 : List Nat := [3, 17, 18]
def dsu_New.outs0 : List (Nat × List Nat) := [(2, [3])]
set_option maxRecDepth 100000 in
theorem dsu_New.L0 : LoopOK dsu_New.ctx 43 dsu_New.c0 0 dsu_New.keep0 dsu_New.outs0 := by
  refine loop_ok (n := dsu_New.a0) dsu_New.ok (by kernel_rfl) (loops_ok (l := []) (by kernel_rfl) ?_) dsu_New.r0 ?_ ?_ (fun vs h K hh => hh)
  · exact trivial
  · intro K vs h hh
    unfold dsu_New.r0 at hh
    split at hh
    · exact hh
    · exact hh
  · intro K m vs h hh
    unfold dsu_New.r0 at hh
    split at hh
    · exact cast (by kernel_rfl) hh
    · exact hh.elim
set_option maxRecDepth 100000 in
theorem dsu_New.eq (a1 : Int) (h : Heap) (K : (Option Addr) → Heap → Prop) : evF dsu_New.ctx Try.f6 dsu_New.ann [(.int .i64 a1)] h (dsu_New.ret K) = dsu_New a1 h K := by kernel_rfl
set_option maxRecDepth 100000 in
theorem dsu_New.calls {a1 : Int} {h : Heap} {K : (Option Addr) → Heap → Prop} (hh : dsu_New a1 h K) (w : World) (hw : w.heap = h) :
    (callFunc 6 #[(.int .i64 a1)]).run Try.prog w = .ok (.enter 6 #[(.int .i64 a1)]) w ∧ Calls Try.prog 6 #[(.int .i64 a1)] w fun e w' => ∃ v, e = .returned v ∧ Out w w' ∧ dsu_New.ret K v w'.heap := by
  rw [← dsu_New.eq] at hh
  exact fn_calls (args := [(.int .i64 a1)]) (c := dsu_New.code) dsu_New.ok Try.func6 (by kernel_rfl) (by kernel_rfl) (by kernel_rfl) (by kernel_rfl) (loops_ok (l := [(dsu_New.c0, none, 0, dsu_New.keep0, dsu_New.outs0)]) (by kernel_rfl) ⟨dsu_New.L0, trivial⟩) hh w hw

/-! ### (*strait/dsu.Classes).Room: function 17 -/
def dsu_Classes_Room (a1 : Option Addr) (h : Heap) (K : Int → Heap → Prop) : Prop :=
  ((iteB a1.isNone (K 0 h) ((chkP a1 fun a2 => ∃ (x3 : Option Addr) (x3l : Nat) (x3c : Nat), cell h a2 = some (.slice x3 x3l x3c) ∧ (K (x3l : Int) h)))))
def dsu_Classes_Room.ret (K : Int → Heap → Prop) (v : Value) (h : Heap) : Prop := match v with
  | (.int .i64 r4) => K r4 h
  | _ => False
theorem dsu_Classes_Room.ret_elim {K : Int → Heap → Prop} {K' : Value → Heap → Prop} {v : Value} {h : Heap} (hk : ∀ r4 h, K r4 h → K' (.int .i64 r4) h) (hh : dsu_Classes_Room.ret K v h) : K' v h := by
  unfold dsu_Classes_Room.ret at hh
  split at hh
  · exact hk _ _ hh
  · exact hh.elim
noncomputable def dsu_Classes_Room.ctx : Ctx := { P := Try.prog, call := fun _ _ _ _ => False, qcall := fun _ _ _ _ => False, quiet := fun f => Nat.beq f 1000045, loop := fun _ _ _ _ => False }
theorem dsu_Classes_Room.ok : dsu_Classes_Room.ctx.OK where
  mixed := by kernel_rfl
  mono := fun hh _ => hh.elim
  call := fun hh => hh.elim
  qmono := fun hh _ => hh.elim
  qval := fun hh => hh.elim
  qcall := fun hh => hh.elim
noncomputable def dsu_Classes_Room.code : Code := (Try.f17.body).getD .skip
def dsu_Classes_Room.ann : Ann := .auto
set_option maxRecDepth 100000 in
theorem dsu_Classes_Room.eq (a1 : Option Addr) (h : Heap) (K : Int → Heap → Prop) : evF dsu_Classes_Room.ctx Try.f17 dsu_Classes_Room.ann [(.pointer a1)] h (dsu_Classes_Room.ret K) = dsu_Classes_Room a1 h K := by kernel_rfl
set_option maxRecDepth 100000 in
theorem dsu_Classes_Room.calls {a1 : Option Addr} {h : Heap} {K : Int → Heap → Prop} (hh : dsu_Classes_Room a1 h K) (w : World) (hw : w.heap = h) :
    (callFunc 17 #[(.pointer a1)]).run Try.prog w = .ok (.enter 17 #[(.pointer a1)]) w ∧ Calls Try.prog 17 #[(.pointer a1)] w fun e w' => ∃ v, e = .returned v ∧ Out w w' ∧ dsu_Classes_Room.ret K v w'.heap := by
  rw [← dsu_Classes_Room.eq] at hh
  exact fn_calls (args := [(.pointer a1)]) (c := dsu_Classes_Room.code) dsu_Classes_Room.ok Try.func17 (by kernel_rfl) (by kernel_rfl) (by kernel_rfl) (by kernel_rfl) (loops_ok (l := []) (by kernel_rfl) trivial) hh w hw

/-! ### (*strait/dsu.Classes).root: function 22 -/
def dsu_Classes_root.b0 (K0 : Int → Heap → Prop) (cont : (Option Addr) → Int → Heap → Prop) (c0_1001 : Option Addr) (v1_1002 : Int) (h1003 : Heap) : Prop :=
  (chkP c0_1001 fun a1004 => ∃ (x1005 : Option Addr) (x1005l : Nat) (x1005c : Nat), cell h1003 a1004 = some (.slice x1005 x1005l x1005c) ∧ chkP x1005 fun a1006 => (0 ≤ v1_1002 ∧ v1_1002 < (x1005l : Int)) ∧ ∃ (x1007 : Int), cell h1003 (a1006.add (v1_1002.toNat * 1)) = some (.int .i64 x1007) ∧ (iteB (x1007 == v1_1002) (K0 v1_1002 h1003) ((chkP c0_1001 fun a1008 => ∃ (x1009 : Option Addr) (x1009l : Nat) (x1009c : Nat), cell h1003 a1008 = some (.slice x1009 x1009l x1009c) ∧ chkP c0_1001 fun a1010 => ∃ (x1011 : Option Addr) (x1011l : Nat) (x1011c : Nat), cell h1003 a1010 = some (.slice x1011 x1011l x1011c) ∧ chkP c0_1001 fun a1012 => ∃ (x1013 : Option Addr) (x1013l : Nat) (x1013c : Nat), cell h1003 a1012 = some (.slice x1013 x1013l x1013c) ∧ chkP x1013 fun a1014 => (0 ≤ v1_1002 ∧ v1_1002 < (x1013l : Int)) ∧ ∃ (x1015 : Int), cell h1003 (a1014.add (v1_1002.toNat * 1)) = some (.int .i64 x1015) ∧ chkP x1011 fun a1016 => (0 ≤ x1015 ∧ x1015 < (x1011l : Int)) ∧ ∃ (x1017 : Int), cell h1003 (a1016.add (x1015.toNat * 1)) = some (.int .i64 x1017) ∧ chkP x1009 fun a1018 => (0 ≤ v1_1002 ∧ v1_1002 < (x1009l : Int)) ∧ stC h1003 (a1018.add (v1_1002.toNat * 1)) (.int .i64 x1017) fun h1019 => (chkP c0_1001 fun a1020 => ∃ (x1021 : Option Addr) (x1021l : Nat) (x1021c : Nat), cell h1019 a1020 = some (.slice x1021 x1021l x1021c) ∧ chkP x1021 fun a1022 => (0 ≤ v1_1002 ∧ v1_1002 < (x1021l : Int)) ∧ ∃ (x1023 : Int), cell h1019 (a1022.add (v1_1002.toNat * 1)) = some (.int .i64 x1023) ∧ cont c0_1001 x1023 h1019)))))
def dsu_Classes_root.l0 (K0 : Int → Heap → Prop) : Nat → (Option Addr) → Int → Heap → Prop
  | 0, _, _, _ => False
  | m + 1, c0_1001, v1_1002, h => dsu_Classes_root.b0 K0 (dsu_Classes_root.l0 K0 m) c0_1001 v1_1002 h
def dsu_Classes_root (a1 : Option Addr) (a2 : Int) (h : Heap) (K : Int → Heap → Prop) : Prop :=
  (let j28 : Prop := ((chkP a1 fun a5 => ∃ (x6 : Option Addr) (x6l : Nat) (x6c : Nat), cell h a5 = some (.slice x6 x6l x6c) ∧ chkP x6 fun a7 => (0 ≤ a2 ∧ a2 < (x6l : Int)) ∧ ∃ (x8 : Int), cell h (a7.add (a2.toNat * 1)) = some (.int .i64 x8) ∧ (iteB (x8 == a2) (K a2 h) ((chkP a1 fun a9 => ∃ (x10 : Option Addr) (x10l : Nat) (x10c : Nat), cell h a9 = some (.slice x10 x10l x10c) ∧ chkP a1 fun a11 => ∃ (x12 : Option Addr) (x12l : Nat) (x12c : Nat), cell h a11 = some (.slice x12 x12l x12c) ∧ chkP a1 fun a13 => ∃ (x14 : Option Addr) (x14l : Nat) (x14c : Nat), cell h a13 = some (.slice x14 x14l x14c) ∧ chkP x14 fun a15 => (0 ≤ a2 ∧ a2 < (x14l : Int)) ∧ ∃ (x16 : Int), cell h (a15.add (a2.toNat * 1)) = some (.int .i64 x16) ∧ chkP x12 fun a17 => (0 ≤ x16 ∧ x16 < (x12l : Int)) ∧ ∃ (x18 : Int), cell h (a17.add (x16.toNat * 1)) = some (.int .i64 x18) ∧ chkP x10 fun a19 => (0 ≤ a2 ∧ a2 < (x10l : Int)) ∧ stC h (a19.add (a2.toNat * 1)) (.int .i64 x18) fun h20 => (chkP a1 fun a21 => ∃ (x22 : Option Addr) (x22l : Nat) (x22c : Nat), cell h20 a21 = some (.slice x22 x22l x22c) ∧ chkP x22 fun a23 => (0 ≤ a2 ∧ a2 < (x22l : Int)) ∧ ∃ (x24 : Int), cell h20 (a23.add (a2.toNat * 1)) = some (.int .i64 x24) ∧ (∃ m27, dsu_Classes_root.l0 (fun z25 h26 => K z25 h26) m27 a1 x24 h20)))))));
  iteB (decide (a2 < (0 : Int))) (((K (-1) h))) (qcallP1 h (dsu_Classes_Room a1 h) fun x3 => (iteB (decide (a2 ≥ x3)) ((K (-1) h)) ((j28)))))
def dsu_Classes_root.ret (K : Int → Heap → Prop) (v : Value) (h : Heap) : Prop := match v with
  | (.int .i64 r29) => K r29 h
  | _ => False
theorem dsu_Classes_root.ret_elim {K : Int → Heap → Prop} {K' : Value → Heap → Prop} {v : Value} {h : Heap} (hk : ∀ r29 h, K r29 h → K' (.int .i64 r29) h) (hh : dsu_Classes_root.ret K v h) : K' v h := by
  unfold dsu_Classes_root.ret at hh
  split at hh
  · exact hk _ _ hh
  · exact hh.elim
def dsu_Classes_root.qcall (f : FuncId) (vs : List Value) (h : Heap) (K : Value → Prop) : Prop := match f, vs with
  | 17, [(.pointer a1)] => qcallP1 h (dsu_Classes_Room a1 h) fun r4 => K (.int .i64 r4)
  | _, _ => False
def dsu_Classes_root.r0 (K : Nat → List Value → Heap → Prop) (m : Nat) (vs : List Value) (h : Heap) : Prop := match vs with
  | [(.pointer c0_1001), (.int .i64 v1_1002)] => dsu_Classes_root.l0 (fun z30 h' => K 0 [(.int .i64 z30)] h') m c0_1001 v1_1002 h
  | _ => False
def dsu_Classes_root.loop (i : Nat) (vs : List Value) (h : Heap) (K : Nat → List Value → Heap → Prop) : Prop := match i with
  | 0 => ∃ m, dsu_Classes_root.r0 K m vs h
  | _ => False
noncomputable def dsu_Classes_root.ctx : Ctx := { P := Try.prog, call := fun _ _ _ _ => False, qcall := dsu_Classes_root.qcall, quiet := fun f => Nat.beq f 17 || Nat.beq f 1000045, loop := dsu_Classes_root.loop }
theorem dsu_Classes_root.ok : dsu_Classes_root.ctx.OK where
  mixed := by kernel_rfl
  mono := fun hh _ => hh.elim
  call := fun hh => hh.elim
  qmono := by
    intro f args h K K' hh hk
    change dsu_Classes_root.qcall f args h K at hh
    change dsu_Classes_root.qcall f args h K'
    unfold dsu_Classes_root.qcall at hh ⊢
    split at hh
    · obtain ⟨x0, h1, h2⟩ := hh
      exact ⟨x0, h1, hk _ h2⟩
    · exact hh.elim
  qval := by
    intro f args h K hh
    change dsu_Classes_root.qcall f args h K at hh
    suffices H : ∃ v, K v ∧ dsu_Classes_root.qcall f args h (· = v) from H
    unfold dsu_Classes_root.qcall at hh ⊢
    split at hh
    · obtain ⟨x0, h1, h2⟩ := hh
      exact ⟨_, h2, x0, h1, rfl⟩
    · exact hh.elim
  qcall := by
    intro f args h v hh w hw
    change dsu_Classes_root.qcall f args h (· = v) at hh
    unfold dsu_Classes_root.qcall at hh
    split at hh
    · obtain ⟨x0, h1, h2⟩ := hh
      obtain ⟨g1, g2⟩ := dsu_Classes_Room.calls h1 w hw
      refine .inl ⟨g1, g2.mono fun e w' ⟨u, he, ho, hr⟩ => ?_⟩
      have hq := dsu_Classes_Room.ret_elim (K' := fun u h' => u = v ∧ h' = h) (fun _ h' hr => by obtain ⟨rfl, rfl⟩ := hr; exact ⟨h2, rfl⟩) hr
      exact ⟨hq.1 ▸ he, ho, hq.2⟩
    · exact hh.elim
noncomputable def dsu_Classes_root.code : Code := (Try.f22.body).getD .skip
def dsu_Classes_root.ann : Ann := (.two .auto (.jump 0 0 [0, 1] [(0, [4])] (.two .auto (.two .auto (.two .auto (.two (.reg [0, 1, 3, 7, 0, 0, 32, 96, 224, 0, 512, 1536, 3584, 0, 15872, 32256, 65504, 131040, 262143, 524287] (.take 0 (.take 1 (.take 2 (.take 3 (.take 4 (.take 5 (.take 6 (.take 7 (.take 8 (.take 9 (.take 10 (.take 11 (.take 12 (.take 13 (.take 14 (.take 15 (.take 16 (.take 17 (.take 18 (.alt 19 .done .noalt))))))))))))))))))))) .auto)))) (.two .auto (.two .auto (.two (.reg [0, 1, 3, 7, 0, 0, 32, 96, 224, 0, 512, 1536, 3584, 0, 15872, 32256, 65504, 131040, 262143, 524287] (.take 0 (.take 1 (.take 2 (.take 3 (.take 4 (.take 5 (.take 6 (.take 7 (.take 8 (.take 9 (.take 10 (.take 11 (.take 12 (.take 13 (.take 14 (.take 15 (.take 16 (.take 17 (.take 18 (.alt 19 .done .noalt))))))))))))))))))))) .auto)))))
noncomputable def dsu_Classes_root.c0 : Code := sub dsu_Classes_root.code [1, 1]
def dsu_Classes_root.a0 : Ann := (.two .auto (.two .auto (.two (.reg [0, 1, 3, 7, 0, 0, 32, 96, 224, 0, 512, 1536, 3584, 0, 15872, 32256, 65504, 131040, 262143, 524287] (.take 0 (.take 1 (.take 2 (.take 3 (.take 4 (.take 5 (.take 6 (.take 7 (.take 8 (.take 9 (.take 10 (.take 11 (.take 12 (.take 13 (.take 14 (.take 15 (.take 16 (.take 17 (.take 18 (.alt 19 .done .noalt))))))))))))))))))))) .auto)))
def dsu_Classes_root.keep0 : List Nat := [0, 1]
def dsu_Classes_root.outs0 : List (Nat × List Nat) := [(0, [4])]
set_option maxRecDepth 100000 in
theorem dsu_Classes_root.L0 : JumpOK dsu_Classes_root.ctx 49 dsu_Classes_root.c0 0 0 dsu_Classes_root.keep0 dsu_Classes_root.outs0 := by
  refine jump_ok (n := dsu_Classes_root.a0) dsu_Classes_root.ok (by kernel_rfl) (loops_ok (l := []) (by kernel_rfl) ?_) dsu_Classes_root.r0 ?_ ?_ (fun vs h K hh => hh)
  · exact trivial
  · intro K vs h hh
    unfold dsu_Classes_root.r0 at hh
    split at hh
    · exact hh
    · exact hh
  · intro K m vs h hh
    unfold dsu_Classes_root.r0 at hh
    split at hh
    · exact cast (by kernel_rfl) hh
    · exact hh.elim
set_option maxRecDepth 100000 in
theorem dsu_Classes_root.eq (a1 : Option Addr) (a2 : Int) (h : Heap) (K : Int → Heap → Prop) : evF dsu_Classes_root.ctx Try.f22 dsu_Classes_root.ann [(.pointer a1), (.int .i64 a2)] h (dsu_Classes_root.ret K) = dsu_Classes_root a1 a2 h K := by kernel_rfl
set_option maxRecDepth 100000 in
theorem dsu_Classes_root.calls {a1 : Option Addr} {a2 : Int} {h : Heap} {K : Int → Heap → Prop} (hh : dsu_Classes_root a1 a2 h K) (w : World) (hw : w.heap = h) :
    (callFunc 22 #[(.pointer a1), (.int .i64 a2)]).run Try.prog w = .ok (.enter 22 #[(.pointer a1), (.int .i64 a2)]) w ∧ Calls Try.prog 22 #[(.pointer a1), (.int .i64 a2)] w fun e w' => ∃ v, e = .returned v ∧ Out w w' ∧ dsu_Classes_root.ret K v w'.heap := by
  rw [← dsu_Classes_root.eq] at hh
  exact fn_calls (args := [(.pointer a1), (.int .i64 a2)]) (c := dsu_Classes_root.code) dsu_Classes_root.ok Try.func22 (by kernel_rfl) (by kernel_rfl) (by kernel_rfl) (by kernel_rfl) (loops_ok (l := [(dsu_Classes_root.c0, some 0, 0, dsu_Classes_root.keep0, dsu_Classes_root.outs0)]) (by kernel_rfl) ⟨dsu_Classes_root.L0, trivial⟩) hh w hw

/-! ### (*strait/dsu.Classes).Join: function 11 -/
def dsu_Classes_Join (a1 : Option Addr) (a2 : Int) (a3 : Int) (h : Heap) (K : Bool → Heap → Prop) : Prop :=
  (callP1 (dsu_Classes_root a1 a2 h) fun x4 h5 => callP1 (dsu_Classes_root a1 a3 h5) fun x6 h7 => (let j50 : Prop := (let j49 := (fun (y17 : Int) (y18 : Int) => chkP a1 fun a19 => ∃ (x20 : Option Addr) (x20l : Nat) (x20c : Nat), cell h7 a19 = some (.slice x20 x20l x20c) ∧ chkP x20 fun a21 => (0 ≤ y18 ∧ y18 < (x20l : Int)) ∧ stC h7 (a21.add (y18.toNat * 1)) (.int .i64 y17) fun h22 => (chkP a1 fun a23 => ∃ (x24 : Option Addr) (x24l : Nat) (x24c : Nat), cell h22 (a23.add 1) = some (.slice x24 x24l x24c) ∧ chkP x24 fun a25 => (0 ≤ y17 ∧ y17 < (x24l : Int)) ∧ ∃ (x26 : Int), cell h22 (a25.add (y17.toNat * 1)) = some (.int .i64 x26) ∧ chkP a1 fun a27 => ∃ (x28 : Option Addr) (x28l : Nat) (x28c : Nat), cell h22 (a27.add 1) = some (.slice x28 x28l x28c) ∧ chkP x28 fun a29 => (0 ≤ y18 ∧ y18 < (x28l : Int)) ∧ ∃ (x30 : Int), cell h22 (a29.add (y18.toNat * 1)) = some (.int .i64 x30) ∧ chkP x24 fun a31 => (0 ≤ y17 ∧ y17 < (x24l : Int)) ∧ stC h22 (a31.add (y17.toNat * 1)) (.int .i64 (IntKind.i64.wrap (x26 + x30))) fun h32 => (chkP a1 fun a33 => ∃ (x34 : Option Addr) (x34l : Nat) (x34c : Nat), cell h32 (a33.add 2) = some (.slice x34 x34l x34c) ∧ chkP a1 fun a35 => ∃ (x36 : Option Addr) (x36l : Nat) (x36c : Nat), cell h32 (a35.add 2) = some (.slice x36 x36l x36c) ∧ chkP x36 fun a37 => (0 ≤ y17 ∧ y17 < (x36l : Int)) ∧ ∃ (x38 : Int), cell h32 (a37.add (y17.toNat * 1)) = some (.int .i64 x38) ∧ chkP a1 fun a39 => ∃ (x40 : Option Addr) (x40l : Nat) (x40c : Nat), cell h32 (a39.add 2) = some (.slice x40 x40l x40c) ∧ chkP x40 fun a41 => (0 ≤ y18 ∧ y18 < (x40l : Int)) ∧ ∃ (x42 : Int), cell h32 (a41.add (y18.toNat * 1)) = some (.int .i64 x42) ∧ chkP x34 fun a43 => (0 ≤ y17 ∧ y17 < (x34l : Int)) ∧ stC h32 (a43.add (y17.toNat * 1)) (.int .i64 (if x42 < x38 then x42 else x38)) fun h44 => (chkP a1 fun a45 => ∃ (x46 : Int), cell h44 (a45.add 3) = some (.int .i64 x46) ∧ chkP a1 fun a47 => stC h44 (a47.add 3) (.int .i64 (IntKind.i64.wrap (x46 - 1))) fun h48 => K true h48))));
  chkP a1 fun a9 => ∃ (x10 : Option Addr) (x10l : Nat) (x10c : Nat), cell h7 (a9.add 1) = some (.slice x10 x10l x10c) ∧ chkP x10 fun a11 => (0 ≤ x4 ∧ x4 < (x10l : Int)) ∧ ∃ (x12 : Int), cell h7 (a11.add (x4.toNat * 1)) = some (.int .i64 x12) ∧ chkP a1 fun a13 => ∃ (x14 : Option Addr) (x14l : Nat) (x14c : Nat), cell h7 (a13.add 1) = some (.slice x14 x14l x14c) ∧ chkP x14 fun a15 => (0 ≤ x6 ∧ x6 < (x14l : Int)) ∧ ∃ (x16 : Int), cell h7 (a15.add (x6.toNat * 1)) = some (.int .i64 x16) ∧ (iteB (decide (x12 < x16)) ((j49 x6 x4)) ((j49 x4 x6))));
  iteB (decide (x4 < (0 : Int))) (K false h7) (iteB (decide (x6 < (0 : Int))) (K false h7) ((iteB (x4 == x6) (K false h7) ((j50)))))))
def dsu_Classes_Join.ret (K : Bool → Heap → Prop) (v : Value) (h : Heap) : Prop := match v with
  | (.bool r51) => K r51 h
  | _ => False
theorem dsu_Classes_Join.ret_elim {K : Bool → Heap → Prop} {K' : Value → Heap → Prop} {v : Value} {h : Heap} (hk : ∀ r51 h, K r51 h → K' (.bool r51) h) (hh : dsu_Classes_Join.ret K v h) : K' v h := by
  unfold dsu_Classes_Join.ret at hh
  split at hh
  · exact hk _ _ hh
  · exact hh.elim
def dsu_Classes_Join.call (f : FuncId) (vs : List Value) (h : Heap) (K : Value → Heap → Prop) : Prop := match f, vs with
  | 22, [(.pointer a1), (.int .i64 a2)] => callP1 (dsu_Classes_root a1 a2 h) fun r29 h' => K (.int .i64 r29) h'
  | _, _ => False
noncomputable def dsu_Classes_Join.ctx : Ctx := { P := Try.prog, call := dsu_Classes_Join.call, qcall := fun _ _ _ _ => False, quiet := fun f => Nat.beq f 1000045, loop := fun _ _ _ _ => False }
theorem dsu_Classes_Join.ok : dsu_Classes_Join.ctx.OK where
  mixed := by kernel_rfl
  mono := by
    intro f args h K K' hh hk
    change dsu_Classes_Join.call f args h K at hh
    change dsu_Classes_Join.call f args h K'
    unfold dsu_Classes_Join.call at hh ⊢
    split at hh
    · obtain ⟨R, h1, h2⟩ := hh
      exact ⟨R, h1, fun _ x hr => hk _ _ (h2 _ x hr)⟩
    · exact hh.elim
  call := by
    intro f args h K hh w hw
    change dsu_Classes_Join.call f args h K at hh
    unfold dsu_Classes_Join.call at hh
    split at hh
    · obtain ⟨R, h1, h2⟩ := hh
      obtain ⟨g1, g2⟩ := dsu_Classes_root.calls h1 w hw
      exact ⟨g1, g2.mono fun e w' ⟨v, he, ho, hr⟩ => ⟨v, he, ho, dsu_Classes_root.ret_elim h2 hr⟩⟩
    · exact hh.elim
  qmono := fun hh _ => hh.elim
  qval := fun hh => hh.elim
  qcall := fun hh => hh.elim
noncomputable def dsu_Classes_Join.code : Code := (Try.f11.body).getD .skip
def dsu_Classes_Join.ann : Ann := (.two .auto (.two .auto (.two .auto (.two (.two (.reg [0, 1, 3, 7, 0, 31, 63, 0, 128, 384, 896, 0, 3968, 8064, 16383] (.take 0 (.take 1 (.take 2 (.take 3 (.take 4 (.take 5 (.take 6 (.take 7 (.take 8 (.take 9 (.take 10 (.take 11 (.take 12 (.take 13 (.take 14 .done)))))))))))))))) .auto) (.two .auto (.two (.reg [0, 1, 3, 7, 0, 31, 63, 0, 128, 384, 896, 0, 3968, 8064, 16383, 32767, 65535] (.take 0 (.take 1 (.take 2 (.take 3 (.take 4 (.take 5 (.take 6 (.take 7 (.take 8 (.take 9 (.take 10 (.take 11 (.take 12 (.take 13 (.take 14 (.take 15 (.alt 16 .done .noalt)))))))))))))))))) (.two (.reg [0, 1, 3, 7, 0, 0, 32, 96, 224, 0, 992, 2016, 0, 4096, 12288, 28672, 0, 126976, 258048, 524256, 1048575, 2097151] (.take 0 (.take 1 (.take 2 (.take 3 (.take 4 (.take 5 (.take 6 (.take 7 (.take 8 (.take 9 (.take 10 (.take 11 (.take 12 (.take 13 (.take 14 (.take 15 (.take 16 (.take 17 (.take 18 (.take 19 (.take 20 (.alt 21 .done .noalt))))))))))))))))))))))) .auto)))))))
set_option maxRecDepth 100000 in
theorem dsu_Classes_Join.eq (a1 : Option Addr) (a2 : Int) (a3 : Int) (h : Heap) (K : Bool → Heap → Prop) : evF dsu_Classes_Join.ctx Try.f11 dsu_Classes_Join.ann [(.pointer a1), (.int .i64 a2), (.int .i64 a3)] h (dsu_Classes_Join.ret K) = dsu_Classes_Join a1 a2 a3 h K := by kernel_rfl
set_option maxRecDepth 100000 in
theorem dsu_Classes_Join.calls {a1 : Option Addr} {a2 : Int} {a3 : Int} {h : Heap} {K : Bool → Heap → Prop} (hh : dsu_Classes_Join a1 a2 a3 h K) (w : World) (hw : w.heap = h) :
    (callFunc 11 #[(.pointer a1), (.int .i64 a2), (.int .i64 a3)]).run Try.prog w = .ok (.enter 11 #[(.pointer a1), (.int .i64 a2), (.int .i64 a3)]) w ∧ Calls Try.prog 11 #[(.pointer a1), (.int .i64 a2), (.int .i64 a3)] w fun e w' => ∃ v, e = .returned v ∧ Out w w' ∧ dsu_Classes_Join.ret K v w'.heap := by
  rw [← dsu_Classes_Join.eq] at hh
  exact fn_calls (args := [(.pointer a1), (.int .i64 a2), (.int .i64 a3)]) (c := dsu_Classes_Join.code) dsu_Classes_Join.ok Try.func11 (by kernel_rfl) (by kernel_rfl) (by kernel_rfl) (by kernel_rfl) (loops_ok (l := []) (by kernel_rfl) trivial) hh w hw

/-! ### (*strait/dsu.Classes).Of: function 18 -/
def dsu_Classes_Of (a1 : Option Addr) (a2 : Int) (h : Heap) (K : Int → Heap → Prop) : Prop :=
  (callP1 (dsu_Classes_root a1 a2 h) fun x3 h4 => ((iteB (decide (x3 < (0 : Int))) ((K (-1) h4)) ((chkP a1 fun a5 => ∃ (x6 : Option Addr) (x6l : Nat) (x6c : Nat), cell h4 (a5.add 2) = some (.slice x6 x6l x6c) ∧ chkP x6 fun a7 => (0 ≤ x3 ∧ x3 < (x6l : Int)) ∧ ∃ (x8 : Int), cell h4 (a7.add (x3.toNat * 1)) = some (.int .i64 x8) ∧ K x8 h4)))))
def dsu_Classes_Of.ret (K : Int → Heap → Prop) (v : Value) (h : Heap) : Prop := match v with
  | (.int .i64 r9) => K r9 h
  | _ => False
theorem dsu_Classes_Of.ret_elim {K : Int → Heap → Prop} {K' : Value → Heap → Prop} {v : Value} {h : Heap} (hk : ∀ r9 h, K r9 h → K' (.int .i64 r9) h) (hh : dsu_Classes_Of.ret K v h) : K' v h := by
  unfold dsu_Classes_Of.ret at hh
  split at hh
  · exact hk _ _ hh
  · exact hh.elim
def dsu_Classes_Of.call (f : FuncId) (vs : List Value) (h : Heap) (K : Value → Heap → Prop) : Prop := match f, vs with
  | 22, [(.pointer a1), (.int .i64 a2)] => callP1 (dsu_Classes_root a1 a2 h) fun r29 h' => K (.int .i64 r29) h'
  | _, _ => False
noncomputable def dsu_Classes_Of.ctx : Ctx := { P := Try.prog, call := dsu_Classes_Of.call, qcall := fun _ _ _ _ => False, quiet := fun f => Nat.beq f 1000045, loop := fun _ _ _ _ => False }
theorem dsu_Classes_Of.ok : dsu_Classes_Of.ctx.OK where
  mixed := by kernel_rfl
  mono := by
    intro f args h K K' hh hk
    change dsu_Classes_Of.call f args h K at hh
    change dsu_Classes_Of.call f args h K'
    unfold dsu_Classes_Of.call at hh ⊢
    split at hh
    · obtain ⟨R, h1, h2⟩ := hh
      exact ⟨R, h1, fun _ x hr => hk _ _ (h2 _ x hr)⟩
    · exact hh.elim
  call := by
    intro f args h K hh w hw
    change dsu_Classes_Of.call f args h K at hh
    unfold dsu_Classes_Of.call at hh
    split at hh
    · obtain ⟨R, h1, h2⟩ := hh
      obtain ⟨g1, g2⟩ := dsu_Classes_root.calls h1 w hw
      exact ⟨g1, g2.mono fun e w' ⟨v, he, ho, hr⟩ => ⟨v, he, ho, dsu_Classes_root.ret_elim h2 hr⟩⟩
    · exact hh.elim
  qmono := fun hh _ => hh.elim
  qval := fun hh => hh.elim
  qcall := fun hh => hh.elim
noncomputable def dsu_Classes_Of.code : Code := (Try.f18.body).getD .skip
def dsu_Classes_Of.ann : Ann := .auto
set_option maxRecDepth 100000 in
theorem dsu_Classes_Of.eq (a1 : Option Addr) (a2 : Int) (h : Heap) (K : Int → Heap → Prop) : evF dsu_Classes_Of.ctx Try.f18 dsu_Classes_Of.ann [(.pointer a1), (.int .i64 a2)] h (dsu_Classes_Of.ret K) = dsu_Classes_Of a1 a2 h K := by kernel_rfl
set_option maxRecDepth 100000 in
theorem dsu_Classes_Of.calls {a1 : Option Addr} {a2 : Int} {h : Heap} {K : Int → Heap → Prop} (hh : dsu_Classes_Of a1 a2 h K) (w : World) (hw : w.heap = h) :
    (callFunc 18 #[(.pointer a1), (.int .i64 a2)]).run Try.prog w = .ok (.enter 18 #[(.pointer a1), (.int .i64 a2)]) w ∧ Calls Try.prog 18 #[(.pointer a1), (.int .i64 a2)] w fun e w' => ∃ v, e = .returned v ∧ Out w w' ∧ dsu_Classes_Of.ret K v w'.heap := by
  rw [← dsu_Classes_Of.eq] at hh
  exact fn_calls (args := [(.pointer a1), (.int .i64 a2)]) (c := dsu_Classes_Of.code) dsu_Classes_Of.ok Try.func18 (by kernel_rfl) (by kernel_rfl) (by kernel_rfl) (by kernel_rfl) (loops_ok (l := []) (by kernel_rfl) trivial) hh w hw

/-! ### (*strait/dsu.Classes).Count: function 19 -/
def dsu_Classes_Count (a1 : Option Addr) (h : Heap) (K : Int → Heap → Prop) : Prop :=
  ((iteB a1.isNone (K 0 h) ((chkP a1 fun a2 => ∃ (x3 : Int), cell h (a2.add 3) = some (.int .i64 x3) ∧ K x3 h))))
def dsu_Classes_Count.ret (K : Int → Heap → Prop) (v : Value) (h : Heap) : Prop := match v with
  | (.int .i64 r4) => K r4 h
  | _ => False
theorem dsu_Classes_Count.ret_elim {K : Int → Heap → Prop} {K' : Value → Heap → Prop} {v : Value} {h : Heap} (hk : ∀ r4 h, K r4 h → K' (.int .i64 r4) h) (hh : dsu_Classes_Count.ret K v h) : K' v h := by
  unfold dsu_Classes_Count.ret at hh
  split at hh
  · exact hk _ _ hh
  · exact hh.elim
noncomputable def dsu_Classes_Count.ctx : Ctx := { P := Try.prog, call := fun _ _ _ _ => False, qcall := fun _ _ _ _ => False, quiet := fun f => Nat.beq f 1000045, loop := fun _ _ _ _ => False }
theorem dsu_Classes_Count.ok : dsu_Classes_Count.ctx.OK where
  mixed := by kernel_rfl
  mono := fun hh _ => hh.elim
  call := fun hh => hh.elim
  qmono := fun hh _ => hh.elim
  qval := fun hh => hh.elim
  qcall := fun hh => hh.elim
noncomputable def dsu_Classes_Count.code : Code := (Try.f19.body).getD .skip
def dsu_Classes_Count.ann : Ann := .auto
set_option maxRecDepth 100000 in
theorem dsu_Classes_Count.eq (a1 : Option Addr) (h : Heap) (K : Int → Heap → Prop) : evF dsu_Classes_Count.ctx Try.f19 dsu_Classes_Count.ann [(.pointer a1)] h (dsu_Classes_Count.ret K) = dsu_Classes_Count a1 h K := by kernel_rfl
set_option maxRecDepth 100000 in
theorem dsu_Classes_Count.calls {a1 : Option Addr} {h : Heap} {K : Int → Heap → Prop} (hh : dsu_Classes_Count a1 h K) (w : World) (hw : w.heap = h) :
    (callFunc 19 #[(.pointer a1)]).run Try.prog w = .ok (.enter 19 #[(.pointer a1)]) w ∧ Calls Try.prog 19 #[(.pointer a1)] w fun e w' => ∃ v, e = .returned v ∧ Out w w' ∧ dsu_Classes_Count.ret K v w'.heap := by
  rw [← dsu_Classes_Count.eq] at hh
  exact fn_calls (args := [(.pointer a1)]) (c := dsu_Classes_Count.code) dsu_Classes_Count.ok Try.func19 (by kernel_rfl) (by kernel_rfl) (by kernel_rfl) (by kernel_rfl) (loops_ok (l := []) (by kernel_rfl) trivial) hh w hw

/-! ### (*strait/dsu.Classes).Size: function 20 -/
def dsu_Classes_Size (a1 : Option Addr) (a2 : Int) (h : Heap) (K : Int → Heap → Prop) : Prop :=
  (callP1 (dsu_Classes_root a1 a2 h) fun x3 h4 => ((iteB (decide (x3 < (0 : Int))) (K 0 h4) ((chkP a1 fun a5 => ∃ (x6 : Option Addr) (x6l : Nat) (x6c : Nat), cell h4 (a5.add 1) = some (.slice x6 x6l x6c) ∧ chkP x6 fun a7 => (0 ≤ x3 ∧ x3 < (x6l : Int)) ∧ ∃ (x8 : Int), cell h4 (a7.add (x3.toNat * 1)) = some (.int .i64 x8) ∧ K x8 h4)))))
def dsu_Classes_Size.ret (K : Int → Heap → Prop) (v : Value) (h : Heap) : Prop := match v with
  | (.int .i64 r9) => K r9 h
  | _ => False
theorem dsu_Classes_Size.ret_elim {K : Int → Heap → Prop} {K' : Value → Heap → Prop} {v : Value} {h : Heap} (hk : ∀ r9 h, K r9 h → K' (.int .i64 r9) h) (hh : dsu_Classes_Size.ret K v h) : K' v h := by
  unfold dsu_Classes_Size.ret at hh
  split at hh
  · exact hk _ _ hh
  · exact hh.elim
def dsu_Classes_Size.call (f : FuncId) (vs : List Value) (h : Heap) (K : Value → Heap → Prop) : Prop := match f, vs with
  | 22, [(.pointer a1), (.int .i64 a2)] => callP1 (dsu_Classes_root a1 a2 h) fun r29 h' => K (.int .i64 r29) h'
  | _, _ => False
noncomputable def dsu_Classes_Size.ctx : Ctx := { P := Try.prog, call := dsu_Classes_Size.call, qcall := fun _ _ _ _ => False, quiet := fun f => Nat.beq f 1000045, loop := fun _ _ _ _ => False }
theorem dsu_Classes_Size.ok : dsu_Classes_Size.ctx.OK where
  mixed := by kernel_rfl
  mono := by
    intro f args h K K' hh hk
    change dsu_Classes_Size.call f args h K at hh
    change dsu_Classes_Size.call f args h K'
    unfold dsu_Classes_Size.call at hh ⊢
    split at hh
    · obtain ⟨R, h1, h2⟩ := hh
      exact ⟨R, h1, fun _ x hr => hk _ _ (h2 _ x hr)⟩
    · exact hh.elim
  call := by
    intro f args h K hh w hw
    change dsu_Classes_Size.call f args h K at hh
    unfold dsu_Classes_Size.call at hh
    split at hh
    · obtain ⟨R, h1, h2⟩ := hh
      obtain ⟨g1, g2⟩ := dsu_Classes_root.calls h1 w hw
      exact ⟨g1, g2.mono fun e w' ⟨v, he, ho, hr⟩ => ⟨v, he, ho, dsu_Classes_root.ret_elim h2 hr⟩⟩
    · exact hh.elim
  qmono := fun hh _ => hh.elim
  qval := fun hh => hh.elim
  qcall := fun hh => hh.elim
noncomputable def dsu_Classes_Size.code : Code := (Try.f20.body).getD .skip
def dsu_Classes_Size.ann : Ann := .auto
set_option maxRecDepth 100000 in
theorem dsu_Classes_Size.eq (a1 : Option Addr) (a2 : Int) (h : Heap) (K : Int → Heap → Prop) : evF dsu_Classes_Size.ctx Try.f20 dsu_Classes_Size.ann [(.pointer a1), (.int .i64 a2)] h (dsu_Classes_Size.ret K) = dsu_Classes_Size a1 a2 h K := by kernel_rfl
set_option maxRecDepth 100000 in
theorem dsu_Classes_Size.calls {a1 : Option Addr} {a2 : Int} {h : Heap} {K : Int → Heap → Prop} (hh : dsu_Classes_Size a1 a2 h K) (w : World) (hw : w.heap = h) :
    (callFunc 20 #[(.pointer a1), (.int .i64 a2)]).run Try.prog w = .ok (.enter 20 #[(.pointer a1), (.int .i64 a2)]) w ∧ Calls Try.prog 20 #[(.pointer a1), (.int .i64 a2)] w fun e w' => ∃ v, e = .returned v ∧ Out w w' ∧ dsu_Classes_Size.ret K v w'.heap := by
  rw [← dsu_Classes_Size.eq] at hh
  exact fn_calls (args := [(.pointer a1), (.int .i64 a2)]) (c := dsu_Classes_Size.code) dsu_Classes_Size.ok Try.func20 (by kernel_rfl) (by kernel_rfl) (by kernel_rfl) (by kernel_rfl) (loops_ok (l := []) (by kernel_rfl) trivial) hh w hw

/-! ### strait/straitlaw10.awake: function 5 -/
def straitlaw10_awake (h : Heap) (K : Bool → Heap → Prop) : Prop :=
  (callP1 (dsu_New 4 h) fun x1 h2 => (iteB (!x1.isNone) (callP1 (dsu_Classes_Join x1 2 1 h2) fun x3 h4 => iteB x3 (callP1 (dsu_Classes_Join x1 0 2 h4) fun x5 h6 => iteB x5 (callP1 (dsu_Classes_Join x1 1 0 h6) fun x7 h8 => iteB (!x7) (callP1 (dsu_Classes_Of x1 2 h8) fun x9 h10 => iteB (x9 == (0 : Int)) (qcallP1 h10 (dsu_Classes_Count x1 h10) fun x11 => iteB (x11 == (2 : Int)) (callP1 (dsu_Classes_Size x1 1 h10) fun x12 h13 => (K (x12 == (3 : Int)) h13)) (K false h10)) (K false h10)) (K false h8)) (K false h6)) (K false h4)) (K false h2)))
def straitlaw10_awake.ret (K : Bool → Heap → Prop) (v : Value) (h : Heap) : Prop := match v with
  | (.bool r16) => K r16 h
  | _ => False
theorem straitlaw10_awake.ret_elim {K : Bool → Heap → Prop} {K' : Value → Heap → Prop} {v : Value} {h : Heap} (hk : ∀ r16 h, K r16 h → K' (.bool r16) h) (hh : straitlaw10_awake.ret K v h) : K' v h := by
  unfold straitlaw10_awake.ret at hh
  split at hh
  · exact hk _ _ hh
  · exact hh.elim
def straitlaw10_awake.call (f : FuncId) (vs : List Value) (h : Heap) (K : Value → Heap → Prop) : Prop := match f, vs with
  | 6, [(.int .i64 a1)] => callP1 (dsu_New a1 h) fun r50 h' => K (.pointer r50) h'
  | 11, [(.pointer a1), (.int .i64 a2), (.int .i64 a3)] => callP1 (dsu_Classes_Join a1 a2 a3 h) fun r51 h' => K (.bool r51) h'
  | 18, [(.pointer a1), (.int .i64 a2)] => callP1 (dsu_Classes_Of a1 a2 h) fun r9 h' => K (.int .i64 r9) h'
  | 20, [(.pointer a1), (.int .i64 a2)] => callP1 (dsu_Classes_Size a1 a2 h) fun r9 h' => K (.int .i64 r9) h'
  | _, _ => False
def straitlaw10_awake.qcall (f : FuncId) (vs : List Value) (h : Heap) (K : Value → Prop) : Prop := match f, vs with
  | 19, [(.pointer a1)] => qcallP1 h (dsu_Classes_Count a1 h) fun r4 => K (.int .i64 r4)
  | _, _ => False
noncomputable def straitlaw10_awake.ctx : Ctx := { P := Try.prog, call := straitlaw10_awake.call, qcall := straitlaw10_awake.qcall, quiet := fun f => Nat.beq f 19 || Nat.beq f 1000045, loop := fun _ _ _ _ => False }
theorem straitlaw10_awake.ok : straitlaw10_awake.ctx.OK where
  mixed := by kernel_rfl
  mono := by
    intro f args h K K' hh hk
    change straitlaw10_awake.call f args h K at hh
    change straitlaw10_awake.call f args h K'
    unfold straitlaw10_awake.call at hh ⊢
    split at hh
    · obtain ⟨R, h1, h2⟩ := hh
      exact ⟨R, h1, fun _ x hr => hk _ _ (h2 _ x hr)⟩
    · obtain ⟨R, h1, h2⟩ := hh
      exact ⟨R, h1, fun _ x hr => hk _ _ (h2 _ x hr)⟩
    · obtain ⟨R, h1, h2⟩ := hh
      exact ⟨R, h1, fun _ x hr => hk _ _ (h2 _ x hr)⟩
    · obtain ⟨R, h1, h2⟩ := hh
      exact ⟨R, h1, fun _ x hr => hk _ _ (h2 _ x hr)⟩
    · exact hh.elim
  call := by
    intro f args h K hh w hw
    change straitlaw10_awake.call f args h K at hh
    unfold straitlaw10_awake.call at hh
    split at hh
    · obtain ⟨R, h1, h2⟩ := hh
      obtain ⟨g1, g2⟩ := dsu_New.calls h1 w hw
      exact ⟨g1, g2.mono fun e w' ⟨v, he, ho, hr⟩ => ⟨v, he, ho, dsu_New.ret_elim h2 hr⟩⟩
    · obtain ⟨R, h1, h2⟩ := hh
      obtain ⟨g1, g2⟩ := dsu_Classes_Join.calls h1 w hw
      exact ⟨g1, g2.mono fun e w' ⟨v, he, ho, hr⟩ => ⟨v, he, ho, dsu_Classes_Join.ret_elim h2 hr⟩⟩
    · obtain ⟨R, h1, h2⟩ := hh
      obtain ⟨g1, g2⟩ := dsu_Classes_Of.calls h1 w hw
      exact ⟨g1, g2.mono fun e w' ⟨v, he, ho, hr⟩ => ⟨v, he, ho, dsu_Classes_Of.ret_elim h2 hr⟩⟩
    · obtain ⟨R, h1, h2⟩ := hh
      obtain ⟨g1, g2⟩ := dsu_Classes_Size.calls h1 w hw
      exact ⟨g1, g2.mono fun e w' ⟨v, he, ho, hr⟩ => ⟨v, he, ho, dsu_Classes_Size.ret_elim h2 hr⟩⟩
    · exact hh.elim
  qmono := by
    intro f args h K K' hh hk
    change straitlaw10_awake.qcall f args h K at hh
    change straitlaw10_awake.qcall f args h K'
    unfold straitlaw10_awake.qcall at hh ⊢
    split at hh
    · obtain ⟨x0, h1, h2⟩ := hh
      exact ⟨x0, h1, hk _ h2⟩
    · exact hh.elim
  qval := by
    intro f args h K hh
    change straitlaw10_awake.qcall f args h K at hh
    suffices H : ∃ v, K v ∧ straitlaw10_awake.qcall f args h (· = v) from H
    unfold straitlaw10_awake.qcall at hh ⊢
    split at hh
    · obtain ⟨x0, h1, h2⟩ := hh
      exact ⟨_, h2, x0, h1, rfl⟩
    · exact hh.elim
  qcall := by
    intro f args h v hh w hw
    change straitlaw10_awake.qcall f args h (· = v) at hh
    unfold straitlaw10_awake.qcall at hh
    split at hh
    · obtain ⟨x0, h1, h2⟩ := hh
      obtain ⟨g1, g2⟩ := dsu_Classes_Count.calls h1 w hw
      refine .inl ⟨g1, g2.mono fun e w' ⟨u, he, ho, hr⟩ => ?_⟩
      have hq := dsu_Classes_Count.ret_elim (K' := fun u h' => u = v ∧ h' = h) (fun _ h' hr => by obtain ⟨rfl, rfl⟩ := hr; exact ⟨h2, rfl⟩) hr
      exact ⟨hq.1 ▸ he, ho, hq.2⟩
    · exact hh.elim
noncomputable def straitlaw10_awake.code : Code := (Try.f5.body).getD .skip
def straitlaw10_awake.ann : Ann := .auto
set_option maxRecDepth 100000 in
theorem straitlaw10_awake.eq (h : Heap) (K : Bool → Heap → Prop) : evF straitlaw10_awake.ctx Try.f5 straitlaw10_awake.ann [] h (straitlaw10_awake.ret K) = straitlaw10_awake h K := by kernel_rfl
set_option maxRecDepth 100000 in
theorem straitlaw10_awake.calls {h : Heap} {K : Bool → Heap → Prop} (hh : straitlaw10_awake h K) (w : World) (hw : w.heap = h) :
    (callFunc 5 #[]).run Try.prog w = .ok (.enter 5 #[]) w ∧ Calls Try.prog 5 #[] w fun e w' => ∃ v, e = .returned v ∧ Out w w' ∧ straitlaw10_awake.ret K v w'.heap := by
  rw [← straitlaw10_awake.eq] at hh
  exact fn_calls (args := []) (c := straitlaw10_awake.code) straitlaw10_awake.ok Try.func5 (by kernel_rfl) (by kernel_rfl) (by kernel_rfl) (by kernel_rfl) (loops_ok (l := []) (by kernel_rfl) trivial) hh w hw

/-! ### strait/straitref09.Room: function 21 -/
def straitref09_Room (a1 : Int) (h : Heap) (K : Int → Heap → Prop) : Prop :=
  (bindV (if (if 4096 < a1 then 4096 else a1) > 0 then (if 4096 < a1 then 4096 else a1) else 0) fun n2 => K n2 h)
def straitref09_Room.ret (K : Int → Heap → Prop) (v : Value) (h : Heap) : Prop := match v with
  | (.int .i64 r3) => K r3 h
  | _ => False
theorem straitref09_Room.ret_elim {K : Int → Heap → Prop} {K' : Value → Heap → Prop} {v : Value} {h : Heap} (hk : ∀ r3 h, K r3 h → K' (.int .i64 r3) h) (hh : straitref09_Room.ret K v h) : K' v h := by
  unfold straitref09_Room.ret at hh
  split at hh
  · exact hk _ _ hh
  · exact hh.elim
noncomputable def straitref09_Room.ctx : Ctx := { P := Try.prog, call := fun _ _ _ _ => False, qcall := fun _ _ _ _ => False, quiet := fun f => Nat.beq f 1000045, loop := fun _ _ _ _ => False }
theorem straitref09_Room.ok : straitref09_Room.ctx.OK where
  mixed := by kernel_rfl
  mono := fun hh _ => hh.elim
  call := fun hh => hh.elim
  qmono := fun hh _ => hh.elim
  qval := fun hh => hh.elim
  qcall := fun hh => hh.elim
noncomputable def straitref09_Room.code : Code := (Try.f21.body).getD .skip
def straitref09_Room.ann : Ann := .auto
set_option maxRecDepth 100000 in
theorem straitref09_Room.eq (a1 : Int) (h : Heap) (K : Int → Heap → Prop) : evF straitref09_Room.ctx Try.f21 straitref09_Room.ann [(.int .i64 a1)] h (straitref09_Room.ret K) = straitref09_Room a1 h K := by kernel_rfl
set_option maxRecDepth 100000 in
theorem straitref09_Room.calls {a1 : Int} {h : Heap} {K : Int → Heap → Prop} (hh : straitref09_Room a1 h K) (w : World) (hw : w.heap = h) :
    (callFunc 21 #[(.int .i64 a1)]).run Try.prog w = .ok (.enter 21 #[(.int .i64 a1)]) w ∧ Calls Try.prog 21 #[(.int .i64 a1)] w fun e w' => ∃ v, e = .returned v ∧ Out w w' ∧ straitref09_Room.ret K v w'.heap := by
  rw [← straitref09_Room.eq] at hh
  exact fn_calls (args := [(.int .i64 a1)]) (c := straitref09_Room.code) straitref09_Room.ok Try.func21 (by kernel_rfl) (by kernel_rfl) (by kernel_rfl) (by kernel_rfl) (loops_ok (l := []) (by kernel_rfl) trivial) hh w hw

/-! ### strait/straitref10.New: function 7 -/
def straitref10_New.b0 (K2 : Heap → Prop) (cont : Int → Addr → Addr → Int → Heap → Prop) (c0_1001 : Int) (c2_1002 : Addr) (c3_1003 : Addr) (v4_1004 : Int) (h1005 : Heap) : Prop :=
  qcallP1 h1005 (straitref09_Room c0_1001 h1005) fun x1006 => (iteB (decide (v4_1004 < x1006)) ((∃ (x1007 : Option Addr) (x1007l : Nat) (x1007c : Nat), cell h1005 c3_1003 = some (.slice x1007 x1007l x1007c) ∧ newP h1005 (.cells #[(.int .i64 v4_1004)] 3) fun a1008 h1009 => ∃ n1014, cellsAt h1009 (some a1008) (1 * 1) n1014 ∧ appP 3 1 8 [(.int .i64 0)] x1007 x1007l x1007c 1 n1014 h1009 fun q1010 l1011 c1012 h1013 => stC h1013 c3_1003 (.slice q1010 l1011 c1012) fun h1015 => ((cont c0_1001 c2_1002 c3_1003 (IntKind.i64.wrap (v4_1004 + 1)) h1015)))) (K2 h1005))
def straitref10_New.l0 (K2 : Heap → Prop) : Nat → Int → Addr → Addr → Int → Heap → Prop
  | 0, _, _, _, _, _ => False
  | m + 1, c0_1001, c2_1002, c3_1003, v4_1004, h => straitref10_New.b0 K2 (straitref10_New.l0 K2 m) c0_1001 c2_1002 c3_1003 v4_1004 h
def straitref10_New (a1 : Int) (h : Heap) (K : (Option Addr) → Nat → Nat → Heap → Prop) : Prop :=
  newP h (.cells #[(.slice none 0 0)] 28) fun a2 h3 => (newP h3 (.cells #[(.slice none 0 0)] 28) fun a4 h5 => ((∃ m7, straitref10_New.l0 (fun h6 => ((∃ (x8 : Option Addr) (x8l : Nat) (x8c : Nat), cell h6 a4 = some (.slice x8 x8l x8c) ∧ stC h6 a2 (.slice x8 x8l x8c) fun h9 => (∃ (x10 : Option Addr) (x10l : Nat) (x10c : Nat), cell h9 a2 = some (.slice x10 x10l x10c) ∧ K x10 x10l x10c h9)))) m7 a1 a2 a4 0 h5)))
def straitref10_New.ret (K : (Option Addr) → Nat → Nat → Heap → Prop) (v : Value) (h : Heap) : Prop := match v with
  | (.agg ⟨[(.slice r11 r11l r11c)]⟩) => K r11 r11l r11c h
  | _ => False
theorem straitref10_New.ret_elim {K : (Option Addr) → Nat → Nat → Heap → Prop} {K' : Value → Heap → Prop} {v : Value} {h : Heap} (hk : ∀ r11 r11l r11c h, K r11 r11l r11c h → K' (.agg #[(.slice r11 r11l r11c)]) h) (hh : straitref10_New.ret K v h) : K' v h := by
  unfold straitref10_New.ret at hh
  split at hh
  · exact hk _ _ _ _ hh
  · exact hh.elim
def straitref10_New.qcall (f : FuncId) (vs : List Value) (h : Heap) (K : Value → Prop) : Prop := match f, vs with
  | 21, [(.int .i64 a1)] => qcallP1 h (straitref09_Room a1 h) fun r3 => K (.int .i64 r3)
  | _, _ => False
def straitref10_New.r0 (K : Nat → List Value → Heap → Prop) (m : Nat) (vs : List Value) (h : Heap) : Prop := match vs with
  | [(.int .i64 c0_1001), (.pointer (some c2_1002)), (.pointer (some c3_1003)), (.int .i64 v4_1004)] => straitref10_New.l0 (fun h' => K 2 [(.pointer (some c2_1002)), (.pointer (some c3_1003))] h') m c0_1001 c2_1002 c3_1003 v4_1004 h
  | _ => False
def straitref10_New.loop (i : Nat) (vs : List Value) (h : Heap) (K : Nat → List Value → Heap → Prop) : Prop := match i with
  | 0 => ∃ m, straitref10_New.r0 K m vs h
  | _ => False
noncomputable def straitref10_New.ctx : Ctx := { P := Try.prog, call := fun _ _ _ _ => False, qcall := straitref10_New.qcall, quiet := fun f => Nat.beq f 21 || Nat.beq f 1000045, loop := straitref10_New.loop }
theorem straitref10_New.ok : straitref10_New.ctx.OK where
  mixed := by kernel_rfl
  mono := fun hh _ => hh.elim
  call := fun hh => hh.elim
  qmono := by
    intro f args h K K' hh hk
    change straitref10_New.qcall f args h K at hh
    change straitref10_New.qcall f args h K'
    unfold straitref10_New.qcall at hh ⊢
    split at hh
    · obtain ⟨x0, h1, h2⟩ := hh
      exact ⟨x0, h1, hk _ h2⟩
    · exact hh.elim
  qval := by
    intro f args h K hh
    change straitref10_New.qcall f args h K at hh
    suffices H : ∃ v, K v ∧ straitref10_New.qcall f args h (· = v) from H
    unfold straitref10_New.qcall at hh ⊢
    split at hh
    · obtain ⟨x0, h1, h2⟩ := hh
      exact ⟨_, h2, x0, h1, rfl⟩
    · exact hh.elim
  qcall := by
    intro f args h v hh w hw
    change straitref10_New.qcall f args h (· = v) at hh
    unfold straitref10_New.qcall at hh
    split at hh
    · obtain ⟨x0, h1, h2⟩ := hh
      obtain ⟨g1, g2⟩ := straitref09_Room.calls h1 w hw
      refine .inl ⟨g1, g2.mono fun e w' ⟨u, he, ho, hr⟩ => ?_⟩
      have hq := straitref09_Room.ret_elim (K' := fun u h' => u = v ∧ h' = h) (fun _ h' hr => by obtain ⟨rfl, rfl⟩ := hr; exact ⟨h2, rfl⟩) hr
      exact ⟨hq.1 ▸ he, ho, hq.2⟩
    · exact hh.elim
noncomputable def straitref10_New.code : Code := (Try.f7.body).getD .skip
def straitref10_New.ann : Ann := (.two .auto (.two .auto (.two (.two .auto (.two (.loop 0 [0, 2, 3, 4] [(2, [2, 3])] .auto) .auto)) .auto)))
noncomputable def straitref10_New.c0 : Code := sub straitref10_New.code [1, 1, 0, 1, 0, 0]
def straitref10_New.a0 : Ann := .auto
def straitref10_New.keep0 : List Nat := [0, 2, 3, 4]
def straitref10_New.outs0 : List (Nat × List Nat) := [(2, [2, 3])]
set_option maxRecDepth 100000 in
theorem straitref10_New.L0 : LoopOK straitref10_New.ctx 18 straitref10_New.c0 0 straitref10_New.keep0 straitref10_New.outs0 := by
  refine loop_ok (n := straitref10_New.a0) straitref10_New.ok (by kernel_rfl) (loops_ok (l := []) (by kernel_rfl) ?_) straitref10_New.r0 ?_ ?_ (fun vs h K hh => hh)
  · exact trivial
  · intro K vs h hh
    unfold straitref10_New.r0 at hh
    split at hh
    · exact hh
    · exact hh
  · intro K m vs h hh
    unfold straitref10_New.r0 at hh
    split at hh
    · exact cast (by kernel_rfl) hh
    · exact hh.elim
set_option maxRecDepth 100000 in
theorem straitref10_New.eq (a1 : Int) (h : Heap) (K : (Option Addr) → Nat → Nat → Heap → Prop) : evF straitref10_New.ctx Try.f7 straitref10_New.ann [(.int .i64 a1)] h (straitref10_New.ret K) = straitref10_New a1 h K := by kernel_rfl
set_option maxRecDepth 100000 in
theorem straitref10_New.calls {a1 : Int} {h : Heap} {K : (Option Addr) → Nat → Nat → Heap → Prop} (hh : straitref10_New a1 h K) (w : World) (hw : w.heap = h) :
    (callFunc 7 #[(.int .i64 a1)]).run Try.prog w = .ok (.enter 7 #[(.int .i64 a1)]) w ∧ Calls Try.prog 7 #[(.int .i64 a1)] w fun e w' => ∃ v, e = .returned v ∧ Out w w' ∧ straitref10_New.ret K v w'.heap := by
  rw [← straitref10_New.eq] at hh
  exact fn_calls (args := [(.int .i64 a1)]) (c := straitref10_New.code) straitref10_New.ok Try.func7 (by kernel_rfl) (by kernel_rfl) (by kernel_rfl) (by kernel_rfl) (loops_ok (l := [(straitref10_New.c0, none, 0, straitref10_New.keep0, straitref10_New.outs0)]) (by kernel_rfl) ⟨straitref10_New.L0, trivial⟩) hh w hw

/-! ### (*strait/dsu.Classes).Same: function 8 -/
def dsu_Classes_Same (a1 : Option Addr) (a2 : Int) (a3 : Int) (h : Heap) (K : Bool → Heap → Prop) : Prop :=
  (callP1 (dsu_Classes_root a1 a2 h) fun x4 h5 => callP1 (dsu_Classes_root a1 a3 h5) fun x6 h7 => (iteB (decide (x4 ≥ (0 : Int))) ((K (x4 == x6) h7)) (K false h7)))
def dsu_Classes_Same.ret (K : Bool → Heap → Prop) (v : Value) (h : Heap) : Prop := match v with
  | (.bool r9) => K r9 h
  | _ => False
theorem dsu_Classes_Same.ret_elim {K : Bool → Heap → Prop} {K' : Value → Heap → Prop} {v : Value} {h : Heap} (hk : ∀ r9 h, K r9 h → K' (.bool r9) h) (hh : dsu_Classes_Same.ret K v h) : K' v h := by
  unfold dsu_Classes_Same.ret at hh
  split at hh
  · exact hk _ _ hh
  · exact hh.elim
def dsu_Classes_Same.call (f : FuncId) (vs : List Value) (h : Heap) (K : Value → Heap → Prop) : Prop := match f, vs with
  | 22, [(.pointer a1), (.int .i64 a2)] => callP1 (dsu_Classes_root a1 a2 h) fun r29 h' => K (.int .i64 r29) h'
  | _, _ => False
noncomputable def dsu_Classes_Same.ctx : Ctx := { P := Try.prog, call := dsu_Classes_Same.call, qcall := fun _ _ _ _ => False, quiet := fun f => Nat.beq f 1000045, loop := fun _ _ _ _ => False }
theorem dsu_Classes_Same.ok : dsu_Classes_Same.ctx.OK where
  mixed := by kernel_rfl
  mono := by
    intro f args h K K' hh hk
    change dsu_Classes_Same.call f args h K at hh
    change dsu_Classes_Same.call f args h K'
    unfold dsu_Classes_Same.call at hh ⊢
    split at hh
    · obtain ⟨R, h1, h2⟩ := hh
      exact ⟨R, h1, fun _ x hr => hk _ _ (h2 _ x hr)⟩
    · exact hh.elim
  call := by
    intro f args h K hh w hw
    change dsu_Classes_Same.call f args h K at hh
    unfold dsu_Classes_Same.call at hh
    split at hh
    · obtain ⟨R, h1, h2⟩ := hh
      obtain ⟨g1, g2⟩ := dsu_Classes_root.calls h1 w hw
      exact ⟨g1, g2.mono fun e w' ⟨v, he, ho, hr⟩ => ⟨v, he, ho, dsu_Classes_root.ret_elim h2 hr⟩⟩
    · exact hh.elim
  qmono := fun hh _ => hh.elim
  qval := fun hh => hh.elim
  qcall := fun hh => hh.elim
noncomputable def dsu_Classes_Same.code : Code := (Try.f8.body).getD .skip
def dsu_Classes_Same.ann : Ann := .auto
set_option maxRecDepth 100000 in
theorem dsu_Classes_Same.eq (a1 : Option Addr) (a2 : Int) (a3 : Int) (h : Heap) (K : Bool → Heap → Prop) : evF dsu_Classes_Same.ctx Try.f8 dsu_Classes_Same.ann [(.pointer a1), (.int .i64 a2), (.int .i64 a3)] h (dsu_Classes_Same.ret K) = dsu_Classes_Same a1 a2 a3 h K := by kernel_rfl
set_option maxRecDepth 100000 in
theorem dsu_Classes_Same.calls {a1 : Option Addr} {a2 : Int} {a3 : Int} {h : Heap} {K : Bool → Heap → Prop} (hh : dsu_Classes_Same a1 a2 a3 h K) (w : World) (hw : w.heap = h) :
    (callFunc 8 #[(.pointer a1), (.int .i64 a2), (.int .i64 a3)]).run Try.prog w = .ok (.enter 8 #[(.pointer a1), (.int .i64 a2), (.int .i64 a3)]) w ∧ Calls Try.prog 8 #[(.pointer a1), (.int .i64 a2), (.int .i64 a3)] w fun e w' => ∃ v, e = .returned v ∧ Out w w' ∧ dsu_Classes_Same.ret K v w'.heap := by
  rw [← dsu_Classes_Same.eq] at hh
  exact fn_calls (args := [(.pointer a1), (.int .i64 a2), (.int .i64 a3)]) (c := dsu_Classes_Same.code) dsu_Classes_Same.ok Try.func8 (by kernel_rfl) (by kernel_rfl) (by kernel_rfl) (by kernel_rfl) (loops_ok (l := []) (by kernel_rfl) trivial) hh w hw

/-! ### (strait/straitref10.Classes).in: function 23 -/
def straitref10_Classes_in (a1 : Option Addr) (a1l : Nat) (a1c : Nat) (a2 : Int) (h : Heap) (K : Bool → Heap → Prop) : Prop :=
  newP h (.cells #[(.slice a1 a1l a1c)] 28) fun a3 h4 => (iteB (decide (a2 ≥ (0 : Int))) (∃ (x5 : Option Addr) (x5l : Nat) (x5c : Nat), cell h4 a3 = some (.slice x5 x5l x5c) ∧ (K (decide (a2 < (x5l : Int))) h4)) (K false h4))
def straitref10_Classes_in.ret (K : Bool → Heap → Prop) (v : Value) (h : Heap) : Prop := match v with
  | (.bool r7) => K r7 h
  | _ => False
theorem straitref10_Classes_in.ret_elim {K : Bool → Heap → Prop} {K' : Value → Heap → Prop} {v : Value} {h : Heap} (hk : ∀ r7 h, K r7 h → K' (.bool r7) h) (hh : straitref10_Classes_in.ret K v h) : K' v h := by
  unfold straitref10_Classes_in.ret at hh
  split at hh
  · exact hk _ _ hh
  · exact hh.elim
noncomputable def straitref10_Classes_in.ctx : Ctx := { P := Try.prog, call := fun _ _ _ _ => False, qcall := fun _ _ _ _ => False, quiet := fun f => Nat.beq f 1000045, loop := fun _ _ _ _ => False }
theorem straitref10_Classes_in.ok : straitref10_Classes_in.ctx.OK where
  mixed := by kernel_rfl
  mono := fun hh _ => hh.elim
  call := fun hh => hh.elim
  qmono := fun hh _ => hh.elim
  qval := fun hh => hh.elim
  qcall := fun hh => hh.elim
noncomputable def straitref10_Classes_in.code : Code := (Try.f23.body).getD .skip
def straitref10_Classes_in.ann : Ann := .auto
set_option maxRecDepth 100000 in
theorem straitref10_Classes_in.eq (a1 : Option Addr) (a1l : Nat) (a1c : Nat) (a2 : Int) (h : Heap) (K : Bool → Heap → Prop) : evF straitref10_Classes_in.ctx Try.f23 straitref10_Classes_in.ann [(.agg #[(.slice a1 a1l a1c)]), (.int .i64 a2)] h (straitref10_Classes_in.ret K) = straitref10_Classes_in a1 a1l a1c a2 h K := by kernel_rfl
set_option maxRecDepth 100000 in
theorem straitref10_Classes_in.calls {a1 : Option Addr} {a1l : Nat} {a1c : Nat} {a2 : Int} {h : Heap} {K : Bool → Heap → Prop} (hh : straitref10_Classes_in a1 a1l a1c a2 h K) (w : World) (hw : w.heap = h) :
    (callFunc 23 #[(.agg #[(.slice a1 a1l a1c)]), (.int .i64 a2)]).run Try.prog w = .ok (.enter 23 #[(.agg #[(.slice a1 a1l a1c)]), (.int .i64 a2)]) w ∧ Calls Try.prog 23 #[(.agg #[(.slice a1 a1l a1c)]), (.int .i64 a2)] w fun e w' => ∃ v, e = .returned v ∧ Out w w' ∧ straitref10_Classes_in.ret K v w'.heap := by
  rw [← straitref10_Classes_in.eq] at hh
  exact fn_calls (args := [(.agg #[(.slice a1 a1l a1c)]), (.int .i64 a2)]) (c := straitref10_Classes_in.code) straitref10_Classes_in.ok Try.func23 (by kernel_rfl) (by kernel_rfl) (by kernel_rfl) (by kernel_rfl) (loops_ok (l := []) (by kernel_rfl) trivial) hh w hw

/-! ### (strait/straitref10.Classes).Same: function 9 -/
def straitref10_Classes_Same (a1 : Option Addr) (a1l : Nat) (a1c : Nat) (a2 : Int) (a3 : Int) (h : Heap) (K : Bool → Heap → Prop) : Prop :=
  newP h (.cells #[(.slice a1 a1l a1c)] 28) fun a4 h5 => (∃ (x6 : Option Addr) (x6l : Nat) (x6c : Nat), cell h5 a4 = some (.slice x6 x6l x6c) ∧ callP1 (straitref10_Classes_in x6 x6l x6c a2 h5) fun x7 h8 => iteB x7 (∃ (x9 : Option Addr) (x9l : Nat) (x9c : Nat), cell h8 a4 = some (.slice x9 x9l x9c) ∧ callP1 (straitref10_Classes_in x9 x9l x9c a3 h8) fun x10 h11 => iteB x10 (∃ (x12 : Option Addr) (x12l : Nat) (x12c : Nat), cell h11 a4 = some (.slice x12 x12l x12c) ∧ chkP x12 fun a13 => (0 ≤ a2 ∧ a2 < (x12l : Int)) ∧ ∃ (x14 : Int), cell h11 (a13.add (a2.toNat * 1)) = some (.int .i64 x14) ∧ ∃ (x15 : Option Addr) (x15l : Nat) (x15c : Nat), cell h11 a4 = some (.slice x15 x15l x15c) ∧ chkP x15 fun a16 => (0 ≤ a3 ∧ a3 < (x15l : Int)) ∧ ∃ (x17 : Int), cell h11 (a16.add (a3.toNat * 1)) = some (.int .i64 x17) ∧ (K (x14 == x17) h11)) (K false h11)) (K false h8))
def straitref10_Classes_Same.ret (K : Bool → Heap → Prop) (v : Value) (h : Heap) : Prop := match v with
  | (.bool r20) => K r20 h
  | _ => False
theorem straitref10_Classes_Same.ret_elim {K : Bool → Heap → Prop} {K' : Value → Heap → Prop} {v : Value} {h : Heap} (hk : ∀ r20 h, K r20 h → K' (.bool r20) h) (hh : straitref10_Classes_Same.ret K v h) : K' v h := by
  unfold straitref10_Classes_Same.ret at hh
  split at hh
  · exact hk _ _ hh
  · exact hh.elim
def straitref10_Classes_Same.call (f : FuncId) (vs : List Value) (h : Heap) (K : Value → Heap → Prop) : Prop := match f, vs with
  | 23, [(.agg ⟨[(.slice a1 a1l a1c)]⟩), (.int .i64 a2)] => callP1 (straitref10_Classes_in a1 a1l a1c a2 h) fun r7 h' => K (.bool r7) h'
  | _, _ => False
noncomputable def straitref10_Classes_Same.ctx : Ctx := { P := Try.prog, call := straitref10_Classes_Same.call, qcall := fun _ _ _ _ => False, quiet := fun f => Nat.beq f 1000045, loop := fun _ _ _ _ => False }
theorem straitref10_Classes_Same.ok : straitref10_Classes_Same.ctx.OK where
  mixed := by kernel_rfl
  mono := by
    intro f args h K K' hh hk
    change straitref10_Classes_Same.call f args h K at hh
    change straitref10_Classes_Same.call f args h K'
    unfold straitref10_Classes_Same.call at hh ⊢
    split at hh
    · obtain ⟨R, h1, h2⟩ := hh
      exact ⟨R, h1, fun _ x hr => hk _ _ (h2 _ x hr)⟩
    · exact hh.elim
  call := by
    intro f args h K hh w hw
    change straitref10_Classes_Same.call f args h K at hh
    unfold straitref10_Classes_Same.call at hh
    split at hh
    · obtain ⟨R, h1, h2⟩ := hh
      obtain ⟨g1, g2⟩ := straitref10_Classes_in.calls h1 w hw
      exact ⟨g1, g2.mono fun e w' ⟨v, he, ho, hr⟩ => ⟨v, he, ho, straitref10_Classes_in.ret_elim h2 hr⟩⟩
    · exact hh.elim
  qmono := fun hh _ => hh.elim
  qval := fun hh => hh.elim
  qcall := fun hh => hh.elim
noncomputable def straitref10_Classes_Same.code : Code := (Try.f9.body).getD .skip
def straitref10_Classes_Same.ann : Ann := (.two .auto (.two (.reg [0, 0, 3, 7, 15, 15, 63, 127, 255, 511, 1023, 511, 4095, 8191, 511, 16895, 511, 115199, 246271, 524287, 1048575, 2097151] (.take 0 (.take 1 (.alt 2 (.take 3 (.take 4 (.take 5 (.alt 6 (.take 7 (.take 8 (.take 9 (.take 10 (.take 11 (.take 12 (.take 13 (.take 14 (.take 15 (.take 16 (.take 17 (.take 18 (.take 19 (.take 20 (.take 21 .done))))))))))))))) .noalt)))) .noalt)))) .auto))
set_option maxRecDepth 100000 in
theorem straitref10_Classes_Same.eq (a1 : Option Addr) (a1l : Nat) (a1c : Nat) (a2 : Int) (a3 : Int) (h : Heap) (K : Bool → Heap → Prop) : evF straitref10_Classes_Same.ctx Try.f9 straitref10_Classes_Same.ann [(.agg #[(.slice a1 a1l a1c)]), (.int .i64 a2), (.int .i64 a3)] h (straitref10_Classes_Same.ret K) = straitref10_Classes_Same a1 a1l a1c a2 a3 h K := by kernel_rfl
set_option maxRecDepth 100000 in
theorem straitref10_Classes_Same.calls {a1 : Option Addr} {a1l : Nat} {a1c : Nat} {a2 : Int} {a3 : Int} {h : Heap} {K : Bool → Heap → Prop} (hh : straitref10_Classes_Same a1 a1l a1c a2 a3 h K) (w : World) (hw : w.heap = h) :
    (callFunc 9 #[(.agg #[(.slice a1 a1l a1c)]), (.int .i64 a2), (.int .i64 a3)]).run Try.prog w = .ok (.enter 9 #[(.agg #[(.slice a1 a1l a1c)]), (.int .i64 a2), (.int .i64 a3)]) w ∧ Calls Try.prog 9 #[(.agg #[(.slice a1 a1l a1c)]), (.int .i64 a2), (.int .i64 a3)] w fun e w' => ∃ v, e = .returned v ∧ Out w w' ∧ straitref10_Classes_Same.ret K v w'.heap := by
  rw [← straitref10_Classes_Same.eq] at hh
  exact fn_calls (args := [(.agg #[(.slice a1 a1l a1c)]), (.int .i64 a2), (.int .i64 a3)]) (c := straitref10_Classes_Same.code) straitref10_Classes_Same.ok Try.func9 (by kernel_rfl) (by kernel_rfl) (by kernel_rfl) (by kernel_rfl) (loops_ok (l := []) (by kernel_rfl) trivial) hh w hw

/-! ### (strait/straitref10.Classes).Of: function 10 -/
def straitref10_Classes_Of (a1 : Option Addr) (a1l : Nat) (a1c : Nat) (a2 : Int) (h : Heap) (K : Int → Heap → Prop) : Prop :=
  newP h (.cells #[(.slice a1 a1l a1c)] 28) fun a3 h4 => (∃ (x5 : Option Addr) (x5l : Nat) (x5c : Nat), cell h4 a3 = some (.slice x5 x5l x5c) ∧ callP1 (straitref10_Classes_in x5 x5l x5c a2 h4) fun x6 h7 => (iteB (!x6) ((K (-1) h7)) ((∃ (x8 : Option Addr) (x8l : Nat) (x8c : Nat), cell h7 a3 = some (.slice x8 x8l x8c) ∧ chkP x8 fun a9 => (0 ≤ a2 ∧ a2 < (x8l : Int)) ∧ ∃ (x10 : Int), cell h7 (a9.add (a2.toNat * 1)) = some (.int .i64 x10) ∧ K x10 h7))))
def straitref10_Classes_Of.ret (K : Int → Heap → Prop) (v : Value) (h : Heap) : Prop := match v with
  | (.int .i64 r11) => K r11 h
  | _ => False
theorem straitref10_Classes_Of.ret_elim {K : Int → Heap → Prop} {K' : Value → Heap → Prop} {v : Value} {h : Heap} (hk : ∀ r11 h, K r11 h → K' (.int .i64 r11) h) (hh : straitref10_Classes_Of.ret K v h) : K' v h := by
  unfold straitref10_Classes_Of.ret at hh
  split at hh
  · exact hk _ _ hh
  · exact hh.elim
def straitref10_Classes_Of.call (f : FuncId) (vs : List Value) (h : Heap) (K : Value → Heap → Prop) : Prop := match f, vs with
  | 23, [(.agg ⟨[(.slice a1 a1l a1c)]⟩), (.int .i64 a2)] => callP1 (straitref10_Classes_in a1 a1l a1c a2 h) fun r7 h' => K (.bool r7) h'
  | _, _ => False
noncomputable def straitref10_Classes_Of.ctx : Ctx := { P := Try.prog, call := straitref10_Classes_Of.call, qcall := fun _ _ _ _ => False, quiet := fun f => Nat.beq f 1000045, loop := fun _ _ _ _ => False }
theorem straitref10_Classes_Of.ok : straitref10_Classes_Of.ctx.OK where
  mixed := by kernel_rfl
  mono := by
    intro f args h K K' hh hk
    change straitref10_Classes_Of.call f args h K at hh
    change straitref10_Classes_Of.call f args h K'
    unfold straitref10_Classes_Of.call at hh ⊢
    split at hh
    · obtain ⟨R, h1, h2⟩ := hh
      exact ⟨R, h1, fun _ x hr => hk _ _ (h2 _ x hr)⟩
    · exact hh.elim
  call := by
    intro f args h K hh w hw
    change straitref10_Classes_Of.call f args h K at hh
    unfold straitref10_Classes_Of.call at hh
    split at hh
    · obtain ⟨R, h1, h2⟩ := hh
      obtain ⟨g1, g2⟩ := straitref10_Classes_in.calls h1 w hw
      exact ⟨g1, g2.mono fun e w' ⟨v, he, ho, hr⟩ => ⟨v, he, ho, straitref10_Classes_in.ret_elim h2 hr⟩⟩
    · exact hh.elim
  qmono := fun hh _ => hh.elim
  qval := fun hh => hh.elim
  qcall := fun hh => hh.elim
noncomputable def straitref10_Classes_Of.code : Code := (Try.f10.body).getD .skip
def straitref10_Classes_Of.ann : Ann := .auto
set_option maxRecDepth 100000 in
theorem straitref10_Classes_Of.eq (a1 : Option Addr) (a1l : Nat) (a1c : Nat) (a2 : Int) (h : Heap) (K : Int → Heap → Prop) : evF straitref10_Classes_Of.ctx Try.f10 straitref10_Classes_Of.ann [(.agg #[(.slice a1 a1l a1c)]), (.int .i64 a2)] h (straitref10_Classes_Of.ret K) = straitref10_Classes_Of a1 a1l a1c a2 h K := by kernel_rfl
set_option maxRecDepth 100000 in
theorem straitref10_Classes_Of.calls {a1 : Option Addr} {a1l : Nat} {a1c : Nat} {a2 : Int} {h : Heap} {K : Int → Heap → Prop} (hh : straitref10_Classes_Of a1 a1l a1c a2 h K) (w : World) (hw : w.heap = h) :
    (callFunc 10 #[(.agg #[(.slice a1 a1l a1c)]), (.int .i64 a2)]).run Try.prog w = .ok (.enter 10 #[(.agg #[(.slice a1 a1l a1c)]), (.int .i64 a2)]) w ∧ Calls Try.prog 10 #[(.agg #[(.slice a1 a1l a1c)]), (.int .i64 a2)] w fun e w' => ∃ v, e = .returned v ∧ Out w w' ∧ straitref10_Classes_Of.ret K v w'.heap := by
  rw [← straitref10_Classes_Of.eq] at hh
  exact fn_calls (args := [(.agg #[(.slice a1 a1l a1c)]), (.int .i64 a2)]) (c := straitref10_Classes_Of.code) straitref10_Classes_Of.ok Try.func10 (by kernel_rfl) (by kernel_rfl) (by kernel_rfl) (by kernel_rfl) (loops_ok (l := []) (by kernel_rfl) trivial) hh w hw

/-! ### (strait/straitref10.Classes).Join: function 12 -/
def straitref10_Classes_Join.b0 (K2 : Heap → Prop) (cont : Addr → Addr → Int → Int → Addr → Int → Heap → Prop) (c3_1001 : Addr) (c6_1002 : Addr) (c7_1003 : Int) (c8_1004 : Int) (c9_1005 : Addr) (v10_1006 : Int) (h1007 : Heap) : Prop :=
  ∃ (x1008 : Option Addr) (x1008l : Nat) (x1008c : Nat), cell h1007 c3_1001 = some (.slice x1008 x1008l x1008c) ∧ (iteB (decide (v10_1006 < (x1008l : Int))) ((∃ (x1009 : Option Addr) (x1009l : Nat) (x1009c : Nat), cell h1007 c3_1001 = some (.slice x1009 x1009l x1009c) ∧ chkP x1009 fun a1010 => (0 ≤ v10_1006 ∧ v10_1006 < (x1009l : Int)) ∧ ∃ (x1011 : Int), cell h1007 (a1010.add (v10_1006.toNat * 1)) = some (.int .i64 x1011) ∧ (let j1026 := (fun (y1016 : Int) => ∃ (x1017 : Option Addr) (x1017l : Nat) (x1017c : Nat), cell h1007 c9_1005 = some (.slice x1017 x1017l x1017c) ∧ newP h1007 (.cells #[(.int .i64 y1016)] 3) fun a1018 h1019 => ∃ n1024, cellsAt h1019 (some a1018) (1 * 1) n1024 ∧ appP 3 1 8 [(.int .i64 0)] x1017 x1017l x1017c 1 n1024 h1019 fun q1020 l1021 c1022 h1023 => stC h1023 c9_1005 (.slice q1020 l1021 c1022) fun h1025 => ((cont c3_1001 c6_1002 c7_1003 c8_1004 c9_1005 (IntKind.i64.wrap (v10_1006 + 1)) h1025)));
  iteB (x1011 == c7_1003) ((bindV (if c8_1004 < c7_1003 then c8_1004 else c7_1003) fun n1014 => (j1026 n1014))) ((iteB (x1011 == c8_1004) (bindV (if c8_1004 < c7_1003 then c8_1004 else c7_1003) fun n1015 => (j1026 n1015)) ((j1026 x1011))))))) (K2 h1007))
def straitref10_Classes_Join.l0 (K2 : Heap → Prop) : Nat → Addr → Addr → Int → Int → Addr → Int → Heap → Prop
  | 0, _, _, _, _, _, _, _ => False
  | m + 1, c3_1001, c6_1002, c7_1003, c8_1004, c9_1005, v10_1006, h => straitref10_Classes_Join.b0 K2 (straitref10_Classes_Join.l0 K2 m) c3_1001 c6_1002 c7_1003 c8_1004 c9_1005 v10_1006 h
def straitref10_Classes_Join (a1 : Option Addr) (a1l : Nat) (a1c : Nat) (a2 : Int) (a3 : Int) (h : Heap) (K : (Option Addr) → Nat → Nat → Heap → Prop) : Prop :=
  newP h (.cells #[(.slice a1 a1l a1c)] 28) fun a4 h5 => newP h5 (.cells #[(.slice none 0 0)] 28) fun a6 h7 => (let j39 := (fun (h25 : Heap) => ∃ (x26 : Option Addr) (x26l : Nat) (x26c : Nat), cell h25 a4 = some (.slice x26 x26l x26c) ∧ chkP x26 fun a27 => (0 ≤ a2 ∧ a2 < (x26l : Int)) ∧ ∃ (x28 : Int), cell h25 (a27.add (a2.toNat * 1)) = some (.int .i64 x28) ∧ ∃ (x29 : Option Addr) (x29l : Nat) (x29c : Nat), cell h25 a4 = some (.slice x29 x29l x29c) ∧ chkP x29 fun a30 => (0 ≤ a3 ∧ a3 < (x29l : Int)) ∧ ∃ (x31 : Int), cell h25 (a30.add (a3.toNat * 1)) = some (.int .i64 x31) ∧ (newP h25 (.cells #[(.slice none 0 0)] 28) fun a32 h33 => ((∃ m35, straitref10_Classes_Join.l0 (fun h34 => ((∃ (x36 : Option Addr) (x36l : Nat) (x36c : Nat), cell h34 a32 = some (.slice x36 x36l x36c) ∧ stC h34 a6 (.slice x36 x36l x36c) fun h37 => (∃ (x38 : Option Addr) (x38l : Nat) (x38c : Nat), cell h37 a6 = some (.slice x38 x38l x38c) ∧ K x38 x38l x38c h37)))) m35 a4 a6 x28 x31 a32 0 h33))));
  ∃ (x8 : Option Addr) (x8l : Nat) (x8c : Nat), cell h7 a4 = some (.slice x8 x8l x8c) ∧ callP1 (straitref10_Classes_in x8 x8l x8c a2 h7) fun x9 h10 => iteB (!x9) ((∃ (x19 : Option Addr) (x19l : Nat) (x19c : Nat), cell h10 a4 = some (.slice x19 x19l x19c) ∧ stC h10 a6 (.slice x19 x19l x19c) fun h20 => (∃ (x21 : Option Addr) (x21l : Nat) (x21c : Nat), cell h20 a6 = some (.slice x21 x21l x21c) ∧ K x21 x21l x21c h20))) (∃ (x11 : Option Addr) (x11l : Nat) (x11c : Nat), cell h10 a4 = some (.slice x11 x11l x11c) ∧ callP1 (straitref10_Classes_in x11 x11l x11c a3 h10) fun x12 h13 => (iteB (!x12) (∃ (x22 : Option Addr) (x22l : Nat) (x22c : Nat), cell h13 a4 = some (.slice x22 x22l x22c) ∧ stC h13 a6 (.slice x22 x22l x22c) fun h23 => (∃ (x24 : Option Addr) (x24l : Nat) (x24c : Nat), cell h23 a6 = some (.slice x24 x24l x24c) ∧ K x24 x24l x24c h23)) ((j39 h13)))))
def straitref10_Classes_Join.ret (K : (Option Addr) → Nat → Nat → Heap → Prop) (v : Value) (h : Heap) : Prop := match v with
  | (.agg ⟨[(.slice r40 r40l r40c)]⟩) => K r40 r40l r40c h
  | _ => False
theorem straitref10_Classes_Join.ret_elim {K : (Option Addr) → Nat → Nat → Heap → Prop} {K' : Value → Heap → Prop} {v : Value} {h : Heap} (hk : ∀ r40 r40l r40c h, K r40 r40l r40c h → K' (.agg #[(.slice r40 r40l r40c)]) h) (hh : straitref10_Classes_Join.ret K v h) : K' v h := by
  unfold straitref10_Classes_Join.ret at hh
  split at hh
  · exact hk _ _ _ _ hh
  · exact hh.elim
def straitref10_Classes_Join.call (f : FuncId) (vs : List Value) (h : Heap) (K : Value → Heap → Prop) : Prop := match f, vs with
  | 23, [(.agg ⟨[(.slice a1 a1l a1c)]⟩), (.int .i64 a2)] => callP1 (straitref10_Classes_in a1 a1l a1c a2 h) fun r7 h' => K (.bool r7) h'
  | _, _ => False
def straitref10_Classes_Join.r0 (K : Nat → List Value → Heap → Prop) (m : Nat) (vs : List Value) (h : Heap) : Prop := match vs with
  | [(.pointer (some c3_1001)), (.pointer (some c6_1002)), (.int .i64 c7_1003), (.int .i64 c8_1004), (.pointer (some c9_1005)), (.int .i64 v10_1006)] => straitref10_Classes_Join.l0 (fun h' => K 2 [(.pointer (some c6_1002)), (.pointer (some c9_1005))] h') m c3_1001 c6_1002 c7_1003 c8_1004 c9_1005 v10_1006 h
  | _ => False
def straitref10_Classes_Join.loop (i : Nat) (vs : List Value) (h : Heap) (K : Nat → List Value → Heap → Prop) : Prop := match i with
  | 0 => ∃ m, straitref10_Classes_Join.r0 K m vs h
  | _ => False
noncomputable def straitref10_Classes_Join.ctx : Ctx := { P := Try.prog, call := straitref10_Classes_Join.call, qcall := fun _ _ _ _ => False, quiet := fun f => Nat.beq f 1000045, loop := straitref10_Classes_Join.loop }
theorem straitref10_Classes_Join.ok : straitref10_Classes_Join.ctx.OK where
  mixed := by kernel_rfl
  mono := by
    intro f args h K K' hh hk
    change straitref10_Classes_Join.call f args h K at hh
    change straitref10_Classes_Join.call f args h K'
    unfold straitref10_Classes_Join.call at hh ⊢
    split at hh
    · obtain ⟨R, h1, h2⟩ := hh
      exact ⟨R, h1, fun _ x hr => hk _ _ (h2 _ x hr)⟩
    · exact hh.elim
  call := by
    intro f args h K hh w hw
    change straitref10_Classes_Join.call f args h K at hh
    unfold straitref10_Classes_Join.call at hh
    split at hh
    · obtain ⟨R, h1, h2⟩ := hh
      obtain ⟨g1, g2⟩ := straitref10_Classes_in.calls h1 w hw
      exact ⟨g1, g2.mono fun e w' ⟨v, he, ho, hr⟩ => ⟨v, he, ho, straitref10_Classes_in.ret_elim h2 hr⟩⟩
    · exact hh.elim
  qmono := fun hh _ => hh.elim
  qval := fun hh => hh.elim
  qcall := fun hh => hh.elim
noncomputable def straitref10_Classes_Join.code : Code := (Try.f12.body).getD .skip
def straitref10_Classes_Join.ann : Ann := (.two .auto (.two .auto (.two (.reg [0, 1, 0, 7, 15, 0, 32, 0, 224, 480, 31, 2047] (.take 0 (.take 1 (.take 2 (.take 3 (.take 4 (.take 5 (.take 6 (.take 7 (.take 8 (.take 9 (.take 10 (.take 11 .done))))))))))))) (.two .auto (.two (.two .auto (.two (.loop 0 [3, 6, 7, 8, 9, 10] [(2, [6, 9])] .auto) .auto)) .auto)))))
noncomputable def straitref10_Classes_Join.c0 : Code := sub straitref10_Classes_Join.code [1, 1, 1, 1, 0, 1, 0, 0]
def straitref10_Classes_Join.a0 : Ann := .auto
def straitref10_Classes_Join.keep0 : List Nat := [3, 6, 7, 8, 9, 10]
def straitref10_Classes_Join.outs0 : List (Nat × List Nat) := [(2, [6, 9])]
set_option maxRecDepth 100000 in
theorem straitref10_Classes_Join.L0 : LoopOK straitref10_Classes_Join.ctx 63 straitref10_Classes_Join.c0 0 straitref10_Classes_Join.keep0 straitref10_Classes_Join.outs0 := by
  refine loop_ok (n := straitref10_Classes_Join.a0) straitref10_Classes_Join.ok (by kernel_rfl) (loops_ok (l := []) (by kernel_rfl) ?_) straitref10_Classes_Join.r0 ?_ ?_ (fun vs h K hh => hh)
  · exact trivial
  · intro K vs h hh
    unfold straitref10_Classes_Join.r0 at hh
    split at hh
    · exact hh
    · exact hh
  · intro K m vs h hh
    unfold straitref10_Classes_Join.r0 at hh
    split at hh
    · exact cast (by kernel_rfl) hh
    · exact hh.elim
set_option maxRecDepth 100000 in
theorem straitref10_Classes_Join.eq (a1 : Option Addr) (a1l : Nat) (a1c : Nat) (a2 : Int) (a3 : Int) (h : Heap) (K : (Option Addr) → Nat → Nat → Heap → Prop) : evF straitref10_Classes_Join.ctx Try.f12 straitref10_Classes_Join.ann [(.agg #[(.slice a1 a1l a1c)]), (.int .i64 a2), (.int .i64 a3)] h (straitref10_Classes_Join.ret K) = straitref10_Classes_Join a1 a1l a1c a2 a3 h K := by kernel_rfl
set_option maxRecDepth 100000 in
theorem straitref10_Classes_Join.calls {a1 : Option Addr} {a1l : Nat} {a1c : Nat} {a2 : Int} {a3 : Int} {h : Heap} {K : (Option Addr) → Nat → Nat → Heap → Prop} (hh : straitref10_Classes_Join a1 a1l a1c a2 a3 h K) (w : World) (hw : w.heap = h) :
    (callFunc 12 #[(.agg #[(.slice a1 a1l a1c)]), (.int .i64 a2), (.int .i64 a3)]).run Try.prog w = .ok (.enter 12 #[(.agg #[(.slice a1 a1l a1c)]), (.int .i64 a2), (.int .i64 a3)]) w ∧ Calls Try.prog 12 #[(.agg #[(.slice a1 a1l a1c)]), (.int .i64 a2), (.int .i64 a3)] w fun e w' => ∃ v, e = .returned v ∧ Out w w' ∧ straitref10_Classes_Join.ret K v w'.heap := by
  rw [← straitref10_Classes_Join.eq] at hh
  exact fn_calls (args := [(.agg #[(.slice a1 a1l a1c)]), (.int .i64 a2), (.int .i64 a3)]) (c := straitref10_Classes_Join.code) straitref10_Classes_Join.ok Try.func12 (by kernel_rfl) (by kernel_rfl) (by kernel_rfl) (by kernel_rfl) (loops_ok (l := [(straitref10_Classes_Join.c0, none, 0, straitref10_Classes_Join.keep0, straitref10_Classes_Join.outs0)]) (by kernel_rfl) ⟨straitref10_Classes_Join.L0, trivial⟩) hh w hw

end Go.Proofs.Ytpckmpadeapphaa
