/- WRITTEN BY A PROGRAM OF THIS SESSION (gen.py): what each function asks of memory, and that the model's run comes to it. -/
import Derived.Test.YtokemibmanjpmaaGreatDoorProg
import Derived.Test.YtokemibmanjpmaaGreatDoorFw8
import Derived.Test.YtokemibmanjpmaaGreatDoorG0
namespace Go.Proofs.YtokemibmanjpmaaGreatDoor
open Go.Hp
set_option linter.unusedVariables false
set_option linter.unusedSimpArgs false
set_option linter.unusedSectionVars false

/-! ### strait/net.New: function 23 -/
section
variable [DKc]
def net_New.b1 (K5 : Heap → Prop) (cont : Addr → Int → Int → Heap → Prop) (c11_2001 : Addr) (c68_2002 : Int) (v69_2003 : Int) (h2004 : Heap) : Prop :=
  (iteB (decide (v69_2003 < c68_2002)) (((∃ (x2005 : Option Addr) (x2005l : Nat) (x2005c : Nat), cell h2004 c11_2001 = some (.slice x2005 x2005l x2005c) ∧ chkP x2005 fun a2006 => (0 ≤ v69_2003 ∧ v69_2003 < (x2005l : Int)) ∧ ∃ (x2007 : Option Addr) (x2007l : Nat) (x2007c : Nat), cell h2004 (a2006.add (v69_2003.toNat * 1)) = some (.slice x2007 x2007l x2007c) ∧ callP0 (slices_Sort_Lint_int x2007 x2007l x2007c h2004) fun h2008 => ((cont c11_2001 c68_2002 (IntKind.i64.wrap (v69_2003 + 1)) h2008))))) (K5 h2004))
def net_New.l1 (K5 : Heap → Prop) : Nat → Addr → Int → Int → Heap → Prop
  | 0, _, _, _, _ => False
  | m + 1, c11_2001, c68_2002, v69_2003, h => net_New.b1 K5 (net_New.l1 K5 m) c11_2001 c68_2002 v69_2003 h
def net_New.b0 (K3 : Heap → Prop) (cont : Int → Addr → (Option Addr) → Nat → Nat → Int → Int → Heap → Prop) (c0_1001 : Int) (c11_1002 : Addr) (c47_1003 : Option Addr) (c47_1004 : Nat) (c47_1005 : Nat) (c48_1006 : Int) (v49_1007 : Int) (h1008 : Heap) : Prop :=
  (iteB (decide (v49_1007 < c48_1006)) ((chkP c47_1003 fun a1009 => (0 ≤ v49_1007 ∧ v49_1007 < (c47_1004 : Int)) ∧ ∃ (x1010 : Int), cell h1008 (a1009.add (v49_1007.toNat * 3)) = some (.int .i64 x1010) ∧ ∃ (x1011 : Int), cell h1008 ((a1009.add (v49_1007.toNat * 3)).add 1) = some (.int .i64 x1011) ∧ ∃ (x1012 : Int), cell h1008 ((a1009.add (v49_1007.toNat * 3)).add 2) = some (.int .i64 x1012) ∧ newP h1008 (.cells #[(.int .i64 0), (.int .i64 0), (.int .i64 0)] 27) fun a1013 h1014 => stC h1014 a1013 (.int .i64 x1010) fun h1015 => stC h1015 (a1013.add 1) (.int .i64 x1011) fun h1016 => stC h1016 (a1013.add 2) (.int .i64 x1012) fun h1017 => (∃ (x1018 : Int), cell h1017 a1013 = some (.int .i64 x1018) ∧ ∃ (x1019 : Int), cell h1017 (a1013.add 1) = some (.int .i64 x1019) ∧ ∃ (x1020 : Int), cell h1017 (a1013.add 2) = some (.int .i64 x1020) ∧ callP0 (net_ends_link (some c11_1002) x1018 x1019 x1020 h1017) fun h1021 => (∃ (x1022 : Int), cell h1021 (c11_1002.add 3) = some (.int .i64 x1022) ∧ ∃ (x1023 : Int), cell h1021 (a1013.add 2) = some (.int .i64 x1023) ∧ stC h1021 (c11_1002.add 3) (.int .i64 (IntKind.i64.wrap (x1022 + x1023))) fun h1024 => ((cont c0_1001 c11_1002 c47_1003 c47_1004 c47_1005 c48_1006 (IntKind.i64.wrap (v49_1007 + 1)) h1024)))))) (K3 h1008))
def net_New.l0 (K3 : Heap → Prop) : Nat → Int → Addr → (Option Addr) → Nat → Nat → Int → Int → Heap → Prop
  | 0, _, _, _, _, _, _, _, _ => False
  | m + 1, c0_1001, c11_1002, c47_1003, c47_1004, c47_1005, c48_1006, v49_1007, h => net_New.b0 K3 (net_New.l0 K3 m) c0_1001 c11_1002 c47_1003 c47_1004 c47_1005 c48_1006 v49_1007 h
def net_New (a1 : Int) (a2 : Option Addr) (a2l : Nat) (a2c : Nat) (h : Heap) (K : (Option Addr) → Int → Int → Heap → Prop) : Prop :=
  (let j36 : Prop := (callP2 (edge_Checks a1 a2 a2l a2c h) fun x4 x5 h6 => ((iteB (x4 != (0 : Int)) (K none x4 x5 h6) ((callP4 (edge_Merge a2 a2l a2c h6) fun x7 x7l x7c x8 h9 => (((0 ≤ a1 ∧ a1 ≤ a1 ∧ a1 * (24 : Nat) ≤ 2 ^ 47 ∧ a1 ≤ 2 ^ 47) ∧ newP h9 (.cells (zeroRow [(.slice none 0 0)] a1.toNat).toArray 111) fun a10 h11 => (0 ≤ a1 ∧ a1 ≤ a1 ∧ a1 * (8 : Nat) ≤ 2 ^ 47 ∧ a1 ≤ 2 ^ 47) ∧ newP h11 (.cells (zeroRow [(.int .i64 0)] a1.toNat).toArray 2) fun a12 h13 => newP h13 (.cells #[(.slice (some a10) a1.toNat a1.toNat), (.slice (some a12) a1.toNat a1.toNat), (.slice x7 x7l x7c), (.int .i64 0)] 96) fun a14 h15 => ((∃ m29, net_New.l0 (fun h28 => (((∃ m31, net_New.l1 (fun h30 => (((K (some a14) 0 0 h30)))) m31 a14 a1 0 h28)))) m29 a1 a14 x7 x7l x7c (x7l : Int) 0 h15))) ∧ ((0 ≤ a1 ∧ a1 ≤ a1 ∧ a1 * (8 : Nat) ≤ 2 ^ 47 ∧ a1 ≤ 2 ^ 47) ∧ newP h9 (.cells (zeroRow [(.int .i64 0)] a1.toNat).toArray 2) fun a16 h17 => (0 ≤ a1 ∧ a1 ≤ a1 ∧ a1 * (24 : Nat) ≤ 2 ^ 47 ∧ a1 ≤ 2 ^ 47) ∧ newP h17 (.cells (zeroRow [(.slice none 0 0)] a1.toNat).toArray 111) fun a18 h19 => newP h19 (.cells #[(.slice (some a18) a1.toNat a1.toNat), (.slice (some a16) a1.toNat a1.toNat), (.slice x7 x7l x7c), (.int .i64 0)] 96) fun a20 h21 => ((∃ m33, net_New.l0 (fun h32 => (((∃ m35, net_New.l1 (fun h34 => (((K (some a20) 0 0 h34)))) m35 a20 a1 0 h32)))) m33 a1 a20 x7 x7l x7c (x7l : Int) 0 h21)))))))));
  (iteB (decide (a1 < (0 : Int))) (K none 1 0 h) ((iteB (decide (a1 > (4096 : Int))) ((iteB (decide (a1 > (4096 : Int))) (K none 3 0 h) (((j36))))) ((iteB (decide ((a2l : Int) > (1048576 : Int))) (K none 3 0 h) (((j36)))))))))
def net_New.ret (K : (Option Addr) → Int → Int → Heap → Prop) (v : Value) (h : Heap) : Prop := match v with
  | (.tuple ⟨[(.pointer r37), (.int .i64 r38), (.int .i64 r39)]⟩) => K r37 r38 r39 h
  | _ => False
theorem net_New.ret_elim {K : (Option Addr) → Int → Int → Heap → Prop} {K' : Value → Heap → Prop} {v : Value} {h : Heap} (hk : ∀ r37 r38 r39 h, K r37 r38 r39 h → K' (.tuple #[(.pointer r37), (.int .i64 r38), (.int .i64 r39)]) h) (hh : net_New.ret K v h) : K' v h := by
  unfold net_New.ret at hh
  split at hh
  · exact hk _ _ _ _ hh
  · exact hh.elim
def net_New.call (f : FuncId) (vs : List Value) (h : Heap) (K : Value → Heap → Prop) : Prop := match f, vs with
  | 49, [(.int .i64 a1), (.slice a2 a2l a2c)] => callP2 (edge_Checks a1 a2 a2l a2c h) fun r8 r9 h' => K (.tuple #[(.int .i64 r8), (.int .i64 r9)]) h'
  | 50, [(.slice a1 a1l a1c)] => callP4 (edge_Merge a1 a1l a1c h) fun r13 r13l r13c r14 h' => K (.tuple #[(.slice r13 r13l r13c), (.bool r14)]) h'
  | 51, [(.pointer a1), (.agg ⟨[(.int .i64 a2), (.int .i64 a3), (.int .i64 a4)]⟩)] => callP0 (net_ends_link a1 a2 a3 a4 h) fun h' => K (.tuple #[]) h'
  | 52, [(.slice a1 a1l a1c)] => callP0 (slices_Sort_Lint_int a1 a1l a1c h) fun h' => K (.tuple #[]) h'
  | _, _ => False
def net_New.r0 (K : Nat → List Value → Heap → Prop) (m : Nat) (vs : List Value) (h : Heap) : Prop := match vs with
  | [(.int .i64 c0_1001), (.pointer (some c11_1002)), (.slice c47_1003 c47_1004 c47_1005), (.int .i64 c48_1006), (.int .i64 v49_1007)] => net_New.l0 (fun h' => K 3 [(.int .i64 c0_1001), (.pointer (some c11_1002))] h') m c0_1001 c11_1002 c47_1003 c47_1004 c47_1005 c48_1006 v49_1007 h
  | _ => False
def net_New.r1 (K : Nat → List Value → Heap → Prop) (m : Nat) (vs : List Value) (h : Heap) : Prop := match vs with
  | [(.pointer (some c11_2001)), (.int .i64 c68_2002), (.int .i64 v69_2003)] => net_New.l1 (fun h' => K 5 [(.pointer (some c11_2001))] h') m c11_2001 c68_2002 v69_2003 h
  | _ => False
def net_New.loop (i : Nat) (vs : List Value) (h : Heap) (K : Nat → List Value → Heap → Prop) : Prop := match i with
  | 0 => ∃ m, net_New.r0 K m vs h
  | 1 => ∃ m, net_New.r1 K m vs h
  | _ => False
noncomputable def net_New.ctx : Ctx := { P := Tryz.prog, call := net_New.call, qcall := fun _ _ _ _ => False, quiet := fun f => Nat.beq f 1000138 || Nat.beq f 2000157, loop := net_New.loop }
theorem net_New.ok : net_New.ctx.OK where
  mixed := by kernel_rfl
  mono := by
    intro f args h K K' hh hk
    change net_New.call f args h K at hh
    change net_New.call f args h K'
    unfold net_New.call at hh ⊢
    split at hh
    · obtain ⟨R, h1, h2⟩ := hh
      exact ⟨R, h1, fun _ _ x hr => hk _ _ (h2 _ _ x hr)⟩
    · obtain ⟨R, h1, h2⟩ := hh
      exact ⟨R, h1, fun _ _ _ _ x hr => hk _ _ (h2 _ _ _ _ x hr)⟩
    · obtain ⟨R, h1, h2⟩ := hh
      exact ⟨R, h1, fun x hr => hk _ _ (h2 x hr)⟩
    · obtain ⟨R, h1, h2⟩ := hh
      exact ⟨R, h1, fun x hr => hk _ _ (h2 x hr)⟩
    · exact hh.elim
  call := by
    intro f args h K hh w hw
    change net_New.call f args h K at hh
    unfold net_New.call at hh
    split at hh
    · obtain ⟨R, h1, h2⟩ := hh
      obtain ⟨g1, g2⟩ := edge_Checks.calls h1 w hw
      exact ⟨g1, g2.mono fun e w' ⟨v, he, ho, hr⟩ => ⟨v, he, ho, edge_Checks.ret_elim h2 hr⟩⟩
    · obtain ⟨R, h1, h2⟩ := hh
      obtain ⟨g1, g2⟩ := edge_Merge.calls h1 w hw
      exact ⟨g1, g2.mono fun e w' ⟨v, he, ho, hr⟩ => ⟨v, he, ho, edge_Merge.ret_elim h2 hr⟩⟩
    · obtain ⟨R, h1, h2⟩ := hh
      obtain ⟨g1, g2⟩ := net_ends_link.calls h1 w hw
      exact ⟨g1, g2.mono fun e w' ⟨v, he, ho, hr⟩ => ⟨v, he, ho, net_ends_link.ret_elim h2 hr⟩⟩
    · obtain ⟨R, h1, h2⟩ := hh
      obtain ⟨g1, g2⟩ := slices_Sort_Lint_int.calls h1 w hw
      exact ⟨g1, g2.mono fun e w' ⟨v, he, ho, hr⟩ => ⟨v, he, ho, slices_Sort_Lint_int.ret_elim h2 hr⟩⟩
    · exact hh.elim
  qmono := fun hh _ => hh.elim
  qval := fun hh => hh.elim
  qcall := fun hh => hh.elim
noncomputable def net_New.code : Code := (Tryz.f23.body).getD .skip
def net_New.ann : Ann := (.two .auto (.two .auto (.two .auto (.two .auto (.two (.reg [0, 1, 0, 4, 15, 0, 63, 127, 255] (.take 0 (.take 2 (.take 5 (.alt 1 (.alt 3 (.take 4 (.take 6 (.alt 7 (.take 8 .done) .noalt))) .noalt) (.alt 3 (.alt 1 (.take 4 (.take 6 (.alt 7 (.take 8 .done) .noalt))) .noalt) .noalt)))))) (.two (.two .auto (.two (.loop 0 [0, 11, 47, 48, 49] [(3, [0, 11])] (.two .auto (.two .auto (.two (.two (.two .auto (.two (.reg [0, 1, 3, 0, 15] (.take 0 (.take 1 (.take 2 (.take 3 (.alt 4 .done .noalt)))))) (.reg [0, 1, 3, 7, 0, 16, 63, 127, 255, 511] (.take 0 (.take 1 (.take 2 (.take 3 (.take 4 (.take 5 (.take 6 (.take 7 (.take 8 (.alt 9 .done .noalt))))))))))))) .auto) .auto)))) .auto)) (.two (.two .auto (.two (.loop 1 [11, 68, 69] [(5, [11])] .auto) .auto)) .auto)))))))
noncomputable def net_New.c1 : Code := sub net_New.code [1, 1, 1, 1, 1, 1, 0, 1, 0, 0]
def net_New.a1 : Ann := .auto
def net_New.keep1 : List Nat := [11, 68, 69]
def net_New.outs1 : List (Nat × List Nat) := [(5, [11])]
noncomputable def net_New.c0 : Code := sub net_New.code [1, 1, 1, 1, 1, 0, 1, 0, 0]
def net_New.a0 : Ann := (.two .auto (.two .auto (.two (.two (.two .auto (.two (.reg [0, 1, 3, 0, 15] (.take 0 (.take 1 (.take 2 (.take 3 (.alt 4 .done .noalt)))))) (.reg [0, 1, 3, 7, 0, 16, 63, 127, 255, 511] (.take 0 (.take 1 (.take 2 (.take 3 (.take 4 (.take 5 (.take 6 (.take 7 (.take 8 (.alt 9 .done .noalt))))))))))))) .auto) .auto)))
def net_New.keep0 : List Nat := [0, 11, 47, 48, 49]
def net_New.outs0 : List (Nat × List Nat) := [(3, [0, 11])]
set_option maxRecDepth 100000 in
theorem net_New.L0 : LoopOK net_New.ctx 83 net_New.c0 0 net_New.keep0 net_New.outs0 := by
  refine loop_ok (n := net_New.a0) net_New.ok (by kernel_rfl) (loops_ok (l := []) (by kernel_rfl) ?_) net_New.r0 ?_ ?_ (fun vs h K hh => hh)
  · exact trivial
  · intro K vs h hh
    unfold net_New.r0 at hh
    split at hh
    · exact hh
    · exact hh
  · intro K m vs h hh
    unfold net_New.r0 at hh
    split at hh
    · exact cast (by kernel_rfl) hh
    · exact hh.elim
set_option maxRecDepth 100000 in
theorem net_New.L1 : LoopOK net_New.ctx 83 net_New.c1 1 net_New.keep1 net_New.outs1 := by
  refine loop_ok (n := net_New.a1) net_New.ok (by kernel_rfl) (loops_ok (l := []) (by kernel_rfl) ?_) net_New.r1 ?_ ?_ (fun vs h K hh => hh)
  · exact trivial
  · intro K vs h hh
    unfold net_New.r1 at hh
    split at hh
    · exact hh
    · exact hh
  · intro K m vs h hh
    unfold net_New.r1 at hh
    split at hh
    · exact cast (by kernel_rfl) hh
    · exact hh.elim
set_option maxRecDepth 100000 in
theorem net_New.eq (a1 : Int) (a2 : Option Addr) (a2l : Nat) (a2c : Nat) (h : Heap) (K : (Option Addr) → Int → Int → Heap → Prop) : evF net_New.ctx Tryz.f23 net_New.ann [(.int .i64 a1), (.slice a2 a2l a2c)] h (net_New.ret K) = net_New a1 a2 a2l a2c h K := by kernel_rfl
set_option maxRecDepth 100000 in
theorem net_New.calls {a1 : Int} {a2 : Option Addr} {a2l : Nat} {a2c : Nat} {h : Heap} {K : (Option Addr) → Int → Int → Heap → Prop} (hh : net_New a1 a2 a2l a2c h K) (w : World) (hw : w.heap = h) :
    (callFunc 23 #[(.int .i64 a1), (.slice a2 a2l a2c)]).run Tryz.prog w = .ok (.enter 23 #[(.int .i64 a1), (.slice a2 a2l a2c)]) w ∧ Calls Tryz.prog 23 #[(.int .i64 a1), (.slice a2 a2l a2c)] w fun e w' => ∃ v, e = .returned v ∧ Out w w' ∧ net_New.ret K v w'.heap := by
  rw [← net_New.eq] at hh
  exact fn_calls (args := [(.int .i64 a1), (.slice a2 a2l a2c)]) (c := net_New.code) net_New.ok Tryz.func23 (by kernel_rfl) (by kernel_rfl) (by kernel_rfl) (by kernel_rfl) (loops_ok (l := [(net_New.c0, none, 0, net_New.keep0, net_New.outs0), (net_New.c1, none, 1, net_New.keep1, net_New.outs1)]) (by kernel_rfl) ⟨net_New.L0, net_New.L1, trivial⟩) hh w hw
end

/-! ### strait/fbit.Kind: function 179 -/
def fbit_Kind (a1 : Nat) (h : Heap) (K : Int → Heap → Prop) : Prop :=
  (bindV (bits .andNot .u64 (a1 : Int) 9223372036854775808) fun n2 => ((iteB (FloatKind.f64.format.order a1 a1 != some .eq) (K 0 h) (0 ≤ (52 : Int) ∧ (iteB ((n2.fdiv (2 ^ 52)) == (2047 : Int)) (K 1 h) ((iteB (n2 == (0 : Int)) (K 2 h) (0 ≤ (52 : Int) ∧ (iteB ((n2.fdiv (2 ^ 52)) == (0 : Int)) (K 3 h) ((K 4 h)))))))))))
def fbit_Kind.ret (K : Int → Heap → Prop) (v : Value) (h : Heap) : Prop := match v with
  | (.int .i64 r3) => K r3 h
  | _ => False
theorem fbit_Kind.ret_elim {K : Int → Heap → Prop} {K' : Value → Heap → Prop} {v : Value} {h : Heap} (hk : ∀ r3 h, K r3 h → K' (.int .i64 r3) h) (hh : fbit_Kind.ret K v h) : K' v h := by
  unfold fbit_Kind.ret at hh
  split at hh
  · exact hk _ _ hh
  · exact hh.elim
def fbit_Kind.qcall (f : FuncId) (vs : List Value) (h : Heap) (K : Value → Prop) : Prop := match f, vs with
  | 202, [(.float .f64 a1)] => K (.int .u64 (a1 : Int))
  | _, _ => False
noncomputable def fbit_Kind.ctx : Ctx := { P := Tryz.prog, call := fun _ _ _ _ => False, qcall := fbit_Kind.qcall, quiet := fun f => Nat.beq f 202 || Nat.beq f 1000138 || Nat.beq f 2000157, loop := fun _ _ _ _ => False }
theorem fbit_Kind.ok [DKc] : fbit_Kind.ctx.OK where
  mixed := by kernel_rfl
  mono := fun hh _ => hh.elim
  call := fun hh => hh.elim
  qmono := by
    intro f args h K K' hh hk
    change fbit_Kind.qcall f args h K at hh
    change fbit_Kind.qcall f args h K'
    unfold fbit_Kind.qcall at hh ⊢
    split at hh
    · exact hk _ hh
    · exact hh.elim
  qval := by
    intro f args h K hh
    change fbit_Kind.qcall f args h K at hh
    suffices H : ∃ v, K v ∧ fbit_Kind.qcall f args h (· = v) from H
    unfold fbit_Kind.qcall at hh ⊢
    split at hh
    · exact ⟨_, hh, rfl⟩
    · exact hh.elim
  qcall := by
    intro f args h v hh w hw
    change fbit_Kind.qcall f args h (· = v) at hh
    unfold fbit_Kind.qcall at hh
    split at hh
    · subst hh; exact .inr (ext_run Tryz.func202 (by kernel_rfl) (by kernel_rfl) (by kernel_rfl) (e := Extern.MathFloatBits.float64bits) (by kernel_rfl) (by rfl))
    · exact hh.elim
noncomputable def fbit_Kind.code : Code := (Tryz.f179.body).getD .skip
def fbit_Kind.ann : Ann := .auto
set_option maxRecDepth 100000 in
theorem fbit_Kind.eq (a1 : Nat) (h : Heap) (K : Int → Heap → Prop) : evF fbit_Kind.ctx Tryz.f179 fbit_Kind.ann [(.float .f64 a1)] h (fbit_Kind.ret K) = fbit_Kind a1 h K := by kernel_rfl
set_option maxRecDepth 100000 in
theorem fbit_Kind.calls [DKc] {a1 : Nat} {h : Heap} {K : Int → Heap → Prop} (hh : fbit_Kind a1 h K) (w : World) (hw : w.heap = h) :
    (callFunc 179 #[(.float .f64 a1)]).run Tryz.prog w = .ok (.enter 179 #[(.float .f64 a1)]) w ∧ Calls Tryz.prog 179 #[(.float .f64 a1)] w fun e w' => ∃ v, e = .returned v ∧ Out w w' ∧ fbit_Kind.ret K v w'.heap := by
  rw [← fbit_Kind.eq] at hh
  exact fn_calls (args := [(.float .f64 a1)]) (c := fbit_Kind.code) fbit_Kind.ok Tryz.func179 (by kernel_rfl) (by kernel_rfl) (by kernel_rfl) (by kernel_rfl) (loops_ok (l := []) (by kernel_rfl) trivial) hh w hw

/-! ### math.Abs: function 211 -/
def math_Abs (a1 : Nat) (h : Heap) (K : Nat → Heap → Prop) : Prop :=
  (bindV (bits .andNot .u64 (a1 : Int) 9223372036854775808) fun n2 => K n2.toNat h)
def math_Abs.ret (K : Nat → Heap → Prop) (v : Value) (h : Heap) : Prop := match v with
  | (.float .f64 r3) => K r3 h
  | _ => False
theorem math_Abs.ret_elim {K : Nat → Heap → Prop} {K' : Value → Heap → Prop} {v : Value} {h : Heap} (hk : ∀ r3 h, K r3 h → K' (.float .f64 r3) h) (hh : math_Abs.ret K v h) : K' v h := by
  unfold math_Abs.ret at hh
  split at hh
  · exact hk _ _ hh
  · exact hh.elim
def math_Abs.qcall (f : FuncId) (vs : List Value) (h : Heap) (K : Value → Prop) : Prop := match f, vs with
  | 43, [(.int .u64 a1)] => K (.float .f64 a1.toNat)
  | 202, [(.float .f64 a1)] => K (.int .u64 (a1 : Int))
  | _, _ => False
noncomputable def math_Abs.ctx : Ctx := { P := Tryz.prog, call := fun _ _ _ _ => False, qcall := math_Abs.qcall, quiet := fun f => Nat.beq f 43 || Nat.beq f 202 || Nat.beq f 1000138 || Nat.beq f 2000157, loop := fun _ _ _ _ => False }
theorem math_Abs.ok [DKc] : math_Abs.ctx.OK where
  mixed := by kernel_rfl
  mono := fun hh _ => hh.elim
  call := fun hh => hh.elim
  qmono := by
    intro f args h K K' hh hk
    change math_Abs.qcall f args h K at hh
    change math_Abs.qcall f args h K'
    unfold math_Abs.qcall at hh ⊢
    split at hh
    · exact hk _ hh
    · exact hk _ hh
    · exact hh.elim
  qval := by
    intro f args h K hh
    change math_Abs.qcall f args h K at hh
    suffices H : ∃ v, K v ∧ math_Abs.qcall f args h (· = v) from H
    unfold math_Abs.qcall at hh ⊢
    split at hh
    · exact ⟨_, hh, rfl⟩
    · exact ⟨_, hh, rfl⟩
    · exact hh.elim
  qcall := by
    intro f args h v hh w hw
    change math_Abs.qcall f args h (· = v) at hh
    unfold math_Abs.qcall at hh
    split at hh
    · subst hh; exact .inr (ext_run Tryz.func43 (by kernel_rfl) (by kernel_rfl) (by kernel_rfl) (e := Extern.MathFloatBits.float64frombits) (by kernel_rfl) (by rfl))
    · subst hh; exact .inr (ext_run Tryz.func202 (by kernel_rfl) (by kernel_rfl) (by kernel_rfl) (e := Extern.MathFloatBits.float64bits) (by kernel_rfl) (by rfl))
    · exact hh.elim
noncomputable def math_Abs.code : Code := (Tryz.f211.body).getD .skip
def math_Abs.ann : Ann := .auto
set_option maxRecDepth 100000 in
theorem math_Abs.eq (a1 : Nat) (h : Heap) (K : Nat → Heap → Prop) : evF math_Abs.ctx Tryz.f211 math_Abs.ann [(.float .f64 a1)] h (math_Abs.ret K) = math_Abs a1 h K := by kernel_rfl
set_option maxRecDepth 100000 in
theorem math_Abs.calls [DKc] {a1 : Nat} {h : Heap} {K : Nat → Heap → Prop} (hh : math_Abs a1 h K) (w : World) (hw : w.heap = h) :
    (callFunc 211 #[(.float .f64 a1)]).run Tryz.prog w = .ok (.enter 211 #[(.float .f64 a1)]) w ∧ Calls Tryz.prog 211 #[(.float .f64 a1)] w fun e w' => ∃ v, e = .returned v ∧ Out w w' ∧ math_Abs.ret K v w'.heap := by
  rw [← math_Abs.eq] at hh
  exact fn_calls (args := [(.float .f64 a1)]) (c := math_Abs.code) math_Abs.ok Tryz.func211 (by kernel_rfl) (by kernel_rfl) (by kernel_rfl) (by kernel_rfl) (loops_ok (l := []) (by kernel_rfl) trivial) hh w hw

/-! ### math.Copysign: function 212 -/
def math_Copysign (a1 : Nat) (a2 : Nat) (h : Heap) (K : Nat → Heap → Prop) : Prop :=
  (bindV (bits .andNot .u64 (a1 : Int) 9223372036854775808) fun n3 => bindV (bits .and .u64 (a2 : Int) 9223372036854775808) fun n4 => (K ((bits .or .u64 n3 n4).toNat) h))
def math_Copysign.ret (K : Nat → Heap → Prop) (v : Value) (h : Heap) : Prop := match v with
  | (.float .f64 r5) => K r5 h
  | _ => False
theorem math_Copysign.ret_elim {K : Nat → Heap → Prop} {K' : Value → Heap → Prop} {v : Value} {h : Heap} (hk : ∀ r5 h, K r5 h → K' (.float .f64 r5) h) (hh : math_Copysign.ret K v h) : K' v h := by
  unfold math_Copysign.ret at hh
  split at hh
  · exact hk _ _ hh
  · exact hh.elim
def math_Copysign.qcall (f : FuncId) (vs : List Value) (h : Heap) (K : Value → Prop) : Prop := match f, vs with
  | 43, [(.int .u64 a1)] => K (.float .f64 a1.toNat)
  | 202, [(.float .f64 a1)] => K (.int .u64 (a1 : Int))
  | _, _ => False
noncomputable def math_Copysign.ctx : Ctx := { P := Tryz.prog, call := fun _ _ _ _ => False, qcall := math_Copysign.qcall, quiet := fun f => Nat.beq f 43 || Nat.beq f 202 || Nat.beq f 1000138 || Nat.beq f 2000157, loop := fun _ _ _ _ => False }
theorem math_Copysign.ok [DKc] : math_Copysign.ctx.OK where
  mixed := by kernel_rfl
  mono := fun hh _ => hh.elim
  call := fun hh => hh.elim
  qmono := by
    intro f args h K K' hh hk
    change math_Copysign.qcall f args h K at hh
    change math_Copysign.qcall f args h K'
    unfold math_Copysign.qcall at hh ⊢
    split at hh
    · exact hk _ hh
    · exact hk _ hh
    · exact hh.elim
  qval := by
    intro f args h K hh
    change math_Copysign.qcall f args h K at hh
    suffices H : ∃ v, K v ∧ math_Copysign.qcall f args h (· = v) from H
    unfold math_Copysign.qcall at hh ⊢
    split at hh
    · exact ⟨_, hh, rfl⟩
    · exact ⟨_, hh, rfl⟩
    · exact hh.elim
  qcall := by
    intro f args h v hh w hw
    change math_Copysign.qcall f args h (· = v) at hh
    unfold math_Copysign.qcall at hh
    split at hh
    · subst hh; exact .inr (ext_run Tryz.func43 (by kernel_rfl) (by kernel_rfl) (by kernel_rfl) (e := Extern.MathFloatBits.float64frombits) (by kernel_rfl) (by rfl))
    · subst hh; exact .inr (ext_run Tryz.func202 (by kernel_rfl) (by kernel_rfl) (by kernel_rfl) (e := Extern.MathFloatBits.float64bits) (by kernel_rfl) (by rfl))
    · exact hh.elim
noncomputable def math_Copysign.code : Code := (Tryz.f212.body).getD .skip
def math_Copysign.ann : Ann := .auto
set_option maxRecDepth 100000 in
theorem math_Copysign.eq (a1 : Nat) (a2 : Nat) (h : Heap) (K : Nat → Heap → Prop) : evF math_Copysign.ctx Tryz.f212 math_Copysign.ann [(.float .f64 a1), (.float .f64 a2)] h (math_Copysign.ret K) = math_Copysign a1 a2 h K := by kernel_rfl
set_option maxRecDepth 100000 in
theorem math_Copysign.calls [DKc] {a1 : Nat} {a2 : Nat} {h : Heap} {K : Nat → Heap → Prop} (hh : math_Copysign a1 a2 h K) (w : World) (hw : w.heap = h) :
    (callFunc 212 #[(.float .f64 a1), (.float .f64 a2)]).run Tryz.prog w = .ok (.enter 212 #[(.float .f64 a1), (.float .f64 a2)]) w ∧ Calls Tryz.prog 212 #[(.float .f64 a1), (.float .f64 a2)] w fun e w' => ∃ v, e = .returned v ∧ Out w w' ∧ math_Copysign.ret K v w'.heap := by
  rw [← math_Copysign.eq] at hh
  exact fn_calls (args := [(.float .f64 a1), (.float .f64 a2)]) (c := math_Copysign.code) math_Copysign.ok Tryz.func212 (by kernel_rfl) (by kernel_rfl) (by kernel_rfl) (by kernel_rfl) (loops_ok (l := []) (by kernel_rfl) trivial) hh w hw

/-! ### math.trunc: function 204 -/
def math_trunc (a1 : Nat) (h : Heap) (K : Nat → Heap → Prop) : Prop :=
  (qcallP1 h (math_Abs a1 h) fun x2 => (iteB (FloatKind.f64.format.order x2 4607182418800017408 == some .lt) (qcallP1 h (math_Copysign 0 a1 h) fun x3 => K x3 h) (((0 ≤ (52 : Int) ∧ bindV (bits .and .u64 ((a1 : Int).fdiv (2 ^ 52)) 2047) fun n4 => ((iteB (decide ((IntKind.u64.wrap (n4 - 1023)) < (52 : Int))) (bindV (IntKind.u64.wrap (52 - (IntKind.u64.wrap (n4 - 1023)))) fun n5 => 0 ≤ n5 ∧ bindV (IntKind.u64.wrap ((1 : Int) * 2 ^ (min n5.toNat 64))) fun n6 => bindV (bits .andNot .u64 (a1 : Int) (IntKind.u64.wrap (n6 - 1))) fun n7 => K n7.toNat h) (((K ((a1 : Int).toNat) h))))))))))
def math_trunc.ret (K : Nat → Heap → Prop) (v : Value) (h : Heap) : Prop := match v with
  | (.float .f64 r9) => K r9 h
  | _ => False
theorem math_trunc.ret_elim {K : Nat → Heap → Prop} {K' : Value → Heap → Prop} {v : Value} {h : Heap} (hk : ∀ r9 h, K r9 h → K' (.float .f64 r9) h) (hh : math_trunc.ret K v h) : K' v h := by
  unfold math_trunc.ret at hh
  split at hh
  · exact hk _ _ hh
  · exact hh.elim
def math_trunc.qcall (f : FuncId) (vs : List Value) (h : Heap) (K : Value → Prop) : Prop := match f, vs with
  | 43, [(.int .u64 a1)] => K (.float .f64 a1.toNat)
  | 202, [(.float .f64 a1)] => K (.int .u64 (a1 : Int))
  | 211, [(.float .f64 a1)] => qcallP1 h (math_Abs a1 h) fun r3 => K (.float .f64 r3)
  | 212, [(.float .f64 a1), (.float .f64 a2)] => qcallP1 h (math_Copysign a1 a2 h) fun r5 => K (.float .f64 r5)
  | _, _ => False
noncomputable def math_trunc.ctx : Ctx := { P := Tryz.prog, call := fun _ _ _ _ => False, qcall := math_trunc.qcall, quiet := fun f => Nat.beq f 43 || Nat.beq f 202 || Nat.beq f 211 || Nat.beq f 212 || Nat.beq f 1000138 || Nat.beq f 2000157, loop := fun _ _ _ _ => False }
theorem math_trunc.ok [DKc] : math_trunc.ctx.OK where
  mixed := by kernel_rfl
  mono := fun hh _ => hh.elim
  call := fun hh => hh.elim
  qmono := by
    intro f args h K K' hh hk
    change math_trunc.qcall f args h K at hh
    change math_trunc.qcall f args h K'
    unfold math_trunc.qcall at hh ⊢
    split at hh
    · exact hk _ hh
    · exact hk _ hh
    · obtain ⟨x0, h1, h2⟩ := hh
      exact ⟨x0, h1, hk _ h2⟩
    · obtain ⟨x0, h1, h2⟩ := hh
      exact ⟨x0, h1, hk _ h2⟩
    · exact hh.elim
  qval := by
    intro f args h K hh
    change math_trunc.qcall f args h K at hh
    suffices H : ∃ v, K v ∧ math_trunc.qcall f args h (· = v) from H
    unfold math_trunc.qcall at hh ⊢
    split at hh
    · exact ⟨_, hh, rfl⟩
    · exact ⟨_, hh, rfl⟩
    · obtain ⟨x0, h1, h2⟩ := hh
      exact ⟨_, h2, x0, h1, rfl⟩
    · obtain ⟨x0, h1, h2⟩ := hh
      exact ⟨_, h2, x0, h1, rfl⟩
    · exact hh.elim
  qcall := by
    intro f args h v hh w hw
    change math_trunc.qcall f args h (· = v) at hh
    unfold math_trunc.qcall at hh
    split at hh
    · subst hh; exact .inr (ext_run Tryz.func43 (by kernel_rfl) (by kernel_rfl) (by kernel_rfl) (e := Extern.MathFloatBits.float64frombits) (by kernel_rfl) (by rfl))
    · subst hh; exact .inr (ext_run Tryz.func202 (by kernel_rfl) (by kernel_rfl) (by kernel_rfl) (e := Extern.MathFloatBits.float64bits) (by kernel_rfl) (by rfl))
    · obtain ⟨x0, h1, h2⟩ := hh
      obtain ⟨g1, g2⟩ := math_Abs.calls h1 w hw
      refine .inl ⟨g1, g2.mono fun e w' ⟨u, he, ho, hr⟩ => ?_⟩
      have hq := math_Abs.ret_elim (K' := fun u h' => u = v ∧ h' = h) (fun _ h' hr => by obtain ⟨rfl, rfl⟩ := hr; exact ⟨h2, rfl⟩) hr
      exact ⟨hq.1 ▸ he, ho, hq.2⟩
    · obtain ⟨x0, h1, h2⟩ := hh
      obtain ⟨g1, g2⟩ := math_Copysign.calls h1 w hw
      refine .inl ⟨g1, g2.mono fun e w' ⟨u, he, ho, hr⟩ => ?_⟩
      have hq := math_Copysign.ret_elim (K' := fun u h' => u = v ∧ h' = h) (fun _ h' hr => by obtain ⟨rfl, rfl⟩ := hr; exact ⟨h2, rfl⟩) hr
      exact ⟨hq.1 ▸ he, ho, hq.2⟩
    · exact hh.elim
noncomputable def math_trunc.code : Code := (Tryz.f204.body).getD .skip
def math_trunc.ann : Ann := .auto
set_option maxRecDepth 100000 in
theorem math_trunc.eq (a1 : Nat) (h : Heap) (K : Nat → Heap → Prop) : evF math_trunc.ctx Tryz.f204 math_trunc.ann [(.float .f64 a1)] h (math_trunc.ret K) = math_trunc a1 h K := by kernel_rfl
set_option maxRecDepth 100000 in
theorem math_trunc.calls [DKc] {a1 : Nat} {h : Heap} {K : Nat → Heap → Prop} (hh : math_trunc a1 h K) (w : World) (hw : w.heap = h) :
    (callFunc 204 #[(.float .f64 a1)]).run Tryz.prog w = .ok (.enter 204 #[(.float .f64 a1)]) w ∧ Calls Tryz.prog 204 #[(.float .f64 a1)] w fun e w' => ∃ v, e = .returned v ∧ Out w w' ∧ math_trunc.ret K v w'.heap := by
  rw [← math_trunc.eq] at hh
  exact fn_calls (args := [(.float .f64 a1)]) (c := math_trunc.code) math_trunc.ok Tryz.func204 (by kernel_rfl) (by kernel_rfl) (by kernel_rfl) (by kernel_rfl) (loops_ok (l := []) (by kernel_rfl) trivial) hh w hw

/-! ### math.Trunc: function 180 -/
def math_Trunc (a1 : Nat) (h : Heap) (K : Nat → Heap → Prop) : Prop :=
  ((truncOK a1 ∧ (K (truncF a1) h)))
def math_Trunc.ret (K : Nat → Heap → Prop) (v : Value) (h : Heap) : Prop := match v with
  | (.float .f64 r2) => K r2 h
  | _ => False
theorem math_Trunc.ret_elim {K : Nat → Heap → Prop} {K' : Value → Heap → Prop} {v : Value} {h : Heap} (hk : ∀ r2 h, K r2 h → K' (.float .f64 r2) h) (hh : math_Trunc.ret K v h) : K' v h := by
  unfold math_Trunc.ret at hh
  split at hh
  · exact hk _ _ hh
  · exact hh.elim
def math_Trunc.qcall (f : FuncId) (vs : List Value) (h : Heap) (K : Value → Prop) : Prop := match f, vs with
  | 203, [(.float .f64 a1)] => truncOK a1 ∧ K (.float .f64 (truncF a1))
  | _, _ => False
noncomputable def math_Trunc.ctx : Ctx := { P := Tryz.prog, call := fun _ _ _ _ => False, qcall := math_Trunc.qcall, quiet := fun f => Nat.beq f 203 || Nat.beq f 204 || Nat.beq f 1000138 || Nat.beq f 2000157, loop := fun _ _ _ _ => False }
theorem math_Trunc.ok [DKc] : math_Trunc.ctx.OK where
  mixed := by kernel_rfl
  mono := fun hh _ => hh.elim
  call := fun hh => hh.elim
  qmono := by
    intro f args h K K' hh hk
    change math_Trunc.qcall f args h K at hh
    change math_Trunc.qcall f args h K'
    unfold math_Trunc.qcall at hh ⊢
    split at hh
    · exact ⟨hh.1, hk _ hh.2⟩
    · exact hh.elim
  qval := by
    intro f args h K hh
    change math_Trunc.qcall f args h K at hh
    suffices H : ∃ v, K v ∧ math_Trunc.qcall f args h (· = v) from H
    unfold math_Trunc.qcall at hh ⊢
    split at hh
    · exact ⟨_, hh.2, hh.1, rfl⟩
    · exact hh.elim
  qcall := by
    intro f args h v hh w hw
    change math_Trunc.qcall f args h (· = v) at hh
    unfold math_Trunc.qcall at hh
    split at hh
    · obtain ⟨hc, rfl⟩ := hh; exact .inr (ext_run Tryz.func203 (by kernel_rfl) (by kernel_rfl) (by kernel_rfl) (e := Extern.MathFloor.toIntegral "math.archTrunc" .zero) (by kernel_rfl) (by exact trunc_run hc))
    · exact hh.elim
noncomputable def math_Trunc.code : Code := (Tryz.f180.body).getD .skip
def math_Trunc.ann : Ann := .auto
set_option maxRecDepth 100000 in
theorem math_Trunc.eq (a1 : Nat) (h : Heap) (K : Nat → Heap → Prop) : evF math_Trunc.ctx Tryz.f180 math_Trunc.ann [(.float .f64 a1)] h (math_Trunc.ret K) = math_Trunc a1 h K := by kernel_rfl
set_option maxRecDepth 100000 in
theorem math_Trunc.calls [DKc] {a1 : Nat} {h : Heap} {K : Nat → Heap → Prop} (hh : math_Trunc a1 h K) (w : World) (hw : w.heap = h) :
    (callFunc 180 #[(.float .f64 a1)]).run Tryz.prog w = .ok (.enter 180 #[(.float .f64 a1)]) w ∧ Calls Tryz.prog 180 #[(.float .f64 a1)] w fun e w' => ∃ v, e = .returned v ∧ Out w w' ∧ math_Trunc.ret K v w'.heap := by
  rw [← math_Trunc.eq] at hh
  exact fn_calls (args := [(.float .f64 a1)]) (c := math_Trunc.code) math_Trunc.ok Tryz.func180 (by kernel_rfl) (by kernel_rfl) (by kernel_rfl) (by kernel_rfl) (loops_ok (l := []) (by kernel_rfl) trivial) hh w hw

/-! ### strait/fint.wrong: function 142 -/
def fint_wrong (a1 : Nat) (h : Heap) (K : Int → Heap → Prop) : Prop :=
  (qcallP1 h (fbit_Kind a1 h) fun x2 => ((iteB (x2 == (0 : Int)) ((K 11 h)) (((iteB (x2 == (1 : Int)) ((K 12 h)) (((iteB (x2 == (3 : Int)) ((K 13 h)) (((iteB (x2 == (4 : Int)) (((qcallP1 h (math_Trunc a1 h) fun x3 => (iteB (FloatKind.f64.format.order x3 a1 != some .eq) (K 13 h) ((iteB (FloatKind.f64.format.order a1 14114281232179134464 == some .lt) (K 10 h) ((iteB (FloatKind.f64.format.order a1 4890909195324358656 == some .gt || FloatKind.f64.format.order a1 4890909195324358656 == some .eq) (K 10 h) ((K 0 h)))))))))) (((iteB (x2 == (2 : Int)) ((K 0 h)) (((K 1 h))))))))))))))))))
def fint_wrong.ret (K : Int → Heap → Prop) (v : Value) (h : Heap) : Prop := match v with
  | (.int .i64 r5) => K r5 h
  | _ => False
theorem fint_wrong.ret_elim {K : Int → Heap → Prop} {K' : Value → Heap → Prop} {v : Value} {h : Heap} (hk : ∀ r5 h, K r5 h → K' (.int .i64 r5) h) (hh : fint_wrong.ret K v h) : K' v h := by
  unfold fint_wrong.ret at hh
  split at hh
  · exact hk _ _ hh
  · exact hh.elim
def fint_wrong.qcall (f : FuncId) (vs : List Value) (h : Heap) (K : Value → Prop) : Prop := match f, vs with
  | 179, [(.float .f64 a1)] => qcallP1 h (fbit_Kind a1 h) fun r3 => K (.int .i64 r3)
  | 180, [(.float .f64 a1)] => qcallP1 h (math_Trunc a1 h) fun r2 => K (.float .f64 r2)
  | _, _ => False
noncomputable def fint_wrong.ctx : Ctx := { P := Tryz.prog, call := fun _ _ _ _ => False, qcall := fint_wrong.qcall, quiet := fun f => Nat.beq f 179 || Nat.beq f 180 || Nat.beq f 1000138 || Nat.beq f 2000157, loop := fun _ _ _ _ => False }
theorem fint_wrong.ok [DKc] : fint_wrong.ctx.OK where
  mixed := by kernel_rfl
  mono := fun hh _ => hh.elim
  call := fun hh => hh.elim
  qmono := by
    intro f args h K K' hh hk
    change fint_wrong.qcall f args h K at hh
    change fint_wrong.qcall f args h K'
    unfold fint_wrong.qcall at hh ⊢
    split at hh
    · obtain ⟨x0, h1, h2⟩ := hh
      exact ⟨x0, h1, hk _ h2⟩
    · obtain ⟨x0, h1, h2⟩ := hh
      exact ⟨x0, h1, hk _ h2⟩
    · exact hh.elim
  qval := by
    intro f args h K hh
    change fint_wrong.qcall f args h K at hh
    suffices H : ∃ v, K v ∧ fint_wrong.qcall f args h (· = v) from H
    unfold fint_wrong.qcall at hh ⊢
    split at hh
    · obtain ⟨x0, h1, h2⟩ := hh
      exact ⟨_, h2, x0, h1, rfl⟩
    · obtain ⟨x0, h1, h2⟩ := hh
      exact ⟨_, h2, x0, h1, rfl⟩
    · exact hh.elim
  qcall := by
    intro f args h v hh w hw
    change fint_wrong.qcall f args h (· = v) at hh
    unfold fint_wrong.qcall at hh
    split at hh
    · obtain ⟨x0, h1, h2⟩ := hh
      obtain ⟨g1, g2⟩ := fbit_Kind.calls h1 w hw
      refine .inl ⟨g1, g2.mono fun e w' ⟨u, he, ho, hr⟩ => ?_⟩
      have hq := fbit_Kind.ret_elim (K' := fun u h' => u = v ∧ h' = h) (fun _ h' hr => by obtain ⟨rfl, rfl⟩ := hr; exact ⟨h2, rfl⟩) hr
      exact ⟨hq.1 ▸ he, ho, hq.2⟩
    · obtain ⟨x0, h1, h2⟩ := hh
      obtain ⟨g1, g2⟩ := math_Trunc.calls h1 w hw
      refine .inl ⟨g1, g2.mono fun e w' ⟨u, he, ho, hr⟩ => ?_⟩
      have hq := math_Trunc.ret_elim (K' := fun u h' => u = v ∧ h' = h) (fun _ h' hr => by obtain ⟨rfl, rfl⟩ := hr; exact ⟨h2, rfl⟩) hr
      exact ⟨hq.1 ▸ he, ho, hq.2⟩
    · exact hh.elim
noncomputable def fint_wrong.code : Code := (Tryz.f142.body).getD .skip
def fint_wrong.ann : Ann := .auto
set_option maxRecDepth 100000 in
theorem fint_wrong.eq (a1 : Nat) (h : Heap) (K : Int → Heap → Prop) : evF fint_wrong.ctx Tryz.f142 fint_wrong.ann [(.float .f64 a1)] h (fint_wrong.ret K) = fint_wrong a1 h K := by kernel_rfl
set_option maxRecDepth 100000 in
theorem fint_wrong.calls [DKc] {a1 : Nat} {h : Heap} {K : Int → Heap → Prop} (hh : fint_wrong a1 h K) (w : World) (hw : w.heap = h) :
    (callFunc 142 #[(.float .f64 a1)]).run Tryz.prog w = .ok (.enter 142 #[(.float .f64 a1)]) w ∧ Calls Tryz.prog 142 #[(.float .f64 a1)] w fun e w' => ∃ v, e = .returned v ∧ Out w w' ∧ fint_wrong.ret K v w'.heap := by
  rw [← fint_wrong.eq] at hh
  exact fn_calls (args := [(.float .f64 a1)]) (c := fint_wrong.code) fint_wrong.ok Tryz.func142 (by kernel_rfl) (by kernel_rfl) (by kernel_rfl) (by kernel_rfl) (loops_ok (l := []) (by kernel_rfl) trivial) hh w hw

/-! ### strait/fint.Int: function 114 -/
def fint_Int (a1 : Nat) (h : Heap) (K : Int → Int → Heap → Prop) : Prop :=
  (qcallP1 h (fint_wrong a1 h) fun x2 => ((iteB (x2 != (0 : Int)) (K 0 x2 h) ((∃ n3 : Int, (FloatKind.f64.decode a1).toInt .zero = some n3 ∧ (IntKind.i64.min ≤ n3 ∧ n3 ≤ IntKind.i64.max) ∧ K n3 0 h)))))
def fint_Int.ret (K : Int → Int → Heap → Prop) (v : Value) (h : Heap) : Prop := match v with
  | (.tuple ⟨[(.int .i64 r4), (.int .i64 r5)]⟩) => K r4 r5 h
  | _ => False
theorem fint_Int.ret_elim {K : Int → Int → Heap → Prop} {K' : Value → Heap → Prop} {v : Value} {h : Heap} (hk : ∀ r4 r5 h, K r4 r5 h → K' (.tuple #[(.int .i64 r4), (.int .i64 r5)]) h) (hh : fint_Int.ret K v h) : K' v h := by
  unfold fint_Int.ret at hh
  split at hh
  · exact hk _ _ _ hh
  · exact hh.elim
def fint_Int.qcall (f : FuncId) (vs : List Value) (h : Heap) (K : Value → Prop) : Prop := match f, vs with
  | 142, [(.float .f64 a1)] => qcallP1 h (fint_wrong a1 h) fun r5 => K (.int .i64 r5)
  | _, _ => False
noncomputable def fint_Int.ctx : Ctx := { P := Tryz.prog, call := fun _ _ _ _ => False, qcall := fint_Int.qcall, quiet := fun f => Nat.beq f 142 || Nat.beq f 1000138 || Nat.beq f 2000157, loop := fun _ _ _ _ => False }
theorem fint_Int.ok [DKc] : fint_Int.ctx.OK where
  mixed := by kernel_rfl
  mono := fun hh _ => hh.elim
  call := fun hh => hh.elim
  qmono := by
    intro f args h K K' hh hk
    change fint_Int.qcall f args h K at hh
    change fint_Int.qcall f args h K'
    unfold fint_Int.qcall at hh ⊢
    split at hh
    · obtain ⟨x0, h1, h2⟩ := hh
      exact ⟨x0, h1, hk _ h2⟩
    · exact hh.elim
  qval := by
    intro f args h K hh
    change fint_Int.qcall f args h K at hh
    suffices H : ∃ v, K v ∧ fint_Int.qcall f args h (· = v) from H
    unfold fint_Int.qcall at hh ⊢
    split at hh
    · obtain ⟨x0, h1, h2⟩ := hh
      exact ⟨_, h2, x0, h1, rfl⟩
    · exact hh.elim
  qcall := by
    intro f args h v hh w hw
    change fint_Int.qcall f args h (· = v) at hh
    unfold fint_Int.qcall at hh
    split at hh
    · obtain ⟨x0, h1, h2⟩ := hh
      obtain ⟨g1, g2⟩ := fint_wrong.calls h1 w hw
      refine .inl ⟨g1, g2.mono fun e w' ⟨u, he, ho, hr⟩ => ?_⟩
      have hq := fint_wrong.ret_elim (K' := fun u h' => u = v ∧ h' = h) (fun _ h' hr => by obtain ⟨rfl, rfl⟩ := hr; exact ⟨h2, rfl⟩) hr
      exact ⟨hq.1 ▸ he, ho, hq.2⟩
    · exact hh.elim
noncomputable def fint_Int.code : Code := (Tryz.f114.body).getD .skip
def fint_Int.ann : Ann := .auto
set_option maxRecDepth 100000 in
theorem fint_Int.eq (a1 : Nat) (h : Heap) (K : Int → Int → Heap → Prop) : evF fint_Int.ctx Tryz.f114 fint_Int.ann [(.float .f64 a1)] h (fint_Int.ret K) = fint_Int a1 h K := by kernel_rfl
set_option maxRecDepth 100000 in
theorem fint_Int.calls [DKc] {a1 : Nat} {h : Heap} {K : Int → Int → Heap → Prop} (hh : fint_Int a1 h K) (w : World) (hw : w.heap = h) :
    (callFunc 114 #[(.float .f64 a1)]).run Tryz.prog w = .ok (.enter 114 #[(.float .f64 a1)]) w ∧ Calls Tryz.prog 114 #[(.float .f64 a1)] w fun e w' => ∃ v, e = .returned v ∧ Out w w' ∧ fint_Int.ret K v w'.heap := by
  rw [← fint_Int.eq] at hh
  exact fn_calls (args := [(.float .f64 a1)]) (c := fint_Int.code) fint_Int.ok Tryz.func114 (by kernel_rfl) (by kernel_rfl) (by kernel_rfl) (by kernel_rfl) (loops_ok (l := []) (by kernel_rfl) trivial) hh w hw

/-! ### strait/fint.Weight: function 80 -/
def fint_Weight (a1 : Nat) (h : Heap) (K : Int → Int → Heap → Prop) : Prop :=
  (qcallP2 h (fint_Int a1 h) fun x2 x3 => ((iteB (x3 != (0 : Int)) (K 0 x3 h) ((iteB (decide (x2 < (0 : Int))) ((iteB (decide (x2 < (0 : Int))) (K 0 5 h) ((K x2 0 h)))) ((iteB (decide (x2 > (2147483648 : Int))) (K 0 5 h) ((K x2 0 h)))))))))
def fint_Weight.ret (K : Int → Int → Heap → Prop) (v : Value) (h : Heap) : Prop := match v with
  | (.tuple ⟨[(.int .i64 r5), (.int .i64 r6)]⟩) => K r5 r6 h
  | _ => False
theorem fint_Weight.ret_elim {K : Int → Int → Heap → Prop} {K' : Value → Heap → Prop} {v : Value} {h : Heap} (hk : ∀ r5 r6 h, K r5 r6 h → K' (.tuple #[(.int .i64 r5), (.int .i64 r6)]) h) (hh : fint_Weight.ret K v h) : K' v h := by
  unfold fint_Weight.ret at hh
  split at hh
  · exact hk _ _ _ hh
  · exact hh.elim
def fint_Weight.qcall (f : FuncId) (vs : List Value) (h : Heap) (K : Value → Prop) : Prop := match f, vs with
  | 114, [(.float .f64 a1)] => qcallP2 h (fint_Int a1 h) fun r4 r5 => K (.tuple #[(.int .i64 r4), (.int .i64 r5)])
  | _, _ => False
noncomputable def fint_Weight.ctx : Ctx := { P := Tryz.prog, call := fun _ _ _ _ => False, qcall := fint_Weight.qcall, quiet := fun f => Nat.beq f 114 || Nat.beq f 1000138 || Nat.beq f 2000157, loop := fun _ _ _ _ => False }
theorem fint_Weight.ok [DKc] : fint_Weight.ctx.OK where
  mixed := by kernel_rfl
  mono := fun hh _ => hh.elim
  call := fun hh => hh.elim
  qmono := by
    intro f args h K K' hh hk
    change fint_Weight.qcall f args h K at hh
    change fint_Weight.qcall f args h K'
    unfold fint_Weight.qcall at hh ⊢
    split at hh
    · obtain ⟨x0, x1, h1, h2⟩ := hh
      exact ⟨x0, x1, h1, hk _ h2⟩
    · exact hh.elim
  qval := by
    intro f args h K hh
    change fint_Weight.qcall f args h K at hh
    suffices H : ∃ v, K v ∧ fint_Weight.qcall f args h (· = v) from H
    unfold fint_Weight.qcall at hh ⊢
    split at hh
    · obtain ⟨x0, x1, h1, h2⟩ := hh
      exact ⟨_, h2, x0, x1, h1, rfl⟩
    · exact hh.elim
  qcall := by
    intro f args h v hh w hw
    change fint_Weight.qcall f args h (· = v) at hh
    unfold fint_Weight.qcall at hh
    split at hh
    · obtain ⟨x0, x1, h1, h2⟩ := hh
      obtain ⟨g1, g2⟩ := fint_Int.calls h1 w hw
      refine .inl ⟨g1, g2.mono fun e w' ⟨u, he, ho, hr⟩ => ?_⟩
      have hq := fint_Int.ret_elim (K' := fun u h' => u = v ∧ h' = h) (fun _ _ h' hr => by obtain ⟨rfl, rfl, rfl⟩ := hr; exact ⟨h2, rfl⟩) hr
      exact ⟨hq.1 ▸ he, ho, hq.2⟩
    · exact hh.elim
noncomputable def fint_Weight.code : Code := (Tryz.f80.body).getD .skip
def fint_Weight.ann : Ann := .auto
set_option maxRecDepth 100000 in
theorem fint_Weight.eq (a1 : Nat) (h : Heap) (K : Int → Int → Heap → Prop) : evF fint_Weight.ctx Tryz.f80 fint_Weight.ann [(.float .f64 a1)] h (fint_Weight.ret K) = fint_Weight a1 h K := by kernel_rfl
set_option maxRecDepth 100000 in
theorem fint_Weight.calls [DKc] {a1 : Nat} {h : Heap} {K : Int → Int → Heap → Prop} (hh : fint_Weight a1 h K) (w : World) (hw : w.heap = h) :
    (callFunc 80 #[(.float .f64 a1)]).run Tryz.prog w = .ok (.enter 80 #[(.float .f64 a1)]) w ∧ Calls Tryz.prog 80 #[(.float .f64 a1)] w fun e w' => ∃ v, e = .returned v ∧ Out w w' ∧ fint_Weight.ret K v w'.heap := by
  rw [← fint_Weight.eq] at hh
  exact fn_calls (args := [(.float .f64 a1)]) (c := fint_Weight.code) fint_Weight.ok Tryz.func80 (by kernel_rfl) (by kernel_rfl) (by kernel_rfl) (by kernel_rfl) (loops_ok (l := []) (by kernel_rfl) trivial) hh w hw

/-! ### strait/fint.Weights: function 44 -/
def fint_Weights.b0 (K0 : (Option Addr) → Nat → Nat → Int → Int → Heap → Prop) (K2 : Heap → Prop) (cont : Addr → Nat → Nat → (Option Addr) → Nat → Nat → Int → Int → Heap → Prop) (c5_1001 : Addr) (c5_1002 : Nat) (c5_1003 : Nat) (c13_1004 : Option Addr) (c13_1005 : Nat) (c13_1006 : Nat) (c14_1007 : Int) (v15_1008 : Int) (h1009 : Heap) : Prop :=
  (iteB (decide (v15_1008 < c14_1007)) ((chkP c13_1004 fun a1010 => (0 ≤ v15_1008 ∧ v15_1008 < (c13_1005 : Int)) ∧ ∃ (x1011 : Nat), cell h1009 (a1010.add (v15_1008.toNat * 1)) = some (.float .f64 x1011) ∧ (qcallP2 h1009 (fint_Weight x1011 h1009) fun x1012 x1013 => ((iteB (x1013 != (0 : Int)) (K0 none 0 0 x1013 v15_1008 h1009) (((0 ≤ v15_1008 ∧ v15_1008 < (c5_1002 : Int)) ∧ stC h1009 (c5_1001.add (v15_1008.toNat * 1)) (.int .i64 x1012) fun h1014 => ((cont c5_1001 c5_1002 c5_1003 c13_1004 c13_1005 c13_1006 c14_1007 (IntKind.i64.wrap (v15_1008 + 1)) h1014))))))))) (K2 h1009))
def fint_Weights.l0 (K0 : (Option Addr) → Nat → Nat → Int → Int → Heap → Prop) (K2 : Heap → Prop) : Nat → Addr → Nat → Nat → (Option Addr) → Nat → Nat → Int → Int → Heap → Prop
  | 0, _, _, _, _, _, _, _, _, _ => False
  | m + 1, c5_1001, c5_1002, c5_1003, c13_1004, c13_1005, c13_1006, c14_1007, v15_1008, h => fint_Weights.b0 K0 K2 (fint_Weights.l0 K0 K2 m) c5_1001 c5_1002 c5_1003 c13_1004 c13_1005 c13_1006 c14_1007 v15_1008 h
def fint_Weights (a1 : Option Addr) (a1l : Nat) (a1c : Nat) (h : Heap) (K : (Option Addr) → Nat → Nat → Int → Int → Heap → Prop) : Prop :=
  ((0 ≤ (a1l : Int) ∧ (a1l : Int) ≤ (a1l : Int) ∧ (a1l : Int) * (8 : Nat) ≤ 2 ^ 47 ∧ (a1l : Int) ≤ 2 ^ 47) ∧ newP h (.cells (zeroRow [(.int .i64 0)] (a1l : Int).toNat).toArray 2) fun a2 h3 => ((∃ m9, fint_Weights.l0 (fun z4 z4l z4c z5 z6 h7 => K z4 z4l z4c z5 z6 h7) (fun h8 => (((K (some a2) ((a1l : Int).toNat) ((a1l : Int).toNat) 0 0 h8)))) m9 a2 ((a1l : Int).toNat) ((a1l : Int).toNat) a1 a1l a1c (a1l : Int) 0 h3)))
def fint_Weights.ret (K : (Option Addr) → Nat → Nat → Int → Int → Heap → Prop) (v : Value) (h : Heap) : Prop := match v with
  | (.tuple ⟨[(.slice r10 r10l r10c), (.int .i64 r11), (.int .i64 r12)]⟩) => K r10 r10l r10c r11 r12 h
  | _ => False
theorem fint_Weights.ret_elim {K : (Option Addr) → Nat → Nat → Int → Int → Heap → Prop} {K' : Value → Heap → Prop} {v : Value} {h : Heap} (hk : ∀ r10 r10l r10c r11 r12 h, K r10 r10l r10c r11 r12 h → K' (.tuple #[(.slice r10 r10l r10c), (.int .i64 r11), (.int .i64 r12)]) h) (hh : fint_Weights.ret K v h) : K' v h := by
  unfold fint_Weights.ret at hh
  split at hh
  · exact hk _ _ _ _ _ _ hh
  · exact hh.elim
def fint_Weights.qcall (f : FuncId) (vs : List Value) (h : Heap) (K : Value → Prop) : Prop := match f, vs with
  | 80, [(.float .f64 a1)] => qcallP2 h (fint_Weight a1 h) fun r5 r6 => K (.tuple #[(.int .i64 r5), (.int .i64 r6)])
  | _, _ => False
def fint_Weights.r0 (K : Nat → List Value → Heap → Prop) (m : Nat) (vs : List Value) (h : Heap) : Prop := match vs with
  | [(.slice (some c5_1001) c5_1002 c5_1003), (.slice c13_1004 c13_1005 c13_1006), (.int .i64 c14_1007), (.int .i64 v15_1008)] => fint_Weights.l0 (fun z13 z13l z13c z14 z15 h' => K 0 [(.slice z13 z13l z13c), (.int .i64 z14), (.int .i64 z15)] h') (fun h' => K 2 [(.slice (some c5_1001) c5_1002 c5_1003)] h') m c5_1001 c5_1002 c5_1003 c13_1004 c13_1005 c13_1006 c14_1007 v15_1008 h
  | _ => False
def fint_Weights.loop (i : Nat) (vs : List Value) (h : Heap) (K : Nat → List Value → Heap → Prop) : Prop := match i with
  | 0 => ∃ m, fint_Weights.r0 K m vs h
  | _ => False
noncomputable def fint_Weights.ctx : Ctx := { P := Tryz.prog, call := fun _ _ _ _ => False, qcall := fint_Weights.qcall, quiet := fun f => Nat.beq f 80 || Nat.beq f 1000138 || Nat.beq f 2000157, loop := fint_Weights.loop }
theorem fint_Weights.ok [DKc] : fint_Weights.ctx.OK where
  mixed := by kernel_rfl
  mono := fun hh _ => hh.elim
  call := fun hh => hh.elim
  qmono := by
    intro f args h K K' hh hk
    change fint_Weights.qcall f args h K at hh
    change fint_Weights.qcall f args h K'
    unfold fint_Weights.qcall at hh ⊢
    split at hh
    · obtain ⟨x0, x1, h1, h2⟩ := hh
      exact ⟨x0, x1, h1, hk _ h2⟩
    · exact hh.elim
  qval := by
    intro f args h K hh
    change fint_Weights.qcall f args h K at hh
    suffices H : ∃ v, K v ∧ fint_Weights.qcall f args h (· = v) from H
    unfold fint_Weights.qcall at hh ⊢
    split at hh
    · obtain ⟨x0, x1, h1, h2⟩ := hh
      exact ⟨_, h2, x0, x1, h1, rfl⟩
    · exact hh.elim
  qcall := by
    intro f args h v hh w hw
    change fint_Weights.qcall f args h (· = v) at hh
    unfold fint_Weights.qcall at hh
    split at hh
    · obtain ⟨x0, x1, h1, h2⟩ := hh
      obtain ⟨g1, g2⟩ := fint_Weight.calls h1 w hw
      refine .inl ⟨g1, g2.mono fun e w' ⟨u, he, ho, hr⟩ => ?_⟩
      have hq := fint_Weight.ret_elim (K' := fun u h' => u = v ∧ h' = h) (fun _ _ h' hr => by obtain ⟨rfl, rfl, rfl⟩ := hr; exact ⟨h2, rfl⟩) hr
      exact ⟨hq.1 ▸ he, ho, hq.2⟩
    · exact hh.elim
noncomputable def fint_Weights.code : Code := (Tryz.f44.body).getD .skip
def fint_Weights.ann : Ann := (.two .auto (.two .auto (.two (.two .auto (.two (.loop 0 [5, 13, 14, 15] [(2, [5]), (0, [2, 3, 4])] .auto) .auto)) .auto)))
noncomputable def fint_Weights.c0 : Code := sub fint_Weights.code [1, 1, 0, 1, 0, 0]
def fint_Weights.a0 : Ann := .auto
def fint_Weights.keep0 : List Nat := [5, 13, 14, 15]
def fint_Weights.outs0 : List (Nat × List Nat) := [(2, [5]), (0, [2, 3, 4])]
set_option maxRecDepth 100000 in
theorem fint_Weights.L0 [DKc] : LoopOK fint_Weights.ctx 35 fint_Weights.c0 0 fint_Weights.keep0 fint_Weights.outs0 := by
  refine loop_ok (n := fint_Weights.a0) fint_Weights.ok (by kernel_rfl) (loops_ok (l := []) (by kernel_rfl) ?_) fint_Weights.r0 ?_ ?_ (fun vs h K hh => hh)
  · exact trivial
  · intro K vs h hh
    unfold fint_Weights.r0 at hh
    split at hh
    · exact hh
    · exact hh
  · intro K m vs h hh
    unfold fint_Weights.r0 at hh
    split at hh
    · exact cast (by kernel_rfl) hh
    · exact hh.elim
set_option maxRecDepth 100000 in
theorem fint_Weights.eq (a1 : Option Addr) (a1l : Nat) (a1c : Nat) (h : Heap) (K : (Option Addr) → Nat → Nat → Int → Int → Heap → Prop) : evF fint_Weights.ctx Tryz.f44 fint_Weights.ann [(.slice a1 a1l a1c)] h (fint_Weights.ret K) = fint_Weights a1 a1l a1c h K := by kernel_rfl
set_option maxRecDepth 100000 in
theorem fint_Weights.calls [DKc] {a1 : Option Addr} {a1l : Nat} {a1c : Nat} {h : Heap} {K : (Option Addr) → Nat → Nat → Int → Int → Heap → Prop} (hh : fint_Weights a1 a1l a1c h K) (w : World) (hw : w.heap = h) :
    (callFunc 44 #[(.slice a1 a1l a1c)]).run Tryz.prog w = .ok (.enter 44 #[(.slice a1 a1l a1c)]) w ∧ Calls Tryz.prog 44 #[(.slice a1 a1l a1c)] w fun e w' => ∃ v, e = .returned v ∧ Out w w' ∧ fint_Weights.ret K v w'.heap := by
  rw [← fint_Weights.eq] at hh
  exact fn_calls (args := [(.slice a1 a1l a1c)]) (c := fint_Weights.code) fint_Weights.ok Tryz.func44 (by kernel_rfl) (by kernel_rfl) (by kernel_rfl) (by kernel_rfl) (loops_ok (l := [(fint_Weights.c0, none, 0, fint_Weights.keep0, fint_Weights.outs0)]) (by kernel_rfl) ⟨fint_Weights.L0, trivial⟩) hh w hw

/-! ### strait/gprint.lines: function 54 -/
def gprint_lines (h : Heap) (K : (Option Addr) → Addr → Heap → Prop) : Prop :=
  (newP h (.cells #[(.pointer none), (.slice none 0 0)] 159) fun a1 h2 => ((K (some a1) a1 h2)))
def gprint_lines.ret (K : (Option Addr) → Addr → Heap → Prop) (v : Value) (h : Heap) : Prop := match v with
  | (.tuple ⟨[(.pointer r3), (.func (.func 95) ⟨[]⟩ ⟨[(.pointer (some r4))]⟩)]⟩) => K r3 r4 h
  | _ => False
theorem gprint_lines.ret_elim {K : (Option Addr) → Addr → Heap → Prop} {K' : Value → Heap → Prop} {v : Value} {h : Heap} (hk : ∀ r3 r4 h, K r3 r4 h → K' (.tuple #[(.pointer r3), (.func (.func 95) #[] #[(.pointer (some r4))])]) h) (hh : gprint_lines.ret K v h) : K' v h := by
  unfold gprint_lines.ret at hh
  split at hh
  · exact hk _ _ _ hh
  · exact hh.elim
noncomputable def gprint_lines.ctx : Ctx := { P := Tryz.prog, call := fun _ _ _ _ => False, qcall := fun _ _ _ _ => False, quiet := fun f => Nat.beq f 1000138 || Nat.beq f 2000157, loop := fun _ _ _ _ => False }
theorem gprint_lines.ok [DKc] : gprint_lines.ctx.OK where
  mixed := by kernel_rfl
  mono := fun hh _ => hh.elim
  call := fun hh => hh.elim
  qmono := fun hh _ => hh.elim
  qval := fun hh => hh.elim
  qcall := fun hh => hh.elim
noncomputable def gprint_lines.code : Code := (Tryz.f54.body).getD .skip
def gprint_lines.ann : Ann := .auto
set_option maxRecDepth 100000 in
theorem gprint_lines.eq (h : Heap) (K : (Option Addr) → Addr → Heap → Prop) : evF gprint_lines.ctx Tryz.f54 gprint_lines.ann [] h (gprint_lines.ret K) = gprint_lines h K := by kernel_rfl
set_option maxRecDepth 100000 in
theorem gprint_lines.calls [DKc] {h : Heap} {K : (Option Addr) → Addr → Heap → Prop} (hh : gprint_lines h K) (w : World) (hw : w.heap = h) :
    (callFunc 54 #[]).run Tryz.prog w = .ok (.enter 54 #[]) w ∧ Calls Tryz.prog 54 #[] w fun e w' => ∃ v, e = .returned v ∧ Out w w' ∧ gprint_lines.ret K v w'.heap := by
  rw [← gprint_lines.eq] at hh
  exact fn_calls (args := []) (c := gprint_lines.code) gprint_lines.ok Tryz.func54 (by kernel_rfl) (by kernel_rfl) (by kernel_rfl) (by kernel_rfl) (loops_ok (l := []) (by kernel_rfl) trivial) hh w hw

/-! ### (*strings.Builder).WriteByte: function 97, by its contract -/
def strings_Builder_WriteByte.ret (K : Value → Heap → Prop) (v : Value) (h : Heap) : Prop := K v h
theorem strings_Builder_WriteByte.ret_elim {K : Value → Heap → Prop} {K' : Value → Heap → Prop} {v : Value} {h : Heap} (hk : ∀ x h, K x h → K' x h) (hh : strings_Builder_WriteByte.ret K v h) : K' v h := hk _ _ hh
def strings_Builder_WriteByte [DKc] (a1 : Option Addr) (a2 : Int) (h : Heap) (K : Value → Heap → Prop) : Prop := ∀ w : World, w.heap = h → (callFunc 97 #[(.pointer a1), (.int .u8 a2)]).run Tryz.prog w = .ok (.enter 97 #[(.pointer a1), (.int .u8 a2)]) w ∧ Calls Tryz.prog 97 #[(.pointer a1), (.int .u8 a2)] w fun e w' => ∃ v, e = .returned v ∧ Out w w' ∧ strings_Builder_WriteByte.ret K v w'.heap
theorem strings_Builder_WriteByte.calls [DKc] {a1 : Option Addr} {a2 : Int} {h : Heap} {K : Value → Heap → Prop} (hh : strings_Builder_WriteByte a1 a2 h K) (w : World) (hw : w.heap = h) : (callFunc 97 #[(.pointer a1), (.int .u8 a2)]).run Tryz.prog w = .ok (.enter 97 #[(.pointer a1), (.int .u8 a2)]) w ∧ Calls Tryz.prog 97 #[(.pointer a1), (.int .u8 a2)] w fun e w' => ∃ v, e = .returned v ∧ Out w w' ∧ strings_Builder_WriteByte.ret K v w'.heap := hh w hw

/-! ### strconv.FormatInt: function 98, by its contract -/
def strconv_FormatInt.ret (K : ByteArray → Heap → Prop) (v : Value) (h : Heap) : Prop := match v with
  | (.string r3) => K r3 h
  | _ => False
theorem strconv_FormatInt.ret_elim {K : ByteArray → Heap → Prop} {K' : Value → Heap → Prop} {v : Value} {h : Heap} (hk : ∀ r3 h, K r3 h → K' (.string r3) h) (hh : strconv_FormatInt.ret K v h) : K' v h := by
  unfold strconv_FormatInt.ret at hh
  split at hh
  · exact hk _ _ hh
  · exact hh.elim
def strconv_FormatInt [DKc] (a1 : Int) (a2 : Int) (h : Heap) (K : ByteArray → Heap → Prop) : Prop := ∀ w : World, w.heap = h → (callFunc 98 #[(.int .i64 a1), (.int .i64 a2)]).run Tryz.prog w = .ok (.enter 98 #[(.int .i64 a1), (.int .i64 a2)]) w ∧ Calls Tryz.prog 98 #[(.int .i64 a1), (.int .i64 a2)] w fun e w' => ∃ v, e = .returned v ∧ Out w w' ∧ strconv_FormatInt.ret K v w'.heap
theorem strconv_FormatInt.calls [DKc] {a1 : Int} {a2 : Int} {h : Heap} {K : ByteArray → Heap → Prop} (hh : strconv_FormatInt a1 a2 h K) (w : World) (hw : w.heap = h) : (callFunc 98 #[(.int .i64 a1), (.int .i64 a2)]).run Tryz.prog w = .ok (.enter 98 #[(.int .i64 a1), (.int .i64 a2)]) w ∧ Calls Tryz.prog 98 #[(.int .i64 a1), (.int .i64 a2)] w fun e w' => ∃ v, e = .returned v ∧ Out w w' ∧ strconv_FormatInt.ret K v w'.heap := hh w hw

/-! ### strait/dec.Print: function 56 -/
section
variable [DKc]
def dec_Print (a1 : Int) (h : Heap) (K : ByteArray → Heap → Prop) : Prop :=
  (callP1 (strconv_FormatInt a1 10 h) fun x2 h3 => K x2 h3)
def dec_Print.ret (K : ByteArray → Heap → Prop) (v : Value) (h : Heap) : Prop := match v with
  | (.string r4) => K r4 h
  | _ => False
theorem dec_Print.ret_elim {K : ByteArray → Heap → Prop} {K' : Value → Heap → Prop} {v : Value} {h : Heap} (hk : ∀ r4 h, K r4 h → K' (.string r4) h) (hh : dec_Print.ret K v h) : K' v h := by
  unfold dec_Print.ret at hh
  split at hh
  · exact hk _ _ hh
  · exact hh.elim
def dec_Print.call (f : FuncId) (vs : List Value) (h : Heap) (K : Value → Heap → Prop) : Prop := match f, vs with
  | 98, [(.int .i64 a1), (.int .i64 a2)] => callP1 (strconv_FormatInt a1 a2 h) fun r3 h' => K (.string r3) h'
  | _, _ => False
noncomputable def dec_Print.ctx : Ctx := { P := Tryz.prog, call := dec_Print.call, qcall := fun _ _ _ _ => False, quiet := fun f => Nat.beq f 1000138 || Nat.beq f 2000157, loop := fun _ _ _ _ => False }
theorem dec_Print.ok : dec_Print.ctx.OK where
  mixed := by kernel_rfl
  mono := by
    intro f args h K K' hh hk
    change dec_Print.call f args h K at hh
    change dec_Print.call f args h K'
    unfold dec_Print.call at hh ⊢
    split at hh
    · obtain ⟨R, h1, h2⟩ := hh
      exact ⟨R, h1, fun _ x hr => hk _ _ (h2 _ x hr)⟩
    · exact hh.elim
  call := by
    intro f args h K hh w hw
    change dec_Print.call f args h K at hh
    unfold dec_Print.call at hh
    split at hh
    · obtain ⟨R, h1, h2⟩ := hh
      obtain ⟨g1, g2⟩ := strconv_FormatInt.calls h1 w hw
      exact ⟨g1, g2.mono fun e w' ⟨v, he, ho, hr⟩ => ⟨v, he, ho, strconv_FormatInt.ret_elim h2 hr⟩⟩
    · exact hh.elim
  qmono := fun hh _ => hh.elim
  qval := fun hh => hh.elim
  qcall := fun hh => hh.elim
noncomputable def dec_Print.code : Code := (Tryz.f56.body).getD .skip
def dec_Print.ann : Ann := .auto
set_option maxRecDepth 100000 in
theorem dec_Print.eq (a1 : Int) (h : Heap) (K : ByteArray → Heap → Prop) : evF dec_Print.ctx Tryz.f56 dec_Print.ann [(.int .i64 a1)] h (dec_Print.ret K) = dec_Print a1 h K := by kernel_rfl
set_option maxRecDepth 100000 in
theorem dec_Print.calls {a1 : Int} {h : Heap} {K : ByteArray → Heap → Prop} (hh : dec_Print a1 h K) (w : World) (hw : w.heap = h) :
    (callFunc 56 #[(.int .i64 a1)]).run Tryz.prog w = .ok (.enter 56 #[(.int .i64 a1)]) w ∧ Calls Tryz.prog 56 #[(.int .i64 a1)] w fun e w' => ∃ v, e = .returned v ∧ Out w w' ∧ dec_Print.ret K v w'.heap := by
  rw [← dec_Print.eq] at hh
  exact fn_calls (args := [(.int .i64 a1)]) (c := dec_Print.code) dec_Print.ok Tryz.func56 (by kernel_rfl) (by kernel_rfl) (by kernel_rfl) (by kernel_rfl) (loops_ok (l := []) (by kernel_rfl) trivial) hh w hw
end

/-! ### (*strings.Builder).WriteString: function 96, by its contract -/
def strings_Builder_WriteString.ret (K : Int → Value → Heap → Prop) (v : Value) (h : Heap) : Prop := match v with
  | (.tuple ⟨[(.int .i64 r3), r4]⟩) => K r3 r4 h
  | _ => False
theorem strings_Builder_WriteString.ret_elim {K : Int → Value → Heap → Prop} {K' : Value → Heap → Prop} {v : Value} {h : Heap} (hk : ∀ r3 r4 h, K r3 r4 h → K' (.tuple #[(.int .i64 r3), r4]) h) (hh : strings_Builder_WriteString.ret K v h) : K' v h := by
  unfold strings_Builder_WriteString.ret at hh
  split at hh
  · exact hk _ _ _ hh
  · exact hh.elim
def strings_Builder_WriteString [DKc] (a1 : Option Addr) (a2 : ByteArray) (h : Heap) (K : Int → Value → Heap → Prop) : Prop := ∀ w : World, w.heap = h → (callFunc 96 #[(.pointer a1), (.string a2)]).run Tryz.prog w = .ok (.enter 96 #[(.pointer a1), (.string a2)]) w ∧ Calls Tryz.prog 96 #[(.pointer a1), (.string a2)] w fun e w' => ∃ v, e = .returned v ∧ Out w w' ∧ strings_Builder_WriteString.ret K v w'.heap
theorem strings_Builder_WriteString.calls [DKc] {a1 : Option Addr} {a2 : ByteArray} {h : Heap} {K : Int → Value → Heap → Prop} (hh : strings_Builder_WriteString a1 a2 h K) (w : World) (hw : w.heap = h) : (callFunc 96 #[(.pointer a1), (.string a2)]).run Tryz.prog w = .ok (.enter 96 #[(.pointer a1), (.string a2)]) w ∧ Calls Tryz.prog 96 #[(.pointer a1), (.string a2)] w fun e w' => ∃ v, e = .returned v ∧ Out w w' ∧ strings_Builder_WriteString.ret K v w'.heap := hh w hw

/-! ### (*strings.Builder).String: function 58, by its contract -/
def strings_Builder_String.ret (K : ByteArray → Heap → Prop) (v : Value) (h : Heap) : Prop := match v with
  | (.string r2) => K r2 h
  | _ => False
theorem strings_Builder_String.ret_elim {K : ByteArray → Heap → Prop} {K' : Value → Heap → Prop} {v : Value} {h : Heap} (hk : ∀ r2 h, K r2 h → K' (.string r2) h) (hh : strings_Builder_String.ret K v h) : K' v h := by
  unfold strings_Builder_String.ret at hh
  split at hh
  · exact hk _ _ hh
  · exact hh.elim
def strings_Builder_String [DKc] (a1 : Option Addr) (h : Heap) (K : ByteArray → Heap → Prop) : Prop := ∀ w : World, w.heap = h → (callFunc 58 #[(.pointer a1)]).run Tryz.prog w = .ok (.enter 58 #[(.pointer a1)]) w ∧ Calls Tryz.prog 58 #[(.pointer a1)] w fun e w' => ∃ v, e = .returned v ∧ Out w w' ∧ strings_Builder_String.ret K v w'.heap
theorem strings_Builder_String.calls [DKc] {a1 : Option Addr} {h : Heap} {K : ByteArray → Heap → Prop} (hh : strings_Builder_String a1 h K) (w : World) (hw : w.heap = h) : (callFunc 58 #[(.pointer a1)]).run Tryz.prog w = .ok (.enter 58 #[(.pointer a1)]) w ∧ Calls Tryz.prog 58 #[(.pointer a1)] w fun e w' => ∃ v, e = .returned v ∧ Out w w' ∧ strings_Builder_String.ret K v w'.heap := hh w hw

/-! ### strait/dec.List: function 60 -/
section
variable [DKc]
def dec_List.b0 (K2 : Heap → Prop) (cont : Addr → (Option Addr) → Nat → Nat → Int → Int → Heap → Prop) (c3_1001 : Addr) (c6_1002 : Option Addr) (c6_1003 : Nat) (c6_1004 : Nat) (c7_1005 : Int) (v8_1006 : Int) (h1007 : Heap) : Prop :=
  (iteB (decide (v8_1006 < c7_1005)) ((chkP c6_1002 fun a1008 => (0 ≤ v8_1006 ∧ v8_1006 < (c6_1003 : Int)) ∧ ∃ (x1009 : Int), cell h1007 (a1008.add (v8_1006.toNat * 1)) = some (.int .i64 x1009) ∧ ((iteB (decide (v8_1006 > (0 : Int))) (callP1 (strings_Builder_WriteByte (some c3_1001) 32 h1007) fun x1010 h1011 => (callP1 (dec_Print x1009 h1011) fun x1018 h1019 => callP2 (strings_Builder_WriteString (some c3_1001) x1018 h1019) fun x1020 x1021 h1022 => ((cont c3_1001 c6_1002 c6_1003 c6_1004 c7_1005 (IntKind.i64.wrap (v8_1006 + 1)) h1022)))) ((callP1 (dec_Print x1009 h1007) fun x1023 h1024 => callP2 (strings_Builder_WriteString (some c3_1001) x1023 h1024) fun x1025 x1026 h1027 => ((cont c3_1001 c6_1002 c6_1003 c6_1004 c7_1005 (IntKind.i64.wrap (v8_1006 + 1)) h1027)))))))) (K2 h1007))
def dec_List.l0 (K2 : Heap → Prop) : Nat → Addr → (Option Addr) → Nat → Nat → Int → Int → Heap → Prop
  | 0, _, _, _, _, _, _, _ => False
  | m + 1, c3_1001, c6_1002, c6_1003, c6_1004, c7_1005, v8_1006, h => dec_List.b0 K2 (dec_List.l0 K2 m) c3_1001 c6_1002 c6_1003 c6_1004 c7_1005 v8_1006 h
def dec_List (a1 : Option Addr) (a1l : Nat) (a1c : Nat) (h : Heap) (K : ByteArray → Heap → Prop) : Prop :=
  (newP h (.cells #[(.pointer none), (.slice none 0 0)] 159) fun a2 h3 => ((∃ m5, dec_List.l0 (fun h4 => ((callP1 (strings_Builder_String (some a2) h4) fun x6 h7 => K x6 h7))) m5 a2 a1 a1l a1c (a1l : Int) 0 h3)))
def dec_List.ret (K : ByteArray → Heap → Prop) (v : Value) (h : Heap) : Prop := match v with
  | (.string r8) => K r8 h
  | _ => False
theorem dec_List.ret_elim {K : ByteArray → Heap → Prop} {K' : Value → Heap → Prop} {v : Value} {h : Heap} (hk : ∀ r8 h, K r8 h → K' (.string r8) h) (hh : dec_List.ret K v h) : K' v h := by
  unfold dec_List.ret at hh
  split at hh
  · exact hk _ _ hh
  · exact hh.elim
def dec_List.call (f : FuncId) (vs : List Value) (h : Heap) (K : Value → Heap → Prop) : Prop := match f, vs with
  | 56, [(.int .i64 a1)] => callP1 (dec_Print a1 h) fun r4 h' => K (.string r4) h'
  | 58, [(.pointer a1)] => callP1 (strings_Builder_String a1 h) fun r2 h' => K (.string r2) h'
  | 96, [(.pointer a1), (.string a2)] => callP2 (strings_Builder_WriteString a1 a2 h) fun r3 r4 h' => K (.tuple #[(.int .i64 r3), r4]) h'
  | 97, [(.pointer a1), (.int .u8 a2)] => callP1 (strings_Builder_WriteByte a1 a2 h) fun r3 h' => K r3 h'
  | _, _ => False
def dec_List.r0 (K : Nat → List Value → Heap → Prop) (m : Nat) (vs : List Value) (h : Heap) : Prop := match vs with
  | [(.pointer (some c3_1001)), (.slice c6_1002 c6_1003 c6_1004), (.int .i64 c7_1005), (.int .i64 v8_1006)] => dec_List.l0 (fun h' => K 2 [(.pointer (some c3_1001))] h') m c3_1001 c6_1002 c6_1003 c6_1004 c7_1005 v8_1006 h
  | _ => False
def dec_List.loop (i : Nat) (vs : List Value) (h : Heap) (K : Nat → List Value → Heap → Prop) : Prop := match i with
  | 0 => ∃ m, dec_List.r0 K m vs h
  | _ => False
noncomputable def dec_List.ctx : Ctx := { P := Tryz.prog, call := dec_List.call, qcall := fun _ _ _ _ => False, quiet := fun f => Nat.beq f 1000138 || Nat.beq f 2000157, loop := dec_List.loop }
theorem dec_List.ok : dec_List.ctx.OK where
  mixed := by kernel_rfl
  mono := by
    intro f args h K K' hh hk
    change dec_List.call f args h K at hh
    change dec_List.call f args h K'
    unfold dec_List.call at hh ⊢
    split at hh
    · obtain ⟨R, h1, h2⟩ := hh
      exact ⟨R, h1, fun _ x hr => hk _ _ (h2 _ x hr)⟩
    · obtain ⟨R, h1, h2⟩ := hh
      exact ⟨R, h1, fun _ x hr => hk _ _ (h2 _ x hr)⟩
    · obtain ⟨R, h1, h2⟩ := hh
      exact ⟨R, h1, fun _ _ x hr => hk _ _ (h2 _ _ x hr)⟩
    · obtain ⟨R, h1, h2⟩ := hh
      exact ⟨R, h1, fun _ x hr => hk _ _ (h2 _ x hr)⟩
    · exact hh.elim
  call := by
    intro f args h K hh w hw
    change dec_List.call f args h K at hh
    unfold dec_List.call at hh
    split at hh
    · obtain ⟨R, h1, h2⟩ := hh
      obtain ⟨g1, g2⟩ := dec_Print.calls h1 w hw
      exact ⟨g1, g2.mono fun e w' ⟨v, he, ho, hr⟩ => ⟨v, he, ho, dec_Print.ret_elim h2 hr⟩⟩
    · obtain ⟨R, h1, h2⟩ := hh
      obtain ⟨g1, g2⟩ := strings_Builder_String.calls h1 w hw
      exact ⟨g1, g2.mono fun e w' ⟨v, he, ho, hr⟩ => ⟨v, he, ho, strings_Builder_String.ret_elim h2 hr⟩⟩
    · obtain ⟨R, h1, h2⟩ := hh
      obtain ⟨g1, g2⟩ := strings_Builder_WriteString.calls h1 w hw
      exact ⟨g1, g2.mono fun e w' ⟨v, he, ho, hr⟩ => ⟨v, he, ho, strings_Builder_WriteString.ret_elim h2 hr⟩⟩
    · obtain ⟨R, h1, h2⟩ := hh
      obtain ⟨g1, g2⟩ := strings_Builder_WriteByte.calls h1 w hw
      exact ⟨g1, g2.mono fun e w' ⟨v, he, ho, hr⟩ => ⟨v, he, ho, strings_Builder_WriteByte.ret_elim h2 hr⟩⟩
    · exact hh.elim
  qmono := fun hh _ => hh.elim
  qval := fun hh => hh.elim
  qcall := fun hh => hh.elim
noncomputable def dec_List.code : Code := (Tryz.f60.body).getD .skip
def dec_List.ann : Ann := (.two .auto (.two .auto (.two (.two .auto (.two (.loop 0 [3, 6, 7, 8] [(2, [3])] .auto) .auto)) .auto)))
noncomputable def dec_List.c0 : Code := sub dec_List.code [1, 1, 0, 1, 0, 0]
def dec_List.a0 : Ann := .auto
def dec_List.keep0 : List Nat := [3, 6, 7, 8]
def dec_List.outs0 : List (Nat × List Nat) := [(2, [3])]
set_option maxRecDepth 100000 in
theorem dec_List.L0 : LoopOK dec_List.ctx 21 dec_List.c0 0 dec_List.keep0 dec_List.outs0 := by
  refine loop_ok (n := dec_List.a0) dec_List.ok (by kernel_rfl) (loops_ok (l := []) (by kernel_rfl) ?_) dec_List.r0 ?_ ?_ (fun vs h K hh => hh)
  · exact trivial
  · intro K vs h hh
    unfold dec_List.r0 at hh
    split at hh
    · exact hh
    · exact hh
  · intro K m vs h hh
    unfold dec_List.r0 at hh
    split at hh
    · exact cast (by kernel_rfl) hh
    · exact hh.elim
set_option maxRecDepth 100000 in
theorem dec_List.eq (a1 : Option Addr) (a1l : Nat) (a1c : Nat) (h : Heap) (K : ByteArray → Heap → Prop) : evF dec_List.ctx Tryz.f60 dec_List.ann [(.slice a1 a1l a1c)] h (dec_List.ret K) = dec_List a1 a1l a1c h K := by kernel_rfl
set_option maxRecDepth 100000 in
theorem dec_List.calls {a1 : Option Addr} {a1l : Nat} {a1c : Nat} {h : Heap} {K : ByteArray → Heap → Prop} (hh : dec_List a1 a1l a1c h K) (w : World) (hw : w.heap = h) :
    (callFunc 60 #[(.slice a1 a1l a1c)]).run Tryz.prog w = .ok (.enter 60 #[(.slice a1 a1l a1c)]) w ∧ Calls Tryz.prog 60 #[(.slice a1 a1l a1c)] w fun e w' => ∃ v, e = .returned v ∧ Out w w' ∧ dec_List.ret K v w'.heap := by
  rw [← dec_List.eq] at hh
  exact fn_calls (args := [(.slice a1 a1l a1c)]) (c := dec_List.code) dec_List.ok Tryz.func60 (by kernel_rfl) (by kernel_rfl) (by kernel_rfl) (by kernel_rfl) (loops_ok (l := [(dec_List.c0, none, 0, dec_List.keep0, dec_List.outs0)]) (by kernel_rfl) ⟨dec_List.L0, trivial⟩) hh w hw
end

/-! ### strait/gprint.lines$1: function 95 -/
section
variable [DKc]
def gprint_lines_c1.b0 (K2 : Heap → Prop) (cont : Addr → (Option Addr) → Nat → Nat → Int → Int → Heap → Prop) (c1_1001 : Addr) (c5_1002 : Option Addr) (c5_1003 : Nat) (c5_1004 : Nat) (c6_1005 : Int) (v7_1006 : Int) (h1007 : Heap) : Prop :=
  (iteB (decide (v7_1006 < c6_1005)) ((chkP c5_1002 fun a1008 => (0 ≤ v7_1006 ∧ v7_1006 < (c5_1003 : Int)) ∧ ∃ (x1009 : ByteArray), cell h1007 (a1008.add (v7_1006.toNat * 1)) = some (.string x1009) ∧ (callP2 (strings_Builder_WriteString (some c1_1001) x1009 h1007) fun x1010 x1011 h1012 => ((cont c1_1001 c5_1002 c5_1003 c5_1004 c6_1005 (IntKind.i64.wrap (v7_1006 + 1)) h1012))))) (K2 h1007))
def gprint_lines_c1.l0 (K2 : Heap → Prop) : Nat → Addr → (Option Addr) → Nat → Nat → Int → Int → Heap → Prop
  | 0, _, _, _, _, _, _, _ => False
  | m + 1, c1_1001, c5_1002, c5_1003, c5_1004, c6_1005, v7_1006, h => gprint_lines_c1.b0 K2 (gprint_lines_c1.l0 K2 m) c1_1001 c5_1002 c5_1003 c5_1004 c6_1005 v7_1006 h
def gprint_lines_c1 (a1 : Option Addr) (a1l : Nat) (a1c : Nat) (a2 : Addr) (h : Heap) (K : Heap → Prop) : Prop :=
  (∃ m4, gprint_lines_c1.l0 (fun h3 => ((callP1 (strings_Builder_WriteByte (some a2) 10 h3) fun x5 h6 => K h6))) m4 a2 a1 a1l a1c (a1l : Int) 0 h)
def gprint_lines_c1.ret (K : Heap → Prop) (v : Value) (h : Heap) : Prop := match v with
  | (.tuple ⟨[]⟩) => K h
  | _ => False
theorem gprint_lines_c1.ret_elim {K : Heap → Prop} {K' : Value → Heap → Prop} {v : Value} {h : Heap} (hk : ∀  h, K h → K' (.tuple #[]) h) (hh : gprint_lines_c1.ret K v h) : K' v h := by
  unfold gprint_lines_c1.ret at hh
  split at hh
  · exact hk _ hh
  · exact hh.elim
def gprint_lines_c1.call (f : FuncId) (vs : List Value) (h : Heap) (K : Value → Heap → Prop) : Prop := match f, vs with
  | 96, [(.pointer a1), (.string a2)] => callP2 (strings_Builder_WriteString a1 a2 h) fun r3 r4 h' => K (.tuple #[(.int .i64 r3), r4]) h'
  | 97, [(.pointer a1), (.int .u8 a2)] => callP1 (strings_Builder_WriteByte a1 a2 h) fun r3 h' => K r3 h'
  | _, _ => False
def gprint_lines_c1.r0 (K : Nat → List Value → Heap → Prop) (m : Nat) (vs : List Value) (h : Heap) : Prop := match vs with
  | [(.pointer (some c1_1001)), (.slice c5_1002 c5_1003 c5_1004), (.int .i64 c6_1005), (.int .i64 v7_1006)] => gprint_lines_c1.l0 (fun h' => K 2 [(.pointer (some c1_1001))] h') m c1_1001 c5_1002 c5_1003 c5_1004 c6_1005 v7_1006 h
  | _ => False
def gprint_lines_c1.loop (i : Nat) (vs : List Value) (h : Heap) (K : Nat → List Value → Heap → Prop) : Prop := match i with
  | 0 => ∃ m, gprint_lines_c1.r0 K m vs h
  | _ => False
noncomputable def gprint_lines_c1.ctx : Ctx := { P := Tryz.prog, call := gprint_lines_c1.call, qcall := fun _ _ _ _ => False, quiet := fun f => Nat.beq f 1000138 || Nat.beq f 2000157, loop := gprint_lines_c1.loop }
theorem gprint_lines_c1.ok : gprint_lines_c1.ctx.OK where
  mixed := by kernel_rfl
  mono := by
    intro f args h K K' hh hk
    change gprint_lines_c1.call f args h K at hh
    change gprint_lines_c1.call f args h K'
    unfold gprint_lines_c1.call at hh ⊢
    split at hh
    · obtain ⟨R, h1, h2⟩ := hh
      exact ⟨R, h1, fun _ _ x hr => hk _ _ (h2 _ _ x hr)⟩
    · obtain ⟨R, h1, h2⟩ := hh
      exact ⟨R, h1, fun _ x hr => hk _ _ (h2 _ x hr)⟩
    · exact hh.elim
  call := by
    intro f args h K hh w hw
    change gprint_lines_c1.call f args h K at hh
    unfold gprint_lines_c1.call at hh
    split at hh
    · obtain ⟨R, h1, h2⟩ := hh
      obtain ⟨g1, g2⟩ := strings_Builder_WriteString.calls h1 w hw
      exact ⟨g1, g2.mono fun e w' ⟨v, he, ho, hr⟩ => ⟨v, he, ho, strings_Builder_WriteString.ret_elim h2 hr⟩⟩
    · obtain ⟨R, h1, h2⟩ := hh
      obtain ⟨g1, g2⟩ := strings_Builder_WriteByte.calls h1 w hw
      exact ⟨g1, g2.mono fun e w' ⟨v, he, ho, hr⟩ => ⟨v, he, ho, strings_Builder_WriteByte.ret_elim h2 hr⟩⟩
    · exact hh.elim
  qmono := fun hh _ => hh.elim
  qval := fun hh => hh.elim
  qcall := fun hh => hh.elim
noncomputable def gprint_lines_c1.code : Code := (Tryz.f95.body).getD .skip
def gprint_lines_c1.ann : Ann := (.two (.two .auto (.two (.loop 0 [1, 5, 6, 7] [(2, [1])] .auto) .auto)) .auto)
noncomputable def gprint_lines_c1.c0 : Code := sub gprint_lines_c1.code [0, 1, 0, 0]
def gprint_lines_c1.a0 : Ann := .auto
def gprint_lines_c1.keep0 : List Nat := [1, 5, 6, 7]
def gprint_lines_c1.outs0 : List (Nat × List Nat) := [(2, [1])]
set_option maxRecDepth 100000 in
theorem gprint_lines_c1.L0 : LoopOK gprint_lines_c1.ctx 15 gprint_lines_c1.c0 0 gprint_lines_c1.keep0 gprint_lines_c1.outs0 := by
  refine loop_ok (n := gprint_lines_c1.a0) gprint_lines_c1.ok (by kernel_rfl) (loops_ok (l := []) (by kernel_rfl) ?_) gprint_lines_c1.r0 ?_ ?_ (fun vs h K hh => hh)
  · exact trivial
  · intro K vs h hh
    unfold gprint_lines_c1.r0 at hh
    split at hh
    · exact hh
    · exact hh
  · intro K m vs h hh
    unfold gprint_lines_c1.r0 at hh
    split at hh
    · exact cast (by kernel_rfl) hh
    · exact hh.elim
set_option maxRecDepth 100000 in
theorem gprint_lines_c1.eq (a1 : Option Addr) (a1l : Nat) (a1c : Nat) (a2 : Addr) (h : Heap) (K : Heap → Prop) : evF gprint_lines_c1.ctx Tryz.f95 gprint_lines_c1.ann [(.slice a1 a1l a1c), (.pointer (some a2))] h (gprint_lines_c1.ret K) = gprint_lines_c1 a1 a1l a1c a2 h K := by kernel_rfl
set_option maxRecDepth 100000 in
theorem gprint_lines_c1.calls {a1 : Option Addr} {a1l : Nat} {a1c : Nat} {a2 : Addr} {h : Heap} {K : Heap → Prop} (hh : gprint_lines_c1 a1 a1l a1c a2 h K) (w : World) (hw : w.heap = h) :
    (callFunc 95 #[(.slice a1 a1l a1c), (.pointer (some a2))]).run Tryz.prog w = .ok (.enter 95 #[(.slice a1 a1l a1c), (.pointer (some a2))]) w ∧ Calls Tryz.prog 95 #[(.slice a1 a1l a1c), (.pointer (some a2))] w fun e w' => ∃ v, e = .returned v ∧ Out w w' ∧ gprint_lines_c1.ret K v w'.heap := by
  rw [← gprint_lines_c1.eq] at hh
  exact fn_calls (args := [(.slice a1 a1l a1c), (.pointer (some a2))]) (c := gprint_lines_c1.code) gprint_lines_c1.ok Tryz.func95 (by kernel_rfl) (by kernel_rfl) (by kernel_rfl) (by kernel_rfl) (loops_ok (l := [(gprint_lines_c1.c0, none, 0, gprint_lines_c1.keep0, gprint_lines_c1.outs0)]) (by kernel_rfl) ⟨gprint_lines_c1.L0, trivial⟩) hh w hw
end

/-! ### strait/gprint.text: function 45 -/
section
variable [DKc]
def gprint_text.b0 (K2 : Heap → Prop) (cont : (Option Addr) → Addr → (Option Addr) → Nat → Nat → Int → Int → Heap → Prop) (c5_1001 : Option Addr) (c6_1002 : Addr) (c21_1003 : Option Addr) (c21_1004 : Nat) (c21_1005 : Nat) (c22_1006 : Int) (v23_1007 : Int) (h1008 : Heap) : Prop :=
  (iteB (decide (v23_1007 < c22_1006)) ((chkP c21_1003 fun a1009 => (0 ≤ v23_1007 ∧ v23_1007 < (c21_1004 : Int)) ∧ ∃ (x1010 : Int), cell h1008 (a1009.add (v23_1007.toNat * 3)) = some (.int .i64 x1010) ∧ ∃ (x1011 : Int), cell h1008 ((a1009.add (v23_1007.toNat * 3)).add 1) = some (.int .i64 x1011) ∧ ∃ (x1012 : Int), cell h1008 ((a1009.add (v23_1007.toNat * 3)).add 2) = some (.int .i64 x1012) ∧ newP h1008 (.cells #[(.int .i64 0), (.int .i64 0), (.int .i64 0)] 27) fun a1013 h1014 => stC h1014 a1013 (.int .i64 x1010) fun h1015 => stC h1015 (a1013.add 1) (.int .i64 x1011) fun h1016 => stC h1016 (a1013.add 2) (.int .i64 x1012) fun h1017 => (∃ (x1018 : Int), cell h1017 a1013 = some (.int .i64 x1018) ∧ ∃ (x1019 : Int), cell h1017 (a1013.add 1) = some (.int .i64 x1019) ∧ ∃ (x1020 : Int), cell h1017 (a1013.add 2) = some (.int .i64 x1020) ∧ newP h1017 (.cells #[(.int .i64 x1018), (.int .i64 x1019), (.int .i64 x1020)] 2) fun a1021 h1022 => callP1 (dec_List (some a1021) 3 3 h1022) fun x1023 h1024 => newP h1024 (.cells #[(.string x1023)] 9) fun a1025 h1026 => callP0 (gprint_lines_c1 (some a1025) 1 1 c6_1002 h1026) fun h1027 => ((cont c5_1001 c6_1002 c21_1003 c21_1004 c21_1005 c22_1006 (IntKind.i64.wrap (v23_1007 + 1)) h1027))))) (K2 h1008))
def gprint_text.l0 (K2 : Heap → Prop) : Nat → (Option Addr) → Addr → (Option Addr) → Nat → Nat → Int → Int → Heap → Prop
  | 0, _, _, _, _, _, _, _, _ => False
  | m + 1, c5_1001, c6_1002, c21_1003, c21_1004, c21_1005, c22_1006, v23_1007, h => gprint_text.b0 K2 (gprint_text.l0 K2 m) c5_1001 c6_1002 c21_1003 c21_1004 c21_1005 c22_1006 v23_1007 h
def gprint_text (a1 : Int) (a2 : Option Addr) (a2l : Nat) (a2c : Nat) (h : Heap) (K : ByteArray → Heap → Prop) : Prop :=
  (callP2 (gprint_lines h) fun x3 x4 h5 => (newP h5 (.cells #[(.int .i64 a1), (.int .i64 (a2l : Int))] 2) fun a6 h7 => callP1 (dec_List (some a6) 2 2 h7) fun x8 h9 => newP h9 (.cells #[(.string (⟨#[103, 114, 97, 112, 104, 32]⟩ : ByteArray)), (.string x8)] 9) fun a10 h11 => callP0 (gprint_lines_c1 (some a10) 2 2 x4 h11) fun h12 => ((∃ m14, gprint_text.l0 (fun h13 => ((callP1 (strings_Builder_String x3 h13) fun x15 h16 => K x15 h16))) m14 x3 x4 a2 a2l a2c (a2l : Int) 0 h12))))
def gprint_text.ret (K : ByteArray → Heap → Prop) (v : Value) (h : Heap) : Prop := match v with
  | (.string r17) => K r17 h
  | _ => False
theorem gprint_text.ret_elim {K : ByteArray → Heap → Prop} {K' : Value → Heap → Prop} {v : Value} {h : Heap} (hk : ∀ r17 h, K r17 h → K' (.string r17) h) (hh : gprint_text.ret K v h) : K' v h := by
  unfold gprint_text.ret at hh
  split at hh
  · exact hk _ _ hh
  · exact hh.elim
def gprint_text.call (f : FuncId) (vs : List Value) (h : Heap) (K : Value → Heap → Prop) : Prop := match f, vs with
  | 54, [] => callP2 (gprint_lines h) fun r3 r4 h' => K (.tuple #[(.pointer r3), (.func (.func 95) #[] #[(.pointer (some r4))])]) h'
  | 58, [(.pointer a1)] => callP1 (strings_Builder_String a1 h) fun r2 h' => K (.string r2) h'
  | 60, [(.slice a1 a1l a1c)] => callP1 (dec_List a1 a1l a1c h) fun r8 h' => K (.string r8) h'
  | 95, [(.slice a1 a1l a1c), (.pointer (some a2))] => callP0 (gprint_lines_c1 a1 a1l a1c a2 h) fun h' => K (.tuple #[]) h'
  | _, _ => False
def gprint_text.r0 (K : Nat → List Value → Heap → Prop) (m : Nat) (vs : List Value) (h : Heap) : Prop := match vs with
  | [(.pointer c5_1001), (.func (.func 95) ⟨[]⟩ ⟨[(.pointer (some c6_1002))]⟩), (.slice c21_1003 c21_1004 c21_1005), (.int .i64 c22_1006), (.int .i64 v23_1007)] => gprint_text.l0 (fun h' => K 2 [(.pointer c5_1001)] h') m c5_1001 c6_1002 c21_1003 c21_1004 c21_1005 c22_1006 v23_1007 h
  | _ => False
def gprint_text.loop (i : Nat) (vs : List Value) (h : Heap) (K : Nat → List Value → Heap → Prop) : Prop := match i with
  | 0 => ∃ m, gprint_text.r0 K m vs h
  | _ => False
noncomputable def gprint_text.ctx : Ctx := { P := Tryz.prog, call := gprint_text.call, qcall := fun _ _ _ _ => False, quiet := fun f => Nat.beq f 1000138 || Nat.beq f 2000157, loop := gprint_text.loop }
theorem gprint_text.ok : gprint_text.ctx.OK where
  mixed := by kernel_rfl
  mono := by
    intro f args h K K' hh hk
    change gprint_text.call f args h K at hh
    change gprint_text.call f args h K'
    unfold gprint_text.call at hh ⊢
    split at hh
    · obtain ⟨R, h1, h2⟩ := hh
      exact ⟨R, h1, fun _ _ x hr => hk _ _ (h2 _ _ x hr)⟩
    · obtain ⟨R, h1, h2⟩ := hh
      exact ⟨R, h1, fun _ x hr => hk _ _ (h2 _ x hr)⟩
    · obtain ⟨R, h1, h2⟩ := hh
      exact ⟨R, h1, fun _ x hr => hk _ _ (h2 _ x hr)⟩
    · obtain ⟨R, h1, h2⟩ := hh
      exact ⟨R, h1, fun x hr => hk _ _ (h2 x hr)⟩
    · exact hh.elim
  call := by
    intro f args h K hh w hw
    change gprint_text.call f args h K at hh
    unfold gprint_text.call at hh
    split at hh
    · obtain ⟨R, h1, h2⟩ := hh
      obtain ⟨g1, g2⟩ := gprint_lines.calls h1 w hw
      exact ⟨g1, g2.mono fun e w' ⟨v, he, ho, hr⟩ => ⟨v, he, ho, gprint_lines.ret_elim h2 hr⟩⟩
    · obtain ⟨R, h1, h2⟩ := hh
      obtain ⟨g1, g2⟩ := strings_Builder_String.calls h1 w hw
      exact ⟨g1, g2.mono fun e w' ⟨v, he, ho, hr⟩ => ⟨v, he, ho, strings_Builder_String.ret_elim h2 hr⟩⟩
    · obtain ⟨R, h1, h2⟩ := hh
      obtain ⟨g1, g2⟩ := dec_List.calls h1 w hw
      exact ⟨g1, g2.mono fun e w' ⟨v, he, ho, hr⟩ => ⟨v, he, ho, dec_List.ret_elim h2 hr⟩⟩
    · obtain ⟨R, h1, h2⟩ := hh
      obtain ⟨g1, g2⟩ := gprint_lines_c1.calls h1 w hw
      exact ⟨g1, g2.mono fun e w' ⟨v, he, ho, hr⟩ => ⟨v, he, ho, gprint_lines_c1.ret_elim h2 hr⟩⟩
    · exact hh.elim
  qmono := fun hh _ => hh.elim
  qval := fun hh => hh.elim
  qcall := fun hh => hh.elim
noncomputable def gprint_text.code : Code := (Tryz.f45.body).getD .skip
def gprint_text.ann : Ann := (.two .auto (.two .auto (.two .auto (.two (.two .auto (.two (.loop 0 [5, 6, 21, 22, 23] [(2, [5])] .auto) .auto)) .auto))))
noncomputable def gprint_text.c0 : Code := sub gprint_text.code [1, 1, 1, 0, 1, 0, 0]
def gprint_text.a0 : Ann := .auto
def gprint_text.keep0 : List Nat := [5, 6, 21, 22, 23]
def gprint_text.outs0 : List (Nat × List Nat) := [(2, [5])]
set_option maxRecDepth 100000 in
theorem gprint_text.L0 : LoopOK gprint_text.ctx 41 gprint_text.c0 0 gprint_text.keep0 gprint_text.outs0 := by
  refine loop_ok (n := gprint_text.a0) gprint_text.ok (by kernel_rfl) (loops_ok (l := []) (by kernel_rfl) ?_) gprint_text.r0 ?_ ?_ (fun vs h K hh => hh)
  · exact trivial
  · intro K vs h hh
    unfold gprint_text.r0 at hh
    split at hh
    · exact hh
    · exact hh
  · intro K m vs h hh
    unfold gprint_text.r0 at hh
    split at hh
    · exact cast (by kernel_rfl) hh
    · exact hh.elim
set_option maxRecDepth 100000 in
theorem gprint_text.eq (a1 : Int) (a2 : Option Addr) (a2l : Nat) (a2c : Nat) (h : Heap) (K : ByteArray → Heap → Prop) : evF gprint_text.ctx Tryz.f45 gprint_text.ann [(.int .i64 a1), (.slice a2 a2l a2c)] h (gprint_text.ret K) = gprint_text a1 a2 a2l a2c h K := by kernel_rfl
set_option maxRecDepth 100000 in
theorem gprint_text.calls {a1 : Int} {a2 : Option Addr} {a2l : Nat} {a2c : Nat} {h : Heap} {K : ByteArray → Heap → Prop} (hh : gprint_text a1 a2 a2l a2c h K) (w : World) (hw : w.heap = h) :
    (callFunc 45 #[(.int .i64 a1), (.slice a2 a2l a2c)]).run Tryz.prog w = .ok (.enter 45 #[(.int .i64 a1), (.slice a2 a2l a2c)]) w ∧ Calls Tryz.prog 45 #[(.int .i64 a1), (.slice a2 a2l a2c)] w fun e w' => ∃ v, e = .returned v ∧ Out w w' ∧ gprint_text.ret K v w'.heap := by
  rw [← gprint_text.eq] at hh
  exact fn_calls (args := [(.int .i64 a1), (.slice a2 a2l a2c)]) (c := gprint_text.code) gprint_text.ok Tryz.func45 (by kernel_rfl) (by kernel_rfl) (by kernel_rfl) (by kernel_rfl) (loops_ok (l := [(gprint_text.c0, none, 0, gprint_text.keep0, gprint_text.outs0)]) (by kernel_rfl) ⟨gprint_text.L0, trivial⟩) hh w hw
end

/-! ### strait/gprint.Floats: function 21 -/
section
variable [DKc]
def gprint_Floats.b0 (K0 : ByteArray → Int → Int → Heap → Prop) (K3 : Heap → Prop) (cont : Int → (Option Addr) → Nat → Nat → Addr → Nat → Nat → (Option Addr) → Nat → Nat → Int → Int → Heap → Prop) (c0_1001 : Int) (c9_1002 : Option Addr) (c9_1003 : Nat) (c9_1004 : Nat) (c12_1005 : Addr) (c12_1006 : Nat) (c12_1007 : Nat) (c43_1008 : Option Addr) (c43_1009 : Nat) (c43_1010 : Nat) (c44_1011 : Int) (v45_1012 : Int) (h1013 : Heap) : Prop :=
  (iteB (decide (v45_1012 < c44_1011)) ((chkP c43_1008 fun a1014 => (0 ≤ v45_1012 ∧ v45_1012 < (c43_1009 : Int)) ∧ ∃ (x1015 : Int), cell h1013 (a1014.add (v45_1012.toNat * 3)) = some (.int .i64 x1015) ∧ ∃ (x1016 : Int), cell h1013 ((a1014.add (v45_1012.toNat * 3)).add 1) = some (.int .i64 x1016) ∧ ∃ (x1017 : Int), cell h1013 ((a1014.add (v45_1012.toNat * 3)).add 2) = some (.int .i64 x1017) ∧ newP h1013 (.cells #[(.int .i64 0), (.int .i64 0), (.int .i64 0)] 27) fun a1018 h1019 => stC h1019 a1018 (.int .i64 x1015) fun h1020 => stC h1020 (a1018.add 1) (.int .i64 x1016) fun h1021 => stC h1021 (a1018.add 2) (.int .i64 x1017) fun h1022 => (let j1035 : Prop := (∃ (x1028 : Int), cell h1022 a1018 = some (.int .i64 x1028) ∧ ∃ (x1029 : Int), cell h1022 (a1018.add 1) = some (.int .i64 x1029) ∧ chkP c9_1002 fun a1030 => (0 ≤ v45_1012 ∧ v45_1012 < (c9_1003 : Int)) ∧ ∃ (x1031 : Int), cell h1022 (a1030.add (v45_1012.toNat * 1)) = some (.int .i64 x1031) ∧ (0 ≤ v45_1012 ∧ v45_1012 < (c12_1006 : Int)) ∧ stC h1022 (c12_1005.add (v45_1012.toNat * 3)) (.int .i64 x1028) fun h1032 => stC h1032 ((c12_1005.add (v45_1012.toNat * 3)).add 1) (.int .i64 x1029) fun h1033 => stC h1033 ((c12_1005.add (v45_1012.toNat * 3)).add 2) (.int .i64 x1031) fun h1034 => ((cont c0_1001 c9_1002 c9_1003 c9_1004 c12_1005 c12_1006 c12_1007 c43_1008 c43_1009 c43_1010 c44_1011 (IntKind.i64.wrap (v45_1012 + 1)) h1034)));
  ∃ (x1023 : Int), cell h1022 a1018 = some (.int .i64 x1023) ∧ iteB (decide (x1023 < (0 : Int))) (((K0 (⟨#[]⟩ : ByteArray) 4 v45_1012 h1022))) (∃ (x1024 : Int), cell h1022 a1018 = some (.int .i64 x1024) ∧ iteB (decide (x1024 ≥ c0_1001)) (((K0 (⟨#[]⟩ : ByteArray) 4 v45_1012 h1022))) (∃ (x1025 : Int), cell h1022 (a1018.add 1) = some (.int .i64 x1025) ∧ iteB (decide (x1025 < (0 : Int))) (((K0 (⟨#[]⟩ : ByteArray) 4 v45_1012 h1022))) (∃ (x1026 : Int), cell h1022 (a1018.add 1) = some (.int .i64 x1026) ∧ (iteB (decide (x1026 ≥ c0_1001)) ((K0 (⟨#[]⟩ : ByteArray) 4 v45_1012 h1022)) ((j1035))))))))) (K3 h1013))
def gprint_Floats.l0 (K0 : ByteArray → Int → Int → Heap → Prop) (K3 : Heap → Prop) : Nat → Int → (Option Addr) → Nat → Nat → Addr → Nat → Nat → (Option Addr) → Nat → Nat → Int → Int → Heap → Prop
  | 0, _, _, _, _, _, _, _, _, _, _, _, _, _ => False
  | m + 1, c0_1001, c9_1002, c9_1003, c9_1004, c12_1005, c12_1006, c12_1007, c43_1008, c43_1009, c43_1010, c44_1011, v45_1012, h => gprint_Floats.b0 K0 K3 (gprint_Floats.l0 K0 K3 m) c0_1001 c9_1002 c9_1003 c9_1004 c12_1005 c12_1006 c12_1007 c43_1008 c43_1009 c43_1010 c44_1011 v45_1012 h
def gprint_Floats (a1 : Int) (a2 : Option Addr) (a2l : Nat) (a2c : Nat) (a3 : Option Addr) (a3l : Nat) (a3c : Nat) (h : Heap) (K : ByteArray → Int → Int → Heap → Prop) : Prop :=
  ((iteB ((a2l : Int) != (a3l : Int)) ((K (⟨#[]⟩ : ByteArray) 1 0 h)) ((callP5 (fint_Weights a3 a3l a3c h) fun x4 x4l x4c x5 x6 h7 => (let j19 : Prop := ((0 ≤ (a2l : Int) ∧ (a2l : Int) ≤ (a2l : Int) ∧ (a2l : Int) * (24 : Nat) ≤ 2 ^ 47 ∧ (a2l : Int) ≤ 2 ^ 47) ∧ newP h7 (.cells (zeroRow [(.int .i64 0), (.int .i64 0), (.int .i64 0)] (a2l : Int).toNat).toArray 27) fun a9 h10 => ((∃ m16, gprint_Floats.l0 (fun z11 z12 z13 h14 => K z11 z12 z13 h14) (fun h15 => ((callP1 (gprint_text a1 (some a9) ((a2l : Int).toNat) ((a2l : Int).toNat) h15) fun x17 h18 => K x17 0 0 h18))) m16 a1 x4 x4l x4c a9 ((a2l : Int).toNat) ((a2l : Int).toNat) a2 a2l a2c (a2l : Int) 0 h10)));
  (iteB (x5 != (0 : Int)) ((K (⟨#[]⟩ : ByteArray) x5 x6 h7)) ((iteB (decide (a1 < (0 : Int))) ((K (⟨#[]⟩ : ByteArray) 1 0 h7)) ((iteB (decide (a1 > (4096 : Int))) ((iteB (decide (a1 > (4096 : Int))) ((K (⟨#[]⟩ : ByteArray) 3 0 h7)) (((j19))))) ((iteB (decide ((a2l : Int) > (1048576 : Int))) ((K (⟨#[]⟩ : ByteArray) 3 0 h7)) (((j19)))))))))))))))
def gprint_Floats.ret (K : ByteArray → Int → Int → Heap → Prop) (v : Value) (h : Heap) : Prop := match v with
  | (.tuple ⟨[(.string r20), (.int .i64 r21), (.int .i64 r22)]⟩) => K r20 r21 r22 h
  | _ => False
theorem gprint_Floats.ret_elim {K : ByteArray → Int → Int → Heap → Prop} {K' : Value → Heap → Prop} {v : Value} {h : Heap} (hk : ∀ r20 r21 r22 h, K r20 r21 r22 h → K' (.tuple #[(.string r20), (.int .i64 r21), (.int .i64 r22)]) h) (hh : gprint_Floats.ret K v h) : K' v h := by
  unfold gprint_Floats.ret at hh
  split at hh
  · exact hk _ _ _ _ hh
  · exact hh.elim
def gprint_Floats.call (f : FuncId) (vs : List Value) (h : Heap) (K : Value → Heap → Prop) : Prop := match f, vs with
  | 44, [(.slice a1 a1l a1c)] => callP5 (fint_Weights a1 a1l a1c h) fun r10 r10l r10c r11 r12 h' => K (.tuple #[(.slice r10 r10l r10c), (.int .i64 r11), (.int .i64 r12)]) h'
  | 45, [(.int .i64 a1), (.slice a2 a2l a2c)] => callP1 (gprint_text a1 a2 a2l a2c h) fun r17 h' => K (.string r17) h'
  | _, _ => False
def gprint_Floats.r0 (K : Nat → List Value → Heap → Prop) (m : Nat) (vs : List Value) (h : Heap) : Prop := match vs with
  | [(.int .i64 c0_1001), (.slice c9_1002 c9_1003 c9_1004), (.slice (some c12_1005) c12_1006 c12_1007), (.slice c43_1008 c43_1009 c43_1010), (.int .i64 c44_1011), (.int .i64 v45_1012)] => gprint_Floats.l0 (fun z23 z24 z25 h' => K 0 [(.string z23), (.int .i64 z24), (.int .i64 z25)] h') (fun h' => K 3 [(.int .i64 c0_1001), (.slice (some c12_1005) c12_1006 c12_1007)] h') m c0_1001 c9_1002 c9_1003 c9_1004 c12_1005 c12_1006 c12_1007 c43_1008 c43_1009 c43_1010 c44_1011 v45_1012 h
  | _ => False
def gprint_Floats.loop (i : Nat) (vs : List Value) (h : Heap) (K : Nat → List Value → Heap → Prop) : Prop := match i with
  | 0 => ∃ m, gprint_Floats.r0 K m vs h
  | _ => False
noncomputable def gprint_Floats.ctx : Ctx := { P := Tryz.prog, call := gprint_Floats.call, qcall := fun _ _ _ _ => False, quiet := fun f => Nat.beq f 1000138 || Nat.beq f 2000157, loop := gprint_Floats.loop }
theorem gprint_Floats.ok : gprint_Floats.ctx.OK where
  mixed := by kernel_rfl
  mono := by
    intro f args h K K' hh hk
    change gprint_Floats.call f args h K at hh
    change gprint_Floats.call f args h K'
    unfold gprint_Floats.call at hh ⊢
    split at hh
    · obtain ⟨R, h1, h2⟩ := hh
      exact ⟨R, h1, fun _ _ _ _ _ x hr => hk _ _ (h2 _ _ _ _ _ x hr)⟩
    · obtain ⟨R, h1, h2⟩ := hh
      exact ⟨R, h1, fun _ x hr => hk _ _ (h2 _ x hr)⟩
    · exact hh.elim
  call := by
    intro f args h K hh w hw
    change gprint_Floats.call f args h K at hh
    unfold gprint_Floats.call at hh
    split at hh
    · obtain ⟨R, h1, h2⟩ := hh
      obtain ⟨g1, g2⟩ := fint_Weights.calls h1 w hw
      exact ⟨g1, g2.mono fun e w' ⟨v, he, ho, hr⟩ => ⟨v, he, ho, fint_Weights.ret_elim h2 hr⟩⟩
    · obtain ⟨R, h1, h2⟩ := hh
      obtain ⟨g1, g2⟩ := gprint_text.calls h1 w hw
      exact ⟨g1, g2.mono fun e w' ⟨v, he, ho, hr⟩ => ⟨v, he, ho, gprint_text.ret_elim h2 hr⟩⟩
    · exact hh.elim
  qmono := fun hh _ => hh.elim
  qval := fun hh => hh.elim
  qcall := fun hh => hh.elim
noncomputable def gprint_Floats.code : Code := (Tryz.f21.body).getD .skip
def gprint_Floats.ann : Ann := (.two .auto (.two .auto (.two .auto (.two .auto (.two .auto (.two (.two .auto (.two (.loop 0 [0, 9, 12, 43, 44, 45] [(3, [0, 12]), (0, [6, 7, 8])] (.two .auto (.two .auto (.two (.two (.two .auto (.two .auto (.reg [0, 0, 0, 4, 0, 16, 0, 0, 192, 448, 1020, 2047, 4095] (.take 0 (.take 1 (.take 2 (.take 3 (.take 4 (.take 5 (.take 6 (.take 7 (.take 8 (.take 9 (.take 10 (.take 11 (.alt 12 .done .noalt)))))))))))))))) .auto) .auto)))) .auto)) .auto))))))
noncomputable def gprint_Floats.c0 : Code := sub gprint_Floats.code [1, 1, 1, 1, 1, 0, 1, 0, 0]
def gprint_Floats.a0 : Ann := (.two .auto (.two .auto (.two (.two (.two .auto (.two .auto (.reg [0, 0, 0, 4, 0, 16, 0, 0, 192, 448, 1020, 2047, 4095] (.take 0 (.take 1 (.take 2 (.take 3 (.take 4 (.take 5 (.take 6 (.take 7 (.take 8 (.take 9 (.take 10 (.take 11 (.alt 12 .done .noalt)))))))))))))))) .auto) .auto)))
def gprint_Floats.keep0 : List Nat := [0, 9, 12, 43, 44, 45]
def gprint_Floats.outs0 : List (Nat × List Nat) := [(3, [0, 12]), (0, [6, 7, 8])]
set_option maxRecDepth 100000 in
theorem gprint_Floats.L0 : LoopOK gprint_Floats.ctx 87 gprint_Floats.c0 0 gprint_Floats.keep0 gprint_Floats.outs0 := by
  refine loop_ok (n := gprint_Floats.a0) gprint_Floats.ok (by kernel_rfl) (loops_ok (l := []) (by kernel_rfl) ?_) gprint_Floats.r0 ?_ ?_ (fun vs h K hh => hh)
  · exact trivial
  · intro K vs h hh
    unfold gprint_Floats.r0 at hh
    split at hh
    · exact hh
    · exact hh
  · intro K m vs h hh
    unfold gprint_Floats.r0 at hh
    split at hh
    · exact cast (by kernel_rfl) hh
    · exact hh.elim
set_option maxRecDepth 100000 in
theorem gprint_Floats.eq (a1 : Int) (a2 : Option Addr) (a2l : Nat) (a2c : Nat) (a3 : Option Addr) (a3l : Nat) (a3c : Nat) (h : Heap) (K : ByteArray → Int → Int → Heap → Prop) : evF gprint_Floats.ctx Tryz.f21 gprint_Floats.ann [(.int .i64 a1), (.slice a2 a2l a2c), (.slice a3 a3l a3c)] h (gprint_Floats.ret K) = gprint_Floats a1 a2 a2l a2c a3 a3l a3c h K := by kernel_rfl
set_option maxRecDepth 100000 in
theorem gprint_Floats.calls {a1 : Int} {a2 : Option Addr} {a2l : Nat} {a2c : Nat} {a3 : Option Addr} {a3l : Nat} {a3c : Nat} {h : Heap} {K : ByteArray → Int → Int → Heap → Prop} (hh : gprint_Floats a1 a2 a2l a2c a3 a3l a3c h K) (w : World) (hw : w.heap = h) :
    (callFunc 21 #[(.int .i64 a1), (.slice a2 a2l a2c), (.slice a3 a3l a3c)]).run Tryz.prog w = .ok (.enter 21 #[(.int .i64 a1), (.slice a2 a2l a2c), (.slice a3 a3l a3c)]) w ∧ Calls Tryz.prog 21 #[(.int .i64 a1), (.slice a2 a2l a2c), (.slice a3 a3l a3c)] w fun e w' => ∃ v, e = .returned v ∧ Out w w' ∧ gprint_Floats.ret K v w'.heap := by
  rw [← gprint_Floats.eq] at hh
  exact fn_calls (args := [(.int .i64 a1), (.slice a2 a2l a2c), (.slice a3 a3l a3c)]) (c := gprint_Floats.code) gprint_Floats.ok Tryz.func21 (by kernel_rfl) (by kernel_rfl) (by kernel_rfl) (by kernel_rfl) (loops_ok (l := [(gprint_Floats.c0, none, 0, gprint_Floats.keep0, gprint_Floats.outs0)]) (by kernel_rfl) ⟨gprint_Floats.L0, trivial⟩) hh w hw
end

end Go.Proofs.YtokemibmanjpmaaGreatDoor
