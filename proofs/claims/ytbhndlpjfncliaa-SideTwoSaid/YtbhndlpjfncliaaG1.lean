/- WRITTEN BY A PROGRAM OF THIS SESSION (gen.py): what each function asks of memory, and that the model's run comes to it. -/
import Derived.Test.YtbhndlpjfncliaaProg
import Derived.Test.YtbhndlpjfncliaaFw8
import Derived.Test.YtbhndlpjfncliaaG0
namespace Go.Proofs.Ytbhndlpjfncliaa
open Go.Hp
set_option linter.unusedVariables false
set_option linter.unusedSimpArgs false

/-! ### strait/net.New: function 9 -/
def net_New.b1 (K5 : Heap → Prop) (cont : Addr → Int → Int → Heap → Prop) (c11_2001 : Addr) (c68_2002 : Int) (v69_2003 : Int) (h2004 : Heap) : Prop :=
  (iteB (decide (v69_2003 < c68_2002)) (((∃ (x2005 : Option Addr) (x2005l : Nat) (x2005c : Nat), cell h2004 c11_2001 = some (.slice x2005 x2005l x2005c) ∧ chkP x2005 fun a2006 => (0 ≤ v69_2003 ∧ v69_2003 < (x2005l : Int)) ∧ ∃ (x2007 : Option Addr) (x2007l : Nat) (x2007c : Nat), cell h2004 (a2006.add (v69_2003.toNat * 1)) = some (.slice x2007 x2007l x2007c) ∧ callP0 (slices_Sort_Lint_int x2007 x2007l x2007c h2004) fun h2008 => ((cont c11_2001 c68_2002 (IntKind.i64.wrap (v69_2003 + 1)) h2008))))) (K5 h2004))
def net_New.l1 (K5 : Heap → Prop) : Nat → Addr → Int → Int → Heap → Prop
  | 0, _, _, _, _ => False
  | m + 1, c11_2001, c68_2002, v69_2003, h => net_New.b1 K5 (net_New.l1 K5 m) c11_2001 c68_2002 v69_2003 h
def net_New.b0 (K3 : Heap → Prop) (cont : Int → Addr → (Option Addr) → Nat → Nat → Int → Int → Heap → Prop) (c0_1001 : Int) (c11_1002 : Addr) (c47_1003 : Option Addr) (c47_1004 : Nat) (c47_1005 : Nat) (c48_1006 : Int) (v49_1007 : Int) (h1008 : Heap) : Prop :=
  (iteB (decide (v49_1007 < c48_1006)) ((chkP c47_1003 fun a1009 => (0 ≤ v49_1007 ∧ v49_1007 < (c47_1004 : Int)) ∧ ∃ (x1010 : Int), cell h1008 (a1009.add (v49_1007.toNat * 3)) = some (.int .i64 x1010) ∧ ∃ (x1011 : Int), cell h1008 ((a1009.add (v49_1007.toNat * 3)).add 1) = some (.int .i64 x1011) ∧ ∃ (x1012 : Int), cell h1008 ((a1009.add (v49_1007.toNat * 3)).add 2) = some (.int .i64 x1012) ∧ newP h1008 (.cells #[(.int .i64 0), (.int .i64 0), (.int .i64 0)] 58) fun a1013 h1014 => stC h1014 a1013 (.int .i64 x1010) fun h1015 => stC h1015 (a1013.add 1) (.int .i64 x1011) fun h1016 => stC h1016 (a1013.add 2) (.int .i64 x1012) fun h1017 => (∃ (x1018 : Int), cell h1017 a1013 = some (.int .i64 x1018) ∧ ∃ (x1019 : Int), cell h1017 (a1013.add 1) = some (.int .i64 x1019) ∧ ∃ (x1020 : Int), cell h1017 (a1013.add 2) = some (.int .i64 x1020) ∧ callP0 (net_ends_link (some c11_1002) x1018 x1019 x1020 h1017) fun h1021 => (∃ (x1022 : Int), cell h1021 (c11_1002.add 3) = some (.int .i64 x1022) ∧ ∃ (x1023 : Int), cell h1021 (a1013.add 2) = some (.int .i64 x1023) ∧ stC h1021 (c11_1002.add 3) (.int .i64 (IntKind.i64.wrap (x1022 + x1023))) fun h1024 => ((cont c0_1001 c11_1002 c47_1003 c47_1004 c47_1005 c48_1006 (IntKind.i64.wrap (v49_1007 + 1)) h1024)))))) (K3 h1008))
def net_New.l0 (K3 : Heap → Prop) : Nat → Int → Addr → (Option Addr) → Nat → Nat → Int → Int → Heap → Prop
  | 0, _, _, _, _, _, _, _, _ => False
  | m + 1, c0_1001, c11_1002, c47_1003, c47_1004, c47_1005, c48_1006, v49_1007, h => net_New.b0 K3 (net_New.l0 K3 m) c0_1001 c11_1002 c47_1003 c47_1004 c47_1005 c48_1006 v49_1007 h
def net_New (a1 : Int) (a2 : Option Addr) (a2l : Nat) (a2c : Nat) (h : Heap) (K : (Option Addr) → Int → Int → Heap → Prop) : Prop :=
  (let j36 : Prop := (callP2 (edge_Checks a1 a2 a2l a2c h) fun x4 x5 h6 => ((iteB (x4 != (0 : Int)) (K none x4 x5 h6) ((callP4 (edge_Merge a2 a2l a2c h6) fun x7 x7l x7c x8 h9 => (((0 ≤ a1 ∧ a1 ≤ a1 ∧ a1 * (24 : Nat) ≤ 2 ^ 47 ∧ a1 ≤ 2 ^ 47) ∧ newP h9 (.cells (zeroRow [(.slice none 0 0)] a1.toNat).toArray 22) fun a10 h11 => (0 ≤ a1 ∧ a1 ≤ a1 ∧ a1 * (8 : Nat) ≤ 2 ^ 47 ∧ a1 ≤ 2 ^ 47) ∧ newP h11 (.cells (zeroRow [(.int .i64 0)] a1.toNat).toArray 2) fun a12 h13 => newP h13 (.cells #[(.slice (some a10) a1.toNat a1.toNat), (.slice (some a12) a1.toNat a1.toNat), (.slice x7 x7l x7c), (.int .i64 0)] 70) fun a14 h15 => ((∃ m29, net_New.l0 (fun h28 => (((∃ m31, net_New.l1 (fun h30 => (((K (some a14) 0 0 h30)))) m31 a14 a1 0 h28)))) m29 a1 a14 x7 x7l x7c (x7l : Int) 0 h15))) ∧ ((0 ≤ a1 ∧ a1 ≤ a1 ∧ a1 * (8 : Nat) ≤ 2 ^ 47 ∧ a1 ≤ 2 ^ 47) ∧ newP h9 (.cells (zeroRow [(.int .i64 0)] a1.toNat).toArray 2) fun a16 h17 => (0 ≤ a1 ∧ a1 ≤ a1 ∧ a1 * (24 : Nat) ≤ 2 ^ 47 ∧ a1 ≤ 2 ^ 47) ∧ newP h17 (.cells (zeroRow [(.slice none 0 0)] a1.toNat).toArray 22) fun a18 h19 => newP h19 (.cells #[(.slice (some a18) a1.toNat a1.toNat), (.slice (some a16) a1.toNat a1.toNat), (.slice x7 x7l x7c), (.int .i64 0)] 70) fun a20 h21 => ((∃ m33, net_New.l0 (fun h32 => (((∃ m35, net_New.l1 (fun h34 => (((K (some a20) 0 0 h34)))) m35 a20 a1 0 h32)))) m33 a1 a20 x7 x7l x7c (x7l : Int) 0 h21)))))))));
  (iteB (decide (a1 < (0 : Int))) (K none 1 0 h) ((iteB (decide (a1 > (4096 : Int))) ((iteB (decide (a1 > (4096 : Int))) (K none 3 0 h) (((j36))))) ((iteB (decide ((a2l : Int) > (1048576 : Int))) (K none 3 0 h) (((j36)))))))))
def net_New.ret (K : (Option Addr) → Int → Int → Heap → Prop) (v : Value) (h : Heap) : Prop := match v with
  | (.tuple ⟨[(.pointer r37), (.int .i64 r38), (.int .i64 r39)]⟩) => K r37 r38 r39 h
  | _ => False
theorem net_New.ret_elim {K : (Option Addr) → Int → Int → Heap → Prop} {K' : Value → Heap → Prop} {v : Value} {h : Heap} (hk : ∀ r37 r38 r39 h, K r37 r38 r39 h → K' (.tuple #[(.pointer r37), (.int .i64 r38), (.int .i64 r39)]) h) (hh : net_New.ret K v h) : K' v h := by
  unfold net_New.ret at hh
  split at hh
  · exact hk _ _ _ _ hh
  · exact hh.elim
def net_New.call (f : FuncId) (vs : List Value) (h : Heap) (K : Value → Heap → Prop) : Prop := match f, vs with
  | 27, [(.int .i64 a1), (.slice a2 a2l a2c)] => callP2 (edge_Checks a1 a2 a2l a2c h) fun r8 r9 h' => K (.tuple #[(.int .i64 r8), (.int .i64 r9)]) h'
  | 28, [(.slice a1 a1l a1c)] => callP4 (edge_Merge a1 a1l a1c h) fun r13 r13l r13c r14 h' => K (.tuple #[(.slice r13 r13l r13c), (.bool r14)]) h'
  | 29, [(.pointer a1), (.agg ⟨[(.int .i64 a2), (.int .i64 a3), (.int .i64 a4)]⟩)] => callP0 (net_ends_link a1 a2 a3 a4 h) fun h' => K (.tuple #[]) h'
  | 30, [(.slice a1 a1l a1c)] => callP0 (slices_Sort_Lint_int a1 a1l a1c h) fun h' => K (.tuple #[]) h'
  | _, _ => False
def net_New.r0 (K : Nat → List Value → Heap → Prop) (m : Nat) (vs : List Value) (h : Heap) : Prop := match vs with
  | [(.int .i64 c0_1001), (.pointer (some c11_1002)), (.slice c47_1003 c47_1004 c47_1005), (.int .i64 c48_1006), (.int .i64 v49_1007)] => net_New.l0 (fun h' => K 3 [(.int .i64 c0_1001), (.pointer (some c11_1002))] h') m c0_1001 c11_1002 c47_1003 c47_1004 c47_1005 c48_1006 v49_1007 h
  | _ => False
def net_New.r1 (K : Nat → List Value → Heap → Prop) (m : Nat) (vs : List Value) (h : Heap) : Prop := match vs with
  | [(.pointer (some c11_2001)), (.int .i64 c68_2002), (.int .i64 v69_2003)] => net_New.l1 (fun h' => K 5 [(.pointer (some c11_2001))] h') m c11_2001 c68_2002 v69_2003 h
  | _ => False
def net_New.loop (i : Nat) (vs : List Value) (h : Heap) (K : Nat → List Value → Heap → Prop) : Prop := match i with
  | 0 => ∃ m, net_New.r0 K m vs h
  | 1 => ∃ m, net_New.r1 K m vs h
  | _ => False
noncomputable def net_New.ctx : Ctx := { P := Try.prog, call := net_New.call, qcall := fun _ _ _ _ => False, quiet := fun f => Nat.beq f 1000088, loop := net_New.loop }
theorem net_New.ok : net_New.ctx.OK where
  mixed := by kernel_rfl
  mono := by
    intro f args h K K' hh hk
    change net_New.call f args h K at hh
    change net_New.call f args h K'
    unfold net_New.call at hh ⊢
    split at hh
    · obtain ⟨R, h1, h2⟩ := hh
      exact ⟨R, h1, fun _ _ x hr => hk _ _ (h2 _ _ x hr)⟩
    · obtain ⟨R, h1, h2⟩ := hh
      exact ⟨R, h1, fun _ _ _ _ x hr => hk _ _ (h2 _ _ _ _ x hr)⟩
    · obtain ⟨R, h1, h2⟩ := hh
      exact ⟨R, h1, fun x hr => hk _ _ (h2 x hr)⟩
    · obtain ⟨R, h1, h2⟩ := hh
      exact ⟨R, h1, fun x hr => hk _ _ (h2 x hr)⟩
    · exact hh.elim
  call := by
    intro f args h K hh w hw
    change net_New.call f args h K at hh
    unfold net_New.call at hh
    split at hh
    · obtain ⟨R, h1, h2⟩ := hh
      obtain ⟨g1, g2⟩ := edge_Checks.calls h1 w hw
      exact ⟨g1, g2.mono fun e w' ⟨v, he, ho, hr⟩ => ⟨v, he, ho, edge_Checks.ret_elim h2 hr⟩⟩
    · obtain ⟨R, h1, h2⟩ := hh
      obtain ⟨g1, g2⟩ := edge_Merge.calls h1 w hw
      exact ⟨g1, g2.mono fun e w' ⟨v, he, ho, hr⟩ => ⟨v, he, ho, edge_Merge.ret_elim h2 hr⟩⟩
    · obtain ⟨R, h1, h2⟩ := hh
      obtain ⟨g1, g2⟩ := net_ends_link.calls h1 w hw
      exact ⟨g1, g2.mono fun e w' ⟨v, he, ho, hr⟩ => ⟨v, he, ho, net_ends_link.ret_elim h2 hr⟩⟩
    · obtain ⟨R, h1, h2⟩ := hh
      obtain ⟨g1, g2⟩ := slices_Sort_Lint_int.calls h1 w hw
      exact ⟨g1, g2.mono fun e w' ⟨v, he, ho, hr⟩ => ⟨v, he, ho, slices_Sort_Lint_int.ret_elim h2 hr⟩⟩
    · exact hh.elim
  qmono := fun hh _ => hh.elim
  qval := fun hh => hh.elim
  qcall := fun hh => hh.elim
noncomputable def net_New.code : Code := (Try.f9.body).getD .skip
def net_New.ann : Ann := (.two .auto (.two .auto (.two .auto (.two .auto (.two (.reg [0, 1, 0, 4, 15, 0, 63, 127, 255] (.take 0 (.take 2 (.take 5 (.alt 1 (.alt 3 (.take 4 (.take 6 (.alt 7 (.take 8 .done) .noalt))) .noalt) (.alt 3 (.alt 1 (.take 4 (.take 6 (.alt 7 (.take 8 .done) .noalt))) .noalt) .noalt)))))) (.two (.two .auto (.two (.loop 0 [0, 11, 47, 48, 49] [(3, [0, 11])] (.two .auto (.two .auto (.two (.two (.two .auto (.two (.reg [0, 1, 3, 0, 15] (.take 0 (.take 1 (.take 2 (.take 3 (.alt 4 .done .noalt)))))) (.reg [0, 1, 3, 7, 0, 16, 63, 127, 255, 511] (.take 0 (.take 1 (.take 2 (.take 3 (.take 4 (.take 5 (.take 6 (.take 7 (.take 8 (.alt 9 .done .noalt))))))))))))) .auto) .auto)))) .auto)) (.two (.two .auto (.two (.loop 1 [11, 68, 69] [(5, [11])] .auto) .auto)) .auto)))))))
noncomputable def net_New.c1 : Code := sub net_New.code [1, 1, 1, 1, 1, 1, 0, 1, 0, 0]
def net_New.a1 : Ann := .auto
def net_New.keep1 : List Nat := [11, 68, 69]
def net_New.outs1 : List (Nat × List Nat) := [(5, [11])]
noncomputable def net_New.c0 : Code := sub net_New.code [1, 1, 1, 1, 1, 0, 1, 0, 0]
def net_New.a0 : Ann := (.two .auto (.two .auto (.two (.two (.two .auto (.two (.reg [0, 1, 3, 0, 15] (.take 0 (.take 1 (.take 2 (.take 3 (.alt 4 .done .noalt)))))) (.reg [0, 1, 3, 7, 0, 16, 63, 127, 255, 511] (.take 0 (.take 1 (.take 2 (.take 3 (.take 4 (.take 5 (.take 6 (.take 7 (.take 8 (.alt 9 .done .noalt))))))))))))) .auto) .auto)))
def net_New.keep0 : List Nat := [0, 11, 47, 48, 49]
def net_New.outs0 : List (Nat × List Nat) := [(3, [0, 11])]
set_option maxRecDepth 100000 in
theorem net_New.L0 : LoopOK net_New.ctx 83 net_New.c0 0 net_New.keep0 net_New.outs0 := by
  refine loop_ok (n := net_New.a0) net_New.ok (by kernel_rfl) (loops_ok (l := []) (by kernel_rfl) ?_) net_New.r0 ?_ ?_ (fun vs h K hh => hh)
  · exact trivial
  · intro K vs h hh
    unfold net_New.r0 at hh
    split at hh
    · exact hh
    · exact hh
  · intro K m vs h hh
    unfold net_New.r0 at hh
    split at hh
    · exact cast (by kernel_rfl) hh
    · exact hh.elim
set_option maxRecDepth 100000 in
theorem net_New.L1 : LoopOK net_New.ctx 83 net_New.c1 1 net_New.keep1 net_New.outs1 := by
  refine loop_ok (n := net_New.a1) net_New.ok (by kernel_rfl) (loops_ok (l := []) (by kernel_rfl) ?_) net_New.r1 ?_ ?_ (fun vs h K hh => hh)
  · exact trivial
  · intro K vs h hh
    unfold net_New.r1 at hh
    split at hh
    · exact hh
    · exact hh
  · intro K m vs h hh
    unfold net_New.r1 at hh
    split at hh
    · exact cast (by kernel_rfl) hh
    · exact hh.elim
set_option maxRecDepth 100000 in
theorem net_New.eq (a1 : Int) (a2 : Option Addr) (a2l : Nat) (a2c : Nat) (h : Heap) (K : (Option Addr) → Int → Int → Heap → Prop) : evF net_New.ctx Try.f9 net_New.ann [(.int .i64 a1), (.slice a2 a2l a2c)] h (net_New.ret K) = net_New a1 a2 a2l a2c h K := by kernel_rfl
set_option maxRecDepth 100000 in
theorem net_New.calls {a1 : Int} {a2 : Option Addr} {a2l : Nat} {a2c : Nat} {h : Heap} {K : (Option Addr) → Int → Int → Heap → Prop} (hh : net_New a1 a2 a2l a2c h K) (w : World) (hw : w.heap = h) :
    (callFunc 9 #[(.int .i64 a1), (.slice a2 a2l a2c)]).run Try.prog w = .ok (.enter 9 #[(.int .i64 a1), (.slice a2 a2l a2c)]) w ∧ Calls Try.prog 9 #[(.int .i64 a1), (.slice a2 a2l a2c)] w fun e w' => ∃ v, e = .returned v ∧ Out w w' ∧ net_New.ret K v w'.heap := by
  rw [← net_New.eq] at hh
  exact fn_calls (args := [(.int .i64 a1), (.slice a2 a2l a2c)]) (c := net_New.code) net_New.ok Try.func9 (by kernel_rfl) (by kernel_rfl) (by kernel_rfl) (by kernel_rfl) (loops_ok (l := [(net_New.c0, none, 0, net_New.keep0, net_New.outs0), (net_New.c1, none, 1, net_New.keep1, net_New.outs1)]) (by kernel_rfl) ⟨net_New.L0, net_New.L1, trivial⟩) hh w hw

/-! ### strait/side.Weight: function 10, by its contract -/
def side_Weight.ret (K : Int → Int → Heap → Prop) (v : Value) (h : Heap) : Prop := match v with
  | (.tuple ⟨[(.int .i64 r3), (.int .i64 r4)]⟩) => K r3 r4 h
  | _ => False
theorem side_Weight.ret_elim {K : Int → Int → Heap → Prop} {K' : Value → Heap → Prop} {v : Value} {h : Heap} (hk : ∀ r3 r4 h, K r3 r4 h → K' (.tuple #[(.int .i64 r3), (.int .i64 r4)]) h) (hh : side_Weight.ret K v h) : K' v h := by
  unfold side_Weight.ret at hh
  split at hh
  · exact hk _ _ _ hh
  · exact hh.elim
def side_Weight (a1 : Option Addr) (a2 : Option Addr) (a2l : Nat) (a2c : Nat) (h : Heap) (K : Int → Int → Heap → Prop) : Prop := ∀ w : World, w.heap = h → (callFunc 10 #[(.pointer a1), (.slice a2 a2l a2c)]).run Try.prog w = .ok (.enter 10 #[(.pointer a1), (.slice a2 a2l a2c)]) w ∧ Calls Try.prog 10 #[(.pointer a1), (.slice a2 a2l a2c)] w fun e w' => ∃ v, e = .returned v ∧ Out w w' ∧ side_Weight.ret K v w'.heap
theorem side_Weight.calls {a1 : Option Addr} {a2 : Option Addr} {a2l : Nat} {a2c : Nat} {h : Heap} {K : Int → Int → Heap → Prop} (hh : side_Weight a1 a2 a2l a2c h K) (w : World) (hw : w.heap = h) : (callFunc 10 #[(.pointer a1), (.slice a2 a2l a2c)]).run Try.prog w = .ok (.enter 10 #[(.pointer a1), (.slice a2 a2l a2c)]) w ∧ Calls Try.prog 10 #[(.pointer a1), (.slice a2 a2l a2c)] w fun e w' => ∃ v, e = .returned v ∧ Out w w' ∧ side_Weight.ret K v w'.heap := hh w hw

/-! ### strait/side.Check: function 18 -/
def side_Check.b0 (K0 : Int → Heap → Prop) (K2 : Heap → Prop) (cont : Int → (Option Addr) → Nat → Nat → Int → (Option Addr) → Nat → Nat → Int → Int → Heap → Prop) (c0_1001 : Int) (c1_1002 : Option Addr) (c1_1003 : Nat) (c1_1004 : Nat) (v5_1005 : Int) (c8_1006 : Option Addr) (c8_1007 : Nat) (c8_1008 : Nat) (c9_1009 : Int) (v10_1010 : Int) (h1011 : Heap) : Prop :=
  (iteB (decide (v10_1010 < c9_1009)) ((chkP c8_1006 fun a1012 => (0 ≤ v10_1010 ∧ v10_1010 < (c8_1007 : Int)) ∧ ∃ (x1013 : Int), cell h1011 (a1012.add (v10_1010.toNat * 1)) = some (.int .i64 x1013) ∧ (iteB (decide (x1013 ≤ v5_1005)) (K0 4 h1011) ((iteB (decide (x1013 ≥ c0_1001)) (K0 4 h1011) ((((cont c0_1001 c1_1002 c1_1003 c1_1004 x1013 c8_1006 c8_1007 c8_1008 c9_1009 (IntKind.i64.wrap (v10_1010 + 1)) h1011))))))))) (K2 h1011))
def side_Check.l0 (K0 : Int → Heap → Prop) (K2 : Heap → Prop) : Nat → Int → (Option Addr) → Nat → Nat → Int → (Option Addr) → Nat → Nat → Int → Int → Heap → Prop
  | 0, _, _, _, _, _, _, _, _, _, _, _ => False
  | m + 1, c0_1001, c1_1002, c1_1003, c1_1004, v5_1005, c8_1006, c8_1007, c8_1008, c9_1009, v10_1010, h => side_Check.b0 K0 K2 (side_Check.l0 K0 K2 m) c0_1001 c1_1002 c1_1003 c1_1004 v5_1005 c8_1006 c8_1007 c8_1008 c9_1009 v10_1010 h
def side_Check (a1 : Int) (a2 : Option Addr) (a2l : Nat) (a2c : Nat) (h : Heap) (K : Int → Heap → Prop) : Prop :=
  (((∃ m6, side_Check.l0 (fun z3 h4 => K z3 h4) (fun h5 => ((iteB ((a2l : Int) == (0 : Int)) (K 16 h5) ((iteB ((a2l : Int) == a1) (K 16 h5) (K 0 h5)))))) m6 a1 a2 a2l a2c (-1) a2 a2l a2c (a2l : Int) 0 h)))
def side_Check.ret (K : Int → Heap → Prop) (v : Value) (h : Heap) : Prop := match v with
  | (.int .i64 r8) => K r8 h
  | _ => False
theorem side_Check.ret_elim {K : Int → Heap → Prop} {K' : Value → Heap → Prop} {v : Value} {h : Heap} (hk : ∀ r8 h, K r8 h → K' (.int .i64 r8) h) (hh : side_Check.ret K v h) : K' v h := by
  unfold side_Check.ret at hh
  split at hh
  · exact hk _ _ hh
  · exact hh.elim
def side_Check.r0 (K : Nat → List Value → Heap → Prop) (m : Nat) (vs : List Value) (h : Heap) : Prop := match vs with
  | [(.int .i64 c0_1001), (.slice c1_1002 c1_1003 c1_1004), (.int .i64 v5_1005), (.slice c8_1006 c8_1007 c8_1008), (.int .i64 c9_1009), (.int .i64 v10_1010)] => side_Check.l0 (fun z9 h' => K 0 [(.int .i64 z9)] h') (fun h' => K 2 [(.int .i64 c0_1001), (.slice c1_1002 c1_1003 c1_1004)] h') m c0_1001 c1_1002 c1_1003 c1_1004 v5_1005 c8_1006 c8_1007 c8_1008 c9_1009 v10_1010 h
  | _ => False
def side_Check.loop (i : Nat) (vs : List Value) (h : Heap) (K : Nat → List Value → Heap → Prop) : Prop := match i with
  | 0 => ∃ m, side_Check.r0 K m vs h
  | _ => False
noncomputable def side_Check.ctx : Ctx := { P := Try.prog, call := fun _ _ _ _ => False, qcall := fun _ _ _ _ => False, quiet := fun f => Nat.beq f 1000088, loop := side_Check.loop }
theorem side_Check.ok : side_Check.ctx.OK where
  mixed := by kernel_rfl
  mono := fun hh _ => hh.elim
  call := fun hh => hh.elim
  qmono := fun hh _ => hh.elim
  qval := fun hh => hh.elim
  qcall := fun hh => hh.elim
noncomputable def side_Check.code : Code := (Try.f18.body).getD .skip
def side_Check.ann : Ann := (.two .auto (.two .auto (.two (.two .auto (.two (.loop 0 [0, 1, 5, 8, 9, 10] [(2, [0, 1]), (0, [4])] .auto) .auto)) .auto)))
noncomputable def side_Check.c0 : Code := sub side_Check.code [1, 1, 0, 1, 0, 0]
def side_Check.a0 : Ann := .auto
def side_Check.keep0 : List Nat := [0, 1, 5, 8, 9, 10]
def side_Check.outs0 : List (Nat × List Nat) := [(2, [0, 1]), (0, [4])]
set_option maxRecDepth 100000 in
theorem side_Check.L0 : LoopOK side_Check.ctx 33 side_Check.c0 0 side_Check.keep0 side_Check.outs0 := by
  refine loop_ok (n := side_Check.a0) side_Check.ok (by kernel_rfl) (loops_ok (l := []) (by kernel_rfl) ?_) side_Check.r0 ?_ ?_ (fun vs h K hh => hh)
  · exact trivial
  · intro K vs h hh
    unfold side_Check.r0 at hh
    split at hh
    · exact hh
    · exact hh
  · intro K m vs h hh
    unfold side_Check.r0 at hh
    split at hh
    · exact cast (by kernel_rfl) hh
    · exact hh.elim
set_option maxRecDepth 100000 in
theorem side_Check.eq (a1 : Int) (a2 : Option Addr) (a2l : Nat) (a2c : Nat) (h : Heap) (K : Int → Heap → Prop) : evF side_Check.ctx Try.f18 side_Check.ann [(.int .i64 a1), (.slice a2 a2l a2c)] h (side_Check.ret K) = side_Check a1 a2 a2l a2c h K := by kernel_rfl
set_option maxRecDepth 100000 in
theorem side_Check.calls {a1 : Int} {a2 : Option Addr} {a2l : Nat} {a2c : Nat} {h : Heap} {K : Int → Heap → Prop} (hh : side_Check a1 a2 a2l a2c h K) (w : World) (hw : w.heap = h) :
    (callFunc 18 #[(.int .i64 a1), (.slice a2 a2l a2c)]).run Try.prog w = .ok (.enter 18 #[(.int .i64 a1), (.slice a2 a2l a2c)]) w ∧ Calls Try.prog 18 #[(.int .i64 a1), (.slice a2 a2l a2c)] w fun e w' => ∃ v, e = .returned v ∧ Out w w' ∧ side_Check.ret K v w'.heap := by
  rw [← side_Check.eq] at hh
  exact fn_calls (args := [(.int .i64 a1), (.slice a2 a2l a2c)]) (c := side_Check.code) side_Check.ok Try.func18 (by kernel_rfl) (by kernel_rfl) (by kernel_rfl) (by kernel_rfl) (loops_ok (l := [(side_Check.c0, none, 0, side_Check.keep0, side_Check.outs0)]) (by kernel_rfl) ⟨side_Check.L0, trivial⟩) hh w hw

/-! ### slices.Clone[[]int,int]: function 35 -/
def slices_Clone_Lint_int (a1 : Option Addr) (a1l : Nat) (a1c : Nat) (h : Heap) (K : (Option Addr) → Nat → Nat → Heap → Prop) : Prop :=
  ((iteB a1.isNone (K none 0 0 h) ((newP h (.cells #[] 3) fun a2 h3 => ∃ n8, cellsAt h3 a1 (a1l * 1) n8 ∧ appP 3 1 8 [(.int .i64 0)] (some a2) 0 0 a1l n8 h3 fun q4 l5 c6 h7 => K q4 l5 c6 h7))))
def slices_Clone_Lint_int.ret (K : (Option Addr) → Nat → Nat → Heap → Prop) (v : Value) (h : Heap) : Prop := match v with
  | (.slice r9 r9l r9c) => K r9 r9l r9c h
  | _ => False
theorem slices_Clone_Lint_int.ret_elim {K : (Option Addr) → Nat → Nat → Heap → Prop} {K' : Value → Heap → Prop} {v : Value} {h : Heap} (hk : ∀ r9 r9l r9c h, K r9 r9l r9c h → K' (.slice r9 r9l r9c) h) (hh : slices_Clone_Lint_int.ret K v h) : K' v h := by
  unfold slices_Clone_Lint_int.ret at hh
  split at hh
  · exact hk _ _ _ _ hh
  · exact hh.elim
noncomputable def slices_Clone_Lint_int.ctx : Ctx := { P := Try.prog, call := fun _ _ _ _ => False, qcall := fun _ _ _ _ => False, quiet := fun f => Nat.beq f 1000088, loop := fun _ _ _ _ => False }
theorem slices_Clone_Lint_int.ok : slices_Clone_Lint_int.ctx.OK where
  mixed := by kernel_rfl
  mono := fun hh _ => hh.elim
  call := fun hh => hh.elim
  qmono := fun hh _ => hh.elim
  qval := fun hh => hh.elim
  qcall := fun hh => hh.elim
noncomputable def slices_Clone_Lint_int.code : Code := (Try.f35.body).getD .skip
def slices_Clone_Lint_int.ann : Ann := .auto
set_option maxRecDepth 100000 in
theorem slices_Clone_Lint_int.eq (a1 : Option Addr) (a1l : Nat) (a1c : Nat) (h : Heap) (K : (Option Addr) → Nat → Nat → Heap → Prop) : evF slices_Clone_Lint_int.ctx Try.f35 slices_Clone_Lint_int.ann [(.slice a1 a1l a1c)] h (slices_Clone_Lint_int.ret K) = slices_Clone_Lint_int a1 a1l a1c h K := by kernel_rfl
set_option maxRecDepth 100000 in
theorem slices_Clone_Lint_int.calls {a1 : Option Addr} {a1l : Nat} {a1c : Nat} {h : Heap} {K : (Option Addr) → Nat → Nat → Heap → Prop} (hh : slices_Clone_Lint_int a1 a1l a1c h K) (w : World) (hw : w.heap = h) :
    (callFunc 35 #[(.slice a1 a1l a1c)]).run Try.prog w = .ok (.enter 35 #[(.slice a1 a1l a1c)]) w ∧ Calls Try.prog 35 #[(.slice a1 a1l a1c)] w fun e w' => ∃ v, e = .returned v ∧ Out w w' ∧ slices_Clone_Lint_int.ret K v w'.heap := by
  rw [← slices_Clone_Lint_int.eq] at hh
  exact fn_calls (args := [(.slice a1 a1l a1c)]) (c := slices_Clone_Lint_int.code) slices_Clone_Lint_int.ok Try.func35 (by kernel_rfl) (by kernel_rfl) (by kernel_rfl) (by kernel_rfl) (loops_ok (l := []) (by kernel_rfl) trivial) hh w hw

/-! ### strait/side.Normal: function 16 -/
def side_Normal.b0 (K2 : (Option Addr) → Nat → Nat → Heap → Prop) (cont : (Option Addr) → Nat → Nat → (Option Addr) → Nat → Nat → Int → Int → Heap → Prop) (v7_1001 : Option Addr) (v7_1001l : Nat) (v7_1001c : Nat) (v8_1002 : Option Addr) (v8_1002l : Nat) (v8_1002c : Nat) (c23_1003 : Int) (v24_1004 : Int) (h1005 : Heap) : Prop :=
  (iteB (decide (v24_1004 < c23_1003)) (((let j1016 : Prop := (newP h1005 (.cells #[(.int .i64 v24_1004)] 3) fun a1009 h1010 => ∃ n1015, cellsAt h1010 (some a1009) (1 * 1) n1015 ∧ appP 3 1 8 [(.int .i64 0)] v7_1001 v7_1001l v7_1001c 1 n1015 h1010 fun q1011 l1012 c1013 h1014 => ((cont q1011 l1012 c1013 v8_1002 v8_1002l v8_1002c c23_1003 (IntKind.i64.wrap (v24_1004 + 1)) h1014)));
  iteB (decide ((v8_1002l : Int) > (0 : Int))) (chkP v8_1002 fun a1006 => (0 ≤ (0 : Int) ∧ (0 : Int) < (v8_1002l : Int)) ∧ ∃ (x1007 : Int), cell h1005 (a1006.add ((0 : Int).toNat * 1)) = some (.int .i64 x1007) ∧ (iteB (x1007 == v24_1004) ((0 ≤ (1 : Int) ∧ (1 : Int) ≤ (v8_1002l : Int)) ∧ (((cont v7_1001 v7_1001l v7_1001c (if v8_1002c = (1 : Int).toNat then v8_1002 else v8_1002.map (·.add ((1 : Int).toNat * 1))) (v8_1002l - (1 : Int).toNat) (v8_1002c - (1 : Int).toNat) c23_1003 (IntKind.i64.wrap (v24_1004 + 1)) h1005)))) ((j1016)))) (((j1016)))))) (K2 v7_1001 v7_1001l v7_1001c h1005))
def side_Normal.l0 (K2 : (Option Addr) → Nat → Nat → Heap → Prop) : Nat → (Option Addr) → Nat → Nat → (Option Addr) → Nat → Nat → Int → Int → Heap → Prop
  | 0, _, _, _, _, _, _, _, _, _ => False
  | m + 1, v7_1001, v7_1001l, v7_1001c, v8_1002, v8_1002l, v8_1002c, c23_1003, v24_1004, h => side_Normal.b0 K2 (side_Normal.l0 K2 m) v7_1001 v7_1001l v7_1001c v8_1002 v8_1002l v8_1002c c23_1003 v24_1004 h
def side_Normal (a1 : Int) (a2 : Option Addr) (a2l : Nat) (a2c : Nat) (h : Heap) (K : (Option Addr) → Nat → Nat → Int → Heap → Prop) : Prop :=
  (qcallP1 h (side_Check a1 a2 a2l a2c h) fun x3 => ((iteB (x3 != (0 : Int)) (K none 0 0 x3 h) ((chkP a2 fun a4 => (0 ≤ (0 : Int) ∧ (0 : Int) < (a2l : Int)) ∧ ∃ (x5 : Int), cell h (a4.add ((0 : Int).toNat * 1)) = some (.int .i64 x5) ∧ (iteB (x5 != (0 : Int)) (callP3 (slices_Clone_Lint_int a2 a2l a2c h) fun x6 x6l x6c h7 => K x6 x6l x6c 0 h7) (((((∃ m10, side_Normal.l0 (fun z8 z8l z8c h9 => (K z8 z8l z8c 0 h9)) m10 none 0 0 a2 a2l a2c a1 0 h)))))))))))
def side_Normal.ret (K : (Option Addr) → Nat → Nat → Int → Heap → Prop) (v : Value) (h : Heap) : Prop := match v with
  | (.tuple ⟨[(.slice r11 r11l r11c), (.int .i64 r12)]⟩) => K r11 r11l r11c r12 h
  | _ => False
theorem side_Normal.ret_elim {K : (Option Addr) → Nat → Nat → Int → Heap → Prop} {K' : Value → Heap → Prop} {v : Value} {h : Heap} (hk : ∀ r11 r11l r11c r12 h, K r11 r11l r11c r12 h → K' (.tuple #[(.slice r11 r11l r11c), (.int .i64 r12)]) h) (hh : side_Normal.ret K v h) : K' v h := by
  unfold side_Normal.ret at hh
  split at hh
  · exact hk _ _ _ _ _ hh
  · exact hh.elim
def side_Normal.call (f : FuncId) (vs : List Value) (h : Heap) (K : Value → Heap → Prop) : Prop := match f, vs with
  | 35, [(.slice a1 a1l a1c)] => callP3 (slices_Clone_Lint_int a1 a1l a1c h) fun r9 r9l r9c h' => K (.slice r9 r9l r9c) h'
  | _, _ => False
def side_Normal.qcall (f : FuncId) (vs : List Value) (h : Heap) (K : Value → Prop) : Prop := match f, vs with
  | 18, [(.int .i64 a1), (.slice a2 a2l a2c)] => qcallP1 h (side_Check a1 a2 a2l a2c h) fun r8 => K (.int .i64 r8)
  | _, _ => False
def side_Normal.r0 (K : Nat → List Value → Heap → Prop) (m : Nat) (vs : List Value) (h : Heap) : Prop := match vs with
  | [(.slice v7_1001 v7_1001l v7_1001c), (.slice v8_1002 v8_1002l v8_1002c), (.int .i64 c23_1003), (.int .i64 v24_1004)] => side_Normal.l0 (fun z13 z13l z13c h' => K 2 [(.slice z13 z13l z13c)] h') m v7_1001 v7_1001l v7_1001c v8_1002 v8_1002l v8_1002c c23_1003 v24_1004 h
  | _ => False
def side_Normal.loop (i : Nat) (vs : List Value) (h : Heap) (K : Nat → List Value → Heap → Prop) : Prop := match i with
  | 0 => ∃ m, side_Normal.r0 K m vs h
  | _ => False
noncomputable def side_Normal.ctx : Ctx := { P := Try.prog, call := side_Normal.call, qcall := side_Normal.qcall, quiet := fun f => Nat.beq f 18 || Nat.beq f 1000088, loop := side_Normal.loop }
theorem side_Normal.ok : side_Normal.ctx.OK where
  mixed := by kernel_rfl
  mono := by
    intro f args h K K' hh hk
    change side_Normal.call f args h K at hh
    change side_Normal.call f args h K'
    unfold side_Normal.call at hh ⊢
    split at hh
    · obtain ⟨R, h1, h2⟩ := hh
      exact ⟨R, h1, fun _ _ _ x hr => hk _ _ (h2 _ _ _ x hr)⟩
    · exact hh.elim
  call := by
    intro f args h K hh w hw
    change side_Normal.call f args h K at hh
    unfold side_Normal.call at hh
    split at hh
    · obtain ⟨R, h1, h2⟩ := hh
      obtain ⟨g1, g2⟩ := slices_Clone_Lint_int.calls h1 w hw
      exact ⟨g1, g2.mono fun e w' ⟨v, he, ho, hr⟩ => ⟨v, he, ho, slices_Clone_Lint_int.ret_elim h2 hr⟩⟩
    · exact hh.elim
  qmono := by
    intro f args h K K' hh hk
    change side_Normal.qcall f args h K at hh
    change side_Normal.qcall f args h K'
    unfold side_Normal.qcall at hh ⊢
    split at hh
    · obtain ⟨x0, h1, h2⟩ := hh
      exact ⟨x0, h1, hk _ h2⟩
    · exact hh.elim
  qval := by
    intro f args h K hh
    change side_Normal.qcall f args h K at hh
    suffices H : ∃ v, K v ∧ side_Normal.qcall f args h (· = v) from H
    unfold side_Normal.qcall at hh ⊢
    split at hh
    · obtain ⟨x0, h1, h2⟩ := hh
      exact ⟨_, h2, x0, h1, rfl⟩
    · exact hh.elim
  qcall := by
    intro f args h v hh w hw
    change side_Normal.qcall f args h (· = v) at hh
    unfold side_Normal.qcall at hh
    split at hh
    · obtain ⟨x0, h1, h2⟩ := hh
      obtain ⟨g1, g2⟩ := side_Check.calls h1 w hw
      refine .inl ⟨g1, g2.mono fun e w' ⟨u, he, ho, hr⟩ => ?_⟩
      have hq := side_Check.ret_elim (K' := fun u h' => u = v ∧ h' = h) (fun _ h' hr => by obtain ⟨rfl, rfl⟩ := hr; exact ⟨h2, rfl⟩) hr
      exact ⟨hq.1 ▸ he, ho, hq.2⟩
    · exact hh.elim
noncomputable def side_Normal.code : Code := (Try.f16.body).getD .skip
def side_Normal.ann : Ann := (.two .auto (.two .auto (.two .auto (.two .auto (.two .auto (.two (.two .auto (.two (.loop 0 [7, 8, 23, 24] [(2, [7])] .auto) .auto)) .auto))))))
noncomputable def side_Normal.c0 : Code := sub side_Normal.code [1, 1, 1, 1, 1, 0, 1, 0, 0]
def side_Normal.a0 : Ann := .auto
def side_Normal.keep0 : List Nat := [7, 8, 23, 24]
def side_Normal.outs0 : List (Nat × List Nat) := [(2, [7])]
set_option maxRecDepth 100000 in
theorem side_Normal.L0 : LoopOK side_Normal.ctx 45 side_Normal.c0 0 side_Normal.keep0 side_Normal.outs0 := by
  refine loop_ok (n := side_Normal.a0) side_Normal.ok (by kernel_rfl) (loops_ok (l := []) (by kernel_rfl) ?_) side_Normal.r0 ?_ ?_ (fun vs h K hh => hh)
  · exact trivial
  · intro K vs h hh
    unfold side_Normal.r0 at hh
    split at hh
    · exact hh
    · exact hh
  · intro K m vs h hh
    unfold side_Normal.r0 at hh
    split at hh
    · exact cast (by kernel_rfl) hh
    · exact hh.elim
set_option maxRecDepth 100000 in
theorem side_Normal.eq (a1 : Int) (a2 : Option Addr) (a2l : Nat) (a2c : Nat) (h : Heap) (K : (Option Addr) → Nat → Nat → Int → Heap → Prop) : evF side_Normal.ctx Try.f16 side_Normal.ann [(.int .i64 a1), (.slice a2 a2l a2c)] h (side_Normal.ret K) = side_Normal a1 a2 a2l a2c h K := by kernel_rfl
set_option maxRecDepth 100000 in
theorem side_Normal.calls {a1 : Int} {a2 : Option Addr} {a2l : Nat} {a2c : Nat} {h : Heap} {K : (Option Addr) → Nat → Nat → Int → Heap → Prop} (hh : side_Normal a1 a2 a2l a2c h K) (w : World) (hw : w.heap = h) :
    (callFunc 16 #[(.int .i64 a1), (.slice a2 a2l a2c)]).run Try.prog w = .ok (.enter 16 #[(.int .i64 a1), (.slice a2 a2l a2c)]) w ∧ Calls Try.prog 16 #[(.int .i64 a1), (.slice a2 a2l a2c)] w fun e w' => ∃ v, e = .returned v ∧ Out w w' ∧ side_Normal.ret K v w'.heap := by
  rw [← side_Normal.eq] at hh
  exact fn_calls (args := [(.int .i64 a1), (.slice a2 a2l a2c)]) (c := side_Normal.code) side_Normal.ok Try.func16 (by kernel_rfl) (by kernel_rfl) (by kernel_rfl) (by kernel_rfl) (loops_ok (l := [(side_Normal.c0, none, 0, side_Normal.keep0, side_Normal.outs0)]) (by kernel_rfl) ⟨side_Normal.L0, trivial⟩) hh w hw

/-! ### strait/straitref09.Ints: function 20 -/
def straitref09_Ints.b0 (K0 : Bool → Heap → Prop) (K2 : Heap → Prop) (cont : (Option Addr) → Nat → Nat → (Option Addr) → Nat → Nat → Int → Heap → Prop) (c0_1001 : Option Addr) (c0_1002 : Nat) (c0_1003 : Nat) (c1_1004 : Option Addr) (c1_1005 : Nat) (c1_1006 : Nat) (v5_1007 : Int) (h1008 : Heap) : Prop :=
  (iteB (decide (v5_1007 < (c0_1002 : Int))) ((chkP c0_1001 fun a1009 => (0 ≤ v5_1007 ∧ v5_1007 < (c0_1002 : Int)) ∧ ∃ (x1010 : Int), cell h1008 (a1009.add (v5_1007.toNat * 1)) = some (.int .i64 x1010) ∧ chkP c1_1004 fun a1011 => (0 ≤ v5_1007 ∧ v5_1007 < (c1_1005 : Int)) ∧ ∃ (x1012 : Int), cell h1008 (a1011.add (v5_1007.toNat * 1)) = some (.int .i64 x1012) ∧ (iteB (x1010 != x1012) (K0 false h1008) (((cont c0_1001 c0_1002 c0_1003 c1_1004 c1_1005 c1_1006 (IntKind.i64.wrap (v5_1007 + 1)) h1008)))))) (K2 h1008))
def straitref09_Ints.l0 (K0 : Bool → Heap → Prop) (K2 : Heap → Prop) : Nat → (Option Addr) → Nat → Nat → (Option Addr) → Nat → Nat → Int → Heap → Prop
  | 0, _, _, _, _, _, _, _, _ => False
  | m + 1, c0_1001, c0_1002, c0_1003, c1_1004, c1_1005, c1_1006, v5_1007, h => straitref09_Ints.b0 K0 K2 (straitref09_Ints.l0 K0 K2 m) c0_1001 c0_1002 c0_1003 c1_1004 c1_1005 c1_1006 v5_1007 h
def straitref09_Ints (a1 : Option Addr) (a1l : Nat) (a1c : Nat) (a2 : Option Addr) (a2l : Nat) (a2c : Nat) (h : Heap) (K : Bool → Heap → Prop) : Prop :=
  ((iteB ((a1l : Int) != (a2l : Int)) (K false h) (((∃ m6, straitref09_Ints.l0 (fun z3 h4 => K z3 h4) (fun h5 => (K true h5)) m6 a1 a1l a1c a2 a2l a2c 0 h)))))
def straitref09_Ints.ret (K : Bool → Heap → Prop) (v : Value) (h : Heap) : Prop := match v with
  | (.bool r7) => K r7 h
  | _ => False
theorem straitref09_Ints.ret_elim {K : Bool → Heap → Prop} {K' : Value → Heap → Prop} {v : Value} {h : Heap} (hk : ∀ r7 h, K r7 h → K' (.bool r7) h) (hh : straitref09_Ints.ret K v h) : K' v h := by
  unfold straitref09_Ints.ret at hh
  split at hh
  · exact hk _ _ hh
  · exact hh.elim
def straitref09_Ints.r0 (K : Nat → List Value → Heap → Prop) (m : Nat) (vs : List Value) (h : Heap) : Prop := match vs with
  | [(.slice c0_1001 c0_1002 c0_1003), (.slice c1_1004 c1_1005 c1_1006), (.int .i64 v5_1007)] => straitref09_Ints.l0 (fun z8 h' => K 0 [(.bool z8)] h') (fun h' => K 2 [] h') m c0_1001 c0_1002 c0_1003 c1_1004 c1_1005 c1_1006 v5_1007 h
  | _ => False
def straitref09_Ints.loop (i : Nat) (vs : List Value) (h : Heap) (K : Nat → List Value → Heap → Prop) : Prop := match i with
  | 0 => ∃ m, straitref09_Ints.r0 K m vs h
  | _ => False
noncomputable def straitref09_Ints.ctx : Ctx := { P := Try.prog, call := fun _ _ _ _ => False, qcall := fun _ _ _ _ => False, quiet := fun f => Nat.beq f 1000088, loop := straitref09_Ints.loop }
theorem straitref09_Ints.ok : straitref09_Ints.ctx.OK where
  mixed := by kernel_rfl
  mono := fun hh _ => hh.elim
  call := fun hh => hh.elim
  qmono := fun hh _ => hh.elim
  qval := fun hh => hh.elim
  qcall := fun hh => hh.elim
noncomputable def straitref09_Ints.code : Code := (Try.f20.body).getD .skip
def straitref09_Ints.ann : Ann := (.two .auto (.two .auto (.two (.two .auto (.two (.loop 0 [0, 1, 5] [(2, []), (0, [4])] (.two .auto (.two (.two (.two (.reg [0, 0, 3, 7, 0, 0, 48, 112, 255] (.take 0 (.take 1 (.take 2 (.take 3 (.take 4 (.take 5 (.take 6 (.take 7 (.take 8 .done)))))))))) .auto) .auto) .auto))) .auto)) .auto)))
noncomputable def straitref09_Ints.c0 : Code := sub straitref09_Ints.code [1, 1, 0, 1, 0, 0]
def straitref09_Ints.a0 : Ann := (.two .auto (.two (.two (.two (.reg [0, 0, 3, 7, 0, 0, 48, 112, 255] (.take 0 (.take 1 (.take 2 (.take 3 (.take 4 (.take 5 (.take 6 (.take 7 (.take 8 .done)))))))))) .auto) .auto) .auto))
def straitref09_Ints.keep0 : List Nat := [0, 1, 5]
def straitref09_Ints.outs0 : List (Nat × List Nat) := [(2, []), (0, [4])]
set_option maxRecDepth 100000 in
theorem straitref09_Ints.L0 : LoopOK straitref09_Ints.ctx 26 straitref09_Ints.c0 0 straitref09_Ints.keep0 straitref09_Ints.outs0 := by
  refine loop_ok (n := straitref09_Ints.a0) straitref09_Ints.ok (by kernel_rfl) (loops_ok (l := []) (by kernel_rfl) ?_) straitref09_Ints.r0 ?_ ?_ (fun vs h K hh => hh)
  · exact trivial
  · intro K vs h hh
    unfold straitref09_Ints.r0 at hh
    split at hh
    · exact hh
    · exact hh
  · intro K m vs h hh
    unfold straitref09_Ints.r0 at hh
    split at hh
    · exact cast (by kernel_rfl) hh
    · exact hh.elim
set_option maxRecDepth 100000 in
theorem straitref09_Ints.eq (a1 : Option Addr) (a1l : Nat) (a1c : Nat) (a2 : Option Addr) (a2l : Nat) (a2c : Nat) (h : Heap) (K : Bool → Heap → Prop) : evF straitref09_Ints.ctx Try.f20 straitref09_Ints.ann [(.slice a1 a1l a1c), (.slice a2 a2l a2c)] h (straitref09_Ints.ret K) = straitref09_Ints a1 a1l a1c a2 a2l a2c h K := by kernel_rfl
set_option maxRecDepth 100000 in
theorem straitref09_Ints.calls {a1 : Option Addr} {a1l : Nat} {a1c : Nat} {a2 : Option Addr} {a2l : Nat} {a2c : Nat} {h : Heap} {K : Bool → Heap → Prop} (hh : straitref09_Ints a1 a1l a1c a2 a2l a2c h K) (w : World) (hw : w.heap = h) :
    (callFunc 20 #[(.slice a1 a1l a1c), (.slice a2 a2l a2c)]).run Try.prog w = .ok (.enter 20 #[(.slice a1 a1l a1c), (.slice a2 a2l a2c)]) w ∧ Calls Try.prog 20 #[(.slice a1 a1l a1c), (.slice a2 a2l a2c)] w fun e w' => ∃ v, e = .returned v ∧ Out w w' ∧ straitref09_Ints.ret K v w'.heap := by
  rw [← straitref09_Ints.eq] at hh
  exact fn_calls (args := [(.slice a1 a1l a1c), (.slice a2 a2l a2c)]) (c := straitref09_Ints.code) straitref09_Ints.ok Try.func20 (by kernel_rfl) (by kernel_rfl) (by kernel_rfl) (by kernel_rfl) (loops_ok (l := [(straitref09_Ints.c0, none, 0, straitref09_Ints.keep0, straitref09_Ints.outs0)]) (by kernel_rfl) ⟨straitref09_Ints.L0, trivial⟩) hh w hw

/-! ### strait/side.Right: function 13 -/
def side_Right (a1 : Option Addr) (a2 : Int) (a3 : Option Addr) (a3l : Nat) (a3c : Nat) (h : Heap) (K : Bool → Heap → Prop) : Prop :=
  newP h (.cells #[(.int .i64 a2), (.slice a3 a3l a3c)] 41) fun a4 h5 => (∃ (x6 : Option Addr) (x6l : Nat) (x6c : Nat), cell h5 (a4.add 1) = some (.slice x6 x6l x6c) ∧ callP2 (side_Weight a1 x6 x6l x6c h5) fun x7 x8 h9 => (iteB (x8 == (0 : Int)) (∃ (x10 : Int), cell h9 a4 = some (.int .i64 x10) ∧ (K (x7 == x10) h9)) (K false h9)))
def side_Right.ret (K : Bool → Heap → Prop) (v : Value) (h : Heap) : Prop := match v with
  | (.bool r12) => K r12 h
  | _ => False
theorem side_Right.ret_elim {K : Bool → Heap → Prop} {K' : Value → Heap → Prop} {v : Value} {h : Heap} (hk : ∀ r12 h, K r12 h → K' (.bool r12) h) (hh : side_Right.ret K v h) : K' v h := by
  unfold side_Right.ret at hh
  split at hh
  · exact hk _ _ hh
  · exact hh.elim
def side_Right.call (f : FuncId) (vs : List Value) (h : Heap) (K : Value → Heap → Prop) : Prop := match f, vs with
  | 10, [(.pointer a1), (.slice a2 a2l a2c)] => callP2 (side_Weight a1 a2 a2l a2c h) fun r3 r4 h' => K (.tuple #[(.int .i64 r3), (.int .i64 r4)]) h'
  | _, _ => False
noncomputable def side_Right.ctx : Ctx := { P := Try.prog, call := side_Right.call, qcall := fun _ _ _ _ => False, quiet := fun f => Nat.beq f 1000088, loop := fun _ _ _ _ => False }
theorem side_Right.ok : side_Right.ctx.OK where
  mixed := by kernel_rfl
  mono := by
    intro f args h K K' hh hk
    change side_Right.call f args h K at hh
    change side_Right.call f args h K'
    unfold side_Right.call at hh ⊢
    split at hh
    · obtain ⟨R, h1, h2⟩ := hh
      exact ⟨R, h1, fun _ _ x hr => hk _ _ (h2 _ _ x hr)⟩
    · exact hh.elim
  call := by
    intro f args h K hh w hw
    change side_Right.call f args h K at hh
    unfold side_Right.call at hh
    split at hh
    · obtain ⟨R, h1, h2⟩ := hh
      obtain ⟨g1, g2⟩ := side_Weight.calls h1 w hw
      exact ⟨g1, g2.mono fun e w' ⟨v, he, ho, hr⟩ => ⟨v, he, ho, side_Weight.ret_elim h2 hr⟩⟩
    · exact hh.elim
  qmono := fun hh _ => hh.elim
  qval := fun hh => hh.elim
  qcall := fun hh => hh.elim
noncomputable def side_Right.code : Code := (Try.f13.body).getD .skip
def side_Right.ann : Ann := .auto
set_option maxRecDepth 100000 in
theorem side_Right.eq (a1 : Option Addr) (a2 : Int) (a3 : Option Addr) (a3l : Nat) (a3c : Nat) (h : Heap) (K : Bool → Heap → Prop) : evF side_Right.ctx Try.f13 side_Right.ann [(.pointer a1), (.agg #[(.int .i64 a2), (.slice a3 a3l a3c)])] h (side_Right.ret K) = side_Right a1 a2 a3 a3l a3c h K := by kernel_rfl
set_option maxRecDepth 100000 in
theorem side_Right.calls {a1 : Option Addr} {a2 : Int} {a3 : Option Addr} {a3l : Nat} {a3c : Nat} {h : Heap} {K : Bool → Heap → Prop} (hh : side_Right a1 a2 a3 a3l a3c h K) (w : World) (hw : w.heap = h) :
    (callFunc 13 #[(.pointer a1), (.agg #[(.int .i64 a2), (.slice a3 a3l a3c)])]).run Try.prog w = .ok (.enter 13 #[(.pointer a1), (.agg #[(.int .i64 a2), (.slice a3 a3l a3c)])]) w ∧ Calls Try.prog 13 #[(.pointer a1), (.agg #[(.int .i64 a2), (.slice a3 a3l a3c)])] w fun e w' => ∃ v, e = .returned v ∧ Out w w' ∧ side_Right.ret K v w'.heap := by
  rw [← side_Right.eq] at hh
  exact fn_calls (args := [(.pointer a1), (.agg #[(.int .i64 a2), (.slice a3 a3l a3c)])]) (c := side_Right.code) side_Right.ok Try.func13 (by kernel_rfl) (by kernel_rfl) (by kernel_rfl) (by kernel_rfl) (loops_ok (l := []) (by kernel_rfl) trivial) hh w hw

/-! ### slices.Index[[]int,int]: function 36 -/
def slices_Index_Lint_int.b0 (K0 : Int → Heap → Prop) (K2 : Heap → Prop) (cont : (Option Addr) → Nat → Nat → Int → Int → Int → Heap → Prop) (c0_1001 : Option Addr) (c0_1002 : Nat) (c0_1003 : Nat) (c1_1004 : Int) (c7_1005 : Int) (v8_1006 : Int) (h1007 : Heap) : Prop :=
  (iteB (decide (v8_1006 < c7_1005)) (((chkP c0_1001 fun a1008 => (0 ≤ v8_1006 ∧ v8_1006 < (c0_1002 : Int)) ∧ ∃ (x1009 : Int), cell h1007 (a1008.add (v8_1006.toNat * 1)) = some (.int .i64 x1009) ∧ (iteB (c1_1004 == x1009) (K0 v8_1006 h1007) (((cont c0_1001 c0_1002 c0_1003 c1_1004 c7_1005 (IntKind.i64.wrap (v8_1006 + 1)) h1007))))))) (K2 h1007))
def slices_Index_Lint_int.l0 (K0 : Int → Heap → Prop) (K2 : Heap → Prop) : Nat → (Option Addr) → Nat → Nat → Int → Int → Int → Heap → Prop
  | 0, _, _, _, _, _, _, _ => False
  | m + 1, c0_1001, c0_1002, c0_1003, c1_1004, c7_1005, v8_1006, h => slices_Index_Lint_int.b0 K0 K2 (slices_Index_Lint_int.l0 K0 K2 m) c0_1001 c0_1002 c0_1003 c1_1004 c7_1005 v8_1006 h
def slices_Index_Lint_int (a1 : Option Addr) (a1l : Nat) (a1c : Nat) (a2 : Int) (h : Heap) (K : Int → Heap → Prop) : Prop :=
  ((∃ m6, slices_Index_Lint_int.l0 (fun z3 h4 => K z3 h4) (fun h5 => (((K (-1) h5)))) m6 a1 a1l a1c a2 (a1l : Int) 0 h))
def slices_Index_Lint_int.ret (K : Int → Heap → Prop) (v : Value) (h : Heap) : Prop := match v with
  | (.int .i64 r7) => K r7 h
  | _ => False
theorem slices_Index_Lint_int.ret_elim {K : Int → Heap → Prop} {K' : Value → Heap → Prop} {v : Value} {h : Heap} (hk : ∀ r7 h, K r7 h → K' (.int .i64 r7) h) (hh : slices_Index_Lint_int.ret K v h) : K' v h := by
  unfold slices_Index_Lint_int.ret at hh
  split at hh
  · exact hk _ _ hh
  · exact hh.elim
def slices_Index_Lint_int.r0 (K : Nat → List Value → Heap → Prop) (m : Nat) (vs : List Value) (h : Heap) : Prop := match vs with
  | [(.slice c0_1001 c0_1002 c0_1003), (.int .i64 c1_1004), (.int .i64 c7_1005), (.int .i64 v8_1006)] => slices_Index_Lint_int.l0 (fun z8 h' => K 0 [(.int .i64 z8)] h') (fun h' => K 2 [] h') m c0_1001 c0_1002 c0_1003 c1_1004 c7_1005 v8_1006 h
  | _ => False
def slices_Index_Lint_int.loop (i : Nat) (vs : List Value) (h : Heap) (K : Nat → List Value → Heap → Prop) : Prop := match i with
  | 0 => ∃ m, slices_Index_Lint_int.r0 K m vs h
  | _ => False
noncomputable def slices_Index_Lint_int.ctx : Ctx := { P := Try.prog, call := fun _ _ _ _ => False, qcall := fun _ _ _ _ => False, quiet := fun f => Nat.beq f 1000088, loop := slices_Index_Lint_int.loop }
theorem slices_Index_Lint_int.ok : slices_Index_Lint_int.ctx.OK where
  mixed := by kernel_rfl
  mono := fun hh _ => hh.elim
  call := fun hh => hh.elim
  qmono := fun hh _ => hh.elim
  qval := fun hh => hh.elim
  qcall := fun hh => hh.elim
noncomputable def slices_Index_Lint_int.code : Code := (Try.f36.body).getD .skip
def slices_Index_Lint_int.ann : Ann := (.two .auto (.two (.two .auto (.two (.loop 0 [0, 1, 7, 8] [(2, []), (0, [4])] .auto) .auto)) .auto))
noncomputable def slices_Index_Lint_int.c0 : Code := sub slices_Index_Lint_int.code [1, 0, 1, 0, 0]
def slices_Index_Lint_int.a0 : Ann := .auto
def slices_Index_Lint_int.keep0 : List Nat := [0, 1, 7, 8]
def slices_Index_Lint_int.outs0 : List (Nat × List Nat) := [(2, []), (0, [4])]
set_option maxRecDepth 100000 in
theorem slices_Index_Lint_int.L0 : LoopOK slices_Index_Lint_int.ctx 19 slices_Index_Lint_int.c0 0 slices_Index_Lint_int.keep0 slices_Index_Lint_int.outs0 := by
  refine loop_ok (n := slices_Index_Lint_int.a0) slices_Index_Lint_int.ok (by kernel_rfl) (loops_ok (l := []) (by kernel_rfl) ?_) slices_Index_Lint_int.r0 ?_ ?_ (fun vs h K hh => hh)
  · exact trivial
  · intro K vs h hh
    unfold slices_Index_Lint_int.r0 at hh
    split at hh
    · exact hh
    · exact hh
  · intro K m vs h hh
    unfold slices_Index_Lint_int.r0 at hh
    split at hh
    · exact cast (by kernel_rfl) hh
    · exact hh.elim
set_option maxRecDepth 100000 in
theorem slices_Index_Lint_int.eq (a1 : Option Addr) (a1l : Nat) (a1c : Nat) (a2 : Int) (h : Heap) (K : Int → Heap → Prop) : evF slices_Index_Lint_int.ctx Try.f36 slices_Index_Lint_int.ann [(.slice a1 a1l a1c), (.int .i64 a2)] h (slices_Index_Lint_int.ret K) = slices_Index_Lint_int a1 a1l a1c a2 h K := by kernel_rfl
set_option maxRecDepth 100000 in
theorem slices_Index_Lint_int.calls {a1 : Option Addr} {a1l : Nat} {a1c : Nat} {a2 : Int} {h : Heap} {K : Int → Heap → Prop} (hh : slices_Index_Lint_int a1 a1l a1c a2 h K) (w : World) (hw : w.heap = h) :
    (callFunc 36 #[(.slice a1 a1l a1c), (.int .i64 a2)]).run Try.prog w = .ok (.enter 36 #[(.slice a1 a1l a1c), (.int .i64 a2)]) w ∧ Calls Try.prog 36 #[(.slice a1 a1l a1c), (.int .i64 a2)] w fun e w' => ∃ v, e = .returned v ∧ Out w w' ∧ slices_Index_Lint_int.ret K v w'.heap := by
  rw [← slices_Index_Lint_int.eq] at hh
  exact fn_calls (args := [(.slice a1 a1l a1c), (.int .i64 a2)]) (c := slices_Index_Lint_int.code) slices_Index_Lint_int.ok Try.func36 (by kernel_rfl) (by kernel_rfl) (by kernel_rfl) (by kernel_rfl) (loops_ok (l := [(slices_Index_Lint_int.c0, none, 0, slices_Index_Lint_int.keep0, slices_Index_Lint_int.outs0)]) (by kernel_rfl) ⟨slices_Index_Lint_int.L0, trivial⟩) hh w hw

/-! ### slices.Contains[[]int,int]: function 25 -/
def slices_Contains_Lint_int (a1 : Option Addr) (a1l : Nat) (a1c : Nat) (a2 : Int) (h : Heap) (K : Bool → Heap → Prop) : Prop :=
  (qcallP1 h (slices_Index_Lint_int a1 a1l a1c a2 h) fun x3 => (K (decide (x3 ≥ (0 : Int))) h))
def slices_Contains_Lint_int.ret (K : Bool → Heap → Prop) (v : Value) (h : Heap) : Prop := match v with
  | (.bool r4) => K r4 h
  | _ => False
theorem slices_Contains_Lint_int.ret_elim {K : Bool → Heap → Prop} {K' : Value → Heap → Prop} {v : Value} {h : Heap} (hk : ∀ r4 h, K r4 h → K' (.bool r4) h) (hh : slices_Contains_Lint_int.ret K v h) : K' v h := by
  unfold slices_Contains_Lint_int.ret at hh
  split at hh
  · exact hk _ _ hh
  · exact hh.elim
def slices_Contains_Lint_int.qcall (f : FuncId) (vs : List Value) (h : Heap) (K : Value → Prop) : Prop := match f, vs with
  | 36, [(.slice a1 a1l a1c), (.int .i64 a2)] => qcallP1 h (slices_Index_Lint_int a1 a1l a1c a2 h) fun r7 => K (.int .i64 r7)
  | _, _ => False
noncomputable def slices_Contains_Lint_int.ctx : Ctx := { P := Try.prog, call := fun _ _ _ _ => False, qcall := slices_Contains_Lint_int.qcall, quiet := fun f => Nat.beq f 36 || Nat.beq f 1000088, loop := fun _ _ _ _ => False }
theorem slices_Contains_Lint_int.ok : slices_Contains_Lint_int.ctx.OK where
  mixed := by kernel_rfl
  mono := fun hh _ => hh.elim
  call := fun hh => hh.elim
  qmono := by
    intro f args h K K' hh hk
    change slices_Contains_Lint_int.qcall f args h K at hh
    change slices_Contains_Lint_int.qcall f args h K'
    unfold slices_Contains_Lint_int.qcall at hh ⊢
    split at hh
    · obtain ⟨x0, h1, h2⟩ := hh
      exact ⟨x0, h1, hk _ h2⟩
    · exact hh.elim
  qval := by
    intro f args h K hh
    change slices_Contains_Lint_int.qcall f args h K at hh
    suffices H : ∃ v, K v ∧ slices_Contains_Lint_int.qcall f args h (· = v) from H
    unfold slices_Contains_Lint_int.qcall at hh ⊢
    split at hh
    · obtain ⟨x0, h1, h2⟩ := hh
      exact ⟨_, h2, x0, h1, rfl⟩
    · exact hh.elim
  qcall := by
    intro f args h v hh w hw
    change slices_Contains_Lint_int.qcall f args h (· = v) at hh
    unfold slices_Contains_Lint_int.qcall at hh
    split at hh
    · obtain ⟨x0, h1, h2⟩ := hh
      obtain ⟨g1, g2⟩ := slices_Index_Lint_int.calls h1 w hw
      refine .inl ⟨g1, g2.mono fun e w' ⟨u, he, ho, hr⟩ => ?_⟩
      have hq := slices_Index_Lint_int.ret_elim (K' := fun u h' => u = v ∧ h' = h) (fun _ h' hr => by obtain ⟨rfl, rfl⟩ := hr; exact ⟨h2, rfl⟩) hr
      exact ⟨hq.1 ▸ he, ho, hq.2⟩
    · exact hh.elim
noncomputable def slices_Contains_Lint_int.code : Code := (Try.f25.body).getD .skip
def slices_Contains_Lint_int.ann : Ann := .auto
set_option maxRecDepth 100000 in
theorem slices_Contains_Lint_int.eq (a1 : Option Addr) (a1l : Nat) (a1c : Nat) (a2 : Int) (h : Heap) (K : Bool → Heap → Prop) : evF slices_Contains_Lint_int.ctx Try.f25 slices_Contains_Lint_int.ann [(.slice a1 a1l a1c), (.int .i64 a2)] h (slices_Contains_Lint_int.ret K) = slices_Contains_Lint_int a1 a1l a1c a2 h K := by kernel_rfl
set_option maxRecDepth 100000 in
theorem slices_Contains_Lint_int.calls {a1 : Option Addr} {a1l : Nat} {a1c : Nat} {a2 : Int} {h : Heap} {K : Bool → Heap → Prop} (hh : slices_Contains_Lint_int a1 a1l a1c a2 h K) (w : World) (hw : w.heap = h) :
    (callFunc 25 #[(.slice a1 a1l a1c), (.int .i64 a2)]).run Try.prog w = .ok (.enter 25 #[(.slice a1 a1l a1c), (.int .i64 a2)]) w ∧ Calls Try.prog 25 #[(.slice a1 a1l a1c), (.int .i64 a2)] w fun e w' => ∃ v, e = .returned v ∧ Out w w' ∧ slices_Contains_Lint_int.ret K v w'.heap := by
  rw [← slices_Contains_Lint_int.eq] at hh
  exact fn_calls (args := [(.slice a1 a1l a1c), (.int .i64 a2)]) (c := slices_Contains_Lint_int.code) slices_Contains_Lint_int.ok Try.func25 (by kernel_rfl) (by kernel_rfl) (by kernel_rfl) (by kernel_rfl) (loops_ok (l := []) (by kernel_rfl) trivial) hh w hw

/-! ### strait/side.Parts$1: function 24 -/
def side_Parts_c1 (a1 : Int) (a2 : Addr) (h : Heap) (K : Bool → Heap → Prop) : Prop :=
  (iteB (decide (a1 ≥ (0 : Int))) (∃ (x3 : Int), cell h a2 = some (.int .i64 x3) ∧ (K (decide (a1 < x3)) h)) (K false h))
def side_Parts_c1.ret (K : Bool → Heap → Prop) (v : Value) (h : Heap) : Prop := match v with
  | (.bool r5) => K r5 h
  | _ => False
theorem side_Parts_c1.ret_elim {K : Bool → Heap → Prop} {K' : Value → Heap → Prop} {v : Value} {h : Heap} (hk : ∀ r5 h, K r5 h → K' (.bool r5) h) (hh : side_Parts_c1.ret K v h) : K' v h := by
  unfold side_Parts_c1.ret at hh
  split at hh
  · exact hk _ _ hh
  · exact hh.elim
noncomputable def side_Parts_c1.ctx : Ctx := { P := Try.prog, call := fun _ _ _ _ => False, qcall := fun _ _ _ _ => False, quiet := fun f => Nat.beq f 1000088, loop := fun _ _ _ _ => False }
theorem side_Parts_c1.ok : side_Parts_c1.ctx.OK where
  mixed := by kernel_rfl
  mono := fun hh _ => hh.elim
  call := fun hh => hh.elim
  qmono := fun hh _ => hh.elim
  qval := fun hh => hh.elim
  qcall := fun hh => hh.elim
noncomputable def side_Parts_c1.code : Code := (Try.f24.body).getD .skip
def side_Parts_c1.ann : Ann := .auto
set_option maxRecDepth 100000 in
theorem side_Parts_c1.eq (a1 : Int) (a2 : Addr) (h : Heap) (K : Bool → Heap → Prop) : evF side_Parts_c1.ctx Try.f24 side_Parts_c1.ann [(.int .i64 a1), (.pointer (some a2))] h (side_Parts_c1.ret K) = side_Parts_c1 a1 a2 h K := by kernel_rfl
set_option maxRecDepth 100000 in
theorem side_Parts_c1.calls {a1 : Int} {a2 : Addr} {h : Heap} {K : Bool → Heap → Prop} (hh : side_Parts_c1 a1 a2 h K) (w : World) (hw : w.heap = h) :
    (callFunc 24 #[(.int .i64 a1), (.pointer (some a2))]).run Try.prog w = .ok (.enter 24 #[(.int .i64 a1), (.pointer (some a2))]) w ∧ Calls Try.prog 24 #[(.int .i64 a1), (.pointer (some a2))] w fun e w' => ∃ v, e = .returned v ∧ Out w w' ∧ side_Parts_c1.ret K v w'.heap := by
  rw [← side_Parts_c1.eq] at hh
  exact fn_calls (args := [(.int .i64 a1), (.pointer (some a2))]) (c := side_Parts_c1.code) side_Parts_c1.ok Try.func24 (by kernel_rfl) (by kernel_rfl) (by kernel_rfl) (by kernel_rfl) (loops_ok (l := []) (by kernel_rfl) trivial) hh w hw

/-! ### strait/side.Parts: function 7 -/
def side_Parts (a1 : Int) (a2 : Option Addr) (a2l : Nat) (a2c : Nat) (a3 : Int) (a4 : Int) (h : Heap) (K : Bool → Heap → Prop) : Prop :=
  newP h (.cells #[(.int .i64 a1)] 3) fun a5 h6 => ((∃ (x7 : Int), cell h6 a5 = some (.int .i64 x7) ∧ qcallP1 h6 (side_Check x7 a2 a2l a2c h6) fun x8 => iteB (x8 == (0 : Int)) (callP1 (side_Parts_c1 a3 a5 h6) fun x9 h10 => iteB x9 (callP1 (side_Parts_c1 a4 a5 h10) fun x11 h12 => iteB x11 (qcallP1 h12 (slices_Contains_Lint_int a2 a2l a2c a3 h12) fun x13 => qcallP1 h12 (slices_Contains_Lint_int a2 a2l a2c a4 h12) fun x14 => (K (!(x13 == x14)) h12)) (K false h12)) (K false h10)) (K false h6)))
def side_Parts.ret (K : Bool → Heap → Prop) (v : Value) (h : Heap) : Prop := match v with
  | (.bool r17) => K r17 h
  | _ => False
theorem side_Parts.ret_elim {K : Bool → Heap → Prop} {K' : Value → Heap → Prop} {v : Value} {h : Heap} (hk : ∀ r17 h, K r17 h → K' (.bool r17) h) (hh : side_Parts.ret K v h) : K' v h := by
  unfold side_Parts.ret at hh
  split at hh
  · exact hk _ _ hh
  · exact hh.elim
def side_Parts.call (f : FuncId) (vs : List Value) (h : Heap) (K : Value → Heap → Prop) : Prop := match f, vs with
  | 24, [(.int .i64 a1), (.pointer (some a2))] => callP1 (side_Parts_c1 a1 a2 h) fun r5 h' => K (.bool r5) h'
  | _, _ => False
def side_Parts.qcall (f : FuncId) (vs : List Value) (h : Heap) (K : Value → Prop) : Prop := match f, vs with
  | 18, [(.int .i64 a1), (.slice a2 a2l a2c)] => qcallP1 h (side_Check a1 a2 a2l a2c h) fun r8 => K (.int .i64 r8)
  | 25, [(.slice a1 a1l a1c), (.int .i64 a2)] => qcallP1 h (slices_Contains_Lint_int a1 a1l a1c a2 h) fun r4 => K (.bool r4)
  | _, _ => False
noncomputable def side_Parts.ctx : Ctx := { P := Try.prog, call := side_Parts.call, qcall := side_Parts.qcall, quiet := fun f => Nat.beq f 18 || Nat.beq f 25 || Nat.beq f 1000088, loop := fun _ _ _ _ => False }
theorem side_Parts.ok : side_Parts.ctx.OK where
  mixed := by kernel_rfl
  mono := by
    intro f args h K K' hh hk
    change side_Parts.call f args h K at hh
    change side_Parts.call f args h K'
    unfold side_Parts.call at hh ⊢
    split at hh
    · obtain ⟨R, h1, h2⟩ := hh
      exact ⟨R, h1, fun _ x hr => hk _ _ (h2 _ x hr)⟩
    · exact hh.elim
  call := by
    intro f args h K hh w hw
    change side_Parts.call f args h K at hh
    unfold side_Parts.call at hh
    split at hh
    · obtain ⟨R, h1, h2⟩ := hh
      obtain ⟨g1, g2⟩ := side_Parts_c1.calls h1 w hw
      exact ⟨g1, g2.mono fun e w' ⟨v, he, ho, hr⟩ => ⟨v, he, ho, side_Parts_c1.ret_elim h2 hr⟩⟩
    · exact hh.elim
  qmono := by
    intro f args h K K' hh hk
    change side_Parts.qcall f args h K at hh
    change side_Parts.qcall f args h K'
    unfold side_Parts.qcall at hh ⊢
    split at hh
    · obtain ⟨x0, h1, h2⟩ := hh
      exact ⟨x0, h1, hk _ h2⟩
    · obtain ⟨x0, h1, h2⟩ := hh
      exact ⟨x0, h1, hk _ h2⟩
    · exact hh.elim
  qval := by
    intro f args h K hh
    change side_Parts.qcall f args h K at hh
    suffices H : ∃ v, K v ∧ side_Parts.qcall f args h (· = v) from H
    unfold side_Parts.qcall at hh ⊢
    split at hh
    · obtain ⟨x0, h1, h2⟩ := hh
      exact ⟨_, h2, x0, h1, rfl⟩
    · obtain ⟨x0, h1, h2⟩ := hh
      exact ⟨_, h2, x0, h1, rfl⟩
    · exact hh.elim
  qcall := by
    intro f args h v hh w hw
    change side_Parts.qcall f args h (· = v) at hh
    unfold side_Parts.qcall at hh
    split at hh
    · obtain ⟨x0, h1, h2⟩ := hh
      obtain ⟨g1, g2⟩ := side_Check.calls h1 w hw
      refine .inl ⟨g1, g2.mono fun e w' ⟨u, he, ho, hr⟩ => ?_⟩
      have hq := side_Check.ret_elim (K' := fun u h' => u = v ∧ h' = h) (fun _ h' hr => by obtain ⟨rfl, rfl⟩ := hr; exact ⟨h2, rfl⟩) hr
      exact ⟨hq.1 ▸ he, ho, hq.2⟩
    · obtain ⟨x0, h1, h2⟩ := hh
      obtain ⟨g1, g2⟩ := slices_Contains_Lint_int.calls h1 w hw
      refine .inl ⟨g1, g2.mono fun e w' ⟨u, he, ho, hr⟩ => ?_⟩
      have hq := slices_Contains_Lint_int.ret_elim (K' := fun u h' => u = v ∧ h' = h) (fun _ h' hr => by obtain ⟨rfl, rfl⟩ := hr; exact ⟨h2, rfl⟩) hr
      exact ⟨hq.1 ▸ he, ho, hq.2⟩
    · exact hh.elim
noncomputable def side_Parts.code : Code := (Try.f7.body).getD .skip
def side_Parts.ann : Ann := .auto
set_option maxRecDepth 100000 in
theorem side_Parts.eq (a1 : Int) (a2 : Option Addr) (a2l : Nat) (a2c : Nat) (a3 : Int) (a4 : Int) (h : Heap) (K : Bool → Heap → Prop) : evF side_Parts.ctx Try.f7 side_Parts.ann [(.int .i64 a1), (.slice a2 a2l a2c), (.int .i64 a3), (.int .i64 a4)] h (side_Parts.ret K) = side_Parts a1 a2 a2l a2c a3 a4 h K := by kernel_rfl
set_option maxRecDepth 100000 in
theorem side_Parts.calls {a1 : Int} {a2 : Option Addr} {a2l : Nat} {a2c : Nat} {a3 : Int} {a4 : Int} {h : Heap} {K : Bool → Heap → Prop} (hh : side_Parts a1 a2 a2l a2c a3 a4 h K) (w : World) (hw : w.heap = h) :
    (callFunc 7 #[(.int .i64 a1), (.slice a2 a2l a2c), (.int .i64 a3), (.int .i64 a4)]).run Try.prog w = .ok (.enter 7 #[(.int .i64 a1), (.slice a2 a2l a2c), (.int .i64 a3), (.int .i64 a4)]) w ∧ Calls Try.prog 7 #[(.int .i64 a1), (.slice a2 a2l a2c), (.int .i64 a3), (.int .i64 a4)] w fun e w' => ∃ v, e = .returned v ∧ Out w w' ∧ side_Parts.ret K v w'.heap := by
  rw [← side_Parts.eq] at hh
  exact fn_calls (args := [(.int .i64 a1), (.slice a2 a2l a2c), (.int .i64 a3), (.int .i64 a4)]) (c := side_Parts.code) side_Parts.ok Try.func7 (by kernel_rfl) (by kernel_rfl) (by kernel_rfl) (by kernel_rfl) (loops_ok (l := []) (by kernel_rfl) trivial) hh w hw

/-! ### strait/straitlaw21.awake: function 6 -/
def straitlaw21_awake (h : Heap) (K : Bool → Heap → Prop) : Prop :=
  (newP h (.cells #[(.int .i64 0), (.int .i64 1), (.int .i64 2), (.int .i64 1), (.int .i64 2), (.int .i64 3)] 58) fun a1 h2 => callP3 (net_New 3 (some a1) 2 2 h2) fun x3 x4 x5 h6 => (newP h6 (.cells #[(.int .i64 1)] 3) fun a7 h8 => callP2 (side_Weight x3 (some a7) 1 1 h8) fun x9 x10 h11 => (newP h11 (.cells #[(.int .i64 0), (.int .i64 2)] 3) fun a12 h13 => callP4 (side_Normal 3 (some a12) 2 2 h13) fun x14 x14l x14c x15 h16 => (iteB (x4 == (0 : Int)) (iteB (x10 == (0 : Int)) (iteB (x9 == (5 : Int)) (iteB (x15 == (0 : Int)) (newP h16 (.cells #[(.int .i64 1)] 3) fun a17 h18 => qcallP1 h18 (straitref09_Ints x14 x14l x14c (some a17) 1 1 h18) fun x19 => iteB x19 (newP h18 (.cells #[(.int .i64 0)] 3) fun a20 h21 => callP1 (side_Right x3 2 (some a20) 1 1 h21) fun x22 h23 => iteB x22 (newP h23 (.cells #[(.int .i64 1)] 3) fun a24 h25 => callP1 (side_Parts 3 (some a24) 1 1 1 2 h25) fun x26 h27 => K x26 h27) (K false h23)) (K false h18)) (K false h16)) (K false h16)) (K false h16)) (K false h16)))))
def straitlaw21_awake.ret (K : Bool → Heap → Prop) (v : Value) (h : Heap) : Prop := match v with
  | (.bool r30) => K r30 h
  | _ => False
theorem straitlaw21_awake.ret_elim {K : Bool → Heap → Prop} {K' : Value → Heap → Prop} {v : Value} {h : Heap} (hk : ∀ r30 h, K r30 h → K' (.bool r30) h) (hh : straitlaw21_awake.ret K v h) : K' v h := by
  unfold straitlaw21_awake.ret at hh
  split at hh
  · exact hk _ _ hh
  · exact hh.elim
def straitlaw21_awake.call (f : FuncId) (vs : List Value) (h : Heap) (K : Value → Heap → Prop) : Prop := match f, vs with
  | 7, [(.int .i64 a1), (.slice a2 a2l a2c), (.int .i64 a3), (.int .i64 a4)] => callP1 (side_Parts a1 a2 a2l a2c a3 a4 h) fun r17 h' => K (.bool r17) h'
  | 9, [(.int .i64 a1), (.slice a2 a2l a2c)] => callP3 (net_New a1 a2 a2l a2c h) fun r37 r38 r39 h' => K (.tuple #[(.pointer r37), (.int .i64 r38), (.int .i64 r39)]) h'
  | 10, [(.pointer a1), (.slice a2 a2l a2c)] => callP2 (side_Weight a1 a2 a2l a2c h) fun r3 r4 h' => K (.tuple #[(.int .i64 r3), (.int .i64 r4)]) h'
  | 13, [(.pointer a1), (.agg ⟨[(.int .i64 a2), (.slice a3 a3l a3c)]⟩)] => callP1 (side_Right a1 a2 a3 a3l a3c h) fun r12 h' => K (.bool r12) h'
  | 16, [(.int .i64 a1), (.slice a2 a2l a2c)] => callP4 (side_Normal a1 a2 a2l a2c h) fun r11 r11l r11c r12 h' => K (.tuple #[(.slice r11 r11l r11c), (.int .i64 r12)]) h'
  | _, _ => False
def straitlaw21_awake.qcall (f : FuncId) (vs : List Value) (h : Heap) (K : Value → Prop) : Prop := match f, vs with
  | 20, [(.slice a1 a1l a1c), (.slice a2 a2l a2c)] => qcallP1 h (straitref09_Ints a1 a1l a1c a2 a2l a2c h) fun r7 => K (.bool r7)
  | _, _ => False
noncomputable def straitlaw21_awake.ctx : Ctx := { P := Try.prog, call := straitlaw21_awake.call, qcall := straitlaw21_awake.qcall, quiet := fun f => Nat.beq f 20 || Nat.beq f 1000088, loop := fun _ _ _ _ => False }
theorem straitlaw21_awake.ok : straitlaw21_awake.ctx.OK where
  mixed := by kernel_rfl
  mono := by
    intro f args h K K' hh hk
    change straitlaw21_awake.call f args h K at hh
    change straitlaw21_awake.call f args h K'
    unfold straitlaw21_awake.call at hh ⊢
    split at hh
    · obtain ⟨R, h1, h2⟩ := hh
      exact ⟨R, h1, fun _ x hr => hk _ _ (h2 _ x hr)⟩
    · obtain ⟨R, h1, h2⟩ := hh
      exact ⟨R, h1, fun _ _ _ x hr => hk _ _ (h2 _ _ _ x hr)⟩
    · obtain ⟨R, h1, h2⟩ := hh
      exact ⟨R, h1, fun _ _ x hr => hk _ _ (h2 _ _ x hr)⟩
    · obtain ⟨R, h1, h2⟩ := hh
      exact ⟨R, h1, fun _ x hr => hk _ _ (h2 _ x hr)⟩
    · obtain ⟨R, h1, h2⟩ := hh
      exact ⟨R, h1, fun _ _ _ _ x hr => hk _ _ (h2 _ _ _ _ x hr)⟩
    · exact hh.elim
  call := by
    intro f args h K hh w hw
    change straitlaw21_awake.call f args h K at hh
    unfold straitlaw21_awake.call at hh
    split at hh
    · obtain ⟨R, h1, h2⟩ := hh
      obtain ⟨g1, g2⟩ := side_Parts.calls h1 w hw
      exact ⟨g1, g2.mono fun e w' ⟨v, he, ho, hr⟩ => ⟨v, he, ho, side_Parts.ret_elim h2 hr⟩⟩
    · obtain ⟨R, h1, h2⟩ := hh
      obtain ⟨g1, g2⟩ := net_New.calls h1 w hw
      exact ⟨g1, g2.mono fun e w' ⟨v, he, ho, hr⟩ => ⟨v, he, ho, net_New.ret_elim h2 hr⟩⟩
    · obtain ⟨R, h1, h2⟩ := hh
      obtain ⟨g1, g2⟩ := side_Weight.calls h1 w hw
      exact ⟨g1, g2.mono fun e w' ⟨v, he, ho, hr⟩ => ⟨v, he, ho, side_Weight.ret_elim h2 hr⟩⟩
    · obtain ⟨R, h1, h2⟩ := hh
      obtain ⟨g1, g2⟩ := side_Right.calls h1 w hw
      exact ⟨g1, g2.mono fun e w' ⟨v, he, ho, hr⟩ => ⟨v, he, ho, side_Right.ret_elim h2 hr⟩⟩
    · obtain ⟨R, h1, h2⟩ := hh
      obtain ⟨g1, g2⟩ := side_Normal.calls h1 w hw
      exact ⟨g1, g2.mono fun e w' ⟨v, he, ho, hr⟩ => ⟨v, he, ho, side_Normal.ret_elim h2 hr⟩⟩
    · exact hh.elim
  qmono := by
    intro f args h K K' hh hk
    change straitlaw21_awake.qcall f args h K at hh
    change straitlaw21_awake.qcall f args h K'
    unfold straitlaw21_awake.qcall at hh ⊢
    split at hh
    · obtain ⟨x0, h1, h2⟩ := hh
      exact ⟨x0, h1, hk _ h2⟩
    · exact hh.elim
  qval := by
    intro f args h K hh
    change straitlaw21_awake.qcall f args h K at hh
    suffices H : ∃ v, K v ∧ straitlaw21_awake.qcall f args h (· = v) from H
    unfold straitlaw21_awake.qcall at hh ⊢
    split at hh
    · obtain ⟨x0, h1, h2⟩ := hh
      exact ⟨_, h2, x0, h1, rfl⟩
    · exact hh.elim
  qcall := by
    intro f args h v hh w hw
    change straitlaw21_awake.qcall f args h (· = v) at hh
    unfold straitlaw21_awake.qcall at hh
    split at hh
    · obtain ⟨x0, h1, h2⟩ := hh
      obtain ⟨g1, g2⟩ := straitref09_Ints.calls h1 w hw
      refine .inl ⟨g1, g2.mono fun e w' ⟨u, he, ho, hr⟩ => ?_⟩
      have hq := straitref09_Ints.ret_elim (K' := fun u h' => u = v ∧ h' = h) (fun _ h' hr => by obtain ⟨rfl, rfl⟩ := hr; exact ⟨h2, rfl⟩) hr
      exact ⟨hq.1 ▸ he, ho, hq.2⟩
    · exact hh.elim
noncomputable def straitlaw21_awake.code : Code := (Try.f6.body).getD .skip
def straitlaw21_awake.ann : Ann := .auto
set_option maxRecDepth 100000 in
theorem straitlaw21_awake.eq (h : Heap) (K : Bool → Heap → Prop) : evF straitlaw21_awake.ctx Try.f6 straitlaw21_awake.ann [] h (straitlaw21_awake.ret K) = straitlaw21_awake h K := by kernel_rfl
set_option maxRecDepth 100000 in
theorem straitlaw21_awake.calls {h : Heap} {K : Bool → Heap → Prop} (hh : straitlaw21_awake h K) (w : World) (hw : w.heap = h) :
    (callFunc 6 #[]).run Try.prog w = .ok (.enter 6 #[]) w ∧ Calls Try.prog 6 #[] w fun e w' => ∃ v, e = .returned v ∧ Out w w' ∧ straitlaw21_awake.ret K v w'.heap := by
  rw [← straitlaw21_awake.eq] at hh
  exact fn_calls (args := []) (c := straitlaw21_awake.code) straitlaw21_awake.ok Try.func6 (by kernel_rfl) (by kernel_rfl) (by kernel_rfl) (by kernel_rfl) (loops_ok (l := []) (by kernel_rfl) trivial) hh w hw

/-! ### strait/straitref21.Check: function 12 -/
def straitref21_Check.b0 (K0 : Int → Heap → Prop) (K2 : Heap → Prop) (cont : Int → (Option Addr) → Nat → Nat → Int → Heap → Prop) (c0_1001 : Int) (c1_1002 : Option Addr) (c1_1003 : Nat) (c1_1004 : Nat) (v5_1005 : Int) (h1006 : Heap) : Prop :=
  (iteB (decide (v5_1005 < (c1_1003 : Int))) ((chkP c1_1002 fun a1007 => (0 ≤ v5_1005 ∧ v5_1005 < (c1_1003 : Int)) ∧ ∃ (x1008 : Int), cell h1006 (a1007.add (v5_1005.toNat * 1)) = some (.int .i64 x1008) ∧ iteB (decide (x1008 < (0 : Int))) (K0 4 h1006) (chkP c1_1002 fun a1009 => (0 ≤ v5_1005 ∧ v5_1005 < (c1_1003 : Int)) ∧ ∃ (x1010 : Int), cell h1006 (a1009.add (v5_1005.toNat * 1)) = some (.int .i64 x1010) ∧ iteB (decide (x1010 ≥ c0_1001)) (K0 4 h1006) (iteB (decide (v5_1005 > (0 : Int))) (chkP c1_1002 fun a1011 => (0 ≤ v5_1005 ∧ v5_1005 < (c1_1003 : Int)) ∧ ∃ (x1012 : Int), cell h1006 (a1011.add (v5_1005.toNat * 1)) = some (.int .i64 x1012) ∧ chkP c1_1002 fun a1013 => (0 ≤ (IntKind.i64.wrap (v5_1005 - 1)) ∧ (IntKind.i64.wrap (v5_1005 - 1)) < (c1_1003 : Int)) ∧ ∃ (x1014 : Int), cell h1006 (a1013.add ((IntKind.i64.wrap (v5_1005 - 1)).toNat * 1)) = some (.int .i64 x1014) ∧ (iteB (decide (x1012 ≤ x1014)) (K0 4 h1006) (((cont c0_1001 c1_1002 c1_1003 c1_1004 (IntKind.i64.wrap (v5_1005 + 1)) h1006))))) ((((cont c0_1001 c1_1002 c1_1003 c1_1004 (IntKind.i64.wrap (v5_1005 + 1)) h1006)))))))) (K2 h1006))
def straitref21_Check.l0 (K0 : Int → Heap → Prop) (K2 : Heap → Prop) : Nat → Int → (Option Addr) → Nat → Nat → Int → Heap → Prop
  | 0, _, _, _, _, _, _ => False
  | m + 1, c0_1001, c1_1002, c1_1003, c1_1004, v5_1005, h => straitref21_Check.b0 K0 K2 (straitref21_Check.l0 K0 K2 m) c0_1001 c1_1002 c1_1003 c1_1004 v5_1005 h
def straitref21_Check (a1 : Int) (a2 : Option Addr) (a2l : Nat) (a2c : Nat) (h : Heap) (K : Int → Heap → Prop) : Prop :=
  ((∃ m6, straitref21_Check.l0 (fun z3 h4 => K z3 h4) (fun h5 => ((iteB ((a2l : Int) == (0 : Int)) (K 16 h5) ((iteB ((a2l : Int) == a1) (K 16 h5) (K 0 h5)))))) m6 a1 a2 a2l a2c 0 h))
def straitref21_Check.ret (K : Int → Heap → Prop) (v : Value) (h : Heap) : Prop := match v with
  | (.int .i64 r8) => K r8 h
  | _ => False
theorem straitref21_Check.ret_elim {K : Int → Heap → Prop} {K' : Value → Heap → Prop} {v : Value} {h : Heap} (hk : ∀ r8 h, K r8 h → K' (.int .i64 r8) h) (hh : straitref21_Check.ret K v h) : K' v h := by
  unfold straitref21_Check.ret at hh
  split at hh
  · exact hk _ _ hh
  · exact hh.elim
def straitref21_Check.r0 (K : Nat → List Value → Heap → Prop) (m : Nat) (vs : List Value) (h : Heap) : Prop := match vs with
  | [(.int .i64 c0_1001), (.slice c1_1002 c1_1003 c1_1004), (.int .i64 v5_1005)] => straitref21_Check.l0 (fun z9 h' => K 0 [(.int .i64 z9)] h') (fun h' => K 2 [(.int .i64 c0_1001), (.slice c1_1002 c1_1003 c1_1004)] h') m c0_1001 c1_1002 c1_1003 c1_1004 v5_1005 h
  | _ => False
def straitref21_Check.loop (i : Nat) (vs : List Value) (h : Heap) (K : Nat → List Value → Heap → Prop) : Prop := match i with
  | 0 => ∃ m, straitref21_Check.r0 K m vs h
  | _ => False
noncomputable def straitref21_Check.ctx : Ctx := { P := Try.prog, call := fun _ _ _ _ => False, qcall := fun _ _ _ _ => False, quiet := fun f => Nat.beq f 1000088, loop := straitref21_Check.loop }
theorem straitref21_Check.ok : straitref21_Check.ctx.OK where
  mixed := by kernel_rfl
  mono := fun hh _ => hh.elim
  call := fun hh => hh.elim
  qmono := fun hh _ => hh.elim
  qval := fun hh => hh.elim
  qcall := fun hh => hh.elim
noncomputable def straitref21_Check.code : Code := (Try.f12.body).getD .skip
def straitref21_Check.ann : Ann := (.two .auto (.two (.two .auto (.two (.loop 0 [0, 1, 5] [(2, [0, 1]), (0, [4])] (.two .auto (.two (.two (.two (.reg [0, 0, 3, 7, 15, 31, 63, 63, 255, 511, 63, 2047, 4095, 8191, 16383, 32767, 65535, 131071, 131071, 524287, 1048575, 131071, 131071, 4325375, 14811135, 31588351, 67108863, 134217727, 268435455] (.take 0 (.take 1 (.take 2 (.take 3 (.take 4 (.take 5 (.take 6 (.take 7 (.take 8 (.take 9 (.take 10 (.take 11 (.take 12 (.take 13 (.take 14 (.take 15 (.take 16 (.take 17 (.take 18 (.take 19 (.take 20 (.take 21 (.take 22 (.take 23 (.take 24 (.take 25 (.take 26 (.take 27 (.take 28 .done)))))))))))))))))))))))))))))) .auto) .auto) .auto))) .auto)) .auto))
noncomputable def straitref21_Check.c0 : Code := sub straitref21_Check.code [1, 0, 1, 0, 0]
def straitref21_Check.a0 : Ann := (.two .auto (.two (.two (.two (.reg [0, 0, 3, 7, 15, 31, 63, 63, 255, 511, 63, 2047, 4095, 8191, 16383, 32767, 65535, 131071, 131071, 524287, 1048575, 131071, 131071, 4325375, 14811135, 31588351, 67108863, 134217727, 268435455] (.take 0 (.take 1 (.take 2 (.take 3 (.take 4 (.take 5 (.take 6 (.take 7 (.take 8 (.take 9 (.take 10 (.take 11 (.take 12 (.take 13 (.take 14 (.take 15 (.take 16 (.take 17 (.take 18 (.take 19 (.take 20 (.take 21 (.take 22 (.take 23 (.take 24 (.take 25 (.take 26 (.take 27 (.take 28 .done)))))))))))))))))))))))))))))) .auto) .auto) .auto))
def straitref21_Check.keep0 : List Nat := [0, 1, 5]
def straitref21_Check.outs0 : List (Nat × List Nat) := [(2, [0, 1]), (0, [4])]
set_option maxRecDepth 100000 in
theorem straitref21_Check.L0 : LoopOK straitref21_Check.ctx 50 straitref21_Check.c0 0 straitref21_Check.keep0 straitref21_Check.outs0 := by
  refine loop_ok (n := straitref21_Check.a0) straitref21_Check.ok (by kernel_rfl) (loops_ok (l := []) (by kernel_rfl) ?_) straitref21_Check.r0 ?_ ?_ (fun vs h K hh => hh)
  · exact trivial
  · intro K vs h hh
    unfold straitref21_Check.r0 at hh
    split at hh
    · exact hh
    · exact hh
  · intro K m vs h hh
    unfold straitref21_Check.r0 at hh
    split at hh
    · exact cast (by kernel_rfl) hh
    · exact hh.elim
set_option maxRecDepth 100000 in
theorem straitref21_Check.eq (a1 : Int) (a2 : Option Addr) (a2l : Nat) (a2c : Nat) (h : Heap) (K : Int → Heap → Prop) : evF straitref21_Check.ctx Try.f12 straitref21_Check.ann [(.int .i64 a1), (.slice a2 a2l a2c)] h (straitref21_Check.ret K) = straitref21_Check a1 a2 a2l a2c h K := by kernel_rfl
set_option maxRecDepth 100000 in
theorem straitref21_Check.calls {a1 : Int} {a2 : Option Addr} {a2l : Nat} {a2c : Nat} {h : Heap} {K : Int → Heap → Prop} (hh : straitref21_Check a1 a2 a2l a2c h K) (w : World) (hw : w.heap = h) :
    (callFunc 12 #[(.int .i64 a1), (.slice a2 a2l a2c)]).run Try.prog w = .ok (.enter 12 #[(.int .i64 a1), (.slice a2 a2l a2c)]) w ∧ Calls Try.prog 12 #[(.int .i64 a1), (.slice a2 a2l a2c)] w fun e w' => ∃ v, e = .returned v ∧ Out w w' ∧ straitref21_Check.ret K v w'.heap := by
  rw [← straitref21_Check.eq] at hh
  exact fn_calls (args := [(.int .i64 a1), (.slice a2 a2l a2c)]) (c := straitref21_Check.code) straitref21_Check.ok Try.func12 (by kernel_rfl) (by kernel_rfl) (by kernel_rfl) (by kernel_rfl) (loops_ok (l := [(straitref21_Check.c0, none, 0, straitref21_Check.keep0, straitref21_Check.outs0)]) (by kernel_rfl) ⟨straitref21_Check.L0, trivial⟩) hh w hw

/-! ### strait/straitref21.In: function 26 -/
def straitref21_In.b0 (K0 : Bool → Heap → Prop) (K2 : Heap → Prop) (cont : (Option Addr) → Nat → Nat → Int → Int → Heap → Prop) (c0_1001 : Option Addr) (c0_1002 : Nat) (c0_1003 : Nat) (c1_1004 : Int) (v5_1005 : Int) (h1006 : Heap) : Prop :=
  (iteB (decide (v5_1005 < (c0_1002 : Int))) ((chkP c0_1001 fun a1007 => (0 ≤ v5_1005 ∧ v5_1005 < (c0_1002 : Int)) ∧ ∃ (x1008 : Int), cell h1006 (a1007.add (v5_1005.toNat * 1)) = some (.int .i64 x1008) ∧ (iteB (x1008 == c1_1004) (K0 true h1006) (((cont c0_1001 c0_1002 c0_1003 c1_1004 (IntKind.i64.wrap (v5_1005 + 1)) h1006)))))) (K2 h1006))
def straitref21_In.l0 (K0 : Bool → Heap → Prop) (K2 : Heap → Prop) : Nat → (Option Addr) → Nat → Nat → Int → Int → Heap → Prop
  | 0, _, _, _, _, _, _ => False
  | m + 1, c0_1001, c0_1002, c0_1003, c1_1004, v5_1005, h => straitref21_In.b0 K0 K2 (straitref21_In.l0 K0 K2 m) c0_1001 c0_1002 c0_1003 c1_1004 v5_1005 h
def straitref21_In (a1 : Option Addr) (a1l : Nat) (a1c : Nat) (a2 : Int) (h : Heap) (K : Bool → Heap → Prop) : Prop :=
  ((∃ m6, straitref21_In.l0 (fun z3 h4 => K z3 h4) (fun h5 => (K false h5)) m6 a1 a1l a1c a2 0 h))
def straitref21_In.ret (K : Bool → Heap → Prop) (v : Value) (h : Heap) : Prop := match v with
  | (.bool r7) => K r7 h
  | _ => False
theorem straitref21_In.ret_elim {K : Bool → Heap → Prop} {K' : Value → Heap → Prop} {v : Value} {h : Heap} (hk : ∀ r7 h, K r7 h → K' (.bool r7) h) (hh : straitref21_In.ret K v h) : K' v h := by
  unfold straitref21_In.ret at hh
  split at hh
  · exact hk _ _ hh
  · exact hh.elim
def straitref21_In.r0 (K : Nat → List Value → Heap → Prop) (m : Nat) (vs : List Value) (h : Heap) : Prop := match vs with
  | [(.slice c0_1001 c0_1002 c0_1003), (.int .i64 c1_1004), (.int .i64 v5_1005)] => straitref21_In.l0 (fun z8 h' => K 0 [(.bool z8)] h') (fun h' => K 2 [] h') m c0_1001 c0_1002 c0_1003 c1_1004 v5_1005 h
  | _ => False
def straitref21_In.loop (i : Nat) (vs : List Value) (h : Heap) (K : Nat → List Value → Heap → Prop) : Prop := match i with
  | 0 => ∃ m, straitref21_In.r0 K m vs h
  | _ => False
noncomputable def straitref21_In.ctx : Ctx := { P := Try.prog, call := fun _ _ _ _ => False, qcall := fun _ _ _ _ => False, quiet := fun f => Nat.beq f 1000088, loop := straitref21_In.loop }
theorem straitref21_In.ok : straitref21_In.ctx.OK where
  mixed := by kernel_rfl
  mono := fun hh _ => hh.elim
  call := fun hh => hh.elim
  qmono := fun hh _ => hh.elim
  qval := fun hh => hh.elim
  qcall := fun hh => hh.elim
noncomputable def straitref21_In.code : Code := (Try.f26.body).getD .skip
def straitref21_In.ann : Ann := (.two .auto (.two (.two .auto (.two (.loop 0 [0, 1, 5] [(2, []), (0, [4])] .auto) .auto)) .auto))
noncomputable def straitref21_In.c0 : Code := sub straitref21_In.code [1, 0, 1, 0, 0]
def straitref21_In.a0 : Ann := .auto
def straitref21_In.keep0 : List Nat := [0, 1, 5]
def straitref21_In.outs0 : List (Nat × List Nat) := [(2, []), (0, [4])]
set_option maxRecDepth 100000 in
theorem straitref21_In.L0 : LoopOK straitref21_In.ctx 18 straitref21_In.c0 0 straitref21_In.keep0 straitref21_In.outs0 := by
  refine loop_ok (n := straitref21_In.a0) straitref21_In.ok (by kernel_rfl) (loops_ok (l := []) (by kernel_rfl) ?_) straitref21_In.r0 ?_ ?_ (fun vs h K hh => hh)
  · exact trivial
  · intro K vs h hh
    unfold straitref21_In.r0 at hh
    split at hh
    · exact hh
    · exact hh
  · intro K m vs h hh
    unfold straitref21_In.r0 at hh
    split at hh
    · exact cast (by kernel_rfl) hh
    · exact hh.elim
set_option maxRecDepth 100000 in
theorem straitref21_In.eq (a1 : Option Addr) (a1l : Nat) (a1c : Nat) (a2 : Int) (h : Heap) (K : Bool → Heap → Prop) : evF straitref21_In.ctx Try.f26 straitref21_In.ann [(.slice a1 a1l a1c), (.int .i64 a2)] h (straitref21_In.ret K) = straitref21_In a1 a1l a1c a2 h K := by kernel_rfl
set_option maxRecDepth 100000 in
theorem straitref21_In.calls {a1 : Option Addr} {a1l : Nat} {a1c : Nat} {a2 : Int} {h : Heap} {K : Bool → Heap → Prop} (hh : straitref21_In a1 a1l a1c a2 h K) (w : World) (hw : w.heap = h) :
    (callFunc 26 #[(.slice a1 a1l a1c), (.int .i64 a2)]).run Try.prog w = .ok (.enter 26 #[(.slice a1 a1l a1c), (.int .i64 a2)]) w ∧ Calls Try.prog 26 #[(.slice a1 a1l a1c), (.int .i64 a2)] w fun e w' => ∃ v, e = .returned v ∧ Out w w' ∧ straitref21_In.ret K v w'.heap := by
  rw [← straitref21_In.eq] at hh
  exact fn_calls (args := [(.slice a1 a1l a1c), (.int .i64 a2)]) (c := straitref21_In.code) straitref21_In.ok Try.func26 (by kernel_rfl) (by kernel_rfl) (by kernel_rfl) (by kernel_rfl) (loops_ok (l := [(straitref21_In.c0, none, 0, straitref21_In.keep0, straitref21_In.outs0)]) (by kernel_rfl) ⟨straitref21_In.L0, trivial⟩) hh w hw

/-! ### strait/straitref21.Parts: function 8 -/
def straitref21_Parts (a1 : Int) (a2 : Option Addr) (a2l : Nat) (a2c : Nat) (a3 : Int) (a4 : Int) (h : Heap) (K : Bool → Heap → Prop) : Prop :=
  (qcallP1 h (straitref21_Check a1 a2 a2l a2c h) fun x5 => iteB (x5 == (0 : Int)) (iteB (decide (a3 ≥ (0 : Int))) (iteB (decide (a3 < a1)) (iteB (decide (a4 ≥ (0 : Int))) (iteB (decide (a4 < a1)) (qcallP1 h (straitref21_In a2 a2l a2c a3 h) fun x6 => qcallP1 h (straitref21_In a2 a2l a2c a4 h) fun x7 => (K (!(x6 == x7)) h)) (K false h)) (K false h)) (K false h)) (K false h)) (K false h))
def straitref21_Parts.ret (K : Bool → Heap → Prop) (v : Value) (h : Heap) : Prop := match v with
  | (.bool r9) => K r9 h
  | _ => False
theorem straitref21_Parts.ret_elim {K : Bool → Heap → Prop} {K' : Value → Heap → Prop} {v : Value} {h : Heap} (hk : ∀ r9 h, K r9 h → K' (.bool r9) h) (hh : straitref21_Parts.ret K v h) : K' v h := by
  unfold straitref21_Parts.ret at hh
  split at hh
  · exact hk _ _ hh
  · exact hh.elim
def straitref21_Parts.qcall (f : FuncId) (vs : List Value) (h : Heap) (K : Value → Prop) : Prop := match f, vs with
  | 12, [(.int .i64 a1), (.slice a2 a2l a2c)] => qcallP1 h (straitref21_Check a1 a2 a2l a2c h) fun r8 => K (.int .i64 r8)
  | 26, [(.slice a1 a1l a1c), (.int .i64 a2)] => qcallP1 h (straitref21_In a1 a1l a1c a2 h) fun r7 => K (.bool r7)
  | _, _ => False
noncomputable def straitref21_Parts.ctx : Ctx := { P := Try.prog, call := fun _ _ _ _ => False, qcall := straitref21_Parts.qcall, quiet := fun f => Nat.beq f 12 || Nat.beq f 26 || Nat.beq f 1000088, loop := fun _ _ _ _ => False }
theorem straitref21_Parts.ok : straitref21_Parts.ctx.OK where
  mixed := by kernel_rfl
  mono := fun hh _ => hh.elim
  call := fun hh => hh.elim
  qmono := by
    intro f args h K K' hh hk
    change straitref21_Parts.qcall f args h K at hh
    change straitref21_Parts.qcall f args h K'
    unfold straitref21_Parts.qcall at hh ⊢
    split at hh
    · obtain ⟨x0, h1, h2⟩ := hh
      exact ⟨x0, h1, hk _ h2⟩
    · obtain ⟨x0, h1, h2⟩ := hh
      exact ⟨x0, h1, hk _ h2⟩
    · exact hh.elim
  qval := by
    intro f args h K hh
    change straitref21_Parts.qcall f args h K at hh
    suffices H : ∃ v, K v ∧ straitref21_Parts.qcall f args h (· = v) from H
    unfold straitref21_Parts.qcall at hh ⊢
    split at hh
    · obtain ⟨x0, h1, h2⟩ := hh
      exact ⟨_, h2, x0, h1, rfl⟩
    · obtain ⟨x0, h1, h2⟩ := hh
      exact ⟨_, h2, x0, h1, rfl⟩
    · exact hh.elim
  qcall := by
    intro f args h v hh w hw
    change straitref21_Parts.qcall f args h (· = v) at hh
    unfold straitref21_Parts.qcall at hh
    split at hh
    · obtain ⟨x0, h1, h2⟩ := hh
      obtain ⟨g1, g2⟩ := straitref21_Check.calls h1 w hw
      refine .inl ⟨g1, g2.mono fun e w' ⟨u, he, ho, hr⟩ => ?_⟩
      have hq := straitref21_Check.ret_elim (K' := fun u h' => u = v ∧ h' = h) (fun _ h' hr => by obtain ⟨rfl, rfl⟩ := hr; exact ⟨h2, rfl⟩) hr
      exact ⟨hq.1 ▸ he, ho, hq.2⟩
    · obtain ⟨x0, h1, h2⟩ := hh
      obtain ⟨g1, g2⟩ := straitref21_In.calls h1 w hw
      refine .inl ⟨g1, g2.mono fun e w' ⟨u, he, ho, hr⟩ => ?_⟩
      have hq := straitref21_In.ret_elim (K' := fun u h' => u = v ∧ h' = h) (fun _ h' hr => by obtain ⟨rfl, rfl⟩ := hr; exact ⟨h2, rfl⟩) hr
      exact ⟨hq.1 ▸ he, ho, hq.2⟩
    · exact hh.elim
noncomputable def straitref21_Parts.code : Code := (Try.f8.body).getD .skip
def straitref21_Parts.ann : Ann := .auto
set_option maxRecDepth 100000 in
theorem straitref21_Parts.eq (a1 : Int) (a2 : Option Addr) (a2l : Nat) (a2c : Nat) (a3 : Int) (a4 : Int) (h : Heap) (K : Bool → Heap → Prop) : evF straitref21_Parts.ctx Try.f8 straitref21_Parts.ann [(.int .i64 a1), (.slice a2 a2l a2c), (.int .i64 a3), (.int .i64 a4)] h (straitref21_Parts.ret K) = straitref21_Parts a1 a2 a2l a2c a3 a4 h K := by kernel_rfl
set_option maxRecDepth 100000 in
theorem straitref21_Parts.calls {a1 : Int} {a2 : Option Addr} {a2l : Nat} {a2c : Nat} {a3 : Int} {a4 : Int} {h : Heap} {K : Bool → Heap → Prop} (hh : straitref21_Parts a1 a2 a2l a2c a3 a4 h K) (w : World) (hw : w.heap = h) :
    (callFunc 8 #[(.int .i64 a1), (.slice a2 a2l a2c), (.int .i64 a3), (.int .i64 a4)]).run Try.prog w = .ok (.enter 8 #[(.int .i64 a1), (.slice a2 a2l a2c), (.int .i64 a3), (.int .i64 a4)]) w ∧ Calls Try.prog 8 #[(.int .i64 a1), (.slice a2 a2l a2c), (.int .i64 a3), (.int .i64 a4)] w fun e w' => ∃ v, e = .returned v ∧ Out w w' ∧ straitref21_Parts.ret K v w'.heap := by
  rw [← straitref21_Parts.eq] at hh
  exact fn_calls (args := [(.int .i64 a1), (.slice a2 a2l a2c), (.int .i64 a3), (.int .i64 a4)]) (c := straitref21_Parts.code) straitref21_Parts.ok Try.func8 (by kernel_rfl) (by kernel_rfl) (by kernel_rfl) (by kernel_rfl) (loops_ok (l := []) (by kernel_rfl) trivial) hh w hw

/-! ### strait/straitlaw21.SideParts: function 3 -/
def straitlaw21_SideParts (a1 : Int) (a2 : Option Addr) (a2l : Nat) (a2c : Nat) (a3 : Int) (a4 : Int) (h : Heap) (K : Bool → Heap → Prop) : Prop :=
  newP h (.cells #[(.int .i64 a3), (.int .i64 a4)] 23) fun a5 h6 => ((iteB (decide ((a2l : Int) > (300 : Int))) (callP1 (straitlaw21_awake h6) fun x7 h8 => K x7 h8) (((0 ≤ (0 : Int) ∧ (0 : Int) < (2 : Int)) ∧ ∃ (x9 : Int), cell h6 (a5.add ((0 : Int).toNat * 1)) = some (.int .i64 x9) ∧ (0 ≤ (1 : Int) ∧ (1 : Int) < (2 : Int)) ∧ ∃ (x10 : Int), cell h6 (a5.add ((1 : Int).toNat * 1)) = some (.int .i64 x10) ∧ (0 ≤ (0 : Int) ∧ (0 : Int) < (2 : Int)) ∧ (0 ≤ (1 : Int) ∧ (1 : Int) < (2 : Int)) ∧ ∃ (x11 : Int), cell h6 (a5.add ((0 : Int).toNat * 1)) = some (.int .i64 x11) ∧ ∃ (x12 : Int), cell h6 (a5.add ((1 : Int).toNat * 1)) = some (.int .i64 x12) ∧ callP1 (side_Parts a1 a2 a2l a2c x9 x10 h6) fun x13 h14 => (∃ (x15 : Int), cell h14 (a5.add ((1 : Int).toNat * 1)) = some (.int .i64 x15) ∧ ((.int .i64 x15) : Value) = (.int .i64 x12)) ∧ (∃ (x16 : Int), cell h14 (a5.add ((0 : Int).toNat * 1)) = some (.int .i64 x16) ∧ ((.int .i64 x16) : Value) = (.int .i64 x11)) ∧ qcallP1 h14 (straitref21_Parts a1 a2 a2l a2c x11 x12 h14) fun x17 => iteB (x13 == x17) ((0 ≤ (0 : Int) ∧ (0 : Int) < (2 : Int)) ∧ ∃ (x18 : Int), cell h14 (a5.add ((0 : Int).toNat * 1)) = some (.int .i64 x18) ∧ (0 ≤ (1 : Int) ∧ (1 : Int) < (2 : Int)) ∧ ∃ (x19 : Int), cell h14 (a5.add ((1 : Int).toNat * 1)) = some (.int .i64 x19) ∧ (0 ≤ (1 : Int) ∧ (1 : Int) < (2 : Int)) ∧ (0 ≤ (0 : Int) ∧ (0 : Int) < (2 : Int)) ∧ ∃ (x20 : Int), cell h14 (a5.add ((1 : Int).toNat * 1)) = some (.int .i64 x20) ∧ ∃ (x21 : Int), cell h14 (a5.add ((0 : Int).toNat * 1)) = some (.int .i64 x21) ∧ callP1 (side_Parts a1 a2 a2l a2c x18 x19 h14) fun x22 h23 => (∃ (x24 : Int), cell h23 (a5.add ((0 : Int).toNat * 1)) = some (.int .i64 x24) ∧ ((.int .i64 x24) : Value) = (.int .i64 x21)) ∧ (∃ (x25 : Int), cell h23 (a5.add ((1 : Int).toNat * 1)) = some (.int .i64 x25) ∧ ((.int .i64 x25) : Value) = (.int .i64 x20)) ∧ callP1 (side_Parts a1 a2 a2l a2c x20 x21 h23) fun x26 h27 => iteB (x22 == x26) (callP1 (straitlaw21_awake h27) fun x28 h29 => K x28 h29) (K false h27)) (True ∧ True ∧ K false h14)))))
def straitlaw21_SideParts.ret (K : Bool → Heap → Prop) (v : Value) (h : Heap) : Prop := match v with
  | (.bool r32) => K r32 h
  | _ => False
theorem straitlaw21_SideParts.ret_elim {K : Bool → Heap → Prop} {K' : Value → Heap → Prop} {v : Value} {h : Heap} (hk : ∀ r32 h, K r32 h → K' (.bool r32) h) (hh : straitlaw21_SideParts.ret K v h) : K' v h := by
  unfold straitlaw21_SideParts.ret at hh
  split at hh
  · exact hk _ _ hh
  · exact hh.elim
def straitlaw21_SideParts.call (f : FuncId) (vs : List Value) (h : Heap) (K : Value → Heap → Prop) : Prop := match f, vs with
  | 6, [] => callP1 (straitlaw21_awake h) fun r30 h' => K (.bool r30) h'
  | 7, [(.int .i64 a1), (.slice a2 a2l a2c), (.int .i64 a3), (.int .i64 a4)] => callP1 (side_Parts a1 a2 a2l a2c a3 a4 h) fun r17 h' => K (.bool r17) h'
  | _, _ => False
def straitlaw21_SideParts.qcall (f : FuncId) (vs : List Value) (h : Heap) (K : Value → Prop) : Prop := match f, vs with
  | 8, [(.int .i64 a1), (.slice a2 a2l a2c), (.int .i64 a3), (.int .i64 a4)] => qcallP1 h (straitref21_Parts a1 a2 a2l a2c a3 a4 h) fun r9 => K (.bool r9)
  | _, _ => False
noncomputable def straitlaw21_SideParts.ctx : Ctx := { P := Try.prog, call := straitlaw21_SideParts.call, qcall := straitlaw21_SideParts.qcall, quiet := fun f => Nat.beq f 8 || Nat.beq f 1000088, loop := fun _ _ _ _ => False }
theorem straitlaw21_SideParts.ok : straitlaw21_SideParts.ctx.OK where
  mixed := by kernel_rfl
  mono := by
    intro f args h K K' hh hk
    change straitlaw21_SideParts.call f args h K at hh
    change straitlaw21_SideParts.call f args h K'
    unfold straitlaw21_SideParts.call at hh ⊢
    split at hh
    · obtain ⟨R, h1, h2⟩ := hh
      exact ⟨R, h1, fun _ x hr => hk _ _ (h2 _ x hr)⟩
    · obtain ⟨R, h1, h2⟩ := hh
      exact ⟨R, h1, fun _ x hr => hk _ _ (h2 _ x hr)⟩
    · exact hh.elim
  call := by
    intro f args h K hh w hw
    change straitlaw21_SideParts.call f args h K at hh
    unfold straitlaw21_SideParts.call at hh
    split at hh
    · obtain ⟨R, h1, h2⟩ := hh
      obtain ⟨g1, g2⟩ := straitlaw21_awake.calls h1 w hw
      exact ⟨g1, g2.mono fun e w' ⟨v, he, ho, hr⟩ => ⟨v, he, ho, straitlaw21_awake.ret_elim h2 hr⟩⟩
    · obtain ⟨R, h1, h2⟩ := hh
      obtain ⟨g1, g2⟩ := side_Parts.calls h1 w hw
      exact ⟨g1, g2.mono fun e w' ⟨v, he, ho, hr⟩ => ⟨v, he, ho, side_Parts.ret_elim h2 hr⟩⟩
    · exact hh.elim
  qmono := by
    intro f args h K K' hh hk
    change straitlaw21_SideParts.qcall f args h K at hh
    change straitlaw21_SideParts.qcall f args h K'
    unfold straitlaw21_SideParts.qcall at hh ⊢
    split at hh
    · obtain ⟨x0, h1, h2⟩ := hh
      exact ⟨x0, h1, hk _ h2⟩
    · exact hh.elim
  qval := by
    intro f args h K hh
    change straitlaw21_SideParts.qcall f args h K at hh
    suffices H : ∃ v, K v ∧ straitlaw21_SideParts.qcall f args h (· = v) from H
    unfold straitlaw21_SideParts.qcall at hh ⊢
    split at hh
    · obtain ⟨x0, h1, h2⟩ := hh
      exact ⟨_, h2, x0, h1, rfl⟩
    · exact hh.elim
  qcall := by
    intro f args h v hh w hw
    change straitlaw21_SideParts.qcall f args h (· = v) at hh
    unfold straitlaw21_SideParts.qcall at hh
    split at hh
    · obtain ⟨x0, h1, h2⟩ := hh
      obtain ⟨g1, g2⟩ := straitref21_Parts.calls h1 w hw
      refine .inl ⟨g1, g2.mono fun e w' ⟨u, he, ho, hr⟩ => ?_⟩
      have hq := straitref21_Parts.ret_elim (K' := fun u h' => u = v ∧ h' = h) (fun _ h' hr => by obtain ⟨rfl, rfl⟩ := hr; exact ⟨h2, rfl⟩) hr
      exact ⟨hq.1 ▸ he, ho, hq.2⟩
    · exact hh.elim
noncomputable def straitlaw21_SideParts.code : Code := (Try.f3.body).getD .skip
def straitlaw21_SideParts.ann : Ann := (.two .auto (.two .auto (.two (.reg [0, 0, 0, 4, 0, 16, 63, 0, 0, 0, 512, 0, 2048, 8191, 16383, 32767, 65535, 65535, 65535, 327679, 65535, 1114111, 4194303, 65535, 65535, 65535, 33619967, 65535, 134283263, 536870911, 1073741823, 2147483647, 4294967295, 8589934591, 17179869183, 34359738367] (.take 0 (.take 1 (.take 2 (.take 3 (.take 4 (.take 5 (.take 7 (.take 8 (.take 9 (.take 11 (.early 10 (.early 12 (.alt 6 (.take 13 (.take 14 (.take 15 (.take 16 (.take 17 (.take 18 (.take 19 (.take 20 (.take 21 (.take 23 (.take 24 (.take 25 (.take 27 (.early 26 (.early 28 (.alt 22 (.alt 29 (.take 30 (.take 31 (.take 32 (.alt 33 (.take 34 (.take 35 .done)) .noalt)))) .noalt) .noalt)))))))))))))))) .noalt)))))))))))))) .auto)))
set_option maxRecDepth 100000 in
theorem straitlaw21_SideParts.eq (a1 : Int) (a2 : Option Addr) (a2l : Nat) (a2c : Nat) (a3 : Int) (a4 : Int) (h : Heap) (K : Bool → Heap → Prop) : evF straitlaw21_SideParts.ctx Try.f3 straitlaw21_SideParts.ann [(.int .i64 a1), (.slice a2 a2l a2c), (.agg #[(.int .i64 a3), (.int .i64 a4)])] h (straitlaw21_SideParts.ret K) = straitlaw21_SideParts a1 a2 a2l a2c a3 a4 h K := by kernel_rfl
set_option maxRecDepth 100000 in
theorem straitlaw21_SideParts.calls {a1 : Int} {a2 : Option Addr} {a2l : Nat} {a2c : Nat} {a3 : Int} {a4 : Int} {h : Heap} {K : Bool → Heap → Prop} (hh : straitlaw21_SideParts a1 a2 a2l a2c a3 a4 h K) (w : World) (hw : w.heap = h) :
    (callFunc 3 #[(.int .i64 a1), (.slice a2 a2l a2c), (.agg #[(.int .i64 a3), (.int .i64 a4)])]).run Try.prog w = .ok (.enter 3 #[(.int .i64 a1), (.slice a2 a2l a2c), (.agg #[(.int .i64 a3), (.int .i64 a4)])]) w ∧ Calls Try.prog 3 #[(.int .i64 a1), (.slice a2 a2l a2c), (.agg #[(.int .i64 a3), (.int .i64 a4)])] w fun e w' => ∃ v, e = .returned v ∧ Out w w' ∧ straitlaw21_SideParts.ret K v w'.heap := by
  rw [← straitlaw21_SideParts.eq] at hh
  exact fn_calls (args := [(.int .i64 a1), (.slice a2 a2l a2c), (.agg #[(.int .i64 a3), (.int .i64 a4)])]) (c := straitlaw21_SideParts.code) straitlaw21_SideParts.ok Try.func3 (by kernel_rfl) (by kernel_rfl) (by kernel_rfl) (by kernel_rfl) (loops_ok (l := []) (by kernel_rfl) trivial) hh w hw

end Go.Proofs.Ytbhndlpjfncliaa
