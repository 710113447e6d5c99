/- WRITTEN BY A PROGRAM OF THIS SESSION (gen.py): what each function asks of memory, and that the model's run comes to it. -/
import Derived.Test.YtbhndlpjfncliaaGreatProg
import Derived.Test.YtbhndlpjfncliaaGreatFw8
import Derived.Test.YtbhndlpjfncliaaGreatG0
namespace Go.Proofs.YtbhndlpjfncliaaGreat
open Go.Hp
set_option linter.unusedVariables false
set_option linter.unusedSimpArgs false
set_option linter.unusedSectionVars false

/-! ### strait/net.New: function 8 -/
section
variable [DKc]
def net_New.b1 (K5 : Heap → Prop) (cont : Addr → Int → Int → Heap → Prop) (c11_2001 : Addr) (c68_2002 : Int) (v69_2003 : Int) (h2004 : Heap) : Prop :=
  (iteB (decide (v69_2003 < c68_2002)) (((∃ (x2005 : Option Addr) (x2005l : Nat) (x2005c : Nat), cell h2004 c11_2001 = some (.slice x2005 x2005l x2005c) ∧ chkP x2005 fun a2006 => (0 ≤ v69_2003 ∧ v69_2003 < (x2005l : Int)) ∧ ∃ (x2007 : Option Addr) (x2007l : Nat) (x2007c : Nat), cell h2004 (a2006.add (v69_2003.toNat * 1)) = some (.slice x2007 x2007l x2007c) ∧ callP0 (slices_Sort_Lint_int x2007 x2007l x2007c h2004) fun h2008 => ((cont c11_2001 c68_2002 (IntKind.i64.wrap (v69_2003 + 1)) h2008))))) (K5 h2004))
def net_New.l1 (K5 : Heap → Prop) : Nat → Addr → Int → Int → Heap → Prop
  | 0, _, _, _, _ => False
  | m + 1, c11_2001, c68_2002, v69_2003, h => net_New.b1 K5 (net_New.l1 K5 m) c11_2001 c68_2002 v69_2003 h
def net_New.b0 (K3 : Heap → Prop) (cont : Int → Addr → (Option Addr) → Nat → Nat → Int → Int → Heap → Prop) (c0_1001 : Int) (c11_1002 : Addr) (c47_1003 : Option Addr) (c47_1004 : Nat) (c47_1005 : Nat) (c48_1006 : Int) (v49_1007 : Int) (h1008 : Heap) : Prop :=
  (iteB (decide (v49_1007 < c48_1006)) ((chkP c47_1003 fun a1009 => (0 ≤ v49_1007 ∧ v49_1007 < (c47_1004 : Int)) ∧ ∃ (x1010 : Int), cell h1008 (a1009.add (v49_1007.toNat * 3)) = some (.int .i64 x1010) ∧ ∃ (x1011 : Int), cell h1008 ((a1009.add (v49_1007.toNat * 3)).add 1) = some (.int .i64 x1011) ∧ ∃ (x1012 : Int), cell h1008 ((a1009.add (v49_1007.toNat * 3)).add 2) = some (.int .i64 x1012) ∧ newP h1008 (.cells #[(.int .i64 0), (.int .i64 0), (.int .i64 0)] 82) fun a1013 h1014 => stC h1014 a1013 (.int .i64 x1010) fun h1015 => stC h1015 (a1013.add 1) (.int .i64 x1011) fun h1016 => stC h1016 (a1013.add 2) (.int .i64 x1012) fun h1017 => (∃ (x1018 : Int), cell h1017 a1013 = some (.int .i64 x1018) ∧ ∃ (x1019 : Int), cell h1017 (a1013.add 1) = some (.int .i64 x1019) ∧ ∃ (x1020 : Int), cell h1017 (a1013.add 2) = some (.int .i64 x1020) ∧ callP0 (net_ends_link (some c11_1002) x1018 x1019 x1020 h1017) fun h1021 => (∃ (x1022 : Int), cell h1021 (c11_1002.add 3) = some (.int .i64 x1022) ∧ ∃ (x1023 : Int), cell h1021 (a1013.add 2) = some (.int .i64 x1023) ∧ stC h1021 (c11_1002.add 3) (.int .i64 (IntKind.i64.wrap (x1022 + x1023))) fun h1024 => ((cont c0_1001 c11_1002 c47_1003 c47_1004 c47_1005 c48_1006 (IntKind.i64.wrap (v49_1007 + 1)) h1024)))))) (K3 h1008))
def net_New.l0 (K3 : Heap → Prop) : Nat → Int → Addr → (Option Addr) → Nat → Nat → Int → Int → Heap → Prop
  | 0, _, _, _, _, _, _, _, _ => False
  | m + 1, c0_1001, c11_1002, c47_1003, c47_1004, c47_1005, c48_1006, v49_1007, h => net_New.b0 K3 (net_New.l0 K3 m) c0_1001 c11_1002 c47_1003 c47_1004 c47_1005 c48_1006 v49_1007 h
def net_New (a1 : Int) (a2 : Option Addr) (a2l : Nat) (a2c : Nat) (h : Heap) (K : (Option Addr) → Int → Int → Heap → Prop) : Prop :=
  (let j36 : Prop := (callP2 (edge_Checks a1 a2 a2l a2c h) fun x4 x5 h6 => ((iteB (x4 != (0 : Int)) (K none x4 x5 h6) ((callP4 (edge_Merge a2 a2l a2c h6) fun x7 x7l x7c x8 h9 => (((0 ≤ a1 ∧ a1 ≤ a1 ∧ a1 * (24 : Nat) ≤ 2 ^ 47 ∧ a1 ≤ 2 ^ 47) ∧ newP h9 (.cells (zeroRow [(.slice none 0 0)] a1.toNat).toArray 33) fun a10 h11 => (0 ≤ a1 ∧ a1 ≤ a1 ∧ a1 * (8 : Nat) ≤ 2 ^ 47 ∧ a1 ≤ 2 ^ 47) ∧ newP h11 (.cells (zeroRow [(.int .i64 0)] a1.toNat).toArray 2) fun a12 h13 => newP h13 (.cells #[(.slice (some a10) a1.toNat a1.toNat), (.slice (some a12) a1.toNat a1.toNat), (.slice x7 x7l x7c), (.int .i64 0)] 91) fun a14 h15 => ((∃ m29, net_New.l0 (fun h28 => (((∃ m31, net_New.l1 (fun h30 => (((K (some a14) 0 0 h30)))) m31 a14 a1 0 h28)))) m29 a1 a14 x7 x7l x7c (x7l : Int) 0 h15))) ∧ ((0 ≤ a1 ∧ a1 ≤ a1 ∧ a1 * (8 : Nat) ≤ 2 ^ 47 ∧ a1 ≤ 2 ^ 47) ∧ newP h9 (.cells (zeroRow [(.int .i64 0)] a1.toNat).toArray 2) fun a16 h17 => (0 ≤ a1 ∧ a1 ≤ a1 ∧ a1 * (24 : Nat) ≤ 2 ^ 47 ∧ a1 ≤ 2 ^ 47) ∧ newP h17 (.cells (zeroRow [(.slice none 0 0)] a1.toNat).toArray 33) fun a18 h19 => newP h19 (.cells #[(.slice (some a18) a1.toNat a1.toNat), (.slice (some a16) a1.toNat a1.toNat), (.slice x7 x7l x7c), (.int .i64 0)] 91) fun a20 h21 => ((∃ m33, net_New.l0 (fun h32 => (((∃ m35, net_New.l1 (fun h34 => (((K (some a20) 0 0 h34)))) m35 a20 a1 0 h32)))) m33 a1 a20 x7 x7l x7c (x7l : Int) 0 h21)))))))));
  (iteB (decide (a1 < (0 : Int))) (K none 1 0 h) ((iteB (decide (a1 > (4096 : Int))) ((iteB (decide (a1 > (4096 : Int))) (K none 3 0 h) (((j36))))) ((iteB (decide ((a2l : Int) > (1048576 : Int))) (K none 3 0 h) (((j36)))))))))
def net_New.ret (K : (Option Addr) → Int → Int → Heap → Prop) (v : Value) (h : Heap) : Prop := match v with
  | (.tuple ⟨[(.pointer r37), (.int .i64 r38), (.int .i64 r39)]⟩) => K r37 r38 r39 h
  | _ => False
theorem net_New.ret_elim {K : (Option Addr) → Int → Int → Heap → Prop} {K' : Value → Heap → Prop} {v : Value} {h : Heap} (hk : ∀ r37 r38 r39 h, K r37 r38 r39 h → K' (.tuple #[(.pointer r37), (.int .i64 r38), (.int .i64 r39)]) h) (hh : net_New.ret K v h) : K' v h := by
  unfold net_New.ret at hh
  split at hh
  · exact hk _ _ _ _ hh
  · exact hh.elim
def net_New.call (f : FuncId) (vs : List Value) (h : Heap) (K : Value → Heap → Prop) : Prop := match f, vs with
  | 38, [(.int .i64 a1), (.slice a2 a2l a2c)] => callP2 (edge_Checks a1 a2 a2l a2c h) fun r8 r9 h' => K (.tuple #[(.int .i64 r8), (.int .i64 r9)]) h'
  | 39, [(.slice a1 a1l a1c)] => callP4 (edge_Merge a1 a1l a1c h) fun r13 r13l r13c r14 h' => K (.tuple #[(.slice r13 r13l r13c), (.bool r14)]) h'
  | 40, [(.pointer a1), (.agg ⟨[(.int .i64 a2), (.int .i64 a3), (.int .i64 a4)]⟩)] => callP0 (net_ends_link a1 a2 a3 a4 h) fun h' => K (.tuple #[]) h'
  | 41, [(.slice a1 a1l a1c)] => callP0 (slices_Sort_Lint_int a1 a1l a1c h) fun h' => K (.tuple #[]) h'
  | _, _ => False
def net_New.r0 (K : Nat → List Value → Heap → Prop) (m : Nat) (vs : List Value) (h : Heap) : Prop := match vs with
  | [(.int .i64 c0_1001), (.pointer (some c11_1002)), (.slice c47_1003 c47_1004 c47_1005), (.int .i64 c48_1006), (.int .i64 v49_1007)] => net_New.l0 (fun h' => K 3 [(.int .i64 c0_1001), (.pointer (some c11_1002))] h') m c0_1001 c11_1002 c47_1003 c47_1004 c47_1005 c48_1006 v49_1007 h
  | _ => False
def net_New.r1 (K : Nat → List Value → Heap → Prop) (m : Nat) (vs : List Value) (h : Heap) : Prop := match vs with
  | [(.pointer (some c11_2001)), (.int .i64 c68_2002), (.int .i64 v69_2003)] => net_New.l1 (fun h' => K 5 [(.pointer (some c11_2001))] h') m c11_2001 c68_2002 v69_2003 h
  | _ => False
def net_New.loop (i : Nat) (vs : List Value) (h : Heap) (K : Nat → List Value → Heap → Prop) : Prop := match i with
  | 0 => ∃ m, net_New.r0 K m vs h
  | 1 => ∃ m, net_New.r1 K m vs h
  | _ => False
noncomputable def net_New.ctx : Ctx := { P := Tryz.prog, call := net_New.call, qcall := fun _ _ _ _ => False, quiet := fun f => Nat.beq f 1000131 || Nat.beq f 1000155, loop := net_New.loop }
theorem net_New.ok : net_New.ctx.OK where
  mixed := by kernel_rfl
  mono := by
    intro f args h K K' hh hk
    change net_New.call f args h K at hh
    change net_New.call f args h K'
    unfold net_New.call at hh ⊢
    split at hh
    · obtain ⟨R, h1, h2⟩ := hh
      exact ⟨R, h1, fun _ _ x hr => hk _ _ (h2 _ _ x hr)⟩
    · obtain ⟨R, h1, h2⟩ := hh
      exact ⟨R, h1, fun _ _ _ _ x hr => hk _ _ (h2 _ _ _ _ x hr)⟩
    · obtain ⟨R, h1, h2⟩ := hh
      exact ⟨R, h1, fun x hr => hk _ _ (h2 x hr)⟩
    · obtain ⟨R, h1, h2⟩ := hh
      exact ⟨R, h1, fun x hr => hk _ _ (h2 x hr)⟩
    · exact hh.elim
  call := by
    intro f args h K hh w hw
    change net_New.call f args h K at hh
    unfold net_New.call at hh
    split at hh
    · obtain ⟨R, h1, h2⟩ := hh
      obtain ⟨g1, g2⟩ := edge_Checks.calls h1 w hw
      exact ⟨g1, g2.mono fun e w' ⟨v, he, ho, hr⟩ => ⟨v, he, ho, edge_Checks.ret_elim h2 hr⟩⟩
    · obtain ⟨R, h1, h2⟩ := hh
      obtain ⟨g1, g2⟩ := edge_Merge.calls h1 w hw
      exact ⟨g1, g2.mono fun e w' ⟨v, he, ho, hr⟩ => ⟨v, he, ho, edge_Merge.ret_elim h2 hr⟩⟩
    · obtain ⟨R, h1, h2⟩ := hh
      obtain ⟨g1, g2⟩ := net_ends_link.calls h1 w hw
      exact ⟨g1, g2.mono fun e w' ⟨v, he, ho, hr⟩ => ⟨v, he, ho, net_ends_link.ret_elim h2 hr⟩⟩
    · obtain ⟨R, h1, h2⟩ := hh
      obtain ⟨g1, g2⟩ := slices_Sort_Lint_int.calls h1 w hw
      exact ⟨g1, g2.mono fun e w' ⟨v, he, ho, hr⟩ => ⟨v, he, ho, slices_Sort_Lint_int.ret_elim h2 hr⟩⟩
    · exact hh.elim
  qmono := fun hh _ => hh.elim
  qval := fun hh => hh.elim
  qcall := fun hh => hh.elim
noncomputable def net_New.code : Code := (Tryz.f8.body).getD .skip
def net_New.ann : Ann := (.two .auto (.two .auto (.two .auto (.two .auto (.two (.reg [0, 1, 0, 4, 15, 0, 63, 127, 255] (.take 0 (.take 2 (.take 5 (.alt 1 (.alt 3 (.take 4 (.take 6 (.alt 7 (.take 8 .done) .noalt))) .noalt) (.alt 3 (.alt 1 (.take 4 (.take 6 (.alt 7 (.take 8 .done) .noalt))) .noalt) .noalt)))))) (.two (.two .auto (.two (.loop 0 [0, 11, 47, 48, 49] [(3, [0, 11])] (.two .auto (.two .auto (.two (.two (.two .auto (.two (.reg [0, 1, 3, 0, 15] (.take 0 (.take 1 (.take 2 (.take 3 (.alt 4 .done .noalt)))))) (.reg [0, 1, 3, 7, 0, 16, 63, 127, 255, 511] (.take 0 (.take 1 (.take 2 (.take 3 (.take 4 (.take 5 (.take 6 (.take 7 (.take 8 (.alt 9 .done .noalt))))))))))))) .auto) .auto)))) .auto)) (.two (.two .auto (.two (.loop 1 [11, 68, 69] [(5, [11])] .auto) .auto)) .auto)))))))
noncomputable def net_New.c1 : Code := sub net_New.code [1, 1, 1, 1, 1, 1, 0, 1, 0, 0]
def net_New.a1 : Ann := .auto
def net_New.keep1 : List Nat := [11, 68, 69]
def net_New.outs1 : List (Nat × List Nat) := [(5, [11])]
noncomputable def net_New.c0 : Code := sub net_New.code [1, 1, 1, 1, 1, 0, 1, 0, 0]
def net_New.a0 : Ann := (.two .auto (.two .auto (.two (.two (.two .auto (.two (.reg [0, 1, 3, 0, 15] (.take 0 (.take 1 (.take 2 (.take 3 (.alt 4 .done .noalt)))))) (.reg [0, 1, 3, 7, 0, 16, 63, 127, 255, 511] (.take 0 (.take 1 (.take 2 (.take 3 (.take 4 (.take 5 (.take 6 (.take 7 (.take 8 (.alt 9 .done .noalt))))))))))))) .auto) .auto)))
def net_New.keep0 : List Nat := [0, 11, 47, 48, 49]
def net_New.outs0 : List (Nat × List Nat) := [(3, [0, 11])]
set_option maxRecDepth 100000 in
theorem net_New.L0 : LoopOK net_New.ctx 83 net_New.c0 0 net_New.keep0 net_New.outs0 := by
  refine loop_ok (n := net_New.a0) net_New.ok (by kernel_rfl) (loops_ok (l := []) (by kernel_rfl) ?_) net_New.r0 ?_ ?_ (fun vs h K hh => hh)
  · exact trivial
  · intro K vs h hh
    unfold net_New.r0 at hh
    split at hh
    · exact hh
    · exact hh
  · intro K m vs h hh
    unfold net_New.r0 at hh
    split at hh
    · exact cast (by kernel_rfl) hh
    · exact hh.elim
set_option maxRecDepth 100000 in
theorem net_New.L1 : LoopOK net_New.ctx 83 net_New.c1 1 net_New.keep1 net_New.outs1 := by
  refine loop_ok (n := net_New.a1) net_New.ok (by kernel_rfl) (loops_ok (l := []) (by kernel_rfl) ?_) net_New.r1 ?_ ?_ (fun vs h K hh => hh)
  · exact trivial
  · intro K vs h hh
    unfold net_New.r1 at hh
    split at hh
    · exact hh
    · exact hh
  · intro K m vs h hh
    unfold net_New.r1 at hh
    split at hh
    · exact cast (by kernel_rfl) hh
    · exact hh.elim
set_option maxRecDepth 100000 in
theorem net_New.eq (a1 : Int) (a2 : Option Addr) (a2l : Nat) (a2c : Nat) (h : Heap) (K : (Option Addr) → Int → Int → Heap → Prop) : evF net_New.ctx Tryz.f8 net_New.ann [(.int .i64 a1), (.slice a2 a2l a2c)] h (net_New.ret K) = net_New a1 a2 a2l a2c h K := by kernel_rfl
set_option maxRecDepth 100000 in
theorem net_New.calls {a1 : Int} {a2 : Option Addr} {a2l : Nat} {a2c : Nat} {h : Heap} {K : (Option Addr) → Int → Int → Heap → Prop} (hh : net_New a1 a2 a2l a2c h K) (w : World) (hw : w.heap = h) :
    (callFunc 8 #[(.int .i64 a1), (.slice a2 a2l a2c)]).run Tryz.prog w = .ok (.enter 8 #[(.int .i64 a1), (.slice a2 a2l a2c)]) w ∧ Calls Tryz.prog 8 #[(.int .i64 a1), (.slice a2 a2l a2c)] w fun e w' => ∃ v, e = .returned v ∧ Out w w' ∧ net_New.ret K v w'.heap := by
  rw [← net_New.eq] at hh
  exact fn_calls (args := [(.int .i64 a1), (.slice a2 a2l a2c)]) (c := net_New.code) net_New.ok Tryz.func8 (by kernel_rfl) (by kernel_rfl) (by kernel_rfl) (by kernel_rfl) (loops_ok (l := [(net_New.c0, none, 0, net_New.keep0, net_New.outs0), (net_New.c1, none, 1, net_New.keep1, net_New.outs1)]) (by kernel_rfl) ⟨net_New.L0, net_New.L1, trivial⟩) hh w hw
end

/-! ### strait/dsu.New: function 62 -/
def dsu_New.b0 (K2 : Heap → Prop) (cont : Addr → Int → Int → Heap → Prop) (c3_1001 : Addr) (c17_1002 : Int) (v18_1003 : Int) (h1004 : Heap) : Prop :=
  (iteB (decide (v18_1003 < c17_1002)) (((∃ (x1005 : Option Addr) (x1005l : Nat) (x1005c : Nat), cell h1004 c3_1001 = some (.slice x1005 x1005l x1005c) ∧ ∃ (x1006 : Option Addr) (x1006l : Nat) (x1006c : Nat), cell h1004 (c3_1001.add 1) = some (.slice x1006 x1006l x1006c) ∧ ∃ (x1007 : Option Addr) (x1007l : Nat) (x1007c : Nat), cell h1004 (c3_1001.add 2) = some (.slice x1007 x1007l x1007c) ∧ chkP x1005 fun a1008 => (0 ≤ v18_1003 ∧ v18_1003 < (x1005l : Int)) ∧ stC h1004 (a1008.add (v18_1003.toNat * 1)) (.int .i64 v18_1003) fun h1009 => chkP x1006 fun a1010 => (0 ≤ v18_1003 ∧ v18_1003 < (x1006l : Int)) ∧ stC h1009 (a1010.add (v18_1003.toNat * 1)) (.int .i64 1) fun h1011 => chkP x1007 fun a1012 => (0 ≤ v18_1003 ∧ v18_1003 < (x1007l : Int)) ∧ stC h1011 (a1012.add (v18_1003.toNat * 1)) (.int .i64 v18_1003) fun h1013 => ((cont c3_1001 c17_1002 (IntKind.i64.wrap (v18_1003 + 1)) h1013))))) (K2 h1004))
def dsu_New.l0 (K2 : Heap → Prop) : Nat → Addr → Int → Int → Heap → Prop
  | 0, _, _, _, _ => False
  | m + 1, c3_1001, c17_1002, v18_1003, h => dsu_New.b0 K2 (dsu_New.l0 K2 m) c3_1001 c17_1002 v18_1003 h
def dsu_New (a1 : Int) (h : Heap) (K : (Option Addr) → Heap → Prop) : Prop :=
  (bindV (if 4096 < (if 0 > a1 then 0 else a1) then 4096 else (if 0 > a1 then 0 else a1)) fun n2 => (let j49 := (fun (y45 : Addr) (h46 : Heap) => (∃ m48, dsu_New.l0 (fun h47 => (((K (some y45) h47)))) m48 y45 n2 0 h46));
  ((0 ≤ n2 ∧ n2 ≤ n2 ∧ n2 * (8 : Nat) ≤ 2 ^ 47 ∧ n2 ≤ 2 ^ 47) ∧ newP h (.cells (zeroRow [(.int .i64 0)] n2.toNat).toArray 3) fun a3 h4 => ((0 ≤ n2 ∧ n2 ≤ n2 ∧ n2 * (8 : Nat) ≤ 2 ^ 47 ∧ n2 ≤ 2 ^ 47) ∧ newP h4 (.cells (zeroRow [(.int .i64 0)] n2.toNat).toArray 3) fun a5 h6 => (0 ≤ n2 ∧ n2 ≤ n2 ∧ n2 * (8 : Nat) ≤ 2 ^ 47 ∧ n2 ≤ 2 ^ 47) ∧ newP h6 (.cells (zeroRow [(.int .i64 0)] n2.toNat).toArray 3) fun a7 h8 => newP h8 (.cells #[(.slice (some a3) n2.toNat n2.toNat), (.slice (some a5) n2.toNat n2.toNat), (.slice (some a7) n2.toNat n2.toNat), (.int .i64 n2)] 154) fun a9 h10 => (j49 a9 h10)) ∧ ((0 ≤ n2 ∧ n2 ≤ n2 ∧ n2 * (8 : Nat) ≤ 2 ^ 47 ∧ n2 ≤ 2 ^ 47) ∧ newP h4 (.cells (zeroRow [(.int .i64 0)] n2.toNat).toArray 3) fun a11 h12 => (0 ≤ n2 ∧ n2 ≤ n2 ∧ n2 * (8 : Nat) ≤ 2 ^ 47 ∧ n2 ≤ 2 ^ 47) ∧ newP h12 (.cells (zeroRow [(.int .i64 0)] n2.toNat).toArray 3) fun a13 h14 => newP h14 (.cells #[(.slice (some a3) n2.toNat n2.toNat), (.slice (some a13) n2.toNat n2.toNat), (.slice (some a11) n2.toNat n2.toNat), (.int .i64 n2)] 154) fun a15 h16 => (j49 a15 h16))) ∧ (((0 ≤ n2 ∧ n2 ≤ n2 ∧ n2 * (8 : Nat) ≤ 2 ^ 47 ∧ n2 ≤ 2 ^ 47) ∧ newP h (.cells (zeroRow [(.int .i64 0)] n2.toNat).toArray 3) fun a17 h18 => ((0 ≤ n2 ∧ n2 ≤ n2 ∧ n2 * (8 : Nat) ≤ 2 ^ 47 ∧ n2 ≤ 2 ^ 47) ∧ newP h18 (.cells (zeroRow [(.int .i64 0)] n2.toNat).toArray 3) fun a19 h20 => (0 ≤ n2 ∧ n2 ≤ n2 ∧ n2 * (8 : Nat) ≤ 2 ^ 47 ∧ n2 ≤ 2 ^ 47) ∧ newP h20 (.cells (zeroRow [(.int .i64 0)] n2.toNat).toArray 3) fun a21 h22 => newP h22 (.cells #[(.slice (some a19) n2.toNat n2.toNat), (.slice (some a17) n2.toNat n2.toNat), (.slice (some a21) n2.toNat n2.toNat), (.int .i64 n2)] 154) fun a23 h24 => (j49 a23 h24)) ∧ ((0 ≤ n2 ∧ n2 ≤ n2 ∧ n2 * (8 : Nat) ≤ 2 ^ 47 ∧ n2 ≤ 2 ^ 47) ∧ newP h18 (.cells (zeroRow [(.int .i64 0)] n2.toNat).toArray 3) fun a25 h26 => (0 ≤ n2 ∧ n2 ≤ n2 ∧ n2 * (8 : Nat) ≤ 2 ^ 47 ∧ n2 ≤ 2 ^ 47) ∧ newP h26 (.cells (zeroRow [(.int .i64 0)] n2.toNat).toArray 3) fun a27 h28 => newP h28 (.cells #[(.slice (some a27) n2.toNat n2.toNat), (.slice (some a17) n2.toNat n2.toNat), (.slice (some a25) n2.toNat n2.toNat), (.int .i64 n2)] 154) fun a29 h30 => (j49 a29 h30))) ∧ ((0 ≤ n2 ∧ n2 ≤ n2 ∧ n2 * (8 : Nat) ≤ 2 ^ 47 ∧ n2 ≤ 2 ^ 47) ∧ newP h (.cells (zeroRow [(.int .i64 0)] n2.toNat).toArray 3) fun a31 h32 => ((0 ≤ n2 ∧ n2 ≤ n2 ∧ n2 * (8 : Nat) ≤ 2 ^ 47 ∧ n2 ≤ 2 ^ 47) ∧ newP h32 (.cells (zeroRow [(.int .i64 0)] n2.toNat).toArray 3) fun a33 h34 => (0 ≤ n2 ∧ n2 ≤ n2 ∧ n2 * (8 : Nat) ≤ 2 ^ 47 ∧ n2 ≤ 2 ^ 47) ∧ newP h34 (.cells (zeroRow [(.int .i64 0)] n2.toNat).toArray 3) fun a35 h36 => newP h36 (.cells #[(.slice (some a33) n2.toNat n2.toNat), (.slice (some a35) n2.toNat n2.toNat), (.slice (some a31) n2.toNat n2.toNat), (.int .i64 n2)] 154) fun a37 h38 => (j49 a37 h38)) ∧ ((0 ≤ n2 ∧ n2 ≤ n2 ∧ n2 * (8 : Nat) ≤ 2 ^ 47 ∧ n2 ≤ 2 ^ 47) ∧ newP h32 (.cells (zeroRow [(.int .i64 0)] n2.toNat).toArray 3) fun a39 h40 => (0 ≤ n2 ∧ n2 ≤ n2 ∧ n2 * (8 : Nat) ≤ 2 ^ 47 ∧ n2 ≤ 2 ^ 47) ∧ newP h40 (.cells (zeroRow [(.int .i64 0)] n2.toNat).toArray 3) fun a41 h42 => newP h42 (.cells #[(.slice (some a41) n2.toNat n2.toNat), (.slice (some a39) n2.toNat n2.toNat), (.slice (some a31) n2.toNat n2.toNat), (.int .i64 n2)] 154) fun a43 h44 => (j49 a43 h44))))))
def dsu_New.ret (K : (Option Addr) → Heap → Prop) (v : Value) (h : Heap) : Prop := match v with
  | (.pointer r50) => K r50 h
  | _ => False
theorem dsu_New.ret_elim {K : (Option Addr) → Heap → Prop} {K' : Value → Heap → Prop} {v : Value} {h : Heap} (hk : ∀ r50 h, K r50 h → K' (.pointer r50) h) (hh : dsu_New.ret K v h) : K' v h := by
  unfold dsu_New.ret at hh
  split at hh
  · exact hk _ _ hh
  · exact hh.elim
def dsu_New.r0 (K : Nat → List Value → Heap → Prop) (m : Nat) (vs : List Value) (h : Heap) : Prop := match vs with
  | [(.pointer (some c3_1001)), (.int .i64 c17_1002), (.int .i64 v18_1003)] => dsu_New.l0 (fun h' => K 2 [(.pointer (some c3_1001))] h') m c3_1001 c17_1002 v18_1003 h
  | _ => False
def dsu_New.loop (i : Nat) (vs : List Value) (h : Heap) (K : Nat → List Value → Heap → Prop) : Prop := match i with
  | 0 => ∃ m, dsu_New.r0 K m vs h
  | _ => False
noncomputable def dsu_New.ctx : Ctx := { P := Tryz.prog, call := fun _ _ _ _ => False, qcall := fun _ _ _ _ => False, quiet := fun f => Nat.beq f 1000131 || Nat.beq f 1000155, loop := dsu_New.loop }
theorem dsu_New.ok [DKc] : dsu_New.ctx.OK where
  mixed := by kernel_rfl
  mono := fun hh _ => hh.elim
  call := fun hh => hh.elim
  qmono := fun hh _ => hh.elim
  qval := fun hh => hh.elim
  qcall := fun hh => hh.elim
noncomputable def dsu_New.code : Code := (Tryz.f62.body).getD .skip
def dsu_New.ann : Ann := (.two .auto (.two .auto (.two (.reg [0, 1, 0, 4, 0, 16, 0, 127, 255, 511] (.take 0 (.take 2 (.take 4 (.take 6 (.alt 1 (.alt 3 (.alt 5 (.take 7 (.alt 8 (.take 9 .done) .noalt)) .noalt) (.alt 5 (.alt 3 (.take 7 (.alt 8 (.take 9 .done) .noalt)) .noalt) .noalt)) (.alt 3 (.alt 1 (.alt 5 (.take 7 (.alt 8 (.take 9 .done) .noalt)) .noalt) (.alt 5 (.alt 1 (.take 7 (.alt 8 (.take 9 .done) .noalt)) .noalt) .noalt)) (.alt 5 (.alt 1 (.alt 3 (.take 7 (.alt 8 (.take 9 .done) .noalt)) .noalt) (.alt 3 (.alt 1 (.take 7 (.alt 8 (.take 9 .done) .noalt)) .noalt) .noalt)) .noalt)))))))) (.two (.two .auto (.two (.loop 0 [3, 17, 18] [(2, [3])] (.two .auto (.two .auto (.two (.two (.two .auto (.reg [0, 1, 3, 7, 0, 0, 32, 96, 224, 0, 0, 1024, 3072, 7168, 0, 0, 0, 48639, 179711, 442367, 966655, 2097151, 4194303] (.take 0 (.take 1 (.take 2 (.take 3 (.take 4 (.take 5 (.take 6 (.take 7 (.take 8 (.take 9 (.take 10 (.take 11 (.take 12 (.take 13 (.take 14 (.take 15 (.take 16 (.take 17 (.alt 18 (.take 19 (.alt 20 (.take 21 (.alt 22 .done .noalt)) .noalt)) .noalt))))))))))))))))))))) .auto) .auto)))) .auto)) .auto))))
noncomputable def dsu_New.c0 : Code := sub dsu_New.code [1, 1, 1, 0, 1, 0, 0]
def dsu_New.a0 : Ann := (.two .auto (.two .auto (.two (.two (.two .auto (.reg [0, 1, 3, 7, 0, 0, 32, 96, 224, 0, 0, 1024, 3072, 7168, 0, 0, 0, 48639, 179711, 442367, 966655, 2097151, 4194303] (.take 0 (.take 1 (.take 2 (.take 3 (.take 4 (.take 5 (.take 6 (.take 7 (.take 8 (.take 9 (.take 10 (.take 11 (.take 12 (.take 13 (.take 14 (.take 15 (.take 16 (.take 17 (.alt 18 (.take 19 (.alt 20 (.take 21 (.alt 22 .done .noalt)) .noalt)) .noalt))))))))))))))))))))) .auto) .auto)))
def dsu_New.keep0 : List Nat := [3, 17, 18]
def dsu_New.outs0 : List (Nat × List Nat) := [(2, [3])]
set_option maxRecDepth 100000 in
theorem dsu_New.L0 [DKc] : LoopOK dsu_New.ctx 43 dsu_New.c0 0 dsu_New.keep0 dsu_New.outs0 := by
  refine loop_ok (n := dsu_New.a0) dsu_New.ok (by kernel_rfl) (loops_ok (l := []) (by kernel_rfl) ?_) dsu_New.r0 ?_ ?_ (fun vs h K hh => hh)
  · exact trivial
  · intro K vs h hh
    unfold dsu_New.r0 at hh
    split at hh
    · exact hh
    · exact hh
  · intro K m vs h hh
    unfold dsu_New.r0 at hh
    split at hh
    · exact cast (by kernel_rfl) hh
    · exact hh.elim
set_option maxRecDepth 100000 in
theorem dsu_New.eq (a1 : Int) (h : Heap) (K : (Option Addr) → Heap → Prop) : evF dsu_New.ctx Tryz.f62 dsu_New.ann [(.int .i64 a1)] h (dsu_New.ret K) = dsu_New a1 h K := by kernel_rfl
set_option maxRecDepth 100000 in
theorem dsu_New.calls [DKc] {a1 : Int} {h : Heap} {K : (Option Addr) → Heap → Prop} (hh : dsu_New a1 h K) (w : World) (hw : w.heap = h) :
    (callFunc 62 #[(.int .i64 a1)]).run Tryz.prog w = .ok (.enter 62 #[(.int .i64 a1)]) w ∧ Calls Tryz.prog 62 #[(.int .i64 a1)] w fun e w' => ∃ v, e = .returned v ∧ Out w w' ∧ dsu_New.ret K v w'.heap := by
  rw [← dsu_New.eq] at hh
  exact fn_calls (args := [(.int .i64 a1)]) (c := dsu_New.code) dsu_New.ok Tryz.func62 (by kernel_rfl) (by kernel_rfl) (by kernel_rfl) (by kernel_rfl) (loops_ok (l := [(dsu_New.c0, none, 0, dsu_New.keep0, dsu_New.outs0)]) (by kernel_rfl) ⟨dsu_New.L0, trivial⟩) hh w hw

/-! ### slices.Clone[[]strait/api.Edge,strait/api.Edge]: function 79 -/
def slices_Clone_Lapi_Edge_api_Edge (a1 : Option Addr) (a1l : Nat) (a1c : Nat) (h : Heap) (K : (Option Addr) → Nat → Nat → Heap → Prop) : Prop :=
  ((iteB a1.isNone (K none 0 0 h) ((newP h (.cells #[] 82) fun a2 h3 => ∃ n8, cellsAt h3 a1 (a1l * 3) n8 ∧ appP 82 3 24 [(.int .i64 0), (.int .i64 0), (.int .i64 0)] (some a2) 0 0 a1l n8 h3 fun q4 l5 c6 h7 => K q4 l5 c6 h7))))
def slices_Clone_Lapi_Edge_api_Edge.ret (K : (Option Addr) → Nat → Nat → Heap → Prop) (v : Value) (h : Heap) : Prop := match v with
  | (.slice r9 r9l r9c) => K r9 r9l r9c h
  | _ => False
theorem slices_Clone_Lapi_Edge_api_Edge.ret_elim {K : (Option Addr) → Nat → Nat → Heap → Prop} {K' : Value → Heap → Prop} {v : Value} {h : Heap} (hk : ∀ r9 r9l r9c h, K r9 r9l r9c h → K' (.slice r9 r9l r9c) h) (hh : slices_Clone_Lapi_Edge_api_Edge.ret K v h) : K' v h := by
  unfold slices_Clone_Lapi_Edge_api_Edge.ret at hh
  split at hh
  · exact hk _ _ _ _ hh
  · exact hh.elim
noncomputable def slices_Clone_Lapi_Edge_api_Edge.ctx : Ctx := { P := Tryz.prog, call := fun _ _ _ _ => False, qcall := fun _ _ _ _ => False, quiet := fun f => Nat.beq f 1000131 || Nat.beq f 1000155, loop := fun _ _ _ _ => False }
theorem slices_Clone_Lapi_Edge_api_Edge.ok [DKc] : slices_Clone_Lapi_Edge_api_Edge.ctx.OK where
  mixed := by kernel_rfl
  mono := fun hh _ => hh.elim
  call := fun hh => hh.elim
  qmono := fun hh _ => hh.elim
  qval := fun hh => hh.elim
  qcall := fun hh => hh.elim
noncomputable def slices_Clone_Lapi_Edge_api_Edge.code : Code := (Tryz.f79.body).getD .skip
def slices_Clone_Lapi_Edge_api_Edge.ann : Ann := .auto
set_option maxRecDepth 100000 in
theorem slices_Clone_Lapi_Edge_api_Edge.eq (a1 : Option Addr) (a1l : Nat) (a1c : Nat) (h : Heap) (K : (Option Addr) → Nat → Nat → Heap → Prop) : evF slices_Clone_Lapi_Edge_api_Edge.ctx Tryz.f79 slices_Clone_Lapi_Edge_api_Edge.ann [(.slice a1 a1l a1c)] h (slices_Clone_Lapi_Edge_api_Edge.ret K) = slices_Clone_Lapi_Edge_api_Edge a1 a1l a1c h K := by kernel_rfl
set_option maxRecDepth 100000 in
theorem slices_Clone_Lapi_Edge_api_Edge.calls [DKc] {a1 : Option Addr} {a1l : Nat} {a1c : Nat} {h : Heap} {K : (Option Addr) → Nat → Nat → Heap → Prop} (hh : slices_Clone_Lapi_Edge_api_Edge a1 a1l a1c h K) (w : World) (hw : w.heap = h) :
    (callFunc 79 #[(.slice a1 a1l a1c)]).run Tryz.prog w = .ok (.enter 79 #[(.slice a1 a1l a1c)]) w ∧ Calls Tryz.prog 79 #[(.slice a1 a1l a1c)] w fun e w' => ∃ v, e = .returned v ∧ Out w w' ∧ slices_Clone_Lapi_Edge_api_Edge.ret K v w'.heap := by
  rw [← slices_Clone_Lapi_Edge_api_Edge.eq] at hh
  exact fn_calls (args := [(.slice a1 a1l a1c)]) (c := slices_Clone_Lapi_Edge_api_Edge.code) slices_Clone_Lapi_Edge_api_Edge.ok Tryz.func79 (by kernel_rfl) (by kernel_rfl) (by kernel_rfl) (by kernel_rfl) (loops_ok (l := []) (by kernel_rfl) trivial) hh w hw

/-! ### (*strait/net.Net).Edges: function 46 -/
def net_Net_Edges (a1 : Option Addr) (h : Heap) (K : (Option Addr) → Nat → Nat → Heap → Prop) : Prop :=
  ((iteB a1.isNone (K none 0 0 h) ((chkP a1 fun a2 => ∃ (x3 : Option Addr) (x3l : Nat) (x3c : Nat), cell h (a2.add 2) = some (.slice x3 x3l x3c) ∧ callP3 (slices_Clone_Lapi_Edge_api_Edge x3 x3l x3c h) fun x4 x4l x4c h5 => K x4 x4l x4c h5))))
def net_Net_Edges.ret (K : (Option Addr) → Nat → Nat → Heap → Prop) (v : Value) (h : Heap) : Prop := match v with
  | (.slice r6 r6l r6c) => K r6 r6l r6c h
  | _ => False
theorem net_Net_Edges.ret_elim {K : (Option Addr) → Nat → Nat → Heap → Prop} {K' : Value → Heap → Prop} {v : Value} {h : Heap} (hk : ∀ r6 r6l r6c h, K r6 r6l r6c h → K' (.slice r6 r6l r6c) h) (hh : net_Net_Edges.ret K v h) : K' v h := by
  unfold net_Net_Edges.ret at hh
  split at hh
  · exact hk _ _ _ _ hh
  · exact hh.elim
def net_Net_Edges.call (f : FuncId) (vs : List Value) (h : Heap) (K : Value → Heap → Prop) : Prop := match f, vs with
  | 79, [(.slice a1 a1l a1c)] => callP3 (slices_Clone_Lapi_Edge_api_Edge a1 a1l a1c h) fun r9 r9l r9c h' => K (.slice r9 r9l r9c) h'
  | _, _ => False
noncomputable def net_Net_Edges.ctx : Ctx := { P := Tryz.prog, call := net_Net_Edges.call, qcall := fun _ _ _ _ => False, quiet := fun f => Nat.beq f 1000131 || Nat.beq f 1000155, loop := fun _ _ _ _ => False }
theorem net_Net_Edges.ok [DKc] : net_Net_Edges.ctx.OK where
  mixed := by kernel_rfl
  mono := by
    intro f args h K K' hh hk
    change net_Net_Edges.call f args h K at hh
    change net_Net_Edges.call f args h K'
    unfold net_Net_Edges.call at hh ⊢
    split at hh
    · obtain ⟨R, h1, h2⟩ := hh
      exact ⟨R, h1, fun _ _ _ x hr => hk _ _ (h2 _ _ _ x hr)⟩
    · exact hh.elim
  call := by
    intro f args h K hh w hw
    change net_Net_Edges.call f args h K at hh
    unfold net_Net_Edges.call at hh
    split at hh
    · obtain ⟨R, h1, h2⟩ := hh
      obtain ⟨g1, g2⟩ := slices_Clone_Lapi_Edge_api_Edge.calls h1 w hw
      exact ⟨g1, g2.mono fun e w' ⟨v, he, ho, hr⟩ => ⟨v, he, ho, slices_Clone_Lapi_Edge_api_Edge.ret_elim h2 hr⟩⟩
    · exact hh.elim
  qmono := fun hh _ => hh.elim
  qval := fun hh => hh.elim
  qcall := fun hh => hh.elim
noncomputable def net_Net_Edges.code : Code := (Tryz.f46.body).getD .skip
def net_Net_Edges.ann : Ann := .auto
set_option maxRecDepth 100000 in
theorem net_Net_Edges.eq (a1 : Option Addr) (h : Heap) (K : (Option Addr) → Nat → Nat → Heap → Prop) : evF net_Net_Edges.ctx Tryz.f46 net_Net_Edges.ann [(.pointer a1)] h (net_Net_Edges.ret K) = net_Net_Edges a1 h K := by kernel_rfl
set_option maxRecDepth 100000 in
theorem net_Net_Edges.calls [DKc] {a1 : Option Addr} {h : Heap} {K : (Option Addr) → Nat → Nat → Heap → Prop} (hh : net_Net_Edges a1 h K) (w : World) (hw : w.heap = h) :
    (callFunc 46 #[(.pointer a1)]).run Tryz.prog w = .ok (.enter 46 #[(.pointer a1)]) w ∧ Calls Tryz.prog 46 #[(.pointer a1)] w fun e w' => ∃ v, e = .returned v ∧ Out w w' ∧ net_Net_Edges.ret K v w'.heap := by
  rw [← net_Net_Edges.eq] at hh
  exact fn_calls (args := [(.pointer a1)]) (c := net_Net_Edges.code) net_Net_Edges.ok Tryz.func46 (by kernel_rfl) (by kernel_rfl) (by kernel_rfl) (by kernel_rfl) (loops_ok (l := []) (by kernel_rfl) trivial) hh w hw

/-! ### (*strait/net.Net).N: function 44 -/
def net_Net_N (a1 : Option Addr) (h : Heap) (K : Int → Heap → Prop) : Prop :=
  ((iteB a1.isNone (K 0 h) ((chkP a1 fun a2 => ∃ (x3 : Option Addr) (x3l : Nat) (x3c : Nat), cell h a2 = some (.slice x3 x3l x3c) ∧ (K (x3l : Int) h)))))
def net_Net_N.ret (K : Int → Heap → Prop) (v : Value) (h : Heap) : Prop := match v with
  | (.int .i64 r4) => K r4 h
  | _ => False
theorem net_Net_N.ret_elim {K : Int → Heap → Prop} {K' : Value → Heap → Prop} {v : Value} {h : Heap} (hk : ∀ r4 h, K r4 h → K' (.int .i64 r4) h) (hh : net_Net_N.ret K v h) : K' v h := by
  unfold net_Net_N.ret at hh
  split at hh
  · exact hk _ _ hh
  · exact hh.elim
noncomputable def net_Net_N.ctx : Ctx := { P := Tryz.prog, call := fun _ _ _ _ => False, qcall := fun _ _ _ _ => False, quiet := fun f => Nat.beq f 1000131 || Nat.beq f 1000155, loop := fun _ _ _ _ => False }
theorem net_Net_N.ok [DKc] : net_Net_N.ctx.OK where
  mixed := by kernel_rfl
  mono := fun hh _ => hh.elim
  call := fun hh => hh.elim
  qmono := fun hh _ => hh.elim
  qval := fun hh => hh.elim
  qcall := fun hh => hh.elim
noncomputable def net_Net_N.code : Code := (Tryz.f44.body).getD .skip
def net_Net_N.ann : Ann := .auto
set_option maxRecDepth 100000 in
theorem net_Net_N.eq (a1 : Option Addr) (h : Heap) (K : Int → Heap → Prop) : evF net_Net_N.ctx Tryz.f44 net_Net_N.ann [(.pointer a1)] h (net_Net_N.ret K) = net_Net_N a1 h K := by kernel_rfl
set_option maxRecDepth 100000 in
theorem net_Net_N.calls [DKc] {a1 : Option Addr} {h : Heap} {K : Int → Heap → Prop} (hh : net_Net_N a1 h K) (w : World) (hw : w.heap = h) :
    (callFunc 44 #[(.pointer a1)]).run Tryz.prog w = .ok (.enter 44 #[(.pointer a1)]) w ∧ Calls Tryz.prog 44 #[(.pointer a1)] w fun e w' => ∃ v, e = .returned v ∧ Out w w' ∧ net_Net_N.ret K v w'.heap := by
  rw [← net_Net_N.eq] at hh
  exact fn_calls (args := [(.pointer a1)]) (c := net_Net_N.code) net_Net_N.ok Tryz.func44 (by kernel_rfl) (by kernel_rfl) (by kernel_rfl) (by kernel_rfl) (loops_ok (l := []) (by kernel_rfl) trivial) hh w hw

/-! ### strait/straitref15.Check: function 75 -/
def straitref15_Check (a1 : Int) (a2 : Int) (a3 : Int) (a4 : Int) (h : Heap) (K : Int → Heap → Prop) : Prop :=
  newP h (.cells #[(.int .i64 a2), (.int .i64 a3), (.int .i64 a4)] 82) fun a5 h6 => (∃ (x7 : Int), cell h6 a5 = some (.int .i64 x7) ∧ iteB (decide (x7 < (0 : Int))) (K 4 h6) (∃ (x8 : Int), cell h6 a5 = some (.int .i64 x8) ∧ iteB (decide (x8 ≥ a1)) (K 4 h6) (∃ (x9 : Int), cell h6 (a5.add 1) = some (.int .i64 x9) ∧ iteB (decide (x9 < (0 : Int))) (K 4 h6) (∃ (x10 : Int), cell h6 (a5.add 1) = some (.int .i64 x10) ∧ (iteB (decide (x10 ≥ a1)) (K 4 h6) ((∃ (x18 : Int), cell h6 (a5.add 2) = some (.int .i64 x18) ∧ iteB (decide (x18 < (0 : Int))) (K 5 h6) (∃ (x19 : Int), cell h6 (a5.add 2) = some (.int .i64 x19) ∧ (iteB (decide (x19 > (2147483648 : Int))) (K 5 h6) (K 0 h6))))))))))
def straitref15_Check.ret (K : Int → Heap → Prop) (v : Value) (h : Heap) : Prop := match v with
  | (.int .i64 r21) => K r21 h
  | _ => False
theorem straitref15_Check.ret_elim {K : Int → Heap → Prop} {K' : Value → Heap → Prop} {v : Value} {h : Heap} (hk : ∀ r21 h, K r21 h → K' (.int .i64 r21) h) (hh : straitref15_Check.ret K v h) : K' v h := by
  unfold straitref15_Check.ret at hh
  split at hh
  · exact hk _ _ hh
  · exact hh.elim
noncomputable def straitref15_Check.ctx : Ctx := { P := Tryz.prog, call := fun _ _ _ _ => False, qcall := fun _ _ _ _ => False, quiet := fun f => Nat.beq f 1000131 || Nat.beq f 1000155, loop := fun _ _ _ _ => False }
theorem straitref15_Check.ok [DKc] : straitref15_Check.ctx.OK where
  mixed := by kernel_rfl
  mono := fun hh _ => hh.elim
  call := fun hh => hh.elim
  qmono := fun hh _ => hh.elim
  qval := fun hh => hh.elim
  qcall := fun hh => hh.elim
noncomputable def straitref15_Check.code : Code := (Tryz.f75.body).getD .skip
def straitref15_Check.ann : Ann := .auto
set_option maxRecDepth 100000 in
theorem straitref15_Check.eq (a1 : Int) (a2 : Int) (a3 : Int) (a4 : Int) (h : Heap) (K : Int → Heap → Prop) : evF straitref15_Check.ctx Tryz.f75 straitref15_Check.ann [(.int .i64 a1), (.agg #[(.int .i64 a2), (.int .i64 a3), (.int .i64 a4)])] h (straitref15_Check.ret K) = straitref15_Check a1 a2 a3 a4 h K := by kernel_rfl
set_option maxRecDepth 100000 in
theorem straitref15_Check.calls [DKc] {a1 : Int} {a2 : Int} {a3 : Int} {a4 : Int} {h : Heap} {K : Int → Heap → Prop} (hh : straitref15_Check a1 a2 a3 a4 h K) (w : World) (hw : w.heap = h) :
    (callFunc 75 #[(.int .i64 a1), (.agg #[(.int .i64 a2), (.int .i64 a3), (.int .i64 a4)])]).run Tryz.prog w = .ok (.enter 75 #[(.int .i64 a1), (.agg #[(.int .i64 a2), (.int .i64 a3), (.int .i64 a4)])]) w ∧ Calls Tryz.prog 75 #[(.int .i64 a1), (.agg #[(.int .i64 a2), (.int .i64 a3), (.int .i64 a4)])] w fun e w' => ∃ v, e = .returned v ∧ Out w w' ∧ straitref15_Check.ret K v w'.heap := by
  rw [← straitref15_Check.eq] at hh
  exact fn_calls (args := [(.int .i64 a1), (.agg #[(.int .i64 a2), (.int .i64 a3), (.int .i64 a4)])]) (c := straitref15_Check.code) straitref15_Check.ok Tryz.func75 (by kernel_rfl) (by kernel_rfl) (by kernel_rfl) (by kernel_rfl) (loops_ok (l := []) (by kernel_rfl) trivial) hh w hw

/-! ### strait/straitref15.Checks: function 42 -/
def straitref15_Checks.b0 (K0 : Heap → Prop) (K2 : Heap → Prop) (cont : Int → (Option Addr) → Nat → Nat → Addr → Int → Heap → Prop) (c0_1001 : Int) (c1_1002 : Option Addr) (c1_1003 : Nat) (c1_1004 : Nat) (c4_1005 : Addr) (v5_1006 : Int) (h1007 : Heap) : Prop :=
  (iteB (decide (v5_1006 < (c1_1003 : Int))) ((chkP c1_1002 fun a1008 => (0 ≤ v5_1006 ∧ v5_1006 < (c1_1003 : Int)) ∧ ∃ (x1009 : Int), cell h1007 (a1008.add (v5_1006.toNat * 3)) = some (.int .i64 x1009) ∧ ∃ (x1010 : Int), cell h1007 ((a1008.add (v5_1006.toNat * 3)).add 1) = some (.int .i64 x1010) ∧ ∃ (x1011 : Int), cell h1007 ((a1008.add (v5_1006.toNat * 3)).add 2) = some (.int .i64 x1011) ∧ callP1 (straitref15_Check c0_1001 x1009 x1010 x1011 h1007) fun x1012 h1013 => ((iteB (x1012 != (0 : Int)) (stC h1013 c4_1005 (.int .i64 x1012) fun h1014 => stC h1014 (c4_1005.add 1) (.int .i64 v5_1006) fun h1015 => K0 h1015) (((cont c0_1001 c1_1002 c1_1003 c1_1004 c4_1005 (IntKind.i64.wrap (v5_1006 + 1)) h1013))))))) (K2 h1007))
def straitref15_Checks.l0 (K0 : Heap → Prop) (K2 : Heap → Prop) : Nat → Int → (Option Addr) → Nat → Nat → Addr → Int → Heap → Prop
  | 0, _, _, _, _, _, _, _ => False
  | m + 1, c0_1001, c1_1002, c1_1003, c1_1004, c4_1005, v5_1006, h => straitref15_Checks.b0 K0 K2 (straitref15_Checks.l0 K0 K2 m) c0_1001 c1_1002 c1_1003 c1_1004 c4_1005 v5_1006 h
def straitref15_Checks (a1 : Int) (a2 : Option Addr) (a2l : Nat) (a2c : Nat) (h : Heap) (K : Int → Int → Heap → Prop) : Prop :=
  newP h (.cells #[(.int .i64 0), (.int .i64 0)] 95) fun a3 h4 => ((∃ m9, straitref15_Checks.l0 (fun h5 => ∃ (x6 : Int), cell h5 a3 = some (.int .i64 x6) ∧ ∃ (x7 : Int), cell h5 (a3.add 1) = some (.int .i64 x7) ∧ K x6 x7 h5) (fun h8 => ((stC h8 a3 (.int .i64 0) fun h10 => stC h10 (a3.add 1) (.int .i64 0) fun h11 => (∃ (x12 : Int), cell h11 a3 = some (.int .i64 x12) ∧ ∃ (x13 : Int), cell h11 (a3.add 1) = some (.int .i64 x13) ∧ K x12 x13 h11)))) m9 a1 a2 a2l a2c a3 0 h4))
def straitref15_Checks.ret (K : Int → Int → Heap → Prop) (v : Value) (h : Heap) : Prop := match v with
  | (.agg ⟨[(.int .i64 r14), (.int .i64 r15)]⟩) => K r14 r15 h
  | _ => False
theorem straitref15_Checks.ret_elim {K : Int → Int → Heap → Prop} {K' : Value → Heap → Prop} {v : Value} {h : Heap} (hk : ∀ r14 r15 h, K r14 r15 h → K' (.agg #[(.int .i64 r14), (.int .i64 r15)]) h) (hh : straitref15_Checks.ret K v h) : K' v h := by
  unfold straitref15_Checks.ret at hh
  split at hh
  · exact hk _ _ _ hh
  · exact hh.elim
def straitref15_Checks.call (f : FuncId) (vs : List Value) (h : Heap) (K : Value → Heap → Prop) : Prop := match f, vs with
  | 75, [(.int .i64 a1), (.agg ⟨[(.int .i64 a2), (.int .i64 a3), (.int .i64 a4)]⟩)] => callP1 (straitref15_Check a1 a2 a3 a4 h) fun r21 h' => K (.int .i64 r21) h'
  | _, _ => False
def straitref15_Checks.r0 (K : Nat → List Value → Heap → Prop) (m : Nat) (vs : List Value) (h : Heap) : Prop := match vs with
  | [(.int .i64 c0_1001), (.slice c1_1002 c1_1003 c1_1004), (.pointer (some c4_1005)), (.int .i64 v5_1006)] => straitref15_Checks.l0 (fun h' => K 0 [(.pointer (some c4_1005))] h') (fun h' => K 2 [(.pointer (some c4_1005))] h') m c0_1001 c1_1002 c1_1003 c1_1004 c4_1005 v5_1006 h
  | _ => False
def straitref15_Checks.loop (i : Nat) (vs : List Value) (h : Heap) (K : Nat → List Value → Heap → Prop) : Prop := match i with
  | 0 => ∃ m, straitref15_Checks.r0 K m vs h
  | _ => False
noncomputable def straitref15_Checks.ctx : Ctx := { P := Tryz.prog, call := straitref15_Checks.call, qcall := fun _ _ _ _ => False, quiet := fun f => Nat.beq f 1000131 || Nat.beq f 1000155, loop := straitref15_Checks.loop }
theorem straitref15_Checks.ok [DKc] : straitref15_Checks.ctx.OK where
  mixed := by kernel_rfl
  mono := by
    intro f args h K K' hh hk
    change straitref15_Checks.call f args h K at hh
    change straitref15_Checks.call f args h K'
    unfold straitref15_Checks.call at hh ⊢
    split at hh
    · obtain ⟨R, h1, h2⟩ := hh
      exact ⟨R, h1, fun _ x hr => hk _ _ (h2 _ x hr)⟩
    · exact hh.elim
  call := by
    intro f args h K hh w hw
    change straitref15_Checks.call f args h K at hh
    unfold straitref15_Checks.call at hh
    split at hh
    · obtain ⟨R, h1, h2⟩ := hh
      obtain ⟨g1, g2⟩ := straitref15_Check.calls h1 w hw
      exact ⟨g1, g2.mono fun e w' ⟨v, he, ho, hr⟩ => ⟨v, he, ho, straitref15_Check.ret_elim h2 hr⟩⟩
    · exact hh.elim
  qmono := fun hh _ => hh.elim
  qval := fun hh => hh.elim
  qcall := fun hh => hh.elim
noncomputable def straitref15_Checks.code : Code := (Tryz.f42.body).getD .skip
def straitref15_Checks.ann : Ann := (.two .auto (.two (.two .auto (.two (.loop 0 [0, 1, 4, 5] [(2, [4]), (0, [4])] .auto) .auto)) .auto))
noncomputable def straitref15_Checks.c0 : Code := sub straitref15_Checks.code [1, 0, 1, 0, 0]
def straitref15_Checks.a0 : Ann := .auto
def straitref15_Checks.keep0 : List Nat := [0, 1, 4, 5]
def straitref15_Checks.outs0 : List (Nat × List Nat) := [(2, [4]), (0, [4])]
set_option maxRecDepth 100000 in
theorem straitref15_Checks.L0 [DKc] : LoopOK straitref15_Checks.ctx 25 straitref15_Checks.c0 0 straitref15_Checks.keep0 straitref15_Checks.outs0 := by
  refine loop_ok (n := straitref15_Checks.a0) straitref15_Checks.ok (by kernel_rfl) (loops_ok (l := []) (by kernel_rfl) ?_) straitref15_Checks.r0 ?_ ?_ (fun vs h K hh => hh)
  · exact trivial
  · intro K vs h hh
    unfold straitref15_Checks.r0 at hh
    split at hh
    · exact hh
    · exact hh
  · intro K m vs h hh
    unfold straitref15_Checks.r0 at hh
    split at hh
    · exact cast (by kernel_rfl) hh
    · exact hh.elim
set_option maxRecDepth 100000 in
theorem straitref15_Checks.eq (a1 : Int) (a2 : Option Addr) (a2l : Nat) (a2c : Nat) (h : Heap) (K : Int → Int → Heap → Prop) : evF straitref15_Checks.ctx Tryz.f42 straitref15_Checks.ann [(.int .i64 a1), (.slice a2 a2l a2c)] h (straitref15_Checks.ret K) = straitref15_Checks a1 a2 a2l a2c h K := by kernel_rfl
set_option maxRecDepth 100000 in
theorem straitref15_Checks.calls [DKc] {a1 : Int} {a2 : Option Addr} {a2l : Nat} {a2c : Nat} {h : Heap} {K : Int → Int → Heap → Prop} (hh : straitref15_Checks a1 a2 a2l a2c h K) (w : World) (hw : w.heap = h) :
    (callFunc 42 #[(.int .i64 a1), (.slice a2 a2l a2c)]).run Tryz.prog w = .ok (.enter 42 #[(.int .i64 a1), (.slice a2 a2l a2c)]) w ∧ Calls Tryz.prog 42 #[(.int .i64 a1), (.slice a2 a2l a2c)] w fun e w' => ∃ v, e = .returned v ∧ Out w w' ∧ straitref15_Checks.ret K v w'.heap := by
  rw [← straitref15_Checks.eq] at hh
  exact fn_calls (args := [(.int .i64 a1), (.slice a2 a2l a2c)]) (c := straitref15_Checks.code) straitref15_Checks.ok Tryz.func42 (by kernel_rfl) (by kernel_rfl) (by kernel_rfl) (by kernel_rfl) (loops_ok (l := [(straitref15_Checks.c0, none, 0, straitref15_Checks.keep0, straitref15_Checks.outs0)]) (by kernel_rfl) ⟨straitref15_Checks.L0, trivial⟩) hh w hw

/-! ### strait/straitref15.Normal: function 77 -/
def straitref15_Normal (a1 : Int) (a2 : Int) (a3 : Int) (h : Heap) (K : Int → Int → Int → Heap → Prop) : Prop :=
  newP h (.cells #[(.int .i64 a1), (.int .i64 a2), (.int .i64 a3)] 82) fun a4 h5 => newP h5 (.cells #[(.int .i64 0), (.int .i64 0), (.int .i64 0)] 82) fun a6 h7 => (∃ (x8 : Int), cell h7 a4 = some (.int .i64 x8) ∧ ∃ (x9 : Int), cell h7 (a4.add 1) = some (.int .i64 x9) ∧ (iteB (decide (x8 > x9)) (∃ (x10 : Int), cell h7 (a4.add 1) = some (.int .i64 x10) ∧ ∃ (x11 : Int), cell h7 a4 = some (.int .i64 x11) ∧ ∃ (x12 : Int), cell h7 (a4.add 2) = some (.int .i64 x12) ∧ stC h7 a6 (.int .i64 x10) fun h13 => stC h13 (a6.add 1) (.int .i64 x11) fun h14 => stC h14 (a6.add 2) (.int .i64 x12) fun h15 => (∃ (x16 : Int), cell h15 a6 = some (.int .i64 x16) ∧ ∃ (x17 : Int), cell h15 (a6.add 1) = some (.int .i64 x17) ∧ ∃ (x18 : Int), cell h15 (a6.add 2) = some (.int .i64 x18) ∧ K x16 x17 x18 h15)) ((∃ (x19 : Int), cell h7 a4 = some (.int .i64 x19) ∧ ∃ (x20 : Int), cell h7 (a4.add 1) = some (.int .i64 x20) ∧ ∃ (x21 : Int), cell h7 (a4.add 2) = some (.int .i64 x21) ∧ stC h7 a6 (.int .i64 x19) fun h22 => stC h22 (a6.add 1) (.int .i64 x20) fun h23 => stC h23 (a6.add 2) (.int .i64 x21) fun h24 => (∃ (x25 : Int), cell h24 a6 = some (.int .i64 x25) ∧ ∃ (x26 : Int), cell h24 (a6.add 1) = some (.int .i64 x26) ∧ ∃ (x27 : Int), cell h24 (a6.add 2) = some (.int .i64 x27) ∧ K x25 x26 x27 h24)))))
def straitref15_Normal.ret (K : Int → Int → Int → Heap → Prop) (v : Value) (h : Heap) : Prop := match v with
  | (.agg ⟨[(.int .i64 r28), (.int .i64 r29), (.int .i64 r30)]⟩) => K r28 r29 r30 h
  | _ => False
theorem straitref15_Normal.ret_elim {K : Int → Int → Int → Heap → Prop} {K' : Value → Heap → Prop} {v : Value} {h : Heap} (hk : ∀ r28 r29 r30 h, K r28 r29 r30 h → K' (.agg #[(.int .i64 r28), (.int .i64 r29), (.int .i64 r30)]) h) (hh : straitref15_Normal.ret K v h) : K' v h := by
  unfold straitref15_Normal.ret at hh
  split at hh
  · exact hk _ _ _ _ hh
  · exact hh.elim
noncomputable def straitref15_Normal.ctx : Ctx := { P := Tryz.prog, call := fun _ _ _ _ => False, qcall := fun _ _ _ _ => False, quiet := fun f => Nat.beq f 1000131 || Nat.beq f 1000155, loop := fun _ _ _ _ => False }
theorem straitref15_Normal.ok [DKc] : straitref15_Normal.ctx.OK where
  mixed := by kernel_rfl
  mono := fun hh _ => hh.elim
  call := fun hh => hh.elim
  qmono := fun hh _ => hh.elim
  qval := fun hh => hh.elim
  qcall := fun hh => hh.elim
noncomputable def straitref15_Normal.code : Code := (Tryz.f77.body).getD .skip
def straitref15_Normal.ann : Ann := .auto
set_option maxRecDepth 100000 in
theorem straitref15_Normal.eq (a1 : Int) (a2 : Int) (a3 : Int) (h : Heap) (K : Int → Int → Int → Heap → Prop) : evF straitref15_Normal.ctx Tryz.f77 straitref15_Normal.ann [(.agg #[(.int .i64 a1), (.int .i64 a2), (.int .i64 a3)])] h (straitref15_Normal.ret K) = straitref15_Normal a1 a2 a3 h K := by kernel_rfl
set_option maxRecDepth 100000 in
theorem straitref15_Normal.calls [DKc] {a1 : Int} {a2 : Int} {a3 : Int} {h : Heap} {K : Int → Int → Int → Heap → Prop} (hh : straitref15_Normal a1 a2 a3 h K) (w : World) (hw : w.heap = h) :
    (callFunc 77 #[(.agg #[(.int .i64 a1), (.int .i64 a2), (.int .i64 a3)])]).run Tryz.prog w = .ok (.enter 77 #[(.agg #[(.int .i64 a1), (.int .i64 a2), (.int .i64 a3)])]) w ∧ Calls Tryz.prog 77 #[(.agg #[(.int .i64 a1), (.int .i64 a2), (.int .i64 a3)])] w fun e w' => ∃ v, e = .returned v ∧ Out w w' ∧ straitref15_Normal.ret K v w'.heap := by
  rw [← straitref15_Normal.eq] at hh
  exact fn_calls (args := [(.agg #[(.int .i64 a1), (.int .i64 a2), (.int .i64 a3)])]) (c := straitref15_Normal.code) straitref15_Normal.ok Tryz.func77 (by kernel_rfl) (by kernel_rfl) (by kernel_rfl) (by kernel_rfl) (loops_ok (l := []) (by kernel_rfl) trivial) hh w hw

/-! ### strait/straitref01.Add: function 111 -/
def straitref01_Add (a1 : Int) (a2 : Int) (h : Heap) (K : Int → Bool → Heap → Prop) : Prop :=
  newP h (.cells #[(.int .i64 0), (.bool false)] 184) fun a3 h4 => ((let j11 := (fun (y5 : Int) (y6 : Bool) => iteB y6 (stC h4 a3 (.int .i64 0) fun h7 => stC h7 (a3.add 1) (.bool false) fun h8 => (∃ (x9 : Int), cell h8 a3 = some (.int .i64 x9) ∧ ∃ (x10 : Bool), cell h8 (a3.add 1) = some (.bool x10) ∧ K x9 x10 h8)) ((stC h4 a3 (.int .i64 y5) fun h12 => stC h12 (a3.add 1) (.bool true) fun h13 => (∃ (x14 : Int), cell h13 a3 = some (.int .i64 x14) ∧ ∃ (x15 : Bool), cell h13 (a3.add 1) = some (.bool x15) ∧ K x14 x15 h13))));
  iteB (decide (a2 ≥ (0 : Int))) (iteB (decide ((IntKind.i64.wrap (a1 + a2)) < a1)) ((j11 (IntKind.i64.wrap (a1 + a2)) true)) (iteB (decide (a2 < (0 : Int))) ((j11 (IntKind.i64.wrap (a1 + a2)) (decide ((IntKind.i64.wrap (a1 + a2)) > a1)))) ((j11 (IntKind.i64.wrap (a1 + a2)) false)))) (iteB (decide (a2 < (0 : Int))) ((j11 (IntKind.i64.wrap (a1 + a2)) (decide ((IntKind.i64.wrap (a1 + a2)) > a1)))) ((j11 (IntKind.i64.wrap (a1 + a2)) false)))))
def straitref01_Add.ret (K : Int → Bool → Heap → Prop) (v : Value) (h : Heap) : Prop := match v with
  | (.agg ⟨[(.int .i64 r16), (.bool r17)]⟩) => K r16 r17 h
  | _ => False
theorem straitref01_Add.ret_elim {K : Int → Bool → Heap → Prop} {K' : Value → Heap → Prop} {v : Value} {h : Heap} (hk : ∀ r16 r17 h, K r16 r17 h → K' (.agg #[(.int .i64 r16), (.bool r17)]) h) (hh : straitref01_Add.ret K v h) : K' v h := by
  unfold straitref01_Add.ret at hh
  split at hh
  · exact hk _ _ _ hh
  · exact hh.elim
noncomputable def straitref01_Add.ctx : Ctx := { P := Tryz.prog, call := fun _ _ _ _ => False, qcall := fun _ _ _ _ => False, quiet := fun f => Nat.beq f 1000131 || Nat.beq f 1000155, loop := fun _ _ _ _ => False }
theorem straitref01_Add.ok [DKc] : straitref01_Add.ctx.OK where
  mixed := by kernel_rfl
  mono := fun hh _ => hh.elim
  call := fun hh => hh.elim
  qmono := fun hh _ => hh.elim
  qval := fun hh => hh.elim
  qcall := fun hh => hh.elim
noncomputable def straitref01_Add.code : Code := (Tryz.f111.body).getD .skip
def straitref01_Add.ann : Ann := .auto
set_option maxRecDepth 100000 in
theorem straitref01_Add.eq (a1 : Int) (a2 : Int) (h : Heap) (K : Int → Bool → Heap → Prop) : evF straitref01_Add.ctx Tryz.f111 straitref01_Add.ann [(.int .i64 a1), (.int .i64 a2)] h (straitref01_Add.ret K) = straitref01_Add a1 a2 h K := by kernel_rfl
set_option maxRecDepth 100000 in
theorem straitref01_Add.calls [DKc] {a1 : Int} {a2 : Int} {h : Heap} {K : Int → Bool → Heap → Prop} (hh : straitref01_Add a1 a2 h K) (w : World) (hw : w.heap = h) :
    (callFunc 111 #[(.int .i64 a1), (.int .i64 a2)]).run Tryz.prog w = .ok (.enter 111 #[(.int .i64 a1), (.int .i64 a2)]) w ∧ Calls Tryz.prog 111 #[(.int .i64 a1), (.int .i64 a2)] w fun e w' => ∃ v, e = .returned v ∧ Out w w' ∧ straitref01_Add.ret K v w'.heap := by
  rw [← straitref01_Add.eq] at hh
  exact fn_calls (args := [(.int .i64 a1), (.int .i64 a2)]) (c := straitref01_Add.code) straitref01_Add.ok Tryz.func111 (by kernel_rfl) (by kernel_rfl) (by kernel_rfl) (by kernel_rfl) (loops_ok (l := []) (by kernel_rfl) trivial) hh w hw

/-! ### strait/straitref15.add: function 76 -/
def straitref15_add.b0 (K0 : Heap → Prop) (K2 : (Option Addr) → Nat → Nat → Bool → Heap → Prop) (cont : (Option Addr) → Nat → Nat → Addr → Addr → (Option Addr) → Nat → Nat → Bool → Int → Heap → Prop) (c0_1001 : Option Addr) (c0_1002 : Nat) (c0_1003 : Nat) (c3_1004 : Addr) (c4_1005 : Addr) (v5_1006 : Option Addr) (v5_1006l : Nat) (v5_1006c : Nat) (v6_1007 : Bool) (v7_1008 : Int) (h1009 : Heap) : Prop :=
  (iteB (decide (v7_1008 < (c0_1002 : Int))) ((chkP c0_1001 fun a1010 => (0 ≤ v7_1008 ∧ v7_1008 < (c0_1002 : Int)) ∧ ∃ (x1011 : Int), cell h1009 (a1010.add (v7_1008.toNat * 3)) = some (.int .i64 x1011) ∧ ∃ (x1012 : Int), cell h1009 ((a1010.add (v7_1008.toNat * 3)).add 1) = some (.int .i64 x1012) ∧ ∃ (x1013 : Int), cell h1009 ((a1010.add (v7_1008.toNat * 3)).add 2) = some (.int .i64 x1013) ∧ newP h1009 (.cells #[(.int .i64 0), (.int .i64 0), (.int .i64 0)] 82) fun a1014 h1015 => stC h1015 a1014 (.int .i64 x1011) fun h1016 => stC h1016 (a1014.add 1) (.int .i64 x1012) fun h1017 => stC h1017 (a1014.add 2) (.int .i64 x1013) fun h1018 => (let j1070 := (fun (y1057 : Option Addr) (y1057l : Nat) (y1057c : Nat) (y1058 : Bool) (h1059 : Heap) => ∃ (x1060 : Int), cell h1059 a1014 = some (.int .i64 x1060) ∧ ∃ (x1061 : Int), cell h1059 (a1014.add 1) = some (.int .i64 x1061) ∧ ∃ (x1062 : Int), cell h1059 (a1014.add 2) = some (.int .i64 x1062) ∧ newP h1059 (.cells #[(.int .i64 x1060), (.int .i64 x1061), (.int .i64 x1062)] 82) fun a1063 h1064 => ∃ n1069, cellsAt h1064 (some a1063) (1 * 3) n1069 ∧ appP 82 3 24 [(.int .i64 0), (.int .i64 0), (.int .i64 0)] y1057 y1057l y1057c 1 n1069 h1064 fun q1065 l1066 c1067 h1068 => ((cont c0_1001 c0_1002 c0_1003 c3_1004 c4_1005 q1065 l1066 c1067 y1058 (IntKind.i64.wrap (v7_1008 + 1)) h1068)));
  let j1056 := (fun (y1023 : Bool) => iteB y1023 (∃ (x1024 : Int), cell h1018 (a1014.add 2) = some (.int .i64 x1024) ∧ ∃ (x1025 : Int), cell h1018 (c3_1004.add 2) = some (.int .i64 x1025) ∧ callP2 (straitref01_Add x1024 x1025 h1018) fun x1026 x1027 h1028 => newP h1028 (.cells #[(.int .i64 0), (.bool false)] 184) fun a1029 h1030 => stC h1030 a1029 (.int .i64 x1026) fun h1031 => stC h1031 (a1029.add 1) (.bool x1027) fun h1032 => (∃ (x1033 : Bool), cell h1032 (a1029.add 1) = some (.bool x1033) ∧ (iteB (!x1033) (stC h1032 c4_1005 (.slice none 0 0) fun h1034 => stC h1034 (c4_1005.add 1) (.bool false) fun h1035 => K0 h1035) ((∃ (x1036 : Int), cell h1032 a1029 = some (.int .i64 x1036) ∧ stC h1032 (a1014.add 2) (.int .i64 x1036) fun h1037 => ((j1070 v5_1006 v5_1006l v5_1006c true h1037))))))) (let j1055 := (fun (y1044 : Bool) => iteB y1044 (∃ (x1045 : Int), cell h1018 c3_1004 = some (.int .i64 x1045) ∧ ∃ (x1046 : Int), cell h1018 (c3_1004.add 1) = some (.int .i64 x1046) ∧ ∃ (x1047 : Int), cell h1018 (c3_1004.add 2) = some (.int .i64 x1047) ∧ newP h1018 (.cells #[(.int .i64 x1045), (.int .i64 x1046), (.int .i64 x1047)] 82) fun a1048 h1049 => ∃ n1054, cellsAt h1049 (some a1048) (1 * 3) n1054 ∧ appP 82 3 24 [(.int .i64 0), (.int .i64 0), (.int .i64 0)] v5_1006 v5_1006l v5_1006c 1 n1054 h1049 fun q1050 l1051 c1052 h1053 => ((j1070 q1050 l1051 c1052 true h1053))) ((j1070 v5_1006 v5_1006l v5_1006c v6_1007 h1018)));
  iteB (!v6_1007) (∃ (x1038 : Int), cell h1018 a1014 = some (.int .i64 x1038) ∧ ∃ (x1039 : Int), cell h1018 c3_1004 = some (.int .i64 x1039) ∧ iteB (decide (x1038 > x1039)) ((j1055 true)) (∃ (x1040 : Int), cell h1018 a1014 = some (.int .i64 x1040) ∧ ∃ (x1041 : Int), cell h1018 c3_1004 = some (.int .i64 x1041) ∧ iteB (x1040 == x1041) (∃ (x1042 : Int), cell h1018 (a1014.add 1) = some (.int .i64 x1042) ∧ ∃ (x1043 : Int), cell h1018 (c3_1004.add 1) = some (.int .i64 x1043) ∧ (j1055 (decide (x1042 > x1043)))) ((j1055 false)))) ((j1055 false))));
  ∃ (x1019 : Int), cell h1018 a1014 = some (.int .i64 x1019) ∧ ∃ (x1020 : Int), cell h1018 c3_1004 = some (.int .i64 x1020) ∧ iteB (x1019 == x1020) (∃ (x1021 : Int), cell h1018 (a1014.add 1) = some (.int .i64 x1021) ∧ ∃ (x1022 : Int), cell h1018 (c3_1004.add 1) = some (.int .i64 x1022) ∧ (j1056 (x1021 == x1022))) ((j1056 false))))) (K2 v5_1006 v5_1006l v5_1006c v6_1007 h1009))
def straitref15_add.l0 (K0 : Heap → Prop) (K2 : (Option Addr) → Nat → Nat → Bool → Heap → Prop) : Nat → (Option Addr) → Nat → Nat → Addr → Addr → (Option Addr) → Nat → Nat → Bool → Int → Heap → Prop
  | 0, _, _, _, _, _, _, _, _, _, _, _ => False
  | m + 1, c0_1001, c0_1002, c0_1003, c3_1004, c4_1005, v5_1006, v5_1006l, v5_1006c, v6_1007, v7_1008, h => straitref15_add.b0 K0 K2 (straitref15_add.l0 K0 K2 m) c0_1001 c0_1002 c0_1003 c3_1004 c4_1005 v5_1006 v5_1006l v5_1006c v6_1007 v7_1008 h
def straitref15_add (a1 : Option Addr) (a1l : Nat) (a1c : Nat) (a2 : Int) (a3 : Int) (a4 : Int) (h : Heap) (K : (Option Addr) → Nat → Nat → Bool → Heap → Prop) : Prop :=
  newP h (.cells #[(.int .i64 a2), (.int .i64 a3), (.int .i64 a4)] 82) fun a5 h6 => newP h6 (.cells #[(.slice none 0 0), (.bool false)] 38) fun a7 h8 => ((((∃ m15, straitref15_add.l0 (fun h9 => ∃ (x10 : Option Addr) (x10l : Nat) (x10c : Nat), cell h9 a7 = some (.slice x10 x10l x10c) ∧ ∃ (x11 : Bool), cell h9 (a7.add 1) = some (.bool x11) ∧ K x10 x10l x10c x11 h9) (fun z12 z12l z12c z13 h14 => (((iteB (!z13) (∃ (x16 : Int), cell h14 a5 = some (.int .i64 x16) ∧ ∃ (x17 : Int), cell h14 (a5.add 1) = some (.int .i64 x17) ∧ ∃ (x18 : Int), cell h14 (a5.add 2) = some (.int .i64 x18) ∧ newP h14 (.cells #[(.int .i64 x16), (.int .i64 x17), (.int .i64 x18)] 82) fun a19 h20 => ∃ n25, cellsAt h20 (some a19) (1 * 3) n25 ∧ appP 82 3 24 [(.int .i64 0), (.int .i64 0), (.int .i64 0)] z12 z12l z12c 1 n25 h20 fun q21 l22 c23 h24 => (stC h24 a7 (.slice q21 l22 c23) fun h32 => stC h32 (a7.add 1) (.bool true) fun h33 => (∃ (x34 : Option Addr) (x34l : Nat) (x34c : Nat), cell h33 a7 = some (.slice x34 x34l x34c) ∧ ∃ (x35 : Bool), cell h33 (a7.add 1) = some (.bool x35) ∧ K x34 x34l x34c x35 h33))) ((stC h14 a7 (.slice z12 z12l z12c) fun h36 => stC h36 (a7.add 1) (.bool true) fun h37 => (∃ (x38 : Option Addr) (x38l : Nat) (x38c : Nat), cell h37 a7 = some (.slice x38 x38l x38c) ∧ ∃ (x39 : Bool), cell h37 (a7.add 1) = some (.bool x39) ∧ K x38 x38l x38c x39 h37))))))) m15 a1 a1l a1c a5 a7 none 0 0 false 0 h8))))
def straitref15_add.ret (K : (Option Addr) → Nat → Nat → Bool → Heap → Prop) (v : Value) (h : Heap) : Prop := match v with
  | (.agg ⟨[(.slice r40 r40l r40c), (.bool r41)]⟩) => K r40 r40l r40c r41 h
  | _ => False
theorem straitref15_add.ret_elim {K : (Option Addr) → Nat → Nat → Bool → Heap → Prop} {K' : Value → Heap → Prop} {v : Value} {h : Heap} (hk : ∀ r40 r40l r40c r41 h, K r40 r40l r40c r41 h → K' (.agg #[(.slice r40 r40l r40c), (.bool r41)]) h) (hh : straitref15_add.ret K v h) : K' v h := by
  unfold straitref15_add.ret at hh
  split at hh
  · exact hk _ _ _ _ _ hh
  · exact hh.elim
def straitref15_add.call (f : FuncId) (vs : List Value) (h : Heap) (K : Value → Heap → Prop) : Prop := match f, vs with
  | 111, [(.int .i64 a1), (.int .i64 a2)] => callP2 (straitref01_Add a1 a2 h) fun r16 r17 h' => K (.agg #[(.int .i64 r16), (.bool r17)]) h'
  | _, _ => False
def straitref15_add.r0 (K : Nat → List Value → Heap → Prop) (m : Nat) (vs : List Value) (h : Heap) : Prop := match vs with
  | [(.slice c0_1001 c0_1002 c0_1003), (.pointer (some c3_1004)), (.pointer (some c4_1005)), (.slice v5_1006 v5_1006l v5_1006c), (.bool v6_1007), (.int .i64 v7_1008)] => straitref15_add.l0 (fun h' => K 0 [(.pointer (some c4_1005))] h') (fun z42 z42l z42c z43 h' => K 2 [(.pointer (some c3_1004)), (.pointer (some c4_1005)), (.slice z42 z42l z42c), (.bool z43)] h') m c0_1001 c0_1002 c0_1003 c3_1004 c4_1005 v5_1006 v5_1006l v5_1006c v6_1007 v7_1008 h
  | _ => False
def straitref15_add.loop (i : Nat) (vs : List Value) (h : Heap) (K : Nat → List Value → Heap → Prop) : Prop := match i with
  | 0 => ∃ m, straitref15_add.r0 K m vs h
  | _ => False
noncomputable def straitref15_add.ctx : Ctx := { P := Tryz.prog, call := straitref15_add.call, qcall := fun _ _ _ _ => False, quiet := fun f => Nat.beq f 1000131 || Nat.beq f 1000155, loop := straitref15_add.loop }
theorem straitref15_add.ok [DKc] : straitref15_add.ctx.OK where
  mixed := by kernel_rfl
  mono := by
    intro f args h K K' hh hk
    change straitref15_add.call f args h K at hh
    change straitref15_add.call f args h K'
    unfold straitref15_add.call at hh ⊢
    split at hh
    · obtain ⟨R, h1, h2⟩ := hh
      exact ⟨R, h1, fun _ _ x hr => hk _ _ (h2 _ _ x hr)⟩
    · exact hh.elim
  call := by
    intro f args h K hh w hw
    change straitref15_add.call f args h K at hh
    unfold straitref15_add.call at hh
    split at hh
    · obtain ⟨R, h1, h2⟩ := hh
      obtain ⟨g1, g2⟩ := straitref01_Add.calls h1 w hw
      exact ⟨g1, g2.mono fun e w' ⟨v, he, ho, hr⟩ => ⟨v, he, ho, straitref01_Add.ret_elim h2 hr⟩⟩
    · exact hh.elim
  qmono := fun hh _ => hh.elim
  qval := fun hh => hh.elim
  qcall := fun hh => hh.elim
noncomputable def straitref15_add.code : Code := (Tryz.f76.body).getD .skip
def straitref15_add.ann : Ann := (.two .auto (.two .auto (.two .auto (.two (.two .auto (.two (.loop 0 [0, 3, 4, 5, 6, 7] [(2, [3, 4, 5, 6]), (0, [4])] .auto) .auto)) .auto))))
noncomputable def straitref15_add.c0 : Code := sub straitref15_add.code [1, 1, 1, 0, 1, 0, 0]
def straitref15_add.a0 : Ann := .auto
def straitref15_add.keep0 : List Nat := [0, 3, 4, 5, 6, 7]
def straitref15_add.outs0 : List (Nat × List Nat) := [(2, [3, 4, 5, 6]), (0, [4])]
set_option maxRecDepth 100000 in
theorem straitref15_add.L0 [DKc] : LoopOK straitref15_add.ctx 83 straitref15_add.c0 0 straitref15_add.keep0 straitref15_add.outs0 := by
  refine loop_ok (n := straitref15_add.a0) straitref15_add.ok (by kernel_rfl) (loops_ok (l := []) (by kernel_rfl) ?_) straitref15_add.r0 ?_ ?_ (fun vs h K hh => hh)
  · exact trivial
  · intro K vs h hh
    unfold straitref15_add.r0 at hh
    split at hh
    · exact hh
    · exact hh
  · intro K m vs h hh
    unfold straitref15_add.r0 at hh
    split at hh
    · exact cast (by kernel_rfl) hh
    · exact hh.elim
set_option maxRecDepth 100000 in
theorem straitref15_add.eq (a1 : Option Addr) (a1l : Nat) (a1c : Nat) (a2 : Int) (a3 : Int) (a4 : Int) (h : Heap) (K : (Option Addr) → Nat → Nat → Bool → Heap → Prop) : evF straitref15_add.ctx Tryz.f76 straitref15_add.ann [(.slice a1 a1l a1c), (.agg #[(.int .i64 a2), (.int .i64 a3), (.int .i64 a4)])] h (straitref15_add.ret K) = straitref15_add a1 a1l a1c a2 a3 a4 h K := by kernel_rfl
set_option maxRecDepth 100000 in
theorem straitref15_add.calls [DKc] {a1 : Option Addr} {a1l : Nat} {a1c : Nat} {a2 : Int} {a3 : Int} {a4 : Int} {h : Heap} {K : (Option Addr) → Nat → Nat → Bool → Heap → Prop} (hh : straitref15_add a1 a1l a1c a2 a3 a4 h K) (w : World) (hw : w.heap = h) :
    (callFunc 76 #[(.slice a1 a1l a1c), (.agg #[(.int .i64 a2), (.int .i64 a3), (.int .i64 a4)])]).run Tryz.prog w = .ok (.enter 76 #[(.slice a1 a1l a1c), (.agg #[(.int .i64 a2), (.int .i64 a3), (.int .i64 a4)])]) w ∧ Calls Tryz.prog 76 #[(.slice a1 a1l a1c), (.agg #[(.int .i64 a2), (.int .i64 a3), (.int .i64 a4)])] w fun e w' => ∃ v, e = .returned v ∧ Out w w' ∧ straitref15_add.ret K v w'.heap := by
  rw [← straitref15_add.eq] at hh
  exact fn_calls (args := [(.slice a1 a1l a1c), (.agg #[(.int .i64 a2), (.int .i64 a3), (.int .i64 a4)])]) (c := straitref15_add.code) straitref15_add.ok Tryz.func76 (by kernel_rfl) (by kernel_rfl) (by kernel_rfl) (by kernel_rfl) (loops_ok (l := [(straitref15_add.c0, none, 0, straitref15_add.keep0, straitref15_add.outs0)]) (by kernel_rfl) ⟨straitref15_add.L0, trivial⟩) hh w hw

/-! ### strait/straitref15.Merge: function 43 -/
def straitref15_Merge.b1 (K4 : (Option Addr) → Nat → Nat → Heap → Prop) (cont : Addr → (Option Addr) → Nat → Nat → (Option Addr) → Nat → Nat → Int → Heap → Prop) (c2_2001 : Addr) (c3_2002 : Option Addr) (c3_2003 : Nat) (c3_2004 : Nat) (v6_2005 : Option Addr) (v6_2005l : Nat) (v6_2005c : Nat) (v7_2006 : Int) (h2007 : Heap) : Prop :=
  (iteB (decide (v7_2006 < (c3_2003 : Int))) ((chkP c3_2002 fun a2008 => (0 ≤ v7_2006 ∧ v7_2006 < (c3_2003 : Int)) ∧ ∃ (x2009 : Int), cell h2007 ((a2008.add (v7_2006.toNat * 3)).add 2) = some (.int .i64 x2009) ∧ (iteB (x2009 != (0 : Int)) (chkP c3_2002 fun a2010 => (0 ≤ v7_2006 ∧ v7_2006 < (c3_2003 : Int)) ∧ ∃ (x2011 : Int), cell h2007 (a2010.add (v7_2006.toNat * 3)) = some (.int .i64 x2011) ∧ ∃ (x2012 : Int), cell h2007 ((a2010.add (v7_2006.toNat * 3)).add 1) = some (.int .i64 x2012) ∧ ∃ (x2013 : Int), cell h2007 ((a2010.add (v7_2006.toNat * 3)).add 2) = some (.int .i64 x2013) ∧ newP h2007 (.cells #[(.int .i64 x2011), (.int .i64 x2012), (.int .i64 x2013)] 82) fun a2014 h2015 => ∃ n2020, cellsAt h2015 (some a2014) (1 * 3) n2020 ∧ appP 82 3 24 [(.int .i64 0), (.int .i64 0), (.int .i64 0)] v6_2005 v6_2005l v6_2005c 1 n2020 h2015 fun q2016 l2017 c2018 h2019 => ((cont c2_2001 c3_2002 c3_2003 c3_2004 q2016 l2017 c2018 (IntKind.i64.wrap (v7_2006 + 1)) h2019))) (((cont c2_2001 c3_2002 c3_2003 c3_2004 v6_2005 v6_2005l v6_2005c (IntKind.i64.wrap (v7_2006 + 1)) h2007)))))) (K4 v6_2005 v6_2005l v6_2005c h2007))
def straitref15_Merge.l1 (K4 : (Option Addr) → Nat → Nat → Heap → Prop) : Nat → Addr → (Option Addr) → Nat → Nat → (Option Addr) → Nat → Nat → Int → Heap → Prop
  | 0, _, _, _, _, _, _, _, _, _ => False
  | m + 1, c2_2001, c3_2002, c3_2003, c3_2004, v6_2005, v6_2005l, v6_2005c, v7_2006, h => straitref15_Merge.b1 K4 (straitref15_Merge.l1 K4 m) c2_2001 c3_2002 c3_2003 c3_2004 v6_2005 v6_2005l v6_2005c v7_2006 h
def straitref15_Merge.b0 (K0 : Heap → Prop) (K2 : (Option Addr) → Nat → Nat → Heap → Prop) (cont : (Option Addr) → Nat → Nat → Addr → (Option Addr) → Nat → Nat → Int → Heap → Prop) (c0_1001 : Option Addr) (c0_1002 : Nat) (c0_1003 : Nat) (c2_1004 : Addr) (v3_1005 : Option Addr) (v3_1005l : Nat) (v3_1005c : Nat) (v4_1006 : Int) (h1007 : Heap) : Prop :=
  (iteB (decide (v4_1006 < (c0_1002 : Int))) ((chkP c0_1001 fun a1008 => (0 ≤ v4_1006 ∧ v4_1006 < (c0_1002 : Int)) ∧ ∃ (x1009 : Int), cell h1007 (a1008.add (v4_1006.toNat * 3)) = some (.int .i64 x1009) ∧ chkP c0_1001 fun a1010 => (0 ≤ v4_1006 ∧ v4_1006 < (c0_1002 : Int)) ∧ ∃ (x1011 : Int), cell h1007 ((a1010.add (v4_1006.toNat * 3)).add 1) = some (.int .i64 x1011) ∧ (iteB (x1009 != x1011) (chkP c0_1001 fun a1012 => (0 ≤ v4_1006 ∧ v4_1006 < (c0_1002 : Int)) ∧ ∃ (x1013 : Int), cell h1007 (a1012.add (v4_1006.toNat * 3)) = some (.int .i64 x1013) ∧ ∃ (x1014 : Int), cell h1007 ((a1012.add (v4_1006.toNat * 3)).add 1) = some (.int .i64 x1014) ∧ ∃ (x1015 : Int), cell h1007 ((a1012.add (v4_1006.toNat * 3)).add 2) = some (.int .i64 x1015) ∧ callP3 (straitref15_Normal x1013 x1014 x1015 h1007) fun x1016 x1017 x1018 h1019 => callP4 (straitref15_add v3_1005 v3_1005l v3_1005c x1016 x1017 x1018 h1019) fun x1020 x1020l x1020c x1021 h1022 => newP h1022 (.cells #[(.slice none 0 0), (.bool false)] 38) fun a1023 h1024 => stC h1024 a1023 (.slice x1020 x1020l x1020c) fun h1025 => stC h1025 (a1023.add 1) (.bool x1021) fun h1026 => (∃ (x1027 : Bool), cell h1026 (a1023.add 1) = some (.bool x1027) ∧ (iteB (!x1027) (stC h1026 c2_1004 (.slice none 0 0) fun h1028 => stC h1028 (c2_1004.add 1) (.bool false) fun h1029 => K0 h1029) ((∃ (x1030 : Option Addr) (x1030l : Nat) (x1030c : Nat), cell h1026 a1023 = some (.slice x1030 x1030l x1030c) ∧ ((cont c0_1001 c0_1002 c0_1003 c2_1004 x1030 x1030l x1030c (IntKind.i64.wrap (v4_1006 + 1)) h1026))))))) (((cont c0_1001 c0_1002 c0_1003 c2_1004 v3_1005 v3_1005l v3_1005c (IntKind.i64.wrap (v4_1006 + 1)) h1007)))))) (K2 v3_1005 v3_1005l v3_1005c h1007))
def straitref15_Merge.l0 (K0 : Heap → Prop) (K2 : (Option Addr) → Nat → Nat → Heap → Prop) : Nat → (Option Addr) → Nat → Nat → Addr → (Option Addr) → Nat → Nat → Int → Heap → Prop
  | 0, _, _, _, _, _, _, _, _, _ => False
  | m + 1, c0_1001, c0_1002, c0_1003, c2_1004, v3_1005, v3_1005l, v3_1005c, v4_1006, h => straitref15_Merge.b0 K0 K2 (straitref15_Merge.l0 K0 K2 m) c0_1001 c0_1002 c0_1003 c2_1004 v3_1005 v3_1005l v3_1005c v4_1006 h
def straitref15_Merge (a1 : Option Addr) (a1l : Nat) (a1c : Nat) (h : Heap) (K : (Option Addr) → Nat → Nat → Bool → Heap → Prop) : Prop :=
  newP h (.cells #[(.slice none 0 0), (.bool false)] 38) fun a2 h3 => (((∃ m9, straitref15_Merge.l0 (fun h4 => ∃ (x5 : Option Addr) (x5l : Nat) (x5c : Nat), cell h4 a2 = some (.slice x5 x5l x5c) ∧ ∃ (x6 : Bool), cell h4 (a2.add 1) = some (.bool x6) ∧ K x5 x5l x5c x6 h4) (fun z7 z7l z7c h8 => ((((∃ m12, straitref15_Merge.l1 (fun z10 z10l z10c h11 => ((stC h11 a2 (.slice z10 z10l z10c) fun h13 => stC h13 (a2.add 1) (.bool true) fun h14 => (∃ (x15 : Option Addr) (x15l : Nat) (x15c : Nat), cell h14 a2 = some (.slice x15 x15l x15c) ∧ ∃ (x16 : Bool), cell h14 (a2.add 1) = some (.bool x16) ∧ K x15 x15l x15c x16 h14)))) m12 a2 z7 z7l z7c none 0 0 0 h8))))) m9 a1 a1l a1c a2 none 0 0 0 h3)))
def straitref15_Merge.ret (K : (Option Addr) → Nat → Nat → Bool → Heap → Prop) (v : Value) (h : Heap) : Prop := match v with
  | (.agg ⟨[(.slice r17 r17l r17c), (.bool r18)]⟩) => K r17 r17l r17c r18 h
  | _ => False
theorem straitref15_Merge.ret_elim {K : (Option Addr) → Nat → Nat → Bool → Heap → Prop} {K' : Value → Heap → Prop} {v : Value} {h : Heap} (hk : ∀ r17 r17l r17c r18 h, K r17 r17l r17c r18 h → K' (.agg #[(.slice r17 r17l r17c), (.bool r18)]) h) (hh : straitref15_Merge.ret K v h) : K' v h := by
  unfold straitref15_Merge.ret at hh
  split at hh
  · exact hk _ _ _ _ _ hh
  · exact hh.elim
def straitref15_Merge.call (f : FuncId) (vs : List Value) (h : Heap) (K : Value → Heap → Prop) : Prop := match f, vs with
  | 76, [(.slice a1 a1l a1c), (.agg ⟨[(.int .i64 a2), (.int .i64 a3), (.int .i64 a4)]⟩)] => callP4 (straitref15_add a1 a1l a1c a2 a3 a4 h) fun r40 r40l r40c r41 h' => K (.agg #[(.slice r40 r40l r40c), (.bool r41)]) h'
  | 77, [(.agg ⟨[(.int .i64 a1), (.int .i64 a2), (.int .i64 a3)]⟩)] => callP3 (straitref15_Normal a1 a2 a3 h) fun r28 r29 r30 h' => K (.agg #[(.int .i64 r28), (.int .i64 r29), (.int .i64 r30)]) h'
  | _, _ => False
def straitref15_Merge.r0 (K : Nat → List Value → Heap → Prop) (m : Nat) (vs : List Value) (h : Heap) : Prop := match vs with
  | [(.slice c0_1001 c0_1002 c0_1003), (.pointer (some c2_1004)), (.slice v3_1005 v3_1005l v3_1005c), (.int .i64 v4_1006)] => straitref15_Merge.l0 (fun h' => K 0 [(.pointer (some c2_1004))] h') (fun z19 z19l z19c h' => K 2 [(.pointer (some c2_1004)), (.slice z19 z19l z19c)] h') m c0_1001 c0_1002 c0_1003 c2_1004 v3_1005 v3_1005l v3_1005c v4_1006 h
  | _ => False
def straitref15_Merge.r1 (K : Nat → List Value → Heap → Prop) (m : Nat) (vs : List Value) (h : Heap) : Prop := match vs with
  | [(.pointer (some c2_2001)), (.slice c3_2002 c3_2003 c3_2004), (.slice v6_2005 v6_2005l v6_2005c), (.int .i64 v7_2006)] => straitref15_Merge.l1 (fun z20 z20l z20c h' => K 4 [(.pointer (some c2_2001)), (.slice z20 z20l z20c)] h') m c2_2001 c3_2002 c3_2003 c3_2004 v6_2005 v6_2005l v6_2005c v7_2006 h
  | _ => False
def straitref15_Merge.loop (i : Nat) (vs : List Value) (h : Heap) (K : Nat → List Value → Heap → Prop) : Prop := match i with
  | 0 => ∃ m, straitref15_Merge.r0 K m vs h
  | 1 => ∃ m, straitref15_Merge.r1 K m vs h
  | _ => False
noncomputable def straitref15_Merge.ctx : Ctx := { P := Tryz.prog, call := straitref15_Merge.call, qcall := fun _ _ _ _ => False, quiet := fun f => Nat.beq f 1000131 || Nat.beq f 1000155, loop := straitref15_Merge.loop }
theorem straitref15_Merge.ok [DKc] : straitref15_Merge.ctx.OK where
  mixed := by kernel_rfl
  mono := by
    intro f args h K K' hh hk
    change straitref15_Merge.call f args h K at hh
    change straitref15_Merge.call f args h K'
    unfold straitref15_Merge.call at hh ⊢
    split at hh
    · obtain ⟨R, h1, h2⟩ := hh
      exact ⟨R, h1, fun _ _ _ _ x hr => hk _ _ (h2 _ _ _ _ x hr)⟩
    · obtain ⟨R, h1, h2⟩ := hh
      exact ⟨R, h1, fun _ _ _ x hr => hk _ _ (h2 _ _ _ x hr)⟩
    · exact hh.elim
  call := by
    intro f args h K hh w hw
    change straitref15_Merge.call f args h K at hh
    unfold straitref15_Merge.call at hh
    split at hh
    · obtain ⟨R, h1, h2⟩ := hh
      obtain ⟨g1, g2⟩ := straitref15_add.calls h1 w hw
      exact ⟨g1, g2.mono fun e w' ⟨v, he, ho, hr⟩ => ⟨v, he, ho, straitref15_add.ret_elim h2 hr⟩⟩
    · obtain ⟨R, h1, h2⟩ := hh
      obtain ⟨g1, g2⟩ := straitref15_Normal.calls h1 w hw
      exact ⟨g1, g2.mono fun e w' ⟨v, he, ho, hr⟩ => ⟨v, he, ho, straitref15_Normal.ret_elim h2 hr⟩⟩
    · exact hh.elim
  qmono := fun hh _ => hh.elim
  qval := fun hh => hh.elim
  qcall := fun hh => hh.elim
noncomputable def straitref15_Merge.code : Code := (Tryz.f43.body).getD .skip
def straitref15_Merge.ann : Ann := (.two .auto (.two .auto (.two (.two .auto (.two (.loop 0 [0, 2, 3, 4] [(2, [2, 3]), (0, [2])] (.two .auto (.two (.two (.two (.reg [0, 0, 3, 7, 15, 0, 0, 96, 224, 480, 1023] (.take 0 (.take 1 (.take 2 (.take 3 (.take 4 (.take 5 (.take 6 (.take 7 (.take 8 (.take 9 (.take 10 .done)))))))))))) .auto) .auto) .auto))) .auto)) (.two .auto (.two (.two .auto (.two (.loop 1 [2, 3, 6, 7] [(4, [2, 6])] .auto) .auto)) .auto)))))
noncomputable def straitref15_Merge.c1 : Code := sub straitref15_Merge.code [1, 1, 1, 1, 0, 1, 0, 0]
def straitref15_Merge.a1 : Ann := .auto
def straitref15_Merge.keep1 : List Nat := [2, 3, 6, 7]
def straitref15_Merge.outs1 : List (Nat × List Nat) := [(4, [2, 6])]
noncomputable def straitref15_Merge.c0 : Code := sub straitref15_Merge.code [1, 1, 0, 1, 0, 0]
def straitref15_Merge.a0 : Ann := (.two .auto (.two (.two (.two (.reg [0, 0, 3, 7, 15, 0, 0, 96, 224, 480, 1023] (.take 0 (.take 1 (.take 2 (.take 3 (.take 4 (.take 5 (.take 6 (.take 7 (.take 8 (.take 9 (.take 10 .done)))))))))))) .auto) .auto) .auto))
def straitref15_Merge.keep0 : List Nat := [0, 2, 3, 4]
def straitref15_Merge.outs0 : List (Nat × List Nat) := [(2, [2, 3]), (0, [2])]
set_option maxRecDepth 100000 in
theorem straitref15_Merge.L0 [DKc] : LoopOK straitref15_Merge.ctx 59 straitref15_Merge.c0 0 straitref15_Merge.keep0 straitref15_Merge.outs0 := by
  refine loop_ok (n := straitref15_Merge.a0) straitref15_Merge.ok (by kernel_rfl) (loops_ok (l := []) (by kernel_rfl) ?_) straitref15_Merge.r0 ?_ ?_ (fun vs h K hh => hh)
  · exact trivial
  · intro K vs h hh
    unfold straitref15_Merge.r0 at hh
    split at hh
    · exact hh
    · exact hh
  · intro K m vs h hh
    unfold straitref15_Merge.r0 at hh
    split at hh
    · exact cast (by kernel_rfl) hh
    · exact hh.elim
set_option maxRecDepth 100000 in
theorem straitref15_Merge.L1 [DKc] : LoopOK straitref15_Merge.ctx 59 straitref15_Merge.c1 1 straitref15_Merge.keep1 straitref15_Merge.outs1 := by
  refine loop_ok (n := straitref15_Merge.a1) straitref15_Merge.ok (by kernel_rfl) (loops_ok (l := []) (by kernel_rfl) ?_) straitref15_Merge.r1 ?_ ?_ (fun vs h K hh => hh)
  · exact trivial
  · intro K vs h hh
    unfold straitref15_Merge.r1 at hh
    split at hh
    · exact hh
    · exact hh
  · intro K m vs h hh
    unfold straitref15_Merge.r1 at hh
    split at hh
    · exact cast (by kernel_rfl) hh
    · exact hh.elim
set_option maxRecDepth 100000 in
theorem straitref15_Merge.eq (a1 : Option Addr) (a1l : Nat) (a1c : Nat) (h : Heap) (K : (Option Addr) → Nat → Nat → Bool → Heap → Prop) : evF straitref15_Merge.ctx Tryz.f43 straitref15_Merge.ann [(.slice a1 a1l a1c)] h (straitref15_Merge.ret K) = straitref15_Merge a1 a1l a1c h K := by kernel_rfl
set_option maxRecDepth 100000 in
theorem straitref15_Merge.calls [DKc] {a1 : Option Addr} {a1l : Nat} {a1c : Nat} {h : Heap} {K : (Option Addr) → Nat → Nat → Bool → Heap → Prop} (hh : straitref15_Merge a1 a1l a1c h K) (w : World) (hw : w.heap = h) :
    (callFunc 43 #[(.slice a1 a1l a1c)]).run Tryz.prog w = .ok (.enter 43 #[(.slice a1 a1l a1c)]) w ∧ Calls Tryz.prog 43 #[(.slice a1 a1l a1c)] w fun e w' => ∃ v, e = .returned v ∧ Out w w' ∧ straitref15_Merge.ret K v w'.heap := by
  rw [← straitref15_Merge.eq] at hh
  exact fn_calls (args := [(.slice a1 a1l a1c)]) (c := straitref15_Merge.code) straitref15_Merge.ok Tryz.func43 (by kernel_rfl) (by kernel_rfl) (by kernel_rfl) (by kernel_rfl) (loops_ok (l := [(straitref15_Merge.c0, none, 0, straitref15_Merge.keep0, straitref15_Merge.outs0), (straitref15_Merge.c1, none, 1, straitref15_Merge.keep1, straitref15_Merge.outs1)]) (by kernel_rfl) ⟨straitref15_Merge.L0, straitref15_Merge.L1, trivial⟩) hh w hw

/-! ### strait/straitref16.New: function 9 -/
def straitref16_New (a1 : Int) (a2 : Option Addr) (a2l : Nat) (a2c : Nat) (h : Heap) (K : Int → (Option Addr) → Nat → Nat → Int → Int → Heap → Prop) : Prop :=
  newP h (.cells #[(.int .i64 0), (.slice none 0 0), (.int .i64 0), (.int .i64 0)] 31) fun a3 h4 => ((iteB (decide (a1 < (0 : Int))) (stC h4 a3 (.int .i64 0) fun h5 => stC h5 (a3.add 1) (.slice none 0 0) fun h6 => stC h6 (a3.add 2) (.int .i64 1) fun h7 => stC h7 (a3.add 3) (.int .i64 0) fun h8 => (∃ (x9 : Int), cell h8 a3 = some (.int .i64 x9) ∧ ∃ (x10 : Option Addr) (x10l : Nat) (x10c : Nat), cell h8 (a3.add 1) = some (.slice x10 x10l x10c) ∧ ∃ (x11 : Int), cell h8 (a3.add 2) = some (.int .i64 x11) ∧ ∃ (x12 : Int), cell h8 (a3.add 3) = some (.int .i64 x12) ∧ K x9 x10 x10l x10c x11 x12 h8)) ((let j22 := (fun (y13 : Bool) => iteB y13 (stC h4 a3 (.int .i64 0) fun h14 => stC h14 (a3.add 1) (.slice none 0 0) fun h15 => stC h15 (a3.add 2) (.int .i64 3) fun h16 => stC h16 (a3.add 3) (.int .i64 0) fun h17 => (∃ (x18 : Int), cell h17 a3 = some (.int .i64 x18) ∧ ∃ (x19 : Option Addr) (x19l : Nat) (x19c : Nat), cell h17 (a3.add 1) = some (.slice x19 x19l x19c) ∧ ∃ (x20 : Int), cell h17 (a3.add 2) = some (.int .i64 x20) ∧ ∃ (x21 : Int), cell h17 (a3.add 3) = some (.int .i64 x21) ∧ K x18 x19 x19l x19c x20 x21 h17)) ((callP2 (straitref15_Checks a1 a2 a2l a2c h4) fun x23 x24 h25 => newP h25 (.cells #[(.int .i64 0), (.int .i64 0)] 95) fun a26 h27 => stC h27 a26 (.int .i64 x23) fun h28 => stC h28 (a26.add 1) (.int .i64 x24) fun h29 => (∃ (x30 : Int), cell h29 a26 = some (.int .i64 x30) ∧ (iteB (x30 != (0 : Int)) (∃ (x31 : Int), cell h29 a26 = some (.int .i64 x31) ∧ ∃ (x32 : Int), cell h29 (a26.add 1) = some (.int .i64 x32) ∧ stC h29 a3 (.int .i64 0) fun h33 => stC h33 (a3.add 1) (.slice none 0 0) fun h34 => stC h34 (a3.add 2) (.int .i64 x31) fun h35 => stC h35 (a3.add 3) (.int .i64 x32) fun h36 => (∃ (x37 : Int), cell h36 a3 = some (.int .i64 x37) ∧ ∃ (x38 : Option Addr) (x38l : Nat) (x38c : Nat), cell h36 (a3.add 1) = some (.slice x38 x38l x38c) ∧ ∃ (x39 : Int), cell h36 (a3.add 2) = some (.int .i64 x39) ∧ ∃ (x40 : Int), cell h36 (a3.add 3) = some (.int .i64 x40) ∧ K x37 x38 x38l x38c x39 x40 h36)) ((callP4 (straitref15_Merge a2 a2l a2c h29) fun x41 x41l x41c x42 h43 => stC h43 a3 (.int .i64 a1) fun h44 => stC h44 (a3.add 1) (.slice x41 x41l x41c) fun h45 => stC h45 (a3.add 2) (.int .i64 0) fun h46 => stC h46 (a3.add 3) (.int .i64 0) fun h47 => (∃ (x48 : Int), cell h47 a3 = some (.int .i64 x48) ∧ ∃ (x49 : Option Addr) (x49l : Nat) (x49c : Nat), cell h47 (a3.add 1) = some (.slice x49 x49l x49c) ∧ ∃ (x50 : Int), cell h47 (a3.add 2) = some (.int .i64 x50) ∧ ∃ (x51 : Int), cell h47 (a3.add 3) = some (.int .i64 x51) ∧ K x48 x49 x49l x49c x50 x51 h47))))))));
  iteB (decide (a1 > (4096 : Int))) ((j22 true)) ((j22 (decide ((a2l : Int) > (1048576 : Int)))))))))
def straitref16_New.ret (K : Int → (Option Addr) → Nat → Nat → Int → Int → Heap → Prop) (v : Value) (h : Heap) : Prop := match v with
  | (.agg ⟨[(.int .i64 r52), (.slice r53 r53l r53c), (.int .i64 r54), (.int .i64 r55)]⟩) => K r52 r53 r53l r53c r54 r55 h
  | _ => False
theorem straitref16_New.ret_elim {K : Int → (Option Addr) → Nat → Nat → Int → Int → Heap → Prop} {K' : Value → Heap → Prop} {v : Value} {h : Heap} (hk : ∀ r52 r53 r53l r53c r54 r55 h, K r52 r53 r53l r53c r54 r55 h → K' (.agg #[(.int .i64 r52), (.slice r53 r53l r53c), (.int .i64 r54), (.int .i64 r55)]) h) (hh : straitref16_New.ret K v h) : K' v h := by
  unfold straitref16_New.ret at hh
  split at hh
  · exact hk _ _ _ _ _ _ _ hh
  · exact hh.elim
def straitref16_New.call (f : FuncId) (vs : List Value) (h : Heap) (K : Value → Heap → Prop) : Prop := match f, vs with
  | 42, [(.int .i64 a1), (.slice a2 a2l a2c)] => callP2 (straitref15_Checks a1 a2 a2l a2c h) fun r14 r15 h' => K (.agg #[(.int .i64 r14), (.int .i64 r15)]) h'
  | 43, [(.slice a1 a1l a1c)] => callP4 (straitref15_Merge a1 a1l a1c h) fun r17 r17l r17c r18 h' => K (.agg #[(.slice r17 r17l r17c), (.bool r18)]) h'
  | _, _ => False
noncomputable def straitref16_New.ctx : Ctx := { P := Tryz.prog, call := straitref16_New.call, qcall := fun _ _ _ _ => False, quiet := fun f => Nat.beq f 1000131 || Nat.beq f 1000155, loop := fun _ _ _ _ => False }
theorem straitref16_New.ok [DKc] : straitref16_New.ctx.OK where
  mixed := by kernel_rfl
  mono := by
    intro f args h K K' hh hk
    change straitref16_New.call f args h K at hh
    change straitref16_New.call f args h K'
    unfold straitref16_New.call at hh ⊢
    split at hh
    · obtain ⟨R, h1, h2⟩ := hh
      exact ⟨R, h1, fun _ _ x hr => hk _ _ (h2 _ _ x hr)⟩
    · obtain ⟨R, h1, h2⟩ := hh
      exact ⟨R, h1, fun _ _ _ _ x hr => hk _ _ (h2 _ _ _ _ x hr)⟩
    · exact hh.elim
  call := by
    intro f args h K hh w hw
    change straitref16_New.call f args h K at hh
    unfold straitref16_New.call at hh
    split at hh
    · obtain ⟨R, h1, h2⟩ := hh
      obtain ⟨g1, g2⟩ := straitref15_Checks.calls h1 w hw
      exact ⟨g1, g2.mono fun e w' ⟨v, he, ho, hr⟩ => ⟨v, he, ho, straitref15_Checks.ret_elim h2 hr⟩⟩
    · obtain ⟨R, h1, h2⟩ := hh
      obtain ⟨g1, g2⟩ := straitref15_Merge.calls h1 w hw
      exact ⟨g1, g2.mono fun e w' ⟨v, he, ho, hr⟩ => ⟨v, he, ho, straitref15_Merge.ret_elim h2 hr⟩⟩
    · exact hh.elim
  qmono := fun hh _ => hh.elim
  qval := fun hh => hh.elim
  qcall := fun hh => hh.elim
noncomputable def straitref16_New.code : Code := (Tryz.f9.body).getD .skip
def straitref16_New.ann : Ann := .auto
set_option maxRecDepth 100000 in
theorem straitref16_New.eq (a1 : Int) (a2 : Option Addr) (a2l : Nat) (a2c : Nat) (h : Heap) (K : Int → (Option Addr) → Nat → Nat → Int → Int → Heap → Prop) : evF straitref16_New.ctx Tryz.f9 straitref16_New.ann [(.int .i64 a1), (.slice a2 a2l a2c)] h (straitref16_New.ret K) = straitref16_New a1 a2 a2l a2c h K := by kernel_rfl
set_option maxRecDepth 100000 in
theorem straitref16_New.calls [DKc] {a1 : Int} {a2 : Option Addr} {a2l : Nat} {a2c : Nat} {h : Heap} {K : Int → (Option Addr) → Nat → Nat → Int → Int → Heap → Prop} (hh : straitref16_New a1 a2 a2l a2c h K) (w : World) (hw : w.heap = h) :
    (callFunc 9 #[(.int .i64 a1), (.slice a2 a2l a2c)]).run Tryz.prog w = .ok (.enter 9 #[(.int .i64 a1), (.slice a2 a2l a2c)]) w ∧ Calls Tryz.prog 9 #[(.int .i64 a1), (.slice a2 a2l a2c)] w fun e w' => ∃ v, e = .returned v ∧ Out w w' ∧ straitref16_New.ret K v w'.heap := by
  rw [← straitref16_New.eq] at hh
  exact fn_calls (args := [(.int .i64 a1), (.slice a2 a2l a2c)]) (c := straitref16_New.code) straitref16_New.ok Tryz.func9 (by kernel_rfl) (by kernel_rfl) (by kernel_rfl) (by kernel_rfl) (loops_ok (l := []) (by kernel_rfl) trivial) hh w hw

/-! ### (*strait/dsu.Classes).Room: function 82 -/
def dsu_Classes_Room (a1 : Option Addr) (h : Heap) (K : Int → Heap → Prop) : Prop :=
  ((iteB a1.isNone (K 0 h) ((chkP a1 fun a2 => ∃ (x3 : Option Addr) (x3l : Nat) (x3c : Nat), cell h a2 = some (.slice x3 x3l x3c) ∧ (K (x3l : Int) h)))))
def dsu_Classes_Room.ret (K : Int → Heap → Prop) (v : Value) (h : Heap) : Prop := match v with
  | (.int .i64 r4) => K r4 h
  | _ => False
theorem dsu_Classes_Room.ret_elim {K : Int → Heap → Prop} {K' : Value → Heap → Prop} {v : Value} {h : Heap} (hk : ∀ r4 h, K r4 h → K' (.int .i64 r4) h) (hh : dsu_Classes_Room.ret K v h) : K' v h := by
  unfold dsu_Classes_Room.ret at hh
  split at hh
  · exact hk _ _ hh
  · exact hh.elim
noncomputable def dsu_Classes_Room.ctx : Ctx := { P := Tryz.prog, call := fun _ _ _ _ => False, qcall := fun _ _ _ _ => False, quiet := fun f => Nat.beq f 1000131 || Nat.beq f 1000155, loop := fun _ _ _ _ => False }
theorem dsu_Classes_Room.ok [DKc] : dsu_Classes_Room.ctx.OK where
  mixed := by kernel_rfl
  mono := fun hh _ => hh.elim
  call := fun hh => hh.elim
  qmono := fun hh _ => hh.elim
  qval := fun hh => hh.elim
  qcall := fun hh => hh.elim
noncomputable def dsu_Classes_Room.code : Code := (Tryz.f82.body).getD .skip
def dsu_Classes_Room.ann : Ann := .auto
set_option maxRecDepth 100000 in
theorem dsu_Classes_Room.eq (a1 : Option Addr) (h : Heap) (K : Int → Heap → Prop) : evF dsu_Classes_Room.ctx Tryz.f82 dsu_Classes_Room.ann [(.pointer a1)] h (dsu_Classes_Room.ret K) = dsu_Classes_Room a1 h K := by kernel_rfl
set_option maxRecDepth 100000 in
theorem dsu_Classes_Room.calls [DKc] {a1 : Option Addr} {h : Heap} {K : Int → Heap → Prop} (hh : dsu_Classes_Room a1 h K) (w : World) (hw : w.heap = h) :
    (callFunc 82 #[(.pointer a1)]).run Tryz.prog w = .ok (.enter 82 #[(.pointer a1)]) w ∧ Calls Tryz.prog 82 #[(.pointer a1)] w fun e w' => ∃ v, e = .returned v ∧ Out w w' ∧ dsu_Classes_Room.ret K v w'.heap := by
  rw [← dsu_Classes_Room.eq] at hh
  exact fn_calls (args := [(.pointer a1)]) (c := dsu_Classes_Room.code) dsu_Classes_Room.ok Tryz.func82 (by kernel_rfl) (by kernel_rfl) (by kernel_rfl) (by kernel_rfl) (loops_ok (l := []) (by kernel_rfl) trivial) hh w hw

/-! ### (*strait/dsu.Classes).root: function 87 -/
def dsu_Classes_root.b0 (K0 : Int → Heap → Prop) (cont : (Option Addr) → Int → Heap → Prop) (c0_1001 : Option Addr) (v1_1002 : Int) (h1003 : Heap) : Prop :=
  (chkP c0_1001 fun a1004 => ∃ (x1005 : Option Addr) (x1005l : Nat) (x1005c : Nat), cell h1003 a1004 = some (.slice x1005 x1005l x1005c) ∧ chkP x1005 fun a1006 => (0 ≤ v1_1002 ∧ v1_1002 < (x1005l : Int)) ∧ ∃ (x1007 : Int), cell h1003 (a1006.add (v1_1002.toNat * 1)) = some (.int .i64 x1007) ∧ (iteB (x1007 == v1_1002) (K0 v1_1002 h1003) ((chkP c0_1001 fun a1008 => ∃ (x1009 : Option Addr) (x1009l : Nat) (x1009c : Nat), cell h1003 a1008 = some (.slice x1009 x1009l x1009c) ∧ chkP c0_1001 fun a1010 => ∃ (x1011 : Option Addr) (x1011l : Nat) (x1011c : Nat), cell h1003 a1010 = some (.slice x1011 x1011l x1011c) ∧ chkP c0_1001 fun a1012 => ∃ (x1013 : Option Addr) (x1013l : Nat) (x1013c : Nat), cell h1003 a1012 = some (.slice x1013 x1013l x1013c) ∧ chkP x1013 fun a1014 => (0 ≤ v1_1002 ∧ v1_1002 < (x1013l : Int)) ∧ ∃ (x1015 : Int), cell h1003 (a1014.add (v1_1002.toNat * 1)) = some (.int .i64 x1015) ∧ chkP x1011 fun a1016 => (0 ≤ x1015 ∧ x1015 < (x1011l : Int)) ∧ ∃ (x1017 : Int), cell h1003 (a1016.add (x1015.toNat * 1)) = some (.int .i64 x1017) ∧ chkP x1009 fun a1018 => (0 ≤ v1_1002 ∧ v1_1002 < (x1009l : Int)) ∧ stC h1003 (a1018.add (v1_1002.toNat * 1)) (.int .i64 x1017) fun h1019 => (chkP c0_1001 fun a1020 => ∃ (x1021 : Option Addr) (x1021l : Nat) (x1021c : Nat), cell h1019 a1020 = some (.slice x1021 x1021l x1021c) ∧ chkP x1021 fun a1022 => (0 ≤ v1_1002 ∧ v1_1002 < (x1021l : Int)) ∧ ∃ (x1023 : Int), cell h1019 (a1022.add (v1_1002.toNat * 1)) = some (.int .i64 x1023) ∧ cont c0_1001 x1023 h1019)))))
def dsu_Classes_root.l0 (K0 : Int → Heap → Prop) : Nat → (Option Addr) → Int → Heap → Prop
  | 0, _, _, _ => False
  | m + 1, c0_1001, v1_1002, h => dsu_Classes_root.b0 K0 (dsu_Classes_root.l0 K0 m) c0_1001 v1_1002 h
def dsu_Classes_root (a1 : Option Addr) (a2 : Int) (h : Heap) (K : Int → Heap → Prop) : Prop :=
  (let j28 : Prop := ((chkP a1 fun a5 => ∃ (x6 : Option Addr) (x6l : Nat) (x6c : Nat), cell h a5 = some (.slice x6 x6l x6c) ∧ chkP x6 fun a7 => (0 ≤ a2 ∧ a2 < (x6l : Int)) ∧ ∃ (x8 : Int), cell h (a7.add (a2.toNat * 1)) = some (.int .i64 x8) ∧ (iteB (x8 == a2) (K a2 h) ((chkP a1 fun a9 => ∃ (x10 : Option Addr) (x10l : Nat) (x10c : Nat), cell h a9 = some (.slice x10 x10l x10c) ∧ chkP a1 fun a11 => ∃ (x12 : Option Addr) (x12l : Nat) (x12c : Nat), cell h a11 = some (.slice x12 x12l x12c) ∧ chkP a1 fun a13 => ∃ (x14 : Option Addr) (x14l : Nat) (x14c : Nat), cell h a13 = some (.slice x14 x14l x14c) ∧ chkP x14 fun a15 => (0 ≤ a2 ∧ a2 < (x14l : Int)) ∧ ∃ (x16 : Int), cell h (a15.add (a2.toNat * 1)) = some (.int .i64 x16) ∧ chkP x12 fun a17 => (0 ≤ x16 ∧ x16 < (x12l : Int)) ∧ ∃ (x18 : Int), cell h (a17.add (x16.toNat * 1)) = some (.int .i64 x18) ∧ chkP x10 fun a19 => (0 ≤ a2 ∧ a2 < (x10l : Int)) ∧ stC h (a19.add (a2.toNat * 1)) (.int .i64 x18) fun h20 => (chkP a1 fun a21 => ∃ (x22 : Option Addr) (x22l : Nat) (x22c : Nat), cell h20 a21 = some (.slice x22 x22l x22c) ∧ chkP x22 fun a23 => (0 ≤ a2 ∧ a2 < (x22l : Int)) ∧ ∃ (x24 : Int), cell h20 (a23.add (a2.toNat * 1)) = some (.int .i64 x24) ∧ (∃ m27, dsu_Classes_root.l0 (fun z25 h26 => K z25 h26) m27 a1 x24 h20)))))));
  iteB (decide (a2 < (0 : Int))) (((K (-1) h))) (qcallP1 h (dsu_Classes_Room a1 h) fun x3 => (iteB (decide (a2 ≥ x3)) ((K (-1) h)) ((j28)))))
def dsu_Classes_root.ret (K : Int → Heap → Prop) (v : Value) (h : Heap) : Prop := match v with
  | (.int .i64 r29) => K r29 h
  | _ => False
theorem dsu_Classes_root.ret_elim {K : Int → Heap → Prop} {K' : Value → Heap → Prop} {v : Value} {h : Heap} (hk : ∀ r29 h, K r29 h → K' (.int .i64 r29) h) (hh : dsu_Classes_root.ret K v h) : K' v h := by
  unfold dsu_Classes_root.ret at hh
  split at hh
  · exact hk _ _ hh
  · exact hh.elim
def dsu_Classes_root.qcall (f : FuncId) (vs : List Value) (h : Heap) (K : Value → Prop) : Prop := match f, vs with
  | 82, [(.pointer a1)] => qcallP1 h (dsu_Classes_Room a1 h) fun r4 => K (.int .i64 r4)
  | _, _ => False
def dsu_Classes_root.r0 (K : Nat → List Value → Heap → Prop) (m : Nat) (vs : List Value) (h : Heap) : Prop := match vs with
  | [(.pointer c0_1001), (.int .i64 v1_1002)] => dsu_Classes_root.l0 (fun z30 h' => K 0 [(.int .i64 z30)] h') m c0_1001 v1_1002 h
  | _ => False
def dsu_Classes_root.loop (i : Nat) (vs : List Value) (h : Heap) (K : Nat → List Value → Heap → Prop) : Prop := match i with
  | 0 => ∃ m, dsu_Classes_root.r0 K m vs h
  | _ => False
noncomputable def dsu_Classes_root.ctx : Ctx := { P := Tryz.prog, call := fun _ _ _ _ => False, qcall := dsu_Classes_root.qcall, quiet := fun f => Nat.beq f 82 || Nat.beq f 1000131 || Nat.beq f 1000155, loop := dsu_Classes_root.loop }
theorem dsu_Classes_root.ok [DKc] : dsu_Classes_root.ctx.OK where
  mixed := by kernel_rfl
  mono := fun hh _ => hh.elim
  call := fun hh => hh.elim
  qmono := by
    intro f args h K K' hh hk
    change dsu_Classes_root.qcall f args h K at hh
    change dsu_Classes_root.qcall f args h K'
    unfold dsu_Classes_root.qcall at hh ⊢
    split at hh
    · obtain ⟨x0, h1, h2⟩ := hh
      exact ⟨x0, h1, hk _ h2⟩
    · exact hh.elim
  qval := by
    intro f args h K hh
    change dsu_Classes_root.qcall f args h K at hh
    suffices H : ∃ v, K v ∧ dsu_Classes_root.qcall f args h (· = v) from H
    unfold dsu_Classes_root.qcall at hh ⊢
    split at hh
    · obtain ⟨x0, h1, h2⟩ := hh
      exact ⟨_, h2, x0, h1, rfl⟩
    · exact hh.elim
  qcall := by
    intro f args h v hh w hw
    change dsu_Classes_root.qcall f args h (· = v) at hh
    unfold dsu_Classes_root.qcall at hh
    split at hh
    · obtain ⟨x0, h1, h2⟩ := hh
      obtain ⟨g1, g2⟩ := dsu_Classes_Room.calls h1 w hw
      refine .inl ⟨g1, g2.mono fun e w' ⟨u, he, ho, hr⟩ => ?_⟩
      have hq := dsu_Classes_Room.ret_elim (K' := fun u h' => u = v ∧ h' = h) (fun _ h' hr => by obtain ⟨rfl, rfl⟩ := hr; exact ⟨h2, rfl⟩) hr
      exact ⟨hq.1 ▸ he, ho, hq.2⟩
    · exact hh.elim
noncomputable def dsu_Classes_root.code : Code := (Tryz.f87.body).getD .skip
def dsu_Classes_root.ann : Ann := (.two .auto (.jump 0 0 [0, 1] [(0, [4])] (.two .auto (.two .auto (.two .auto (.two (.reg [0, 1, 3, 7, 0, 0, 32, 96, 224, 0, 512, 1536, 3584, 0, 15872, 32256, 65504, 131040, 262143, 524287] (.take 0 (.take 1 (.take 2 (.take 3 (.take 4 (.take 5 (.take 6 (.take 7 (.take 8 (.take 9 (.take 10 (.take 11 (.take 12 (.take 13 (.take 14 (.take 15 (.take 16 (.take 17 (.take 18 (.alt 19 .done .noalt))))))))))))))))))))) .auto)))) (.two .auto (.two .auto (.two (.reg [0, 1, 3, 7, 0, 0, 32, 96, 224, 0, 512, 1536, 3584, 0, 15872, 32256, 65504, 131040, 262143, 524287] (.take 0 (.take 1 (.take 2 (.take 3 (.take 4 (.take 5 (.take 6 (.take 7 (.take 8 (.take 9 (.take 10 (.take 11 (.take 12 (.take 13 (.take 14 (.take 15 (.take 16 (.take 17 (.take 18 (.alt 19 .done .noalt))))))))))))))))))))) .auto)))))
noncomputable def dsu_Classes_root.c0 : Code := sub dsu_Classes_root.code [1, 1]
def dsu_Classes_root.a0 : Ann := (.two .auto (.two .auto (.two (.reg [0, 1, 3, 7, 0, 0, 32, 96, 224, 0, 512, 1536, 3584, 0, 15872, 32256, 65504, 131040, 262143, 524287] (.take 0 (.take 1 (.take 2 (.take 3 (.take 4 (.take 5 (.take 6 (.take 7 (.take 8 (.take 9 (.take 10 (.take 11 (.take 12 (.take 13 (.take 14 (.take 15 (.take 16 (.take 17 (.take 18 (.alt 19 .done .noalt))))))))))))))))))))) .auto)))
def dsu_Classes_root.keep0 : List Nat := [0, 1]
def dsu_Classes_root.outs0 : List (Nat × List Nat) := [(0, [4])]
set_option maxRecDepth 100000 in
theorem dsu_Classes_root.L0 [DKc] : JumpOK dsu_Classes_root.ctx 49 dsu_Classes_root.c0 0 0 dsu_Classes_root.keep0 dsu_Classes_root.outs0 := by
  refine jump_ok (n := dsu_Classes_root.a0) dsu_Classes_root.ok (by kernel_rfl) (loops_ok (l := []) (by kernel_rfl) ?_) dsu_Classes_root.r0 ?_ ?_ (fun vs h K hh => hh)
  · exact trivial
  · intro K vs h hh
    unfold dsu_Classes_root.r0 at hh
    split at hh
    · exact hh
    · exact hh
  · intro K m vs h hh
    unfold dsu_Classes_root.r0 at hh
    split at hh
    · exact cast (by kernel_rfl) hh
    · exact hh.elim
set_option maxRecDepth 100000 in
theorem dsu_Classes_root.eq (a1 : Option Addr) (a2 : Int) (h : Heap) (K : Int → Heap → Prop) : evF dsu_Classes_root.ctx Tryz.f87 dsu_Classes_root.ann [(.pointer a1), (.int .i64 a2)] h (dsu_Classes_root.ret K) = dsu_Classes_root a1 a2 h K := by kernel_rfl
set_option maxRecDepth 100000 in
theorem dsu_Classes_root.calls [DKc] {a1 : Option Addr} {a2 : Int} {h : Heap} {K : Int → Heap → Prop} (hh : dsu_Classes_root a1 a2 h K) (w : World) (hw : w.heap = h) :
    (callFunc 87 #[(.pointer a1), (.int .i64 a2)]).run Tryz.prog w = .ok (.enter 87 #[(.pointer a1), (.int .i64 a2)]) w ∧ Calls Tryz.prog 87 #[(.pointer a1), (.int .i64 a2)] w fun e w' => ∃ v, e = .returned v ∧ Out w w' ∧ dsu_Classes_root.ret K v w'.heap := by
  rw [← dsu_Classes_root.eq] at hh
  exact fn_calls (args := [(.pointer a1), (.int .i64 a2)]) (c := dsu_Classes_root.code) dsu_Classes_root.ok Tryz.func87 (by kernel_rfl) (by kernel_rfl) (by kernel_rfl) (by kernel_rfl) (loops_ok (l := [(dsu_Classes_root.c0, some 0, 0, dsu_Classes_root.keep0, dsu_Classes_root.outs0)]) (by kernel_rfl) ⟨dsu_Classes_root.L0, trivial⟩) hh w hw

end Go.Proofs.YtbhndlpjfncliaaGreat
