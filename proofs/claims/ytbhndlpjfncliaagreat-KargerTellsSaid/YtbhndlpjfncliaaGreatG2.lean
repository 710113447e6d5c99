/- WRITTEN BY A PROGRAM OF THIS SESSION (gen.py): what each function asks of memory, and that the model's run comes to it. -/
import Derived.Test.YtbhndlpjfncliaaGreatProg
import Derived.Test.YtbhndlpjfncliaaGreatFw8
import Derived.Test.YtbhndlpjfncliaaGreatG1
namespace Go.Proofs.YtbhndlpjfncliaaGreat
open Go.Hp
set_option linter.unusedVariables false
set_option linter.unusedSimpArgs false
set_option linter.unusedSectionVars false

/-! ### (*strait/dsu.Classes).Join: function 81 -/
def dsu_Classes_Join (a1 : Option Addr) (a2 : Int) (a3 : Int) (h : Heap) (K : Bool → Heap → Prop) : Prop :=
  (callP1 (dsu_Classes_root a1 a2 h) fun x4 h5 => callP1 (dsu_Classes_root a1 a3 h5) fun x6 h7 => (let j50 : Prop := (let j49 := (fun (y17 : Int) (y18 : Int) => chkP a1 fun a19 => ∃ (x20 : Option Addr) (x20l : Nat) (x20c : Nat), cell h7 a19 = some (.slice x20 x20l x20c) ∧ chkP x20 fun a21 => (0 ≤ y18 ∧ y18 < (x20l : Int)) ∧ stC h7 (a21.add (y18.toNat * 1)) (.int .i64 y17) fun h22 => (chkP a1 fun a23 => ∃ (x24 : Option Addr) (x24l : Nat) (x24c : Nat), cell h22 (a23.add 1) = some (.slice x24 x24l x24c) ∧ chkP x24 fun a25 => (0 ≤ y17 ∧ y17 < (x24l : Int)) ∧ ∃ (x26 : Int), cell h22 (a25.add (y17.toNat * 1)) = some (.int .i64 x26) ∧ chkP a1 fun a27 => ∃ (x28 : Option Addr) (x28l : Nat) (x28c : Nat), cell h22 (a27.add 1) = some (.slice x28 x28l x28c) ∧ chkP x28 fun a29 => (0 ≤ y18 ∧ y18 < (x28l : Int)) ∧ ∃ (x30 : Int), cell h22 (a29.add (y18.toNat * 1)) = some (.int .i64 x30) ∧ chkP x24 fun a31 => (0 ≤ y17 ∧ y17 < (x24l : Int)) ∧ stC h22 (a31.add (y17.toNat * 1)) (.int .i64 (IntKind.i64.wrap (x26 + x30))) fun h32 => (chkP a1 fun a33 => ∃ (x34 : Option Addr) (x34l : Nat) (x34c : Nat), cell h32 (a33.add 2) = some (.slice x34 x34l x34c) ∧ chkP a1 fun a35 => ∃ (x36 : Option Addr) (x36l : Nat) (x36c : Nat), cell h32 (a35.add 2) = some (.slice x36 x36l x36c) ∧ chkP x36 fun a37 => (0 ≤ y17 ∧ y17 < (x36l : Int)) ∧ ∃ (x38 : Int), cell h32 (a37.add (y17.toNat * 1)) = some (.int .i64 x38) ∧ chkP a1 fun a39 => ∃ (x40 : Option Addr) (x40l : Nat) (x40c : Nat), cell h32 (a39.add 2) = some (.slice x40 x40l x40c) ∧ chkP x40 fun a41 => (0 ≤ y18 ∧ y18 < (x40l : Int)) ∧ ∃ (x42 : Int), cell h32 (a41.add (y18.toNat * 1)) = some (.int .i64 x42) ∧ chkP x34 fun a43 => (0 ≤ y17 ∧ y17 < (x34l : Int)) ∧ stC h32 (a43.add (y17.toNat * 1)) (.int .i64 (if x42 < x38 then x42 else x38)) fun h44 => (chkP a1 fun a45 => ∃ (x46 : Int), cell h44 (a45.add 3) = some (.int .i64 x46) ∧ chkP a1 fun a47 => stC h44 (a47.add 3) (.int .i64 (IntKind.i64.wrap (x46 - 1))) fun h48 => K true h48))));
  chkP a1 fun a9 => ∃ (x10 : Option Addr) (x10l : Nat) (x10c : Nat), cell h7 (a9.add 1) = some (.slice x10 x10l x10c) ∧ chkP x10 fun a11 => (0 ≤ x4 ∧ x4 < (x10l : Int)) ∧ ∃ (x12 : Int), cell h7 (a11.add (x4.toNat * 1)) = some (.int .i64 x12) ∧ chkP a1 fun a13 => ∃ (x14 : Option Addr) (x14l : Nat) (x14c : Nat), cell h7 (a13.add 1) = some (.slice x14 x14l x14c) ∧ chkP x14 fun a15 => (0 ≤ x6 ∧ x6 < (x14l : Int)) ∧ ∃ (x16 : Int), cell h7 (a15.add (x6.toNat * 1)) = some (.int .i64 x16) ∧ (iteB (decide (x12 < x16)) ((j49 x6 x4)) ((j49 x4 x6))));
  iteB (decide (x4 < (0 : Int))) (K false h7) (iteB (decide (x6 < (0 : Int))) (K false h7) ((iteB (x4 == x6) (K false h7) ((j50)))))))
def dsu_Classes_Join.ret (K : Bool → Heap → Prop) (v : Value) (h : Heap) : Prop := match v with
  | (.bool r51) => K r51 h
  | _ => False
theorem dsu_Classes_Join.ret_elim {K : Bool → Heap → Prop} {K' : Value → Heap → Prop} {v : Value} {h : Heap} (hk : ∀ r51 h, K r51 h → K' (.bool r51) h) (hh : dsu_Classes_Join.ret K v h) : K' v h := by
  unfold dsu_Classes_Join.ret at hh
  split at hh
  · exact hk _ _ hh
  · exact hh.elim
def dsu_Classes_Join.call (f : FuncId) (vs : List Value) (h : Heap) (K : Value → Heap → Prop) : Prop := match f, vs with
  | 87, [(.pointer a1), (.int .i64 a2)] => callP1 (dsu_Classes_root a1 a2 h) fun r29 h' => K (.int .i64 r29) h'
  | _, _ => False
noncomputable def dsu_Classes_Join.ctx : Ctx := { P := Tryz.prog, call := dsu_Classes_Join.call, qcall := fun _ _ _ _ => False, quiet := fun f => Nat.beq f 1000131 || Nat.beq f 1000155, loop := fun _ _ _ _ => False }
theorem dsu_Classes_Join.ok [DKc] : dsu_Classes_Join.ctx.OK where
  mixed := by kernel_rfl
  mono := by
    intro f args h K K' hh hk
    change dsu_Classes_Join.call f args h K at hh
    change dsu_Classes_Join.call f args h K'
    unfold dsu_Classes_Join.call at hh ⊢
    split at hh
    · obtain ⟨R, h1, h2⟩ := hh
      exact ⟨R, h1, fun _ x hr => hk _ _ (h2 _ x hr)⟩
    · exact hh.elim
  call := by
    intro f args h K hh w hw
    change dsu_Classes_Join.call f args h K at hh
    unfold dsu_Classes_Join.call at hh
    split at hh
    · obtain ⟨R, h1, h2⟩ := hh
      obtain ⟨g1, g2⟩ := dsu_Classes_root.calls h1 w hw
      exact ⟨g1, g2.mono fun e w' ⟨v, he, ho, hr⟩ => ⟨v, he, ho, dsu_Classes_root.ret_elim h2 hr⟩⟩
    · exact hh.elim
  qmono := fun hh _ => hh.elim
  qval := fun hh => hh.elim
  qcall := fun hh => hh.elim
noncomputable def dsu_Classes_Join.code : Code := (Tryz.f81.body).getD .skip
def dsu_Classes_Join.ann : Ann := (.two .auto (.two .auto (.two .auto (.two (.two (.reg [0, 1, 3, 7, 0, 31, 63, 0, 128, 384, 896, 0, 3968, 8064, 16383] (.take 0 (.take 1 (.take 2 (.take 3 (.take 4 (.take 5 (.take 6 (.take 7 (.take 8 (.take 9 (.take 10 (.take 11 (.take 12 (.take 13 (.take 14 .done)))))))))))))))) .auto) (.two .auto (.two (.reg [0, 1, 3, 7, 0, 31, 63, 0, 128, 384, 896, 0, 3968, 8064, 16383, 32767, 65535] (.take 0 (.take 1 (.take 2 (.take 3 (.take 4 (.take 5 (.take 6 (.take 7 (.take 8 (.take 9 (.take 10 (.take 11 (.take 12 (.take 13 (.take 14 (.take 15 (.alt 16 .done .noalt)))))))))))))))))) (.two (.reg [0, 1, 3, 7, 0, 0, 32, 96, 224, 0, 992, 2016, 0, 4096, 12288, 28672, 0, 126976, 258048, 524256, 1048575, 2097151] (.take 0 (.take 1 (.take 2 (.take 3 (.take 4 (.take 5 (.take 6 (.take 7 (.take 8 (.take 9 (.take 10 (.take 11 (.take 12 (.take 13 (.take 14 (.take 15 (.take 16 (.take 17 (.take 18 (.take 19 (.take 20 (.alt 21 .done .noalt))))))))))))))))))))))) .auto)))))))
set_option maxRecDepth 100000 in
theorem dsu_Classes_Join.eq (a1 : Option Addr) (a2 : Int) (a3 : Int) (h : Heap) (K : Bool → Heap → Prop) : evF dsu_Classes_Join.ctx Tryz.f81 dsu_Classes_Join.ann [(.pointer a1), (.int .i64 a2), (.int .i64 a3)] h (dsu_Classes_Join.ret K) = dsu_Classes_Join a1 a2 a3 h K := by kernel_rfl
set_option maxRecDepth 100000 in
theorem dsu_Classes_Join.calls [DKc] {a1 : Option Addr} {a2 : Int} {a3 : Int} {h : Heap} {K : Bool → Heap → Prop} (hh : dsu_Classes_Join a1 a2 a3 h K) (w : World) (hw : w.heap = h) :
    (callFunc 81 #[(.pointer a1), (.int .i64 a2), (.int .i64 a3)]).run Tryz.prog w = .ok (.enter 81 #[(.pointer a1), (.int .i64 a2), (.int .i64 a3)]) w ∧ Calls Tryz.prog 81 #[(.pointer a1), (.int .i64 a2), (.int .i64 a3)] w fun e w' => ∃ v, e = .returned v ∧ Out w w' ∧ dsu_Classes_Join.ret K v w'.heap := by
  rw [← dsu_Classes_Join.eq] at hh
  exact fn_calls (args := [(.pointer a1), (.int .i64 a2), (.int .i64 a3)]) (c := dsu_Classes_Join.code) dsu_Classes_Join.ok Tryz.func81 (by kernel_rfl) (by kernel_rfl) (by kernel_rfl) (by kernel_rfl) (loops_ok (l := []) (by kernel_rfl) trivial) hh w hw

/-! ### (*strait/dsu.Classes).Count: function 49 -/
def dsu_Classes_Count (a1 : Option Addr) (h : Heap) (K : Int → Heap → Prop) : Prop :=
  ((iteB a1.isNone (K 0 h) ((chkP a1 fun a2 => ∃ (x3 : Int), cell h (a2.add 3) = some (.int .i64 x3) ∧ K x3 h))))
def dsu_Classes_Count.ret (K : Int → Heap → Prop) (v : Value) (h : Heap) : Prop := match v with
  | (.int .i64 r4) => K r4 h
  | _ => False
theorem dsu_Classes_Count.ret_elim {K : Int → Heap → Prop} {K' : Value → Heap → Prop} {v : Value} {h : Heap} (hk : ∀ r4 h, K r4 h → K' (.int .i64 r4) h) (hh : dsu_Classes_Count.ret K v h) : K' v h := by
  unfold dsu_Classes_Count.ret at hh
  split at hh
  · exact hk _ _ hh
  · exact hh.elim
noncomputable def dsu_Classes_Count.ctx : Ctx := { P := Tryz.prog, call := fun _ _ _ _ => False, qcall := fun _ _ _ _ => False, quiet := fun f => Nat.beq f 1000131 || Nat.beq f 1000155, loop := fun _ _ _ _ => False }
theorem dsu_Classes_Count.ok [DKc] : dsu_Classes_Count.ctx.OK where
  mixed := by kernel_rfl
  mono := fun hh _ => hh.elim
  call := fun hh => hh.elim
  qmono := fun hh _ => hh.elim
  qval := fun hh => hh.elim
  qcall := fun hh => hh.elim
noncomputable def dsu_Classes_Count.code : Code := (Tryz.f49.body).getD .skip
def dsu_Classes_Count.ann : Ann := .auto
set_option maxRecDepth 100000 in
theorem dsu_Classes_Count.eq (a1 : Option Addr) (h : Heap) (K : Int → Heap → Prop) : evF dsu_Classes_Count.ctx Tryz.f49 dsu_Classes_Count.ann [(.pointer a1)] h (dsu_Classes_Count.ret K) = dsu_Classes_Count a1 h K := by kernel_rfl
set_option maxRecDepth 100000 in
theorem dsu_Classes_Count.calls [DKc] {a1 : Option Addr} {h : Heap} {K : Int → Heap → Prop} (hh : dsu_Classes_Count a1 h K) (w : World) (hw : w.heap = h) :
    (callFunc 49 #[(.pointer a1)]).run Tryz.prog w = .ok (.enter 49 #[(.pointer a1)]) w ∧ Calls Tryz.prog 49 #[(.pointer a1)] w fun e w' => ∃ v, e = .returned v ∧ Out w w' ∧ dsu_Classes_Count.ret K v w'.heap := by
  rw [← dsu_Classes_Count.eq] at hh
  exact fn_calls (args := [(.pointer a1)]) (c := dsu_Classes_Count.code) dsu_Classes_Count.ok Tryz.func49 (by kernel_rfl) (by kernel_rfl) (by kernel_rfl) (by kernel_rfl) (loops_ok (l := []) (by kernel_rfl) trivial) hh w hw

/-! ### (*strait/dsu.Classes).Of: function 52 -/
def dsu_Classes_Of (a1 : Option Addr) (a2 : Int) (h : Heap) (K : Int → Heap → Prop) : Prop :=
  (callP1 (dsu_Classes_root a1 a2 h) fun x3 h4 => ((iteB (decide (x3 < (0 : Int))) ((K (-1) h4)) ((chkP a1 fun a5 => ∃ (x6 : Option Addr) (x6l : Nat) (x6c : Nat), cell h4 (a5.add 2) = some (.slice x6 x6l x6c) ∧ chkP x6 fun a7 => (0 ≤ x3 ∧ x3 < (x6l : Int)) ∧ ∃ (x8 : Int), cell h4 (a7.add (x3.toNat * 1)) = some (.int .i64 x8) ∧ K x8 h4)))))
def dsu_Classes_Of.ret (K : Int → Heap → Prop) (v : Value) (h : Heap) : Prop := match v with
  | (.int .i64 r9) => K r9 h
  | _ => False
theorem dsu_Classes_Of.ret_elim {K : Int → Heap → Prop} {K' : Value → Heap → Prop} {v : Value} {h : Heap} (hk : ∀ r9 h, K r9 h → K' (.int .i64 r9) h) (hh : dsu_Classes_Of.ret K v h) : K' v h := by
  unfold dsu_Classes_Of.ret at hh
  split at hh
  · exact hk _ _ hh
  · exact hh.elim
def dsu_Classes_Of.call (f : FuncId) (vs : List Value) (h : Heap) (K : Value → Heap → Prop) : Prop := match f, vs with
  | 87, [(.pointer a1), (.int .i64 a2)] => callP1 (dsu_Classes_root a1 a2 h) fun r29 h' => K (.int .i64 r29) h'
  | _, _ => False
noncomputable def dsu_Classes_Of.ctx : Ctx := { P := Tryz.prog, call := dsu_Classes_Of.call, qcall := fun _ _ _ _ => False, quiet := fun f => Nat.beq f 1000131 || Nat.beq f 1000155, loop := fun _ _ _ _ => False }
theorem dsu_Classes_Of.ok [DKc] : dsu_Classes_Of.ctx.OK where
  mixed := by kernel_rfl
  mono := by
    intro f args h K K' hh hk
    change dsu_Classes_Of.call f args h K at hh
    change dsu_Classes_Of.call f args h K'
    unfold dsu_Classes_Of.call at hh ⊢
    split at hh
    · obtain ⟨R, h1, h2⟩ := hh
      exact ⟨R, h1, fun _ x hr => hk _ _ (h2 _ x hr)⟩
    · exact hh.elim
  call := by
    intro f args h K hh w hw
    change dsu_Classes_Of.call f args h K at hh
    unfold dsu_Classes_Of.call at hh
    split at hh
    · obtain ⟨R, h1, h2⟩ := hh
      obtain ⟨g1, g2⟩ := dsu_Classes_root.calls h1 w hw
      exact ⟨g1, g2.mono fun e w' ⟨v, he, ho, hr⟩ => ⟨v, he, ho, dsu_Classes_root.ret_elim h2 hr⟩⟩
    · exact hh.elim
  qmono := fun hh _ => hh.elim
  qval := fun hh => hh.elim
  qcall := fun hh => hh.elim
noncomputable def dsu_Classes_Of.code : Code := (Tryz.f52.body).getD .skip
def dsu_Classes_Of.ann : Ann := .auto
set_option maxRecDepth 100000 in
theorem dsu_Classes_Of.eq (a1 : Option Addr) (a2 : Int) (h : Heap) (K : Int → Heap → Prop) : evF dsu_Classes_Of.ctx Tryz.f52 dsu_Classes_Of.ann [(.pointer a1), (.int .i64 a2)] h (dsu_Classes_Of.ret K) = dsu_Classes_Of a1 a2 h K := by kernel_rfl
set_option maxRecDepth 100000 in
theorem dsu_Classes_Of.calls [DKc] {a1 : Option Addr} {a2 : Int} {h : Heap} {K : Int → Heap → Prop} (hh : dsu_Classes_Of a1 a2 h K) (w : World) (hw : w.heap = h) :
    (callFunc 52 #[(.pointer a1), (.int .i64 a2)]).run Tryz.prog w = .ok (.enter 52 #[(.pointer a1), (.int .i64 a2)]) w ∧ Calls Tryz.prog 52 #[(.pointer a1), (.int .i64 a2)] w fun e w' => ∃ v, e = .returned v ∧ Out w w' ∧ dsu_Classes_Of.ret K v w'.heap := by
  rw [← dsu_Classes_Of.eq] at hh
  exact fn_calls (args := [(.pointer a1), (.int .i64 a2)]) (c := dsu_Classes_Of.code) dsu_Classes_Of.ok Tryz.func52 (by kernel_rfl) (by kernel_rfl) (by kernel_rfl) (by kernel_rfl) (loops_ok (l := []) (by kernel_rfl) trivial) hh w hw

/-! ### slices.SortFunc[[][]int,[]int]: function 83, by its contract -/
def slices_SortFunc_LLint_Lint_dsu_Classes_List_c1.ret (K : Heap → Prop) (v : Value) (h : Heap) : Prop := match v with
  | (.tuple ⟨[]⟩) => K h
  | _ => False
theorem slices_SortFunc_LLint_Lint_dsu_Classes_List_c1.ret_elim {K : Heap → Prop} {K' : Value → Heap → Prop} {v : Value} {h : Heap} (hk : ∀  h, K h → K' (.tuple #[]) h) (hh : slices_SortFunc_LLint_Lint_dsu_Classes_List_c1.ret K v h) : K' v h := by
  unfold slices_SortFunc_LLint_Lint_dsu_Classes_List_c1.ret at hh
  split at hh
  · exact hk _ hh
  · exact hh.elim
def slices_SortFunc_LLint_Lint_dsu_Classes_List_c1 [DKc] (a1 : Option Addr) (a1l : Nat) (a1c : Nat) (h : Heap) (K : Heap → Prop) : Prop := ∀ w : World, w.heap = h → (callFunc 83 #[(.slice a1 a1l a1c), (.func (.func 84) #[] #[])]).run Tryz.prog w = .ok (.enter 83 #[(.slice a1 a1l a1c), (.func (.func 84) #[] #[])]) w ∧ Calls Tryz.prog 83 #[(.slice a1 a1l a1c), (.func (.func 84) #[] #[])] w fun e w' => ∃ v, e = .returned v ∧ Out w w' ∧ slices_SortFunc_LLint_Lint_dsu_Classes_List_c1.ret K v w'.heap
theorem slices_SortFunc_LLint_Lint_dsu_Classes_List_c1.calls [DKc] {a1 : Option Addr} {a1l : Nat} {a1c : Nat} {h : Heap} {K : Heap → Prop} (hh : slices_SortFunc_LLint_Lint_dsu_Classes_List_c1 a1 a1l a1c h K) (w : World) (hw : w.heap = h) : (callFunc 83 #[(.slice a1 a1l a1c), (.func (.func 84) #[] #[])]).run Tryz.prog w = .ok (.enter 83 #[(.slice a1 a1l a1c), (.func (.func 84) #[] #[])]) w ∧ Calls Tryz.prog 83 #[(.slice a1 a1l a1c), (.func (.func 84) #[] #[])] w fun e w' => ∃ v, e = .returned v ∧ Out w w' ∧ slices_SortFunc_LLint_Lint_dsu_Classes_List_c1.ret K v w'.heap := hh w hw

/-! ### (*strait/dsu.Classes).List: function 50 -/
section
variable [DKc]
def dsu_Classes_List.b1 (K4 : (Option Addr) → Nat → Nat → Heap → Prop) (cont : (Option Addr) → Nat → Nat → Addr → Heap → Prop) (v6_2001 : Option Addr) (v6_2001l : Nat) (v6_2001c : Nat) (c31_2002 : Addr) (h2003 : Heap) : Prop :=
  let j2025 := (fun (y2010 : Bool) (h2011 : Heap) => iteB y2010 (((c31_2002.off = 0 ∧ c31_2002.spot = none) ∧ ∃ (b2012 : Nat) (m2013 : KV) (s2014 : List Nat) (i2015 : Nat) (e2016 : Value × Value), (h2011[c31_2002.block]? = some (.mapIter (some b2012) m2013.length (s2014 ++ [i2015]).toArray m2013.length) ∧ mapAt h2011 b2012 m2013 ∧ m2013[i2015]? = some e2016) ∧ ∃ (q2017 : Option Addr) (q2017l q2017c : Nat), e2016.2 = .slice q2017 q2017l q2017c ∧ (newP h2011 (.cells #[(.slice q2017 q2017l q2017c)] 33) fun a2018 h2019 => ∃ n2024, cellsAt h2019 (some a2018) (1 * 1) n2024 ∧ appP 33 1 24 [(.slice none 0 0)] v6_2001 v6_2001l v6_2001c 1 n2024 h2019 fun q2020 l2021 c2022 h2023 => cont q2020 l2021 c2022 c31_2002 h2023))) (K4 v6_2001 v6_2001l v6_2001c h2011));
  (c31_2002.off = 0 ∧ c31_2002.spot = none) ∧ ∃ (b2004 : Nat) (m2005 : KV) (s2006 : List Nat), (h2003[c31_2002.block]? = some (.mapIter (some b2004) m2005.length s2006.toArray m2005.length) ∧ mapAt h2003 b2004 m2005) ∧ ((∀ i, i < m2005.length → i ∈ s2006) → (j2025 false h2003)) ∧ ∀ i2007 e2008, m2005[i2007]? = some e2008 → i2007 ∉ s2006 → bindV (setO h2003 c31_2002.block (.mapIter (some b2004) m2005.length (s2006 ++ [i2007]).toArray m2005.length)) fun h2009 => (j2025 true h2009)
def dsu_Classes_List.l1 (K4 : (Option Addr) → Nat → Nat → Heap → Prop) : Nat → (Option Addr) → Nat → Nat → Addr → Heap → Prop
  | 0, _, _, _, _, _ => False
  | m + 1, v6_2001, v6_2001l, v6_2001c, c31_2002, h => dsu_Classes_List.b1 K4 (dsu_Classes_List.l1 K4 m) v6_2001 v6_2001l v6_2001c c31_2002 h
def dsu_Classes_List.b0 (K2 : Heap → Prop) (cont : (Option Addr) → (Option Nat) → Int → Int → Heap → Prop) (c0_1001 : Option Addr) (c3_1002 : Option Nat) (c11_1003 : Int) (v12_1004 : Int) (h1005 : Heap) : Prop :=
  (iteB (decide (v12_1004 < c11_1003)) (((callP1 (dsu_Classes_Of c0_1001 v12_1004 h1005) fun x1006 h1007 => (chkM c3_1002 fun b1008 => ∃ m1009, mapIn (.int .i64) h1007 b1008 m1009 ∧ ∃ (x1010 : Option Addr) (x1010l : Nat) (x1010c : Nat), some ((getM (.int .i64 x1006) m1009).getD (.slice none 0 0)) = some (.slice x1010 x1010l x1010c) ∧ newP h1007 (.cells #[(.int .i64 v12_1004)] 3) fun a1011 h1012 => ∃ n1017, cellsAt h1012 (some a1011) (1 * 1) n1017 ∧ appP 3 1 8 [(.int .i64 0)] x1010 x1010l x1010c 1 n1017 h1012 fun q1013 l1014 c1015 h1016 => chkM c3_1002 fun b1018 => ∃ m1019, mapIn (.int .i64) h1016 b1018 m1019 ∧ bindV (setO h1016 b1018 (mapObj (putM (.int .i64 x1006) (.slice q1013 l1014 c1015) m1019))) fun h1020 => ((cont c0_1001 c3_1002 c11_1003 (IntKind.i64.wrap (v12_1004 + 1)) h1020)))))) (K2 h1005))
def dsu_Classes_List.l0 (K2 : Heap → Prop) : Nat → (Option Addr) → (Option Nat) → Int → Int → Heap → Prop
  | 0, _, _, _, _, _ => False
  | m + 1, c0_1001, c3_1002, c11_1003, v12_1004, h => dsu_Classes_List.b0 K2 (dsu_Classes_List.l0 K2 m) c0_1001 c3_1002 c11_1003 v12_1004 h
def dsu_Classes_List (a1 : Option Addr) (h : Heap) (K : (Option Addr) → Nat → Nat → Heap → Prop) : Prop :=
  (newP h (mapObj []) fun a2 h3 => (qcallP1 h3 (dsu_Classes_Room a1 h3) fun x4 => (∃ m6, dsu_Classes_List.l0 (fun h5 => ((chkM (some a2.block) fun b7 => ∃ m8, mapAt h5 b7 m8 ∧ (0 ≤ (0 : Int) ∧ (0 : Int) ≤ (m8.length : Int) ∧ (m8.length : Int) * (24 : Nat) ≤ 2 ^ 47 ∧ (m8.length : Int) ≤ 2 ^ 47) ∧ newP h5 (.cells (zeroRow [(.slice none 0 0)] (m8.length : Int).toNat).toArray 33) fun a9 h10 => (chkM (some a2.block) fun b11 => ∃ m12, mapAt h10 b11 m12 ∧ newP h10 (.mapIter (some b11) m12.length #[] m12.length) fun a13 h14 => (∃ m17, dsu_Classes_List.l1 (fun z15 z15l z15c h16 => ((callP0 (slices_SortFunc_LLint_Lint_dsu_Classes_List_c1 z15 z15l z15c h16) fun h18 => K z15 z15l z15c h18))) m17 (some a9) ((0 : Int).toNat) ((m8.length : Int).toNat) a13 h14))))) m6 a1 (some a2.block) x4 0 h3)))
def dsu_Classes_List.ret (K : (Option Addr) → Nat → Nat → Heap → Prop) (v : Value) (h : Heap) : Prop := match v with
  | (.slice r19 r19l r19c) => K r19 r19l r19c h
  | _ => False
theorem dsu_Classes_List.ret_elim {K : (Option Addr) → Nat → Nat → Heap → Prop} {K' : Value → Heap → Prop} {v : Value} {h : Heap} (hk : ∀ r19 r19l r19c h, K r19 r19l r19c h → K' (.slice r19 r19l r19c) h) (hh : dsu_Classes_List.ret K v h) : K' v h := by
  unfold dsu_Classes_List.ret at hh
  split at hh
  · exact hk _ _ _ _ hh
  · exact hh.elim
def dsu_Classes_List.call (f : FuncId) (vs : List Value) (h : Heap) (K : Value → Heap → Prop) : Prop := match f, vs with
  | 52, [(.pointer a1), (.int .i64 a2)] => callP1 (dsu_Classes_Of a1 a2 h) fun r9 h' => K (.int .i64 r9) h'
  | 83, [(.slice a1 a1l a1c), (.func (.func 84) ⟨[]⟩ ⟨[]⟩)] => callP0 (slices_SortFunc_LLint_Lint_dsu_Classes_List_c1 a1 a1l a1c h) fun h' => K (.tuple #[]) h'
  | _, _ => False
def dsu_Classes_List.qcall (f : FuncId) (vs : List Value) (h : Heap) (K : Value → Prop) : Prop := match f, vs with
  | 82, [(.pointer a1)] => qcallP1 h (dsu_Classes_Room a1 h) fun r4 => K (.int .i64 r4)
  | _, _ => False
def dsu_Classes_List.r0 (K : Nat → List Value → Heap → Prop) (m : Nat) (vs : List Value) (h : Heap) : Prop := match vs with
  | [(.pointer c0_1001), (.map c3_1002), (.int .i64 c11_1003), (.int .i64 v12_1004)] => dsu_Classes_List.l0 (fun h' => K 2 [(.map c3_1002)] h') m c0_1001 c3_1002 c11_1003 v12_1004 h
  | _ => False
def dsu_Classes_List.r1 (K : Nat → List Value → Heap → Prop) (m : Nat) (vs : List Value) (h : Heap) : Prop := match vs with
  | [(.slice v6_2001 v6_2001l v6_2001c), (.pointer (some c31_2002))] => dsu_Classes_List.l1 (fun z20 z20l z20c h' => K 4 [(.slice z20 z20l z20c)] h') m v6_2001 v6_2001l v6_2001c c31_2002 h
  | _ => False
def dsu_Classes_List.loop (i : Nat) (vs : List Value) (h : Heap) (K : Nat → List Value → Heap → Prop) : Prop := match i with
  | 0 => ∃ m, dsu_Classes_List.r0 K m vs h
  | 1 => ∃ m, dsu_Classes_List.r1 K m vs h
  | _ => False
noncomputable def dsu_Classes_List.ctx : Ctx := { P := Tryz.prog, call := dsu_Classes_List.call, qcall := dsu_Classes_List.qcall, quiet := fun f => Nat.beq f 82 || Nat.beq f 1000131 || Nat.beq f 1000155, loop := dsu_Classes_List.loop }
theorem dsu_Classes_List.ok : dsu_Classes_List.ctx.OK where
  mixed := by kernel_rfl
  mono := by
    intro f args h K K' hh hk
    change dsu_Classes_List.call f args h K at hh
    change dsu_Classes_List.call f args h K'
    unfold dsu_Classes_List.call at hh ⊢
    split at hh
    · obtain ⟨R, h1, h2⟩ := hh
      exact ⟨R, h1, fun _ x hr => hk _ _ (h2 _ x hr)⟩
    · obtain ⟨R, h1, h2⟩ := hh
      exact ⟨R, h1, fun x hr => hk _ _ (h2 x hr)⟩
    · exact hh.elim
  call := by
    intro f args h K hh w hw
    change dsu_Classes_List.call f args h K at hh
    unfold dsu_Classes_List.call at hh
    split at hh
    · obtain ⟨R, h1, h2⟩ := hh
      obtain ⟨g1, g2⟩ := dsu_Classes_Of.calls h1 w hw
      exact ⟨g1, g2.mono fun e w' ⟨v, he, ho, hr⟩ => ⟨v, he, ho, dsu_Classes_Of.ret_elim h2 hr⟩⟩
    · obtain ⟨R, h1, h2⟩ := hh
      obtain ⟨g1, g2⟩ := slices_SortFunc_LLint_Lint_dsu_Classes_List_c1.calls h1 w hw
      exact ⟨g1, g2.mono fun e w' ⟨v, he, ho, hr⟩ => ⟨v, he, ho, slices_SortFunc_LLint_Lint_dsu_Classes_List_c1.ret_elim h2 hr⟩⟩
    · exact hh.elim
  qmono := by
    intro f args h K K' hh hk
    change dsu_Classes_List.qcall f args h K at hh
    change dsu_Classes_List.qcall f args h K'
    unfold dsu_Classes_List.qcall at hh ⊢
    split at hh
    · obtain ⟨x0, h1, h2⟩ := hh
      exact ⟨x0, h1, hk _ h2⟩
    · exact hh.elim
  qval := by
    intro f args h K hh
    change dsu_Classes_List.qcall f args h K at hh
    suffices H : ∃ v, K v ∧ dsu_Classes_List.qcall f args h (· = v) from H
    unfold dsu_Classes_List.qcall at hh ⊢
    split at hh
    · obtain ⟨x0, h1, h2⟩ := hh
      exact ⟨_, h2, x0, h1, rfl⟩
    · exact hh.elim
  qcall := by
    intro f args h v hh w hw
    change dsu_Classes_List.qcall f args h (· = v) at hh
    unfold dsu_Classes_List.qcall at hh
    split at hh
    · obtain ⟨x0, h1, h2⟩ := hh
      obtain ⟨g1, g2⟩ := dsu_Classes_Room.calls h1 w hw
      refine .inl ⟨g1, g2.mono fun e w' ⟨u, he, ho, hr⟩ => ?_⟩
      have hq := dsu_Classes_Room.ret_elim (K' := fun u h' => u = v ∧ h' = h) (fun _ h' hr => by obtain ⟨rfl, rfl⟩ := hr; exact ⟨h2, rfl⟩) hr
      exact ⟨hq.1 ▸ he, ho, hq.2⟩
    · exact hh.elim
noncomputable def dsu_Classes_List.code : Code := (Tryz.f50.body).getD .skip
def dsu_Classes_List.ann : Ann := (.two .auto (.two .auto (.two (.two .auto (.two (.loop 0 [0, 3, 11, 12] [(2, [3])] .auto) .auto)) (.two .auto (.two (.two .auto (.two (.loop 1 [6, 31] [(4, [6])] .auto) .auto)) .auto)))))
noncomputable def dsu_Classes_List.c1 : Code := sub dsu_Classes_List.code [1, 1, 1, 1, 0, 1, 0, 0]
def dsu_Classes_List.a1 : Ann := .auto
def dsu_Classes_List.keep1 : List Nat := [6, 31]
def dsu_Classes_List.outs1 : List (Nat × List Nat) := [(4, [6])]
noncomputable def dsu_Classes_List.c0 : Code := sub dsu_Classes_List.code [1, 1, 0, 1, 0, 0]
def dsu_Classes_List.a0 : Ann := .auto
def dsu_Classes_List.keep0 : List Nat := [0, 3, 11, 12]
def dsu_Classes_List.outs0 : List (Nat × List Nat) := [(2, [3])]
set_option maxRecDepth 100000 in
theorem dsu_Classes_List.L0 : LoopOK dsu_Classes_List.ctx 43 dsu_Classes_List.c0 0 dsu_Classes_List.keep0 dsu_Classes_List.outs0 := by
  refine loop_ok (n := dsu_Classes_List.a0) dsu_Classes_List.ok (by kernel_rfl) (loops_ok (l := []) (by kernel_rfl) ?_) dsu_Classes_List.r0 ?_ ?_ (fun vs h K hh => hh)
  · exact trivial
  · intro K vs h hh
    unfold dsu_Classes_List.r0 at hh
    split at hh
    · exact hh
    · exact hh
  · intro K m vs h hh
    unfold dsu_Classes_List.r0 at hh
    split at hh
    · exact cast (by kernel_rfl) hh
    · exact hh.elim
set_option maxRecDepth 100000 in
theorem dsu_Classes_List.L1 : LoopOK dsu_Classes_List.ctx 43 dsu_Classes_List.c1 1 dsu_Classes_List.keep1 dsu_Classes_List.outs1 := by
  refine loop_ok (n := dsu_Classes_List.a1) dsu_Classes_List.ok (by kernel_rfl) (loops_ok (l := []) (by kernel_rfl) ?_) dsu_Classes_List.r1 ?_ ?_ (fun vs h K hh => hh)
  · exact trivial
  · intro K vs h hh
    unfold dsu_Classes_List.r1 at hh
    split at hh
    · exact hh
    · exact hh
  · intro K m vs h hh
    unfold dsu_Classes_List.r1 at hh
    split at hh
    · exact cast (by kernel_rfl) hh
    · exact hh.elim
set_option maxRecDepth 100000 in
theorem dsu_Classes_List.eq (a1 : Option Addr) (h : Heap) (K : (Option Addr) → Nat → Nat → Heap → Prop) : evF dsu_Classes_List.ctx Tryz.f50 dsu_Classes_List.ann [(.pointer a1)] h (dsu_Classes_List.ret K) = dsu_Classes_List a1 h K := by kernel_rfl
set_option maxRecDepth 100000 in
theorem dsu_Classes_List.calls {a1 : Option Addr} {h : Heap} {K : (Option Addr) → Nat → Nat → Heap → Prop} (hh : dsu_Classes_List a1 h K) (w : World) (hw : w.heap = h) :
    (callFunc 50 #[(.pointer a1)]).run Tryz.prog w = .ok (.enter 50 #[(.pointer a1)]) w ∧ Calls Tryz.prog 50 #[(.pointer a1)] w fun e w' => ∃ v, e = .returned v ∧ Out w w' ∧ dsu_Classes_List.ret K v w'.heap := by
  rw [← dsu_Classes_List.eq] at hh
  exact fn_calls (args := [(.pointer a1)]) (c := dsu_Classes_List.code) dsu_Classes_List.ok Tryz.func50 (by kernel_rfl) (by kernel_rfl) (by kernel_rfl) (by kernel_rfl) (loops_ok (l := [(dsu_Classes_List.c0, none, 0, dsu_Classes_List.keep0, dsu_Classes_List.outs0), (dsu_Classes_List.c1, none, 1, dsu_Classes_List.keep1, dsu_Classes_List.outs1)]) (by kernel_rfl) ⟨dsu_Classes_List.L0, dsu_Classes_List.L1, trivial⟩) hh w hw
end

/-! ### strait/straitref09.Ints: function 11 -/
def straitref09_Ints.b0 (K0 : Bool → Heap → Prop) (K2 : Heap → Prop) (cont : (Option Addr) → Nat → Nat → (Option Addr) → Nat → Nat → Int → Heap → Prop) (c0_1001 : Option Addr) (c0_1002 : Nat) (c0_1003 : Nat) (c1_1004 : Option Addr) (c1_1005 : Nat) (c1_1006 : Nat) (v5_1007 : Int) (h1008 : Heap) : Prop :=
  (iteB (decide (v5_1007 < (c0_1002 : Int))) ((chkP c0_1001 fun a1009 => (0 ≤ v5_1007 ∧ v5_1007 < (c0_1002 : Int)) ∧ ∃ (x1010 : Int), cell h1008 (a1009.add (v5_1007.toNat * 1)) = some (.int .i64 x1010) ∧ chkP c1_1004 fun a1011 => (0 ≤ v5_1007 ∧ v5_1007 < (c1_1005 : Int)) ∧ ∃ (x1012 : Int), cell h1008 (a1011.add (v5_1007.toNat * 1)) = some (.int .i64 x1012) ∧ (iteB (x1010 != x1012) (K0 false h1008) (((cont c0_1001 c0_1002 c0_1003 c1_1004 c1_1005 c1_1006 (IntKind.i64.wrap (v5_1007 + 1)) h1008)))))) (K2 h1008))
def straitref09_Ints.l0 (K0 : Bool → Heap → Prop) (K2 : Heap → Prop) : Nat → (Option Addr) → Nat → Nat → (Option Addr) → Nat → Nat → Int → Heap → Prop
  | 0, _, _, _, _, _, _, _, _ => False
  | m + 1, c0_1001, c0_1002, c0_1003, c1_1004, c1_1005, c1_1006, v5_1007, h => straitref09_Ints.b0 K0 K2 (straitref09_Ints.l0 K0 K2 m) c0_1001 c0_1002 c0_1003 c1_1004 c1_1005 c1_1006 v5_1007 h
def straitref09_Ints (a1 : Option Addr) (a1l : Nat) (a1c : Nat) (a2 : Option Addr) (a2l : Nat) (a2c : Nat) (h : Heap) (K : Bool → Heap → Prop) : Prop :=
  ((iteB ((a1l : Int) != (a2l : Int)) (K false h) (((∃ m6, straitref09_Ints.l0 (fun z3 h4 => K z3 h4) (fun h5 => (K true h5)) m6 a1 a1l a1c a2 a2l a2c 0 h)))))
def straitref09_Ints.ret (K : Bool → Heap → Prop) (v : Value) (h : Heap) : Prop := match v with
  | (.bool r7) => K r7 h
  | _ => False
theorem straitref09_Ints.ret_elim {K : Bool → Heap → Prop} {K' : Value → Heap → Prop} {v : Value} {h : Heap} (hk : ∀ r7 h, K r7 h → K' (.bool r7) h) (hh : straitref09_Ints.ret K v h) : K' v h := by
  unfold straitref09_Ints.ret at hh
  split at hh
  · exact hk _ _ hh
  · exact hh.elim
def straitref09_Ints.r0 (K : Nat → List Value → Heap → Prop) (m : Nat) (vs : List Value) (h : Heap) : Prop := match vs with
  | [(.slice c0_1001 c0_1002 c0_1003), (.slice c1_1004 c1_1005 c1_1006), (.int .i64 v5_1007)] => straitref09_Ints.l0 (fun z8 h' => K 0 [(.bool z8)] h') (fun h' => K 2 [] h') m c0_1001 c0_1002 c0_1003 c1_1004 c1_1005 c1_1006 v5_1007 h
  | _ => False
def straitref09_Ints.loop (i : Nat) (vs : List Value) (h : Heap) (K : Nat → List Value → Heap → Prop) : Prop := match i with
  | 0 => ∃ m, straitref09_Ints.r0 K m vs h
  | _ => False
noncomputable def straitref09_Ints.ctx : Ctx := { P := Tryz.prog, call := fun _ _ _ _ => False, qcall := fun _ _ _ _ => False, quiet := fun f => Nat.beq f 1000131 || Nat.beq f 1000155, loop := straitref09_Ints.loop }
theorem straitref09_Ints.ok [DKc] : straitref09_Ints.ctx.OK where
  mixed := by kernel_rfl
  mono := fun hh _ => hh.elim
  call := fun hh => hh.elim
  qmono := fun hh _ => hh.elim
  qval := fun hh => hh.elim
  qcall := fun hh => hh.elim
noncomputable def straitref09_Ints.code : Code := (Tryz.f11.body).getD .skip
def straitref09_Ints.ann : Ann := (.two .auto (.two .auto (.two (.two .auto (.two (.loop 0 [0, 1, 5] [(2, []), (0, [4])] (.two .auto (.two (.two (.two (.reg [0, 0, 3, 7, 0, 0, 48, 112, 255] (.take 0 (.take 1 (.take 2 (.take 3 (.take 4 (.take 5 (.take 6 (.take 7 (.take 8 .done)))))))))) .auto) .auto) .auto))) .auto)) .auto)))
noncomputable def straitref09_Ints.c0 : Code := sub straitref09_Ints.code [1, 1, 0, 1, 0, 0]
def straitref09_Ints.a0 : Ann := (.two .auto (.two (.two (.two (.reg [0, 0, 3, 7, 0, 0, 48, 112, 255] (.take 0 (.take 1 (.take 2 (.take 3 (.take 4 (.take 5 (.take 6 (.take 7 (.take 8 .done)))))))))) .auto) .auto) .auto))
def straitref09_Ints.keep0 : List Nat := [0, 1, 5]
def straitref09_Ints.outs0 : List (Nat × List Nat) := [(2, []), (0, [4])]
set_option maxRecDepth 100000 in
theorem straitref09_Ints.L0 [DKc] : LoopOK straitref09_Ints.ctx 26 straitref09_Ints.c0 0 straitref09_Ints.keep0 straitref09_Ints.outs0 := by
  refine loop_ok (n := straitref09_Ints.a0) straitref09_Ints.ok (by kernel_rfl) (loops_ok (l := []) (by kernel_rfl) ?_) straitref09_Ints.r0 ?_ ?_ (fun vs h K hh => hh)
  · exact trivial
  · intro K vs h hh
    unfold straitref09_Ints.r0 at hh
    split at hh
    · exact hh
    · exact hh
  · intro K m vs h hh
    unfold straitref09_Ints.r0 at hh
    split at hh
    · exact cast (by kernel_rfl) hh
    · exact hh.elim
set_option maxRecDepth 100000 in
theorem straitref09_Ints.eq (a1 : Option Addr) (a1l : Nat) (a1c : Nat) (a2 : Option Addr) (a2l : Nat) (a2c : Nat) (h : Heap) (K : Bool → Heap → Prop) : evF straitref09_Ints.ctx Tryz.f11 straitref09_Ints.ann [(.slice a1 a1l a1c), (.slice a2 a2l a2c)] h (straitref09_Ints.ret K) = straitref09_Ints a1 a1l a1c a2 a2l a2c h K := by kernel_rfl
set_option maxRecDepth 100000 in
theorem straitref09_Ints.calls [DKc] {a1 : Option Addr} {a1l : Nat} {a1c : Nat} {a2 : Option Addr} {a2l : Nat} {a2c : Nat} {h : Heap} {K : Bool → Heap → Prop} (hh : straitref09_Ints a1 a1l a1c a2 a2l a2c h K) (w : World) (hw : w.heap = h) :
    (callFunc 11 #[(.slice a1 a1l a1c), (.slice a2 a2l a2c)]).run Tryz.prog w = .ok (.enter 11 #[(.slice a1 a1l a1c), (.slice a2 a2l a2c)]) w ∧ Calls Tryz.prog 11 #[(.slice a1 a1l a1c), (.slice a2 a2l a2c)] w fun e w' => ∃ v, e = .returned v ∧ Out w w' ∧ straitref09_Ints.ret K v w'.heap := by
  rw [← straitref09_Ints.eq] at hh
  exact fn_calls (args := [(.slice a1 a1l a1c), (.slice a2 a2l a2c)]) (c := straitref09_Ints.code) straitref09_Ints.ok Tryz.func11 (by kernel_rfl) (by kernel_rfl) (by kernel_rfl) (by kernel_rfl) (loops_ok (l := [(straitref09_Ints.c0, none, 0, straitref09_Ints.keep0, straitref09_Ints.outs0)]) (by kernel_rfl) ⟨straitref09_Ints.L0, trivial⟩) hh w hw

/-! ### strait/straitref09.Room: function 88 -/
def straitref09_Room (a1 : Int) (h : Heap) (K : Int → Heap → Prop) : Prop :=
  (bindV (if (if 4096 < a1 then 4096 else a1) > 0 then (if 4096 < a1 then 4096 else a1) else 0) fun n2 => K n2 h)
def straitref09_Room.ret (K : Int → Heap → Prop) (v : Value) (h : Heap) : Prop := match v with
  | (.int .i64 r3) => K r3 h
  | _ => False
theorem straitref09_Room.ret_elim {K : Int → Heap → Prop} {K' : Value → Heap → Prop} {v : Value} {h : Heap} (hk : ∀ r3 h, K r3 h → K' (.int .i64 r3) h) (hh : straitref09_Room.ret K v h) : K' v h := by
  unfold straitref09_Room.ret at hh
  split at hh
  · exact hk _ _ hh
  · exact hh.elim
noncomputable def straitref09_Room.ctx : Ctx := { P := Tryz.prog, call := fun _ _ _ _ => False, qcall := fun _ _ _ _ => False, quiet := fun f => Nat.beq f 1000131 || Nat.beq f 1000155, loop := fun _ _ _ _ => False }
theorem straitref09_Room.ok [DKc] : straitref09_Room.ctx.OK where
  mixed := by kernel_rfl
  mono := fun hh _ => hh.elim
  call := fun hh => hh.elim
  qmono := fun hh _ => hh.elim
  qval := fun hh => hh.elim
  qcall := fun hh => hh.elim
noncomputable def straitref09_Room.code : Code := (Tryz.f88.body).getD .skip
def straitref09_Room.ann : Ann := .auto
set_option maxRecDepth 100000 in
theorem straitref09_Room.eq (a1 : Int) (h : Heap) (K : Int → Heap → Prop) : evF straitref09_Room.ctx Tryz.f88 straitref09_Room.ann [(.int .i64 a1)] h (straitref09_Room.ret K) = straitref09_Room a1 h K := by kernel_rfl
set_option maxRecDepth 100000 in
theorem straitref09_Room.calls [DKc] {a1 : Int} {h : Heap} {K : Int → Heap → Prop} (hh : straitref09_Room a1 h K) (w : World) (hw : w.heap = h) :
    (callFunc 88 #[(.int .i64 a1)]).run Tryz.prog w = .ok (.enter 88 #[(.int .i64 a1)]) w ∧ Calls Tryz.prog 88 #[(.int .i64 a1)] w fun e w' => ∃ v, e = .returned v ∧ Out w w' ∧ straitref09_Room.ret K v w'.heap := by
  rw [← straitref09_Room.eq] at hh
  exact fn_calls (args := [(.int .i64 a1)]) (c := straitref09_Room.code) straitref09_Room.ok Tryz.func88 (by kernel_rfl) (by kernel_rfl) (by kernel_rfl) (by kernel_rfl) (loops_ok (l := []) (by kernel_rfl) trivial) hh w hw

/-! ### strait/straitref10.New: function 53 -/
def straitref10_New.b0 (K2 : Heap → Prop) (cont : Int → Addr → Addr → Int → Heap → Prop) (c0_1001 : Int) (c2_1002 : Addr) (c3_1003 : Addr) (v4_1004 : Int) (h1005 : Heap) : Prop :=
  qcallP1 h1005 (straitref09_Room c0_1001 h1005) fun x1006 => (iteB (decide (v4_1004 < x1006)) ((∃ (x1007 : Option Addr) (x1007l : Nat) (x1007c : Nat), cell h1005 c3_1003 = some (.slice x1007 x1007l x1007c) ∧ newP h1005 (.cells #[(.int .i64 v4_1004)] 3) fun a1008 h1009 => ∃ n1014, cellsAt h1009 (some a1008) (1 * 1) n1014 ∧ appP 3 1 8 [(.int .i64 0)] x1007 x1007l x1007c 1 n1014 h1009 fun q1010 l1011 c1012 h1013 => stC h1013 c3_1003 (.slice q1010 l1011 c1012) fun h1015 => ((cont c0_1001 c2_1002 c3_1003 (IntKind.i64.wrap (v4_1004 + 1)) h1015)))) (K2 h1005))
def straitref10_New.l0 (K2 : Heap → Prop) : Nat → Int → Addr → Addr → Int → Heap → Prop
  | 0, _, _, _, _, _ => False
  | m + 1, c0_1001, c2_1002, c3_1003, v4_1004, h => straitref10_New.b0 K2 (straitref10_New.l0 K2 m) c0_1001 c2_1002 c3_1003 v4_1004 h
def straitref10_New (a1 : Int) (h : Heap) (K : (Option Addr) → Nat → Nat → Heap → Prop) : Prop :=
  newP h (.cells #[(.slice none 0 0)] 113) fun a2 h3 => (newP h3 (.cells #[(.slice none 0 0)] 113) fun a4 h5 => ((∃ m7, straitref10_New.l0 (fun h6 => ((∃ (x8 : Option Addr) (x8l : Nat) (x8c : Nat), cell h6 a4 = some (.slice x8 x8l x8c) ∧ stC h6 a2 (.slice x8 x8l x8c) fun h9 => (∃ (x10 : Option Addr) (x10l : Nat) (x10c : Nat), cell h9 a2 = some (.slice x10 x10l x10c) ∧ K x10 x10l x10c h9)))) m7 a1 a2 a4 0 h5)))
def straitref10_New.ret (K : (Option Addr) → Nat → Nat → Heap → Prop) (v : Value) (h : Heap) : Prop := match v with
  | (.agg ⟨[(.slice r11 r11l r11c)]⟩) => K r11 r11l r11c h
  | _ => False
theorem straitref10_New.ret_elim {K : (Option Addr) → Nat → Nat → Heap → Prop} {K' : Value → Heap → Prop} {v : Value} {h : Heap} (hk : ∀ r11 r11l r11c h, K r11 r11l r11c h → K' (.agg #[(.slice r11 r11l r11c)]) h) (hh : straitref10_New.ret K v h) : K' v h := by
  unfold straitref10_New.ret at hh
  split at hh
  · exact hk _ _ _ _ hh
  · exact hh.elim
def straitref10_New.qcall (f : FuncId) (vs : List Value) (h : Heap) (K : Value → Prop) : Prop := match f, vs with
  | 88, [(.int .i64 a1)] => qcallP1 h (straitref09_Room a1 h) fun r3 => K (.int .i64 r3)
  | _, _ => False
def straitref10_New.r0 (K : Nat → List Value → Heap → Prop) (m : Nat) (vs : List Value) (h : Heap) : Prop := match vs with
  | [(.int .i64 c0_1001), (.pointer (some c2_1002)), (.pointer (some c3_1003)), (.int .i64 v4_1004)] => straitref10_New.l0 (fun h' => K 2 [(.pointer (some c2_1002)), (.pointer (some c3_1003))] h') m c0_1001 c2_1002 c3_1003 v4_1004 h
  | _ => False
def straitref10_New.loop (i : Nat) (vs : List Value) (h : Heap) (K : Nat → List Value → Heap → Prop) : Prop := match i with
  | 0 => ∃ m, straitref10_New.r0 K m vs h
  | _ => False
noncomputable def straitref10_New.ctx : Ctx := { P := Tryz.prog, call := fun _ _ _ _ => False, qcall := straitref10_New.qcall, quiet := fun f => Nat.beq f 88 || Nat.beq f 1000131 || Nat.beq f 1000155, loop := straitref10_New.loop }
theorem straitref10_New.ok [DKc] : straitref10_New.ctx.OK where
  mixed := by kernel_rfl
  mono := fun hh _ => hh.elim
  call := fun hh => hh.elim
  qmono := by
    intro f args h K K' hh hk
    change straitref10_New.qcall f args h K at hh
    change straitref10_New.qcall f args h K'
    unfold straitref10_New.qcall at hh ⊢
    split at hh
    · obtain ⟨x0, h1, h2⟩ := hh
      exact ⟨x0, h1, hk _ h2⟩
    · exact hh.elim
  qval := by
    intro f args h K hh
    change straitref10_New.qcall f args h K at hh
    suffices H : ∃ v, K v ∧ straitref10_New.qcall f args h (· = v) from H
    unfold straitref10_New.qcall at hh ⊢
    split at hh
    · obtain ⟨x0, h1, h2⟩ := hh
      exact ⟨_, h2, x0, h1, rfl⟩
    · exact hh.elim
  qcall := by
    intro f args h v hh w hw
    change straitref10_New.qcall f args h (· = v) at hh
    unfold straitref10_New.qcall at hh
    split at hh
    · obtain ⟨x0, h1, h2⟩ := hh
      obtain ⟨g1, g2⟩ := straitref09_Room.calls h1 w hw
      refine .inl ⟨g1, g2.mono fun e w' ⟨u, he, ho, hr⟩ => ?_⟩
      have hq := straitref09_Room.ret_elim (K' := fun u h' => u = v ∧ h' = h) (fun _ h' hr => by obtain ⟨rfl, rfl⟩ := hr; exact ⟨h2, rfl⟩) hr
      exact ⟨hq.1 ▸ he, ho, hq.2⟩
    · exact hh.elim
noncomputable def straitref10_New.code : Code := (Tryz.f53.body).getD .skip
def straitref10_New.ann : Ann := (.two .auto (.two .auto (.two (.two .auto (.two (.loop 0 [0, 2, 3, 4] [(2, [2, 3])] .auto) .auto)) .auto)))
noncomputable def straitref10_New.c0 : Code := sub straitref10_New.code [1, 1, 0, 1, 0, 0]
def straitref10_New.a0 : Ann := .auto
def straitref10_New.keep0 : List Nat := [0, 2, 3, 4]
def straitref10_New.outs0 : List (Nat × List Nat) := [(2, [2, 3])]
set_option maxRecDepth 100000 in
theorem straitref10_New.L0 [DKc] : LoopOK straitref10_New.ctx 18 straitref10_New.c0 0 straitref10_New.keep0 straitref10_New.outs0 := by
  refine loop_ok (n := straitref10_New.a0) straitref10_New.ok (by kernel_rfl) (loops_ok (l := []) (by kernel_rfl) ?_) straitref10_New.r0 ?_ ?_ (fun vs h K hh => hh)
  · exact trivial
  · intro K vs h hh
    unfold straitref10_New.r0 at hh
    split at hh
    · exact hh
    · exact hh
  · intro K m vs h hh
    unfold straitref10_New.r0 at hh
    split at hh
    · exact cast (by kernel_rfl) hh
    · exact hh.elim
set_option maxRecDepth 100000 in
theorem straitref10_New.eq (a1 : Int) (h : Heap) (K : (Option Addr) → Nat → Nat → Heap → Prop) : evF straitref10_New.ctx Tryz.f53 straitref10_New.ann [(.int .i64 a1)] h (straitref10_New.ret K) = straitref10_New a1 h K := by kernel_rfl
set_option maxRecDepth 100000 in
theorem straitref10_New.calls [DKc] {a1 : Int} {h : Heap} {K : (Option Addr) → Nat → Nat → Heap → Prop} (hh : straitref10_New a1 h K) (w : World) (hw : w.heap = h) :
    (callFunc 53 #[(.int .i64 a1)]).run Tryz.prog w = .ok (.enter 53 #[(.int .i64 a1)]) w ∧ Calls Tryz.prog 53 #[(.int .i64 a1)] w fun e w' => ∃ v, e = .returned v ∧ Out w w' ∧ straitref10_New.ret K v w'.heap := by
  rw [← straitref10_New.eq] at hh
  exact fn_calls (args := [(.int .i64 a1)]) (c := straitref10_New.code) straitref10_New.ok Tryz.func53 (by kernel_rfl) (by kernel_rfl) (by kernel_rfl) (by kernel_rfl) (loops_ok (l := [(straitref10_New.c0, none, 0, straitref10_New.keep0, straitref10_New.outs0)]) (by kernel_rfl) ⟨straitref10_New.L0, trivial⟩) hh w hw

/-! ### (strait/straitref10.Classes).in: function 89 -/
def straitref10_Classes_in (a1 : Option Addr) (a1l : Nat) (a1c : Nat) (a2 : Int) (h : Heap) (K : Bool → Heap → Prop) : Prop :=
  newP h (.cells #[(.slice a1 a1l a1c)] 113) fun a3 h4 => (iteB (decide (a2 ≥ (0 : Int))) (∃ (x5 : Option Addr) (x5l : Nat) (x5c : Nat), cell h4 a3 = some (.slice x5 x5l x5c) ∧ (K (decide (a2 < (x5l : Int))) h4)) (K false h4))
def straitref10_Classes_in.ret (K : Bool → Heap → Prop) (v : Value) (h : Heap) : Prop := match v with
  | (.bool r7) => K r7 h
  | _ => False
theorem straitref10_Classes_in.ret_elim {K : Bool → Heap → Prop} {K' : Value → Heap → Prop} {v : Value} {h : Heap} (hk : ∀ r7 h, K r7 h → K' (.bool r7) h) (hh : straitref10_Classes_in.ret K v h) : K' v h := by
  unfold straitref10_Classes_in.ret at hh
  split at hh
  · exact hk _ _ hh
  · exact hh.elim
noncomputable def straitref10_Classes_in.ctx : Ctx := { P := Tryz.prog, call := fun _ _ _ _ => False, qcall := fun _ _ _ _ => False, quiet := fun f => Nat.beq f 1000131 || Nat.beq f 1000155, loop := fun _ _ _ _ => False }
theorem straitref10_Classes_in.ok [DKc] : straitref10_Classes_in.ctx.OK where
  mixed := by kernel_rfl
  mono := fun hh _ => hh.elim
  call := fun hh => hh.elim
  qmono := fun hh _ => hh.elim
  qval := fun hh => hh.elim
  qcall := fun hh => hh.elim
noncomputable def straitref10_Classes_in.code : Code := (Tryz.f89.body).getD .skip
def straitref10_Classes_in.ann : Ann := .auto
set_option maxRecDepth 100000 in
theorem straitref10_Classes_in.eq (a1 : Option Addr) (a1l : Nat) (a1c : Nat) (a2 : Int) (h : Heap) (K : Bool → Heap → Prop) : evF straitref10_Classes_in.ctx Tryz.f89 straitref10_Classes_in.ann [(.agg #[(.slice a1 a1l a1c)]), (.int .i64 a2)] h (straitref10_Classes_in.ret K) = straitref10_Classes_in a1 a1l a1c a2 h K := by kernel_rfl
set_option maxRecDepth 100000 in
theorem straitref10_Classes_in.calls [DKc] {a1 : Option Addr} {a1l : Nat} {a1c : Nat} {a2 : Int} {h : Heap} {K : Bool → Heap → Prop} (hh : straitref10_Classes_in a1 a1l a1c a2 h K) (w : World) (hw : w.heap = h) :
    (callFunc 89 #[(.agg #[(.slice a1 a1l a1c)]), (.int .i64 a2)]).run Tryz.prog w = .ok (.enter 89 #[(.agg #[(.slice a1 a1l a1c)]), (.int .i64 a2)]) w ∧ Calls Tryz.prog 89 #[(.agg #[(.slice a1 a1l a1c)]), (.int .i64 a2)] w fun e w' => ∃ v, e = .returned v ∧ Out w w' ∧ straitref10_Classes_in.ret K v w'.heap := by
  rw [← straitref10_Classes_in.eq] at hh
  exact fn_calls (args := [(.agg #[(.slice a1 a1l a1c)]), (.int .i64 a2)]) (c := straitref10_Classes_in.code) straitref10_Classes_in.ok Tryz.func89 (by kernel_rfl) (by kernel_rfl) (by kernel_rfl) (by kernel_rfl) (loops_ok (l := []) (by kernel_rfl) trivial) hh w hw

/-! ### (strait/straitref10.Classes).Join: function 54 -/
def straitref10_Classes_Join.b0 (K2 : Heap → Prop) (cont : Addr → Addr → Int → Int → Addr → Int → Heap → Prop) (c3_1001 : Addr) (c6_1002 : Addr) (c7_1003 : Int) (c8_1004 : Int) (c9_1005 : Addr) (v10_1006 : Int) (h1007 : Heap) : Prop :=
  ∃ (x1008 : Option Addr) (x1008l : Nat) (x1008c : Nat), cell h1007 c3_1001 = some (.slice x1008 x1008l x1008c) ∧ (iteB (decide (v10_1006 < (x1008l : Int))) ((∃ (x1009 : Option Addr) (x1009l : Nat) (x1009c : Nat), cell h1007 c3_1001 = some (.slice x1009 x1009l x1009c) ∧ chkP x1009 fun a1010 => (0 ≤ v10_1006 ∧ v10_1006 < (x1009l : Int)) ∧ ∃ (x1011 : Int), cell h1007 (a1010.add (v10_1006.toNat * 1)) = some (.int .i64 x1011) ∧ (let j1026 := (fun (y1016 : Int) => ∃ (x1017 : Option Addr) (x1017l : Nat) (x1017c : Nat), cell h1007 c9_1005 = some (.slice x1017 x1017l x1017c) ∧ newP h1007 (.cells #[(.int .i64 y1016)] 3) fun a1018 h1019 => ∃ n1024, cellsAt h1019 (some a1018) (1 * 1) n1024 ∧ appP 3 1 8 [(.int .i64 0)] x1017 x1017l x1017c 1 n1024 h1019 fun q1020 l1021 c1022 h1023 => stC h1023 c9_1005 (.slice q1020 l1021 c1022) fun h1025 => ((cont c3_1001 c6_1002 c7_1003 c8_1004 c9_1005 (IntKind.i64.wrap (v10_1006 + 1)) h1025)));
  iteB (x1011 == c7_1003) ((bindV (if c8_1004 < c7_1003 then c8_1004 else c7_1003) fun n1014 => (j1026 n1014))) ((iteB (x1011 == c8_1004) (bindV (if c8_1004 < c7_1003 then c8_1004 else c7_1003) fun n1015 => (j1026 n1015)) ((j1026 x1011))))))) (K2 h1007))
def straitref10_Classes_Join.l0 (K2 : Heap → Prop) : Nat → Addr → Addr → Int → Int → Addr → Int → Heap → Prop
  | 0, _, _, _, _, _, _, _ => False
  | m + 1, c3_1001, c6_1002, c7_1003, c8_1004, c9_1005, v10_1006, h => straitref10_Classes_Join.b0 K2 (straitref10_Classes_Join.l0 K2 m) c3_1001 c6_1002 c7_1003 c8_1004 c9_1005 v10_1006 h
def straitref10_Classes_Join (a1 : Option Addr) (a1l : Nat) (a1c : Nat) (a2 : Int) (a3 : Int) (h : Heap) (K : (Option Addr) → Nat → Nat → Heap → Prop) : Prop :=
  newP h (.cells #[(.slice a1 a1l a1c)] 113) fun a4 h5 => newP h5 (.cells #[(.slice none 0 0)] 113) fun a6 h7 => (let j39 := (fun (h25 : Heap) => ∃ (x26 : Option Addr) (x26l : Nat) (x26c : Nat), cell h25 a4 = some (.slice x26 x26l x26c) ∧ chkP x26 fun a27 => (0 ≤ a2 ∧ a2 < (x26l : Int)) ∧ ∃ (x28 : Int), cell h25 (a27.add (a2.toNat * 1)) = some (.int .i64 x28) ∧ ∃ (x29 : Option Addr) (x29l : Nat) (x29c : Nat), cell h25 a4 = some (.slice x29 x29l x29c) ∧ chkP x29 fun a30 => (0 ≤ a3 ∧ a3 < (x29l : Int)) ∧ ∃ (x31 : Int), cell h25 (a30.add (a3.toNat * 1)) = some (.int .i64 x31) ∧ (newP h25 (.cells #[(.slice none 0 0)] 113) fun a32 h33 => ((∃ m35, straitref10_Classes_Join.l0 (fun h34 => ((∃ (x36 : Option Addr) (x36l : Nat) (x36c : Nat), cell h34 a32 = some (.slice x36 x36l x36c) ∧ stC h34 a6 (.slice x36 x36l x36c) fun h37 => (∃ (x38 : Option Addr) (x38l : Nat) (x38c : Nat), cell h37 a6 = some (.slice x38 x38l x38c) ∧ K x38 x38l x38c h37)))) m35 a4 a6 x28 x31 a32 0 h33))));
  ∃ (x8 : Option Addr) (x8l : Nat) (x8c : Nat), cell h7 a4 = some (.slice x8 x8l x8c) ∧ callP1 (straitref10_Classes_in x8 x8l x8c a2 h7) fun x9 h10 => iteB (!x9) ((∃ (x19 : Option Addr) (x19l : Nat) (x19c : Nat), cell h10 a4 = some (.slice x19 x19l x19c) ∧ stC h10 a6 (.slice x19 x19l x19c) fun h20 => (∃ (x21 : Option Addr) (x21l : Nat) (x21c : Nat), cell h20 a6 = some (.slice x21 x21l x21c) ∧ K x21 x21l x21c h20))) (∃ (x11 : Option Addr) (x11l : Nat) (x11c : Nat), cell h10 a4 = some (.slice x11 x11l x11c) ∧ callP1 (straitref10_Classes_in x11 x11l x11c a3 h10) fun x12 h13 => (iteB (!x12) (∃ (x22 : Option Addr) (x22l : Nat) (x22c : Nat), cell h13 a4 = some (.slice x22 x22l x22c) ∧ stC h13 a6 (.slice x22 x22l x22c) fun h23 => (∃ (x24 : Option Addr) (x24l : Nat) (x24c : Nat), cell h23 a6 = some (.slice x24 x24l x24c) ∧ K x24 x24l x24c h23)) ((j39 h13)))))
def straitref10_Classes_Join.ret (K : (Option Addr) → Nat → Nat → Heap → Prop) (v : Value) (h : Heap) : Prop := match v with
  | (.agg ⟨[(.slice r40 r40l r40c)]⟩) => K r40 r40l r40c h
  | _ => False
theorem straitref10_Classes_Join.ret_elim {K : (Option Addr) → Nat → Nat → Heap → Prop} {K' : Value → Heap → Prop} {v : Value} {h : Heap} (hk : ∀ r40 r40l r40c h, K r40 r40l r40c h → K' (.agg #[(.slice r40 r40l r40c)]) h) (hh : straitref10_Classes_Join.ret K v h) : K' v h := by
  unfold straitref10_Classes_Join.ret at hh
  split at hh
  · exact hk _ _ _ _ hh
  · exact hh.elim
def straitref10_Classes_Join.call (f : FuncId) (vs : List Value) (h : Heap) (K : Value → Heap → Prop) : Prop := match f, vs with
  | 89, [(.agg ⟨[(.slice a1 a1l a1c)]⟩), (.int .i64 a2)] => callP1 (straitref10_Classes_in a1 a1l a1c a2 h) fun r7 h' => K (.bool r7) h'
  | _, _ => False
def straitref10_Classes_Join.r0 (K : Nat → List Value → Heap → Prop) (m : Nat) (vs : List Value) (h : Heap) : Prop := match vs with
  | [(.pointer (some c3_1001)), (.pointer (some c6_1002)), (.int .i64 c7_1003), (.int .i64 c8_1004), (.pointer (some c9_1005)), (.int .i64 v10_1006)] => straitref10_Classes_Join.l0 (fun h' => K 2 [(.pointer (some c6_1002)), (.pointer (some c9_1005))] h') m c3_1001 c6_1002 c7_1003 c8_1004 c9_1005 v10_1006 h
  | _ => False
def straitref10_Classes_Join.loop (i : Nat) (vs : List Value) (h : Heap) (K : Nat → List Value → Heap → Prop) : Prop := match i with
  | 0 => ∃ m, straitref10_Classes_Join.r0 K m vs h
  | _ => False
noncomputable def straitref10_Classes_Join.ctx : Ctx := { P := Tryz.prog, call := straitref10_Classes_Join.call, qcall := fun _ _ _ _ => False, quiet := fun f => Nat.beq f 1000131 || Nat.beq f 1000155, loop := straitref10_Classes_Join.loop }
theorem straitref10_Classes_Join.ok [DKc] : straitref10_Classes_Join.ctx.OK where
  mixed := by kernel_rfl
  mono := by
    intro f args h K K' hh hk
    change straitref10_Classes_Join.call f args h K at hh
    change straitref10_Classes_Join.call f args h K'
    unfold straitref10_Classes_Join.call at hh ⊢
    split at hh
    · obtain ⟨R, h1, h2⟩ := hh
      exact ⟨R, h1, fun _ x hr => hk _ _ (h2 _ x hr)⟩
    · exact hh.elim
  call := by
    intro f args h K hh w hw
    change straitref10_Classes_Join.call f args h K at hh
    unfold straitref10_Classes_Join.call at hh
    split at hh
    · obtain ⟨R, h1, h2⟩ := hh
      obtain ⟨g1, g2⟩ := straitref10_Classes_in.calls h1 w hw
      exact ⟨g1, g2.mono fun e w' ⟨v, he, ho, hr⟩ => ⟨v, he, ho, straitref10_Classes_in.ret_elim h2 hr⟩⟩
    · exact hh.elim
  qmono := fun hh _ => hh.elim
  qval := fun hh => hh.elim
  qcall := fun hh => hh.elim
noncomputable def straitref10_Classes_Join.code : Code := (Tryz.f54.body).getD .skip
def straitref10_Classes_Join.ann : Ann := (.two .auto (.two .auto (.two (.reg [0, 1, 0, 7, 15, 0, 32, 0, 224, 480, 31, 2047] (.take 0 (.take 1 (.take 2 (.take 3 (.take 4 (.take 5 (.take 6 (.take 7 (.take 8 (.take 9 (.take 10 (.take 11 .done))))))))))))) (.two .auto (.two (.two .auto (.two (.loop 0 [3, 6, 7, 8, 9, 10] [(2, [6, 9])] .auto) .auto)) .auto)))))
noncomputable def straitref10_Classes_Join.c0 : Code := sub straitref10_Classes_Join.code [1, 1, 1, 1, 0, 1, 0, 0]
def straitref10_Classes_Join.a0 : Ann := .auto
def straitref10_Classes_Join.keep0 : List Nat := [3, 6, 7, 8, 9, 10]
def straitref10_Classes_Join.outs0 : List (Nat × List Nat) := [(2, [6, 9])]
set_option maxRecDepth 100000 in
theorem straitref10_Classes_Join.L0 [DKc] : LoopOK straitref10_Classes_Join.ctx 63 straitref10_Classes_Join.c0 0 straitref10_Classes_Join.keep0 straitref10_Classes_Join.outs0 := by
  refine loop_ok (n := straitref10_Classes_Join.a0) straitref10_Classes_Join.ok (by kernel_rfl) (loops_ok (l := []) (by kernel_rfl) ?_) straitref10_Classes_Join.r0 ?_ ?_ (fun vs h K hh => hh)
  · exact trivial
  · intro K vs h hh
    unfold straitref10_Classes_Join.r0 at hh
    split at hh
    · exact hh
    · exact hh
  · intro K m vs h hh
    unfold straitref10_Classes_Join.r0 at hh
    split at hh
    · exact cast (by kernel_rfl) hh
    · exact hh.elim
set_option maxRecDepth 100000 in
theorem straitref10_Classes_Join.eq (a1 : Option Addr) (a1l : Nat) (a1c : Nat) (a2 : Int) (a3 : Int) (h : Heap) (K : (Option Addr) → Nat → Nat → Heap → Prop) : evF straitref10_Classes_Join.ctx Tryz.f54 straitref10_Classes_Join.ann [(.agg #[(.slice a1 a1l a1c)]), (.int .i64 a2), (.int .i64 a3)] h (straitref10_Classes_Join.ret K) = straitref10_Classes_Join a1 a1l a1c a2 a3 h K := by kernel_rfl
set_option maxRecDepth 100000 in
theorem straitref10_Classes_Join.calls [DKc] {a1 : Option Addr} {a1l : Nat} {a1c : Nat} {a2 : Int} {a3 : Int} {h : Heap} {K : (Option Addr) → Nat → Nat → Heap → Prop} (hh : straitref10_Classes_Join a1 a1l a1c a2 a3 h K) (w : World) (hw : w.heap = h) :
    (callFunc 54 #[(.agg #[(.slice a1 a1l a1c)]), (.int .i64 a2), (.int .i64 a3)]).run Tryz.prog w = .ok (.enter 54 #[(.agg #[(.slice a1 a1l a1c)]), (.int .i64 a2), (.int .i64 a3)]) w ∧ Calls Tryz.prog 54 #[(.agg #[(.slice a1 a1l a1c)]), (.int .i64 a2), (.int .i64 a3)] w fun e w' => ∃ v, e = .returned v ∧ Out w w' ∧ straitref10_Classes_Join.ret K v w'.heap := by
  rw [← straitref10_Classes_Join.eq] at hh
  exact fn_calls (args := [(.agg #[(.slice a1 a1l a1c)]), (.int .i64 a2), (.int .i64 a3)]) (c := straitref10_Classes_Join.code) straitref10_Classes_Join.ok Tryz.func54 (by kernel_rfl) (by kernel_rfl) (by kernel_rfl) (by kernel_rfl) (loops_ok (l := [(straitref10_Classes_Join.c0, none, 0, straitref10_Classes_Join.keep0, straitref10_Classes_Join.outs0)]) (by kernel_rfl) ⟨straitref10_Classes_Join.L0, trivial⟩) hh w hw

/-! ### (strait/straitref10.Classes).List: function 55 -/
def straitref10_Classes_List.b1 (K4 : (Option Addr) → Nat → Nat → Heap → Prop) (cont : Addr → (Option Addr) → Nat → Nat → Int → (Option Addr) → Nat → Nat → Int → Heap → Prop) (c1_2001 : Addr) (c3_2002 : Option Addr) (c3_2003 : Nat) (c3_2004 : Nat) (c4_2005 : Int) (v5_2006 : Option Addr) (v5_2006l : Nat) (v5_2006c : Nat) (v6_2007 : Int) (h2008 : Heap) : Prop :=
  ∃ (x2009 : Option Addr) (x2009l : Nat) (x2009c : Nat), cell h2008 c1_2001 = some (.slice x2009 x2009l x2009c) ∧ (iteB (decide (v6_2007 < (x2009l : Int))) ((∃ (x2010 : Option Addr) (x2010l : Nat) (x2010c : Nat), cell h2008 c1_2001 = some (.slice x2010 x2010l x2010c) ∧ chkP x2010 fun a2011 => (0 ≤ v6_2007 ∧ v6_2007 < (x2010l : Int)) ∧ ∃ (x2012 : Int), cell h2008 (a2011.add (v6_2007.toNat * 1)) = some (.int .i64 x2012) ∧ (iteB (x2012 == c4_2005) (newP h2008 (.cells #[(.int .i64 v6_2007)] 3) fun a2013 h2014 => ∃ n2019, cellsAt h2014 (some a2013) (1 * 1) n2019 ∧ appP 3 1 8 [(.int .i64 0)] v5_2006 v5_2006l v5_2006c 1 n2019 h2014 fun q2015 l2016 c2017 h2018 => ((cont c1_2001 c3_2002 c3_2003 c3_2004 c4_2005 q2015 l2016 c2017 (IntKind.i64.wrap (v6_2007 + 1)) h2018))) (((cont c1_2001 c3_2002 c3_2003 c3_2004 c4_2005 v5_2006 v5_2006l v5_2006c (IntKind.i64.wrap (v6_2007 + 1)) h2008)))))) (K4 v5_2006 v5_2006l v5_2006c h2008))
def straitref10_Classes_List.l1 (K4 : (Option Addr) → Nat → Nat → Heap → Prop) : Nat → Addr → (Option Addr) → Nat → Nat → Int → (Option Addr) → Nat → Nat → Int → Heap → Prop
  | 0, _, _, _, _, _, _, _, _, _, _ => False
  | m + 1, c1_2001, c3_2002, c3_2003, c3_2004, c4_2005, v5_2006, v5_2006l, v5_2006c, v6_2007, h => straitref10_Classes_List.b1 K4 (straitref10_Classes_List.l1 K4 m) c1_2001 c3_2002 c3_2003 c3_2004 c4_2005 v5_2006 v5_2006l v5_2006c v6_2007 h
def straitref10_Classes_List.b0 (K2 : (Option Addr) → Nat → Nat → Heap → Prop) (cont : Addr → (Option Addr) → Nat → Nat → Int → Heap → Prop) (c1_1001 : Addr) (v3_1002 : Option Addr) (v3_1002l : Nat) (v3_1002c : Nat) (v4_1003 : Int) (h1004 : Heap) : Prop :=
  ∃ (x1005 : Option Addr) (x1005l : Nat) (x1005c : Nat), cell h1004 c1_1001 = some (.slice x1005 x1005l x1005c) ∧ (iteB (decide (v4_1003 < (x1005l : Int))) ((∃ (x1006 : Option Addr) (x1006l : Nat) (x1006c : Nat), cell h1004 c1_1001 = some (.slice x1006 x1006l x1006c) ∧ chkP x1006 fun a1007 => (0 ≤ v4_1003 ∧ v4_1003 < (x1006l : Int)) ∧ ∃ (x1008 : Int), cell h1004 (a1007.add (v4_1003.toNat * 1)) = some (.int .i64 x1008) ∧ (iteB (x1008 == v4_1003) (((∃ m1011, straitref10_Classes_List.l1 (fun z1009 z1009l z1009c h1010 => ((newP h1010 (.cells #[(.slice z1009 z1009l z1009c)] 33) fun a1012 h1013 => ∃ n1018, cellsAt h1013 (some a1012) (1 * 1) n1018 ∧ appP 33 1 24 [(.slice none 0 0)] v3_1002 v3_1002l v3_1002c 1 n1018 h1013 fun q1014 l1015 c1016 h1017 => ((cont c1_1001 q1014 l1015 c1016 (IntKind.i64.wrap (v4_1003 + 1)) h1017))))) m1011 c1_1001 v3_1002 v3_1002l v3_1002c v4_1003 none 0 0 0 h1004))) (((cont c1_1001 v3_1002 v3_1002l v3_1002c (IntKind.i64.wrap (v4_1003 + 1)) h1004)))))) (K2 v3_1002 v3_1002l v3_1002c h1004))
def straitref10_Classes_List.l0 (K2 : (Option Addr) → Nat → Nat → Heap → Prop) : Nat → Addr → (Option Addr) → Nat → Nat → Int → Heap → Prop
  | 0, _, _, _, _, _, _ => False
  | m + 1, c1_1001, v3_1002, v3_1002l, v3_1002c, v4_1003, h => straitref10_Classes_List.b0 K2 (straitref10_Classes_List.l0 K2 m) c1_1001 v3_1002 v3_1002l v3_1002c v4_1003 h
def straitref10_Classes_List (a1 : Option Addr) (a1l : Nat) (a1c : Nat) (h : Heap) (K : (Option Addr) → Nat → Nat → Heap → Prop) : Prop :=
  newP h (.cells #[(.slice a1 a1l a1c)] 113) fun a2 h3 => (((∃ m6, straitref10_Classes_List.l0 (fun z4 z4l z4c h5 => (K z4 z4l z4c h5)) m6 a2 none 0 0 0 h3)))
def straitref10_Classes_List.ret (K : (Option Addr) → Nat → Nat → Heap → Prop) (v : Value) (h : Heap) : Prop := match v with
  | (.slice r7 r7l r7c) => K r7 r7l r7c h
  | _ => False
theorem straitref10_Classes_List.ret_elim {K : (Option Addr) → Nat → Nat → Heap → Prop} {K' : Value → Heap → Prop} {v : Value} {h : Heap} (hk : ∀ r7 r7l r7c h, K r7 r7l r7c h → K' (.slice r7 r7l r7c) h) (hh : straitref10_Classes_List.ret K v h) : K' v h := by
  unfold straitref10_Classes_List.ret at hh
  split at hh
  · exact hk _ _ _ _ hh
  · exact hh.elim
def straitref10_Classes_List.r0 (K : Nat → List Value → Heap → Prop) (m : Nat) (vs : List Value) (h : Heap) : Prop := match vs with
  | [(.pointer (some c1_1001)), (.slice v3_1002 v3_1002l v3_1002c), (.int .i64 v4_1003)] => straitref10_Classes_List.l0 (fun z8 z8l z8c h' => K 2 [(.slice z8 z8l z8c)] h') m c1_1001 v3_1002 v3_1002l v3_1002c v4_1003 h
  | _ => False
def straitref10_Classes_List.r1 (K : Nat → List Value → Heap → Prop) (m : Nat) (vs : List Value) (h : Heap) : Prop := match vs with
  | [(.pointer (some c1_2001)), (.slice c3_2002 c3_2003 c3_2004), (.int .i64 c4_2005), (.slice v5_2006 v5_2006l v5_2006c), (.int .i64 v6_2007)] => straitref10_Classes_List.l1 (fun z9 z9l z9c h' => K 4 [(.pointer (some c1_2001)), (.slice c3_2002 c3_2003 c3_2004), (.int .i64 c4_2005), (.slice z9 z9l z9c)] h') m c1_2001 c3_2002 c3_2003 c3_2004 c4_2005 v5_2006 v5_2006l v5_2006c v6_2007 h
  | _ => False
def straitref10_Classes_List.loop (i : Nat) (vs : List Value) (h : Heap) (K : Nat → List Value → Heap → Prop) : Prop := match i with
  | 0 => ∃ m, straitref10_Classes_List.r0 K m vs h
  | 1 => ∃ m, straitref10_Classes_List.r1 K m vs h
  | _ => False
noncomputable def straitref10_Classes_List.ctx : Ctx := { P := Tryz.prog, call := fun _ _ _ _ => False, qcall := fun _ _ _ _ => False, quiet := fun f => Nat.beq f 1000131 || Nat.beq f 1000155, loop := straitref10_Classes_List.loop }
theorem straitref10_Classes_List.ok [DKc] : straitref10_Classes_List.ctx.OK where
  mixed := by kernel_rfl
  mono := fun hh _ => hh.elim
  call := fun hh => hh.elim
  qmono := fun hh _ => hh.elim
  qval := fun hh => hh.elim
  qcall := fun hh => hh.elim
noncomputable def straitref10_Classes_List.code : Code := (Tryz.f55.body).getD .skip
def straitref10_Classes_List.ann : Ann := (.two .auto (.two .auto (.two (.two .auto (.two (.loop 0 [1, 3, 4] [(2, [3])] (.two .auto (.two (.two (.two .auto (.two (.two .auto (.two (.two .auto (.two (.loop 1 [1, 3, 4, 5, 6] [(4, [1, 3, 4, 5])] .auto) .auto)) .auto)) .auto)) .auto) .auto))) .auto)) .auto)))
noncomputable def straitref10_Classes_List.c1 : Code := sub straitref10_Classes_List.code [1, 1, 0, 1, 0, 0, 1, 0, 0, 1, 0, 1, 0, 1, 0, 0]
def straitref10_Classes_List.a1 : Ann := .auto
def straitref10_Classes_List.keep1 : List Nat := [1, 3, 4, 5, 6]
def straitref10_Classes_List.outs1 : List (Nat × List Nat) := [(4, [1, 3, 4, 5])]
noncomputable def straitref10_Classes_List.c0 : Code := sub straitref10_Classes_List.code [1, 1, 0, 1, 0, 0]
def straitref10_Classes_List.a0 : Ann := (.two .auto (.two (.two (.two .auto (.two (.two .auto (.two (.two .auto (.two (.loop 1 [1, 3, 4, 5, 6] [(4, [1, 3, 4, 5])] .auto) .auto)) .auto)) .auto)) .auto) .auto))
def straitref10_Classes_List.keep0 : List Nat := [1, 3, 4]
def straitref10_Classes_List.outs0 : List (Nat × List Nat) := [(2, [3])]
set_option maxRecDepth 100000 in
theorem straitref10_Classes_List.L1 [DKc] : LoopOK straitref10_Classes_List.ctx 44 straitref10_Classes_List.c1 1 straitref10_Classes_List.keep1 straitref10_Classes_List.outs1 := by
  refine loop_ok (n := straitref10_Classes_List.a1) straitref10_Classes_List.ok (by kernel_rfl) (loops_ok (l := []) (by kernel_rfl) ?_) straitref10_Classes_List.r1 ?_ ?_ (fun vs h K hh => hh)
  · exact trivial
  · intro K vs h hh
    unfold straitref10_Classes_List.r1 at hh
    split at hh
    · exact hh
    · exact hh
  · intro K m vs h hh
    unfold straitref10_Classes_List.r1 at hh
    split at hh
    · exact cast (by kernel_rfl) hh
    · exact hh.elim
set_option maxRecDepth 100000 in
theorem straitref10_Classes_List.L0 [DKc] : LoopOK straitref10_Classes_List.ctx 44 straitref10_Classes_List.c0 0 straitref10_Classes_List.keep0 straitref10_Classes_List.outs0 := by
  refine loop_ok (n := straitref10_Classes_List.a0) straitref10_Classes_List.ok (by kernel_rfl) (loops_ok (l := [(straitref10_Classes_List.c1, none, 1, straitref10_Classes_List.keep1, straitref10_Classes_List.outs1)]) (by kernel_rfl) ?_) straitref10_Classes_List.r0 ?_ ?_ (fun vs h K hh => hh)
  · exact ⟨straitref10_Classes_List.L1, trivial⟩
  · intro K vs h hh
    unfold straitref10_Classes_List.r0 at hh
    split at hh
    · exact hh
    · exact hh
  · intro K m vs h hh
    unfold straitref10_Classes_List.r0 at hh
    split at hh
    · exact cast (by kernel_rfl) hh
    · exact hh.elim
set_option maxRecDepth 100000 in
theorem straitref10_Classes_List.eq (a1 : Option Addr) (a1l : Nat) (a1c : Nat) (h : Heap) (K : (Option Addr) → Nat → Nat → Heap → Prop) : evF straitref10_Classes_List.ctx Tryz.f55 straitref10_Classes_List.ann [(.agg #[(.slice a1 a1l a1c)])] h (straitref10_Classes_List.ret K) = straitref10_Classes_List a1 a1l a1c h K := by kernel_rfl
set_option maxRecDepth 100000 in
theorem straitref10_Classes_List.calls [DKc] {a1 : Option Addr} {a1l : Nat} {a1c : Nat} {h : Heap} {K : (Option Addr) → Nat → Nat → Heap → Prop} (hh : straitref10_Classes_List a1 a1l a1c h K) (w : World) (hw : w.heap = h) :
    (callFunc 55 #[(.agg #[(.slice a1 a1l a1c)])]).run Tryz.prog w = .ok (.enter 55 #[(.agg #[(.slice a1 a1l a1c)])]) w ∧ Calls Tryz.prog 55 #[(.agg #[(.slice a1 a1l a1c)])] w fun e w' => ∃ v, e = .returned v ∧ Out w w' ∧ straitref10_Classes_List.ret K v w'.heap := by
  rw [← straitref10_Classes_List.eq] at hh
  exact fn_calls (args := [(.agg #[(.slice a1 a1l a1c)])]) (c := straitref10_Classes_List.code) straitref10_Classes_List.ok Tryz.func55 (by kernel_rfl) (by kernel_rfl) (by kernel_rfl) (by kernel_rfl) (loops_ok (l := [(straitref10_Classes_List.c0, none, 0, straitref10_Classes_List.keep0, straitref10_Classes_List.outs0)]) (by kernel_rfl) ⟨straitref10_Classes_List.L0, trivial⟩) hh w hw

/-! ### strait/straitref10.Lists: function 20 -/
def straitref10_Lists.b0 (K0 : Bool → Heap → Prop) (K2 : Heap → Prop) (cont : (Option Addr) → Nat → Nat → (Option Addr) → Nat → Nat → Int → Heap → Prop) (c0_1001 : Option Addr) (c0_1002 : Nat) (c0_1003 : Nat) (c1_1004 : Option Addr) (c1_1005 : Nat) (c1_1006 : Nat) (v5_1007 : Int) (h1008 : Heap) : Prop :=
  (iteB (decide (v5_1007 < (c0_1002 : Int))) ((chkP c0_1001 fun a1009 => (0 ≤ v5_1007 ∧ v5_1007 < (c0_1002 : Int)) ∧ ∃ (x1010 : Option Addr) (x1010l : Nat) (x1010c : Nat), cell h1008 (a1009.add (v5_1007.toNat * 1)) = some (.slice x1010 x1010l x1010c) ∧ chkP c1_1004 fun a1011 => (0 ≤ v5_1007 ∧ v5_1007 < (c1_1005 : Int)) ∧ ∃ (x1012 : Option Addr) (x1012l : Nat) (x1012c : Nat), cell h1008 (a1011.add (v5_1007.toNat * 1)) = some (.slice x1012 x1012l x1012c) ∧ qcallP1 h1008 (straitref09_Ints x1010 x1010l x1010c x1012 x1012l x1012c h1008) fun x1013 => (iteB (!x1013) (K0 false h1008) (((cont c0_1001 c0_1002 c0_1003 c1_1004 c1_1005 c1_1006 (IntKind.i64.wrap (v5_1007 + 1)) h1008)))))) (K2 h1008))
def straitref10_Lists.l0 (K0 : Bool → Heap → Prop) (K2 : Heap → Prop) : Nat → (Option Addr) → Nat → Nat → (Option Addr) → Nat → Nat → Int → Heap → Prop
  | 0, _, _, _, _, _, _, _, _ => False
  | m + 1, c0_1001, c0_1002, c0_1003, c1_1004, c1_1005, c1_1006, v5_1007, h => straitref10_Lists.b0 K0 K2 (straitref10_Lists.l0 K0 K2 m) c0_1001 c0_1002 c0_1003 c1_1004 c1_1005 c1_1006 v5_1007 h
def straitref10_Lists (a1 : Option Addr) (a1l : Nat) (a1c : Nat) (a2 : Option Addr) (a2l : Nat) (a2c : Nat) (h : Heap) (K : Bool → Heap → Prop) : Prop :=
  ((iteB ((a1l : Int) != (a2l : Int)) (K false h) (((∃ m6, straitref10_Lists.l0 (fun z3 h4 => K z3 h4) (fun h5 => (K true h5)) m6 a1 a1l a1c a2 a2l a2c 0 h)))))
def straitref10_Lists.ret (K : Bool → Heap → Prop) (v : Value) (h : Heap) : Prop := match v with
  | (.bool r7) => K r7 h
  | _ => False
theorem straitref10_Lists.ret_elim {K : Bool → Heap → Prop} {K' : Value → Heap → Prop} {v : Value} {h : Heap} (hk : ∀ r7 h, K r7 h → K' (.bool r7) h) (hh : straitref10_Lists.ret K v h) : K' v h := by
  unfold straitref10_Lists.ret at hh
  split at hh
  · exact hk _ _ hh
  · exact hh.elim
def straitref10_Lists.qcall (f : FuncId) (vs : List Value) (h : Heap) (K : Value → Prop) : Prop := match f, vs with
  | 11, [(.slice a1 a1l a1c), (.slice a2 a2l a2c)] => qcallP1 h (straitref09_Ints a1 a1l a1c a2 a2l a2c h) fun r7 => K (.bool r7)
  | _, _ => False
def straitref10_Lists.r0 (K : Nat → List Value → Heap → Prop) (m : Nat) (vs : List Value) (h : Heap) : Prop := match vs with
  | [(.slice c0_1001 c0_1002 c0_1003), (.slice c1_1004 c1_1005 c1_1006), (.int .i64 v5_1007)] => straitref10_Lists.l0 (fun z8 h' => K 0 [(.bool z8)] h') (fun h' => K 2 [] h') m c0_1001 c0_1002 c0_1003 c1_1004 c1_1005 c1_1006 v5_1007 h
  | _ => False
def straitref10_Lists.loop (i : Nat) (vs : List Value) (h : Heap) (K : Nat → List Value → Heap → Prop) : Prop := match i with
  | 0 => ∃ m, straitref10_Lists.r0 K m vs h
  | _ => False
noncomputable def straitref10_Lists.ctx : Ctx := { P := Tryz.prog, call := fun _ _ _ _ => False, qcall := straitref10_Lists.qcall, quiet := fun f => Nat.beq f 11 || Nat.beq f 1000131 || Nat.beq f 1000155, loop := straitref10_Lists.loop }
theorem straitref10_Lists.ok [DKc] : straitref10_Lists.ctx.OK where
  mixed := by kernel_rfl
  mono := fun hh _ => hh.elim
  call := fun hh => hh.elim
  qmono := by
    intro f args h K K' hh hk
    change straitref10_Lists.qcall f args h K at hh
    change straitref10_Lists.qcall f args h K'
    unfold straitref10_Lists.qcall at hh ⊢
    split at hh
    · obtain ⟨x0, h1, h2⟩ := hh
      exact ⟨x0, h1, hk _ h2⟩
    · exact hh.elim
  qval := by
    intro f args h K hh
    change straitref10_Lists.qcall f args h K at hh
    suffices H : ∃ v, K v ∧ straitref10_Lists.qcall f args h (· = v) from H
    unfold straitref10_Lists.qcall at hh ⊢
    split at hh
    · obtain ⟨x0, h1, h2⟩ := hh
      exact ⟨_, h2, x0, h1, rfl⟩
    · exact hh.elim
  qcall := by
    intro f args h v hh w hw
    change straitref10_Lists.qcall f args h (· = v) at hh
    unfold straitref10_Lists.qcall at hh
    split at hh
    · obtain ⟨x0, h1, h2⟩ := hh
      obtain ⟨g1, g2⟩ := straitref09_Ints.calls h1 w hw
      refine .inl ⟨g1, g2.mono fun e w' ⟨u, he, ho, hr⟩ => ?_⟩
      have hq := straitref09_Ints.ret_elim (K' := fun u h' => u = v ∧ h' = h) (fun _ h' hr => by obtain ⟨rfl, rfl⟩ := hr; exact ⟨h2, rfl⟩) hr
      exact ⟨hq.1 ▸ he, ho, hq.2⟩
    · exact hh.elim
noncomputable def straitref10_Lists.code : Code := (Tryz.f20.body).getD .skip
def straitref10_Lists.ann : Ann := (.two .auto (.two .auto (.two (.two .auto (.two (.loop 0 [0, 1, 5] [(2, []), (0, [4])] (.two .auto (.two (.two (.two (.reg [0, 0, 3, 7, 0, 0, 48, 112, 255, 511] (.take 0 (.take 1 (.take 2 (.take 3 (.take 4 (.take 5 (.take 6 (.take 7 (.take 8 (.take 9 .done))))))))))) .auto) .auto) .auto))) .auto)) .auto)))
noncomputable def straitref10_Lists.c0 : Code := sub straitref10_Lists.code [1, 1, 0, 1, 0, 0]
def straitref10_Lists.a0 : Ann := (.two .auto (.two (.two (.two (.reg [0, 0, 3, 7, 0, 0, 48, 112, 255, 511] (.take 0 (.take 1 (.take 2 (.take 3 (.take 4 (.take 5 (.take 6 (.take 7 (.take 8 (.take 9 .done))))))))))) .auto) .auto) .auto))
def straitref10_Lists.keep0 : List Nat := [0, 1, 5]
def straitref10_Lists.outs0 : List (Nat × List Nat) := [(2, []), (0, [4])]
set_option maxRecDepth 100000 in
theorem straitref10_Lists.L0 [DKc] : LoopOK straitref10_Lists.ctx 27 straitref10_Lists.c0 0 straitref10_Lists.keep0 straitref10_Lists.outs0 := by
  refine loop_ok (n := straitref10_Lists.a0) straitref10_Lists.ok (by kernel_rfl) (loops_ok (l := []) (by kernel_rfl) ?_) straitref10_Lists.r0 ?_ ?_ (fun vs h K hh => hh)
  · exact trivial
  · intro K vs h hh
    unfold straitref10_Lists.r0 at hh
    split at hh
    · exact hh
    · exact hh
  · intro K m vs h hh
    unfold straitref10_Lists.r0 at hh
    split at hh
    · exact cast (by kernel_rfl) hh
    · exact hh.elim
set_option maxRecDepth 100000 in
theorem straitref10_Lists.eq (a1 : Option Addr) (a1l : Nat) (a1c : Nat) (a2 : Option Addr) (a2l : Nat) (a2c : Nat) (h : Heap) (K : Bool → Heap → Prop) : evF straitref10_Lists.ctx Tryz.f20 straitref10_Lists.ann [(.slice a1 a1l a1c), (.slice a2 a2l a2c)] h (straitref10_Lists.ret K) = straitref10_Lists a1 a1l a1c a2 a2l a2c h K := by kernel_rfl
set_option maxRecDepth 100000 in
theorem straitref10_Lists.calls [DKc] {a1 : Option Addr} {a1l : Nat} {a1c : Nat} {a2 : Option Addr} {a2l : Nat} {a2c : Nat} {h : Heap} {K : Bool → Heap → Prop} (hh : straitref10_Lists a1 a1l a1c a2 a2l a2c h K) (w : World) (hw : w.heap = h) :
    (callFunc 20 #[(.slice a1 a1l a1c), (.slice a2 a2l a2c)]).run Tryz.prog w = .ok (.enter 20 #[(.slice a1 a1l a1c), (.slice a2 a2l a2c)]) w ∧ Calls Tryz.prog 20 #[(.slice a1 a1l a1c), (.slice a2 a2l a2c)] w fun e w' => ∃ v, e = .returned v ∧ Out w w' ∧ straitref10_Lists.ret K v w'.heap := by
  rw [← straitref10_Lists.eq] at hh
  exact fn_calls (args := [(.slice a1 a1l a1c), (.slice a2 a2l a2c)]) (c := straitref10_Lists.code) straitref10_Lists.ok Tryz.func20 (by kernel_rfl) (by kernel_rfl) (by kernel_rfl) (by kernel_rfl) (loops_ok (l := [(straitref10_Lists.c0, none, 0, straitref10_Lists.keep0, straitref10_Lists.outs0)]) (by kernel_rfl) ⟨straitref10_Lists.L0, trivial⟩) hh w hw

/-! ### slices.Clone[[]int,int]: function 86 -/
def slices_Clone_Lint_int (a1 : Option Addr) (a1l : Nat) (a1c : Nat) (h : Heap) (K : (Option Addr) → Nat → Nat → Heap → Prop) : Prop :=
  ((iteB a1.isNone (K none 0 0 h) ((newP h (.cells #[] 3) fun a2 h3 => ∃ n8, cellsAt h3 a1 (a1l * 1) n8 ∧ appP 3 1 8 [(.int .i64 0)] (some a2) 0 0 a1l n8 h3 fun q4 l5 c6 h7 => K q4 l5 c6 h7))))
def slices_Clone_Lint_int.ret (K : (Option Addr) → Nat → Nat → Heap → Prop) (v : Value) (h : Heap) : Prop := match v with
  | (.slice r9 r9l r9c) => K r9 r9l r9c h
  | _ => False
theorem slices_Clone_Lint_int.ret_elim {K : (Option Addr) → Nat → Nat → Heap → Prop} {K' : Value → Heap → Prop} {v : Value} {h : Heap} (hk : ∀ r9 r9l r9c h, K r9 r9l r9c h → K' (.slice r9 r9l r9c) h) (hh : slices_Clone_Lint_int.ret K v h) : K' v h := by
  unfold slices_Clone_Lint_int.ret at hh
  split at hh
  · exact hk _ _ _ _ hh
  · exact hh.elim
noncomputable def slices_Clone_Lint_int.ctx : Ctx := { P := Tryz.prog, call := fun _ _ _ _ => False, qcall := fun _ _ _ _ => False, quiet := fun f => Nat.beq f 1000131 || Nat.beq f 1000155, loop := fun _ _ _ _ => False }
theorem slices_Clone_Lint_int.ok [DKc] : slices_Clone_Lint_int.ctx.OK where
  mixed := by kernel_rfl
  mono := fun hh _ => hh.elim
  call := fun hh => hh.elim
  qmono := fun hh _ => hh.elim
  qval := fun hh => hh.elim
  qcall := fun hh => hh.elim
noncomputable def slices_Clone_Lint_int.code : Code := (Tryz.f86.body).getD .skip
def slices_Clone_Lint_int.ann : Ann := .auto
set_option maxRecDepth 100000 in
theorem slices_Clone_Lint_int.eq (a1 : Option Addr) (a1l : Nat) (a1c : Nat) (h : Heap) (K : (Option Addr) → Nat → Nat → Heap → Prop) : evF slices_Clone_Lint_int.ctx Tryz.f86 slices_Clone_Lint_int.ann [(.slice a1 a1l a1c)] h (slices_Clone_Lint_int.ret K) = slices_Clone_Lint_int a1 a1l a1c h K := by kernel_rfl
set_option maxRecDepth 100000 in
theorem slices_Clone_Lint_int.calls [DKc] {a1 : Option Addr} {a1l : Nat} {a1c : Nat} {h : Heap} {K : (Option Addr) → Nat → Nat → Heap → Prop} (hh : slices_Clone_Lint_int a1 a1l a1c h K) (w : World) (hw : w.heap = h) :
    (callFunc 86 #[(.slice a1 a1l a1c)]).run Tryz.prog w = .ok (.enter 86 #[(.slice a1 a1l a1c)]) w ∧ Calls Tryz.prog 86 #[(.slice a1 a1l a1c)] w fun e w' => ∃ v, e = .returned v ∧ Out w w' ∧ slices_Clone_Lint_int.ret K v w'.heap := by
  rw [← slices_Clone_Lint_int.eq] at hh
  exact fn_calls (args := [(.slice a1 a1l a1c)]) (c := slices_Clone_Lint_int.code) slices_Clone_Lint_int.ok Tryz.func86 (by kernel_rfl) (by kernel_rfl) (by kernel_rfl) (by kernel_rfl) (loops_ok (l := []) (by kernel_rfl) trivial) hh w hw

/-! ### (*strait/dsu.Classes).Same: function 118 -/
def dsu_Classes_Same (a1 : Option Addr) (a2 : Int) (a3 : Int) (h : Heap) (K : Bool → Heap → Prop) : Prop :=
  (callP1 (dsu_Classes_root a1 a2 h) fun x4 h5 => callP1 (dsu_Classes_root a1 a3 h5) fun x6 h7 => (iteB (decide (x4 ≥ (0 : Int))) ((K (x4 == x6) h7)) (K false h7)))
def dsu_Classes_Same.ret (K : Bool → Heap → Prop) (v : Value) (h : Heap) : Prop := match v with
  | (.bool r9) => K r9 h
  | _ => False
theorem dsu_Classes_Same.ret_elim {K : Bool → Heap → Prop} {K' : Value → Heap → Prop} {v : Value} {h : Heap} (hk : ∀ r9 h, K r9 h → K' (.bool r9) h) (hh : dsu_Classes_Same.ret K v h) : K' v h := by
  unfold dsu_Classes_Same.ret at hh
  split at hh
  · exact hk _ _ hh
  · exact hh.elim
def dsu_Classes_Same.call (f : FuncId) (vs : List Value) (h : Heap) (K : Value → Heap → Prop) : Prop := match f, vs with
  | 87, [(.pointer a1), (.int .i64 a2)] => callP1 (dsu_Classes_root a1 a2 h) fun r29 h' => K (.int .i64 r29) h'
  | _, _ => False
noncomputable def dsu_Classes_Same.ctx : Ctx := { P := Tryz.prog, call := dsu_Classes_Same.call, qcall := fun _ _ _ _ => False, quiet := fun f => Nat.beq f 1000131 || Nat.beq f 1000155, loop := fun _ _ _ _ => False }
theorem dsu_Classes_Same.ok [DKc] : dsu_Classes_Same.ctx.OK where
  mixed := by kernel_rfl
  mono := by
    intro f args h K K' hh hk
    change dsu_Classes_Same.call f args h K at hh
    change dsu_Classes_Same.call f args h K'
    unfold dsu_Classes_Same.call at hh ⊢
    split at hh
    · obtain ⟨R, h1, h2⟩ := hh
      exact ⟨R, h1, fun _ x hr => hk _ _ (h2 _ x hr)⟩
    · exact hh.elim
  call := by
    intro f args h K hh w hw
    change dsu_Classes_Same.call f args h K at hh
    unfold dsu_Classes_Same.call at hh
    split at hh
    · obtain ⟨R, h1, h2⟩ := hh
      obtain ⟨g1, g2⟩ := dsu_Classes_root.calls h1 w hw
      exact ⟨g1, g2.mono fun e w' ⟨v, he, ho, hr⟩ => ⟨v, he, ho, dsu_Classes_root.ret_elim h2 hr⟩⟩
    · exact hh.elim
  qmono := fun hh _ => hh.elim
  qval := fun hh => hh.elim
  qcall := fun hh => hh.elim
noncomputable def dsu_Classes_Same.code : Code := (Tryz.f118.body).getD .skip
def dsu_Classes_Same.ann : Ann := .auto
set_option maxRecDepth 100000 in
theorem dsu_Classes_Same.eq (a1 : Option Addr) (a2 : Int) (a3 : Int) (h : Heap) (K : Bool → Heap → Prop) : evF dsu_Classes_Same.ctx Tryz.f118 dsu_Classes_Same.ann [(.pointer a1), (.int .i64 a2), (.int .i64 a3)] h (dsu_Classes_Same.ret K) = dsu_Classes_Same a1 a2 a3 h K := by kernel_rfl
set_option maxRecDepth 100000 in
theorem dsu_Classes_Same.calls [DKc] {a1 : Option Addr} {a2 : Int} {a3 : Int} {h : Heap} {K : Bool → Heap → Prop} (hh : dsu_Classes_Same a1 a2 a3 h K) (w : World) (hw : w.heap = h) :
    (callFunc 118 #[(.pointer a1), (.int .i64 a2), (.int .i64 a3)]).run Tryz.prog w = .ok (.enter 118 #[(.pointer a1), (.int .i64 a2), (.int .i64 a3)]) w ∧ Calls Tryz.prog 118 #[(.pointer a1), (.int .i64 a2), (.int .i64 a3)] w fun e w' => ∃ v, e = .returned v ∧ Out w w' ∧ dsu_Classes_Same.ret K v w'.heap := by
  rw [← dsu_Classes_Same.eq] at hh
  exact fn_calls (args := [(.pointer a1), (.int .i64 a2), (.int .i64 a3)]) (c := dsu_Classes_Same.code) dsu_Classes_Same.ok Tryz.func118 (by kernel_rfl) (by kernel_rfl) (by kernel_rfl) (by kernel_rfl) (loops_ok (l := []) (by kernel_rfl) trivial) hh w hw

/-! ### (strait/straitref10.Classes).Same: function 95 -/
def straitref10_Classes_Same (a1 : Option Addr) (a1l : Nat) (a1c : Nat) (a2 : Int) (a3 : Int) (h : Heap) (K : Bool → Heap → Prop) : Prop :=
  newP h (.cells #[(.slice a1 a1l a1c)] 113) fun a4 h5 => (∃ (x6 : Option Addr) (x6l : Nat) (x6c : Nat), cell h5 a4 = some (.slice x6 x6l x6c) ∧ callP1 (straitref10_Classes_in x6 x6l x6c a2 h5) fun x7 h8 => iteB x7 (∃ (x9 : Option Addr) (x9l : Nat) (x9c : Nat), cell h8 a4 = some (.slice x9 x9l x9c) ∧ callP1 (straitref10_Classes_in x9 x9l x9c a3 h8) fun x10 h11 => iteB x10 (∃ (x12 : Option Addr) (x12l : Nat) (x12c : Nat), cell h11 a4 = some (.slice x12 x12l x12c) ∧ chkP x12 fun a13 => (0 ≤ a2 ∧ a2 < (x12l : Int)) ∧ ∃ (x14 : Int), cell h11 (a13.add (a2.toNat * 1)) = some (.int .i64 x14) ∧ ∃ (x15 : Option Addr) (x15l : Nat) (x15c : Nat), cell h11 a4 = some (.slice x15 x15l x15c) ∧ chkP x15 fun a16 => (0 ≤ a3 ∧ a3 < (x15l : Int)) ∧ ∃ (x17 : Int), cell h11 (a16.add (a3.toNat * 1)) = some (.int .i64 x17) ∧ (K (x14 == x17) h11)) (K false h11)) (K false h8))
def straitref10_Classes_Same.ret (K : Bool → Heap → Prop) (v : Value) (h : Heap) : Prop := match v with
  | (.bool r20) => K r20 h
  | _ => False
theorem straitref10_Classes_Same.ret_elim {K : Bool → Heap → Prop} {K' : Value → Heap → Prop} {v : Value} {h : Heap} (hk : ∀ r20 h, K r20 h → K' (.bool r20) h) (hh : straitref10_Classes_Same.ret K v h) : K' v h := by
  unfold straitref10_Classes_Same.ret at hh
  split at hh
  · exact hk _ _ hh
  · exact hh.elim
def straitref10_Classes_Same.call (f : FuncId) (vs : List Value) (h : Heap) (K : Value → Heap → Prop) : Prop := match f, vs with
  | 89, [(.agg ⟨[(.slice a1 a1l a1c)]⟩), (.int .i64 a2)] => callP1 (straitref10_Classes_in a1 a1l a1c a2 h) fun r7 h' => K (.bool r7) h'
  | _, _ => False
noncomputable def straitref10_Classes_Same.ctx : Ctx := { P := Tryz.prog, call := straitref10_Classes_Same.call, qcall := fun _ _ _ _ => False, quiet := fun f => Nat.beq f 1000131 || Nat.beq f 1000155, loop := fun _ _ _ _ => False }
theorem straitref10_Classes_Same.ok [DKc] : straitref10_Classes_Same.ctx.OK where
  mixed := by kernel_rfl
  mono := by
    intro f args h K K' hh hk
    change straitref10_Classes_Same.call f args h K at hh
    change straitref10_Classes_Same.call f args h K'
    unfold straitref10_Classes_Same.call at hh ⊢
    split at hh
    · obtain ⟨R, h1, h2⟩ := hh
      exact ⟨R, h1, fun _ x hr => hk _ _ (h2 _ x hr)⟩
    · exact hh.elim
  call := by
    intro f args h K hh w hw
    change straitref10_Classes_Same.call f args h K at hh
    unfold straitref10_Classes_Same.call at hh
    split at hh
    · obtain ⟨R, h1, h2⟩ := hh
      obtain ⟨g1, g2⟩ := straitref10_Classes_in.calls h1 w hw
      exact ⟨g1, g2.mono fun e w' ⟨v, he, ho, hr⟩ => ⟨v, he, ho, straitref10_Classes_in.ret_elim h2 hr⟩⟩
    · exact hh.elim
  qmono := fun hh _ => hh.elim
  qval := fun hh => hh.elim
  qcall := fun hh => hh.elim
noncomputable def straitref10_Classes_Same.code : Code := (Tryz.f95.body).getD .skip
def straitref10_Classes_Same.ann : Ann := (.two .auto (.two (.reg [0, 0, 3, 7, 15, 15, 63, 127, 255, 511, 1023, 511, 4095, 8191, 511, 16895, 511, 115199, 246271, 524287, 1048575, 2097151] (.take 0 (.take 1 (.alt 2 (.take 3 (.take 4 (.take 5 (.alt 6 (.take 7 (.take 8 (.take 9 (.take 10 (.take 11 (.take 12 (.take 13 (.take 14 (.take 15 (.take 16 (.take 17 (.take 18 (.take 19 (.take 20 (.take 21 .done))))))))))))))) .noalt)))) .noalt)))) .auto))
set_option maxRecDepth 100000 in
theorem straitref10_Classes_Same.eq (a1 : Option Addr) (a1l : Nat) (a1c : Nat) (a2 : Int) (a3 : Int) (h : Heap) (K : Bool → Heap → Prop) : evF straitref10_Classes_Same.ctx Tryz.f95 straitref10_Classes_Same.ann [(.agg #[(.slice a1 a1l a1c)]), (.int .i64 a2), (.int .i64 a3)] h (straitref10_Classes_Same.ret K) = straitref10_Classes_Same a1 a1l a1c a2 a3 h K := by kernel_rfl
set_option maxRecDepth 100000 in
theorem straitref10_Classes_Same.calls [DKc] {a1 : Option Addr} {a1l : Nat} {a1c : Nat} {a2 : Int} {a3 : Int} {h : Heap} {K : Bool → Heap → Prop} (hh : straitref10_Classes_Same a1 a1l a1c a2 a3 h K) (w : World) (hw : w.heap = h) :
    (callFunc 95 #[(.agg #[(.slice a1 a1l a1c)]), (.int .i64 a2), (.int .i64 a3)]).run Tryz.prog w = .ok (.enter 95 #[(.agg #[(.slice a1 a1l a1c)]), (.int .i64 a2), (.int .i64 a3)]) w ∧ Calls Tryz.prog 95 #[(.agg #[(.slice a1 a1l a1c)]), (.int .i64 a2), (.int .i64 a3)] w fun e w' => ∃ v, e = .returned v ∧ Out w w' ∧ straitref10_Classes_Same.ret K v w'.heap := by
  rw [← straitref10_Classes_Same.eq] at hh
  exact fn_calls (args := [(.agg #[(.slice a1 a1l a1c)]), (.int .i64 a2), (.int .i64 a3)]) (c := straitref10_Classes_Same.code) straitref10_Classes_Same.ok Tryz.func95 (by kernel_rfl) (by kernel_rfl) (by kernel_rfl) (by kernel_rfl) (loops_ok (l := []) (by kernel_rfl) trivial) hh w hw

end Go.Proofs.YtbhndlpjfncliaaGreat
