/- WRITTEN BY A PROGRAM OF THIS SESSION (gen.py): what each function asks of memory, and that the model's run comes to it. -/
import Derived.Test.YthcbigbgfekmdaaProg
import Derived.Test.YthcbigbgfekmdaaFw8
import Derived.Test.YthcbigbgfekmdaaG0
namespace Go.Proofs.Ythcbigbgfekmdaa
open Go.Hp
set_option linter.unusedVariables false
set_option linter.unusedSimpArgs false

/-! ### (*strait/straitref13.Row).Count: function 24 -/
def straitref13_Row_Count.b0 (K2 : Int → Heap → Prop) (cont : (Option Addr) → Int → Int → Int → Heap → Prop) (c0_1001 : Option Addr) (c1_1002 : Int) (v5_1003 : Int) (v6_1004 : Int) (h1005 : Heap) : Prop :=
  chkP c0_1001 fun a1006 => ∃ (x1007 : Option Addr) (x1007l : Nat) (x1007c : Nat), cell h1005 (a1006.add 2) = some (.slice x1007 x1007l x1007c) ∧ (iteB (decide (v6_1004 < (x1007l : Int))) ((chkP c0_1001 fun a1008 => ∃ (x1009 : Option Addr) (x1009l : Nat) (x1009c : Nat), cell h1005 (a1008.add 2) = some (.slice x1009 x1009l x1009c) ∧ chkP x1009 fun a1010 => (0 ≤ v6_1004 ∧ v6_1004 < (x1009l : Int)) ∧ ∃ (x1011 : Int), cell h1005 (a1010.add (v6_1004.toNat * 1)) = some (.int .i64 x1011) ∧ (iteB (x1011 == c1_1002) (((cont c0_1001 c1_1002 (IntKind.i64.wrap (v5_1003 + 1)) (IntKind.i64.wrap (v6_1004 + 1)) h1005))) (((cont c0_1001 c1_1002 v5_1003 (IntKind.i64.wrap (v6_1004 + 1)) h1005)))))) (K2 v5_1003 h1005))
def straitref13_Row_Count.l0 (K2 : Int → Heap → Prop) : Nat → (Option Addr) → Int → Int → Int → Heap → Prop
  | 0, _, _, _, _, _ => False
  | m + 1, c0_1001, c1_1002, v5_1003, v6_1004, h => straitref13_Row_Count.b0 K2 (straitref13_Row_Count.l0 K2 m) c0_1001 c1_1002 v5_1003 v6_1004 h
def straitref13_Row_Count (a1 : Option Addr) (a2 : Int) (h : Heap) (K : Int → Heap → Prop) : Prop :=
  (((∃ m5, straitref13_Row_Count.l0 (fun z3 h4 => (K z3 h4)) m5 a1 a2 0 0 h)))
def straitref13_Row_Count.ret (K : Int → Heap → Prop) (v : Value) (h : Heap) : Prop := match v with
  | (.int .i64 r6) => K r6 h
  | _ => False
theorem straitref13_Row_Count.ret_elim {K : Int → Heap → Prop} {K' : Value → Heap → Prop} {v : Value} {h : Heap} (hk : ∀ r6 h, K r6 h → K' (.int .i64 r6) h) (hh : straitref13_Row_Count.ret K v h) : K' v h := by
  unfold straitref13_Row_Count.ret at hh
  split at hh
  · exact hk _ _ hh
  · exact hh.elim
def straitref13_Row_Count.r0 (K : Nat → List Value → Heap → Prop) (m : Nat) (vs : List Value) (h : Heap) : Prop := match vs with
  | [(.pointer c0_1001), (.int .i64 c1_1002), (.int .i64 v5_1003), (.int .i64 v6_1004)] => straitref13_Row_Count.l0 (fun z7 h' => K 2 [(.int .i64 z7)] h') m c0_1001 c1_1002 v5_1003 v6_1004 h
  | _ => False
def straitref13_Row_Count.loop (i : Nat) (vs : List Value) (h : Heap) (K : Nat → List Value → Heap → Prop) : Prop := match i with
  | 0 => ∃ m, straitref13_Row_Count.r0 K m vs h
  | _ => False
noncomputable def straitref13_Row_Count.ctx : Ctx := { P := Try.prog, call := fun _ _ _ _ => False, qcall := fun _ _ _ _ => False, quiet := fun f => false, loop := straitref13_Row_Count.loop }
theorem straitref13_Row_Count.ok : straitref13_Row_Count.ctx.OK where
  mixed := by kernel_rfl
  mono := fun hh _ => hh.elim
  call := fun hh => hh.elim
  qmono := fun hh _ => hh.elim
  qval := fun hh => hh.elim
  qcall := fun hh => hh.elim
noncomputable def straitref13_Row_Count.code : Code := (Try.f24.body).getD .skip
def straitref13_Row_Count.ann : Ann := (.two .auto (.two .auto (.two (.two .auto (.two (.loop 0 [0, 1, 5, 6] [(2, [5])] .auto) .auto)) .auto)))
noncomputable def straitref13_Row_Count.c0 : Code := sub straitref13_Row_Count.code [1, 1, 0, 1, 0, 0]
def straitref13_Row_Count.a0 : Ann := .auto
def straitref13_Row_Count.keep0 : List Nat := [0, 1, 5, 6]
def straitref13_Row_Count.outs0 : List (Nat × List Nat) := [(2, [5])]
set_option maxRecDepth 100000 in
theorem straitref13_Row_Count.L0 : LoopOK straitref13_Row_Count.ctx 28 straitref13_Row_Count.c0 0 straitref13_Row_Count.keep0 straitref13_Row_Count.outs0 := by
  refine loop_ok (n := straitref13_Row_Count.a0) straitref13_Row_Count.ok (by kernel_rfl) (loops_ok (l := []) (by kernel_rfl) ?_) straitref13_Row_Count.r0 ?_ ?_ (fun vs h K hh => hh)
  · exact trivial
  · intro K vs h hh
    unfold straitref13_Row_Count.r0 at hh
    split at hh
    · exact hh
    · exact hh
  · intro K m vs h hh
    unfold straitref13_Row_Count.r0 at hh
    split at hh
    · exact cast (by kernel_rfl) hh
    · exact hh.elim
set_option maxRecDepth 100000 in
theorem straitref13_Row_Count.eq (a1 : Option Addr) (a2 : Int) (h : Heap) (K : Int → Heap → Prop) : evF straitref13_Row_Count.ctx Try.f24 straitref13_Row_Count.ann [(.pointer a1), (.int .i64 a2)] h (straitref13_Row_Count.ret K) = straitref13_Row_Count a1 a2 h K := by kernel_rfl
set_option maxRecDepth 100000 in
theorem straitref13_Row_Count.calls {a1 : Option Addr} {a2 : Int} {h : Heap} {K : Int → Heap → Prop} (hh : straitref13_Row_Count a1 a2 h K) (w : World) (hw : w.heap = h) :
    (callFunc 24 #[(.pointer a1), (.int .i64 a2)]).run Try.prog w = .ok (.enter 24 #[(.pointer a1), (.int .i64 a2)]) w ∧ Calls Try.prog 24 #[(.pointer a1), (.int .i64 a2)] w fun e w' => ∃ v, e = .returned v ∧ Out w w' ∧ straitref13_Row_Count.ret K v w'.heap := by
  rw [← straitref13_Row_Count.eq] at hh
  exact fn_calls (args := [(.pointer a1), (.int .i64 a2)]) (c := straitref13_Row_Count.code) straitref13_Row_Count.ok Try.func24 (by kernel_rfl) (by kernel_rfl) (by kernel_rfl) (by kernel_rfl) (loops_ok (l := [(straitref13_Row_Count.c0, none, 0, straitref13_Row_Count.keep0, straitref13_Row_Count.outs0)]) (by kernel_rfl) ⟨straitref13_Row_Count.L0, trivial⟩) hh w hw

/-! ### (*strait/bucket.Row).Above: function 16 -/
def bucket_Row_Above.b0 (K2 : (Option Addr) → Nat → Nat → Heap → Prop) (cont : (Option Addr) → Int → (Option Addr) → Nat → Nat → Int → Int → Heap → Prop) (c0_1001 : Option Addr) (c1_1002 : Int) (v5_1003 : Option Addr) (v5_1003l : Nat) (v5_1003c : Nat) (c13_1004 : Int) (v14_1005 : Int) (h1006 : Heap) : Prop :=
  (iteB (decide (v14_1005 < c13_1004)) ((let j1030 := (fun (y1028 : Option Addr) (y1028l : Nat) (y1028c : Nat) (h1029 : Heap) => cont c0_1001 c1_1002 y1028 y1028l y1028c c13_1004 (IntKind.i64.wrap (v14_1005 + 1)) h1029);
  (callP1 (bucket_Row_seated c0_1001 v14_1005 h1006) fun x1007 h1008 => iteB x1007 (chkP c0_1001 fun a1009 => ∃ (x1010 : Option Addr) (x1010l : Nat) (x1010c : Nat), cell h1008 a1009 = some (.slice x1010 x1010l x1010c) ∧ chkP x1010 fun a1011 => (0 ≤ v14_1005 ∧ v14_1005 < (x1010l : Int)) ∧ ∃ (x1012 : Int), cell h1008 (a1011.add (v14_1005.toNat * 3)) = some (.int .i64 x1012) ∧ (iteB (decide (x1012 > c1_1002)) (newP h1008 (.cells #[(.int .i64 v14_1005)] 3) fun a1021 h1022 => ∃ n1027, cellsAt h1022 (some a1021) (1 * 1) n1027 ∧ appP 3 1 8 [(.int .i64 0)] v5_1003 v5_1003l v5_1003c 1 n1027 h1022 fun q1023 l1024 c1025 h1026 => ((j1030 q1023 l1024 c1025 h1026))) (((j1030 v5_1003 v5_1003l v5_1003c h1008))))) ((((j1030 v5_1003 v5_1003l v5_1003c h1008))))))) (K2 v5_1003 v5_1003l v5_1003c h1006))
def bucket_Row_Above.l0 (K2 : (Option Addr) → Nat → Nat → Heap → Prop) : Nat → (Option Addr) → Int → (Option Addr) → Nat → Nat → Int → Int → Heap → Prop
  | 0, _, _, _, _, _, _, _, _ => False
  | m + 1, c0_1001, c1_1002, v5_1003, v5_1003l, v5_1003c, c13_1004, v14_1005, h => bucket_Row_Above.b0 K2 (bucket_Row_Above.l0 K2 m) c0_1001 c1_1002 v5_1003 v5_1003l v5_1003c c13_1004 v14_1005 h
def bucket_Row_Above (a1 : Option Addr) (a2 : Int) (h : Heap) (K : (Option Addr) → Nat → Nat → Heap → Prop) : Prop :=
  ((iteB a1.isNone (K none 0 0 h) (((chkP a1 fun a3 => ∃ (x4 : Option Addr) (x4l : Nat) (x4c : Nat), cell h a3 = some (.slice x4 x4l x4c) ∧ (∃ m7, bucket_Row_Above.l0 (fun z5 z5l z5c h6 => (K z5 z5l z5c h6)) m7 a1 a2 none 0 0 (x4l : Int) 0 h))))))
def bucket_Row_Above.ret (K : (Option Addr) → Nat → Nat → Heap → Prop) (v : Value) (h : Heap) : Prop := match v with
  | (.slice r8 r8l r8c) => K r8 r8l r8c h
  | _ => False
theorem bucket_Row_Above.ret_elim {K : (Option Addr) → Nat → Nat → Heap → Prop} {K' : Value → Heap → Prop} {v : Value} {h : Heap} (hk : ∀ r8 r8l r8c h, K r8 r8l r8c h → K' (.slice r8 r8l r8c) h) (hh : bucket_Row_Above.ret K v h) : K' v h := by
  unfold bucket_Row_Above.ret at hh
  split at hh
  · exact hk _ _ _ _ hh
  · exact hh.elim
def bucket_Row_Above.call (f : FuncId) (vs : List Value) (h : Heap) (K : Value → Heap → Prop) : Prop := match f, vs with
  | 21, [(.pointer a1), (.int .i64 a2)] => callP1 (bucket_Row_seated a1 a2 h) fun r21 h' => K (.bool r21) h'
  | _, _ => False
def bucket_Row_Above.r0 (K : Nat → List Value → Heap → Prop) (m : Nat) (vs : List Value) (h : Heap) : Prop := match vs with
  | [(.pointer c0_1001), (.int .i64 c1_1002), (.slice v5_1003 v5_1003l v5_1003c), (.int .i64 c13_1004), (.int .i64 v14_1005)] => bucket_Row_Above.l0 (fun z9 z9l z9c h' => K 2 [(.slice z9 z9l z9c)] h') m c0_1001 c1_1002 v5_1003 v5_1003l v5_1003c c13_1004 v14_1005 h
  | _ => False
def bucket_Row_Above.loop (i : Nat) (vs : List Value) (h : Heap) (K : Nat → List Value → Heap → Prop) : Prop := match i with
  | 0 => ∃ m, bucket_Row_Above.r0 K m vs h
  | _ => False
noncomputable def bucket_Row_Above.ctx : Ctx := { P := Try.prog, call := bucket_Row_Above.call, qcall := fun _ _ _ _ => False, quiet := fun f => false, loop := bucket_Row_Above.loop }
theorem bucket_Row_Above.ok : bucket_Row_Above.ctx.OK where
  mixed := by kernel_rfl
  mono := by
    intro f args h K K' hh hk
    change bucket_Row_Above.call f args h K at hh
    change bucket_Row_Above.call f args h K'
    unfold bucket_Row_Above.call at hh ⊢
    split at hh
    · obtain ⟨R, h1, h2⟩ := hh
      exact ⟨R, h1, fun _ x hr => hk _ _ (h2 _ x hr)⟩
    · exact hh.elim
  call := by
    intro f args h K hh w hw
    change bucket_Row_Above.call f args h K at hh
    unfold bucket_Row_Above.call at hh
    split at hh
    · obtain ⟨R, h1, h2⟩ := hh
      obtain ⟨g1, g2⟩ := bucket_Row_seated.calls h1 w hw
      exact ⟨g1, g2.mono fun e w' ⟨v, he, ho, hr⟩ => ⟨v, he, ho, bucket_Row_seated.ret_elim h2 hr⟩⟩
    · exact hh.elim
  qmono := fun hh _ => hh.elim
  qval := fun hh => hh.elim
  qcall := fun hh => hh.elim
noncomputable def bucket_Row_Above.code : Code := (Try.f16.body).getD .skip
def bucket_Row_Above.ann : Ann := (.two .auto (.two .auto (.two .auto (.two (.two .auto (.two (.loop 0 [0, 1, 5, 13, 14] [(2, [5])] .auto) .auto)) .auto))))
noncomputable def bucket_Row_Above.c0 : Code := sub bucket_Row_Above.code [1, 1, 1, 0, 1, 0, 0]
def bucket_Row_Above.a0 : Ann := .auto
def bucket_Row_Above.keep0 : List Nat := [0, 1, 5, 13, 14]
def bucket_Row_Above.outs0 : List (Nat × List Nat) := [(2, [5])]
set_option maxRecDepth 100000 in
theorem bucket_Row_Above.L0 : LoopOK bucket_Row_Above.ctx 38 bucket_Row_Above.c0 0 bucket_Row_Above.keep0 bucket_Row_Above.outs0 := by
  refine loop_ok (n := bucket_Row_Above.a0) bucket_Row_Above.ok (by kernel_rfl) (loops_ok (l := []) (by kernel_rfl) ?_) bucket_Row_Above.r0 ?_ ?_ (fun vs h K hh => hh)
  · exact trivial
  · intro K vs h hh
    unfold bucket_Row_Above.r0 at hh
    split at hh
    · exact hh
    · exact hh
  · intro K m vs h hh
    unfold bucket_Row_Above.r0 at hh
    split at hh
    · exact cast (by kernel_rfl) hh
    · exact hh.elim
set_option maxRecDepth 100000 in
theorem bucket_Row_Above.eq (a1 : Option Addr) (a2 : Int) (h : Heap) (K : (Option Addr) → Nat → Nat → Heap → Prop) : evF bucket_Row_Above.ctx Try.f16 bucket_Row_Above.ann [(.pointer a1), (.int .i64 a2)] h (bucket_Row_Above.ret K) = bucket_Row_Above a1 a2 h K := by kernel_rfl
set_option maxRecDepth 100000 in
theorem bucket_Row_Above.calls {a1 : Option Addr} {a2 : Int} {h : Heap} {K : (Option Addr) → Nat → Nat → Heap → Prop} (hh : bucket_Row_Above a1 a2 h K) (w : World) (hw : w.heap = h) :
    (callFunc 16 #[(.pointer a1), (.int .i64 a2)]).run Try.prog w = .ok (.enter 16 #[(.pointer a1), (.int .i64 a2)]) w ∧ Calls Try.prog 16 #[(.pointer a1), (.int .i64 a2)] w fun e w' => ∃ v, e = .returned v ∧ Out w w' ∧ bucket_Row_Above.ret K v w'.heap := by
  rw [← bucket_Row_Above.eq] at hh
  exact fn_calls (args := [(.pointer a1), (.int .i64 a2)]) (c := bucket_Row_Above.code) bucket_Row_Above.ok Try.func16 (by kernel_rfl) (by kernel_rfl) (by kernel_rfl) (by kernel_rfl) (loops_ok (l := [(bucket_Row_Above.c0, none, 0, bucket_Row_Above.keep0, bucket_Row_Above.outs0)]) (by kernel_rfl) ⟨bucket_Row_Above.L0, trivial⟩) hh w hw

/-! ### strait/straitref09.New: function 27 -/
def straitref09_New (a1 : Int) (h : Heap) (K : Int → (Option Addr) → Nat → Nat → Heap → Prop) : Prop :=
  newP h (.cells #[(.int .i64 0), (.slice none 0 0)] 56) fun a2 h3 => (qcallP1 h3 (straitref09_Room a1 h3) fun x4 => qcallP1 h3 (straitref09_Room a1 h3) fun x5 => (0 ≤ x5 ∧ x5 ≤ x5 ∧ x5 * (1 : Nat) ≤ 2 ^ 47 ∧ x5 ≤ 2 ^ 47) ∧ newP h3 (.cells (zeroRow [(.bool false)] x5.toNat).toArray 4) fun a6 h7 => stC h7 a2 (.int .i64 x4) fun h8 => stC h8 (a2.add 1) (.slice (some a6) x5.toNat x5.toNat) fun h9 => (∃ (x10 : Int), cell h9 a2 = some (.int .i64 x10) ∧ ∃ (x11 : Option Addr) (x11l : Nat) (x11c : Nat), cell h9 (a2.add 1) = some (.slice x11 x11l x11c) ∧ K x10 x11 x11l x11c h9))
def straitref09_New.ret (K : Int → (Option Addr) → Nat → Nat → Heap → Prop) (v : Value) (h : Heap) : Prop := match v with
  | (.agg ⟨[(.int .i64 r12), (.slice r13 r13l r13c)]⟩) => K r12 r13 r13l r13c h
  | _ => False
theorem straitref09_New.ret_elim {K : Int → (Option Addr) → Nat → Nat → Heap → Prop} {K' : Value → Heap → Prop} {v : Value} {h : Heap} (hk : ∀ r12 r13 r13l r13c h, K r12 r13 r13l r13c h → K' (.agg #[(.int .i64 r12), (.slice r13 r13l r13c)]) h) (hh : straitref09_New.ret K v h) : K' v h := by
  unfold straitref09_New.ret at hh
  split at hh
  · exact hk _ _ _ _ _ hh
  · exact hh.elim
def straitref09_New.qcall (f : FuncId) (vs : List Value) (h : Heap) (K : Value → Prop) : Prop := match f, vs with
  | 19, [(.int .i64 a1)] => qcallP1 h (straitref09_Room a1 h) fun r3 => K (.int .i64 r3)
  | _, _ => False
noncomputable def straitref09_New.ctx : Ctx := { P := Try.prog, call := fun _ _ _ _ => False, qcall := straitref09_New.qcall, quiet := fun f => Nat.beq f 19, loop := fun _ _ _ _ => False }
theorem straitref09_New.ok : straitref09_New.ctx.OK where
  mixed := by kernel_rfl
  mono := fun hh _ => hh.elim
  call := fun hh => hh.elim
  qmono := by
    intro f args h K K' hh hk
    change straitref09_New.qcall f args h K at hh
    change straitref09_New.qcall f args h K'
    unfold straitref09_New.qcall at hh ⊢
    split at hh
    · obtain ⟨x0, h1, h2⟩ := hh
      exact ⟨x0, h1, hk _ h2⟩
    · exact hh.elim
  qval := by
    intro f args h K hh
    change straitref09_New.qcall f args h K at hh
    suffices H : ∃ v, K v ∧ straitref09_New.qcall f args h (· = v) from H
    unfold straitref09_New.qcall at hh ⊢
    split at hh
    · obtain ⟨x0, h1, h2⟩ := hh
      exact ⟨_, h2, x0, h1, rfl⟩
    · exact hh.elim
  qcall := by
    intro f args h v hh w hw
    change straitref09_New.qcall f args h (· = v) at hh
    unfold straitref09_New.qcall at hh
    split at hh
    · obtain ⟨x0, h1, h2⟩ := hh
      obtain ⟨g1, g2⟩ := straitref09_Room.calls h1 w hw
      refine .inl ⟨g1, g2.mono fun e w' ⟨u, he, ho, hr⟩ => ?_⟩
      have hq := straitref09_Room.ret_elim (K' := fun u h' => u = v ∧ h' = h) (fun _ h' hr => by obtain ⟨rfl, rfl⟩ := hr; exact ⟨h2, rfl⟩) hr
      exact ⟨hq.1 ▸ he, ho, hq.2⟩
    · exact hh.elim
noncomputable def straitref09_New.code : Code := (Try.f27.body).getD .skip
def straitref09_New.ann : Ann := .auto
set_option maxRecDepth 100000 in
theorem straitref09_New.eq (a1 : Int) (h : Heap) (K : Int → (Option Addr) → Nat → Nat → Heap → Prop) : evF straitref09_New.ctx Try.f27 straitref09_New.ann [(.int .i64 a1)] h (straitref09_New.ret K) = straitref09_New a1 h K := by kernel_rfl
set_option maxRecDepth 100000 in
theorem straitref09_New.calls {a1 : Int} {h : Heap} {K : Int → (Option Addr) → Nat → Nat → Heap → Prop} (hh : straitref09_New a1 h K) (w : World) (hw : w.heap = h) :
    (callFunc 27 #[(.int .i64 a1)]).run Try.prog w = .ok (.enter 27 #[(.int .i64 a1)]) w ∧ Calls Try.prog 27 #[(.int .i64 a1)] w fun e w' => ∃ v, e = .returned v ∧ Out w w' ∧ straitref09_New.ret K v w'.heap := by
  rw [← straitref09_New.eq] at hh
  exact fn_calls (args := [(.int .i64 a1)]) (c := straitref09_New.code) straitref09_New.ok Try.func27 (by kernel_rfl) (by kernel_rfl) (by kernel_rfl) (by kernel_rfl) (loops_ok (l := []) (by kernel_rfl) trivial) hh w hw

/-! ### (strait/straitref09.Set).List: function 28 -/
def straitref09_Set_List.b0 (K2 : (Option Addr) → Nat → Nat → Heap → Prop) (cont : Addr → (Option Addr) → Nat → Nat → Int → Heap → Prop) (c1_1001 : Addr) (v3_1002 : Option Addr) (v3_1002l : Nat) (v3_1002c : Nat) (v4_1003 : Int) (h1004 : Heap) : Prop :=
  ∃ (x1005 : Int), cell h1004 c1_1001 = some (.int .i64 x1005) ∧ (iteB (decide (v4_1003 < x1005)) ((∃ (x1006 : Option Addr) (x1006l : Nat) (x1006c : Nat), cell h1004 (c1_1001.add 1) = some (.slice x1006 x1006l x1006c) ∧ chkP x1006 fun a1007 => (0 ≤ v4_1003 ∧ v4_1003 < (x1006l : Int)) ∧ ∃ (x1008 : Bool), cell h1004 (a1007.add (v4_1003.toNat * 1)) = some (.bool x1008) ∧ (iteB x1008 (newP h1004 (.cells #[(.int .i64 v4_1003)] 3) fun a1009 h1010 => ∃ n1015, cellsAt h1010 (some a1009) (1 * 1) n1015 ∧ appP 3 1 8 [(.int .i64 0)] v3_1002 v3_1002l v3_1002c 1 n1015 h1010 fun q1011 l1012 c1013 h1014 => ((cont c1_1001 q1011 l1012 c1013 (IntKind.i64.wrap (v4_1003 + 1)) h1014))) (((cont c1_1001 v3_1002 v3_1002l v3_1002c (IntKind.i64.wrap (v4_1003 + 1)) h1004)))))) (K2 v3_1002 v3_1002l v3_1002c h1004))
def straitref09_Set_List.l0 (K2 : (Option Addr) → Nat → Nat → Heap → Prop) : Nat → Addr → (Option Addr) → Nat → Nat → Int → Heap → Prop
  | 0, _, _, _, _, _, _ => False
  | m + 1, c1_1001, v3_1002, v3_1002l, v3_1002c, v4_1003, h => straitref09_Set_List.b0 K2 (straitref09_Set_List.l0 K2 m) c1_1001 v3_1002 v3_1002l v3_1002c v4_1003 h
def straitref09_Set_List (a1 : Int) (a2 : Option Addr) (a2l : Nat) (a2c : Nat) (h : Heap) (K : (Option Addr) → Nat → Nat → Heap → Prop) : Prop :=
  newP h (.cells #[(.int .i64 a1), (.slice a2 a2l a2c)] 56) fun a3 h4 => (((∃ m7, straitref09_Set_List.l0 (fun z5 z5l z5c h6 => (K z5 z5l z5c h6)) m7 a3 none 0 0 0 h4)))
def straitref09_Set_List.ret (K : (Option Addr) → Nat → Nat → Heap → Prop) (v : Value) (h : Heap) : Prop := match v with
  | (.slice r8 r8l r8c) => K r8 r8l r8c h
  | _ => False
theorem straitref09_Set_List.ret_elim {K : (Option Addr) → Nat → Nat → Heap → Prop} {K' : Value → Heap → Prop} {v : Value} {h : Heap} (hk : ∀ r8 r8l r8c h, K r8 r8l r8c h → K' (.slice r8 r8l r8c) h) (hh : straitref09_Set_List.ret K v h) : K' v h := by
  unfold straitref09_Set_List.ret at hh
  split at hh
  · exact hk _ _ _ _ hh
  · exact hh.elim
def straitref09_Set_List.r0 (K : Nat → List Value → Heap → Prop) (m : Nat) (vs : List Value) (h : Heap) : Prop := match vs with
  | [(.pointer (some c1_1001)), (.slice v3_1002 v3_1002l v3_1002c), (.int .i64 v4_1003)] => straitref09_Set_List.l0 (fun z9 z9l z9c h' => K 2 [(.slice z9 z9l z9c)] h') m c1_1001 v3_1002 v3_1002l v3_1002c v4_1003 h
  | _ => False
def straitref09_Set_List.loop (i : Nat) (vs : List Value) (h : Heap) (K : Nat → List Value → Heap → Prop) : Prop := match i with
  | 0 => ∃ m, straitref09_Set_List.r0 K m vs h
  | _ => False
noncomputable def straitref09_Set_List.ctx : Ctx := { P := Try.prog, call := fun _ _ _ _ => False, qcall := fun _ _ _ _ => False, quiet := fun f => false, loop := straitref09_Set_List.loop }
theorem straitref09_Set_List.ok : straitref09_Set_List.ctx.OK where
  mixed := by kernel_rfl
  mono := fun hh _ => hh.elim
  call := fun hh => hh.elim
  qmono := fun hh _ => hh.elim
  qval := fun hh => hh.elim
  qcall := fun hh => hh.elim
noncomputable def straitref09_Set_List.code : Code := (Try.f28.body).getD .skip
def straitref09_Set_List.ann : Ann := (.two .auto (.two .auto (.two (.two .auto (.two (.loop 0 [1, 3, 4] [(2, [3])] .auto) .auto)) .auto)))
noncomputable def straitref09_Set_List.c0 : Code := sub straitref09_Set_List.code [1, 1, 0, 1, 0, 0]
def straitref09_Set_List.a0 : Ann := .auto
def straitref09_Set_List.keep0 : List Nat := [1, 3, 4]
def straitref09_Set_List.outs0 : List (Nat × List Nat) := [(2, [3])]
set_option maxRecDepth 100000 in
theorem straitref09_Set_List.L0 : LoopOK straitref09_Set_List.ctx 21 straitref09_Set_List.c0 0 straitref09_Set_List.keep0 straitref09_Set_List.outs0 := by
  refine loop_ok (n := straitref09_Set_List.a0) straitref09_Set_List.ok (by kernel_rfl) (loops_ok (l := []) (by kernel_rfl) ?_) straitref09_Set_List.r0 ?_ ?_ (fun vs h K hh => hh)
  · exact trivial
  · intro K vs h hh
    unfold straitref09_Set_List.r0 at hh
    split at hh
    · exact hh
    · exact hh
  · intro K m vs h hh
    unfold straitref09_Set_List.r0 at hh
    split at hh
    · exact cast (by kernel_rfl) hh
    · exact hh.elim
set_option maxRecDepth 100000 in
theorem straitref09_Set_List.eq (a1 : Int) (a2 : Option Addr) (a2l : Nat) (a2c : Nat) (h : Heap) (K : (Option Addr) → Nat → Nat → Heap → Prop) : evF straitref09_Set_List.ctx Try.f28 straitref09_Set_List.ann [(.agg #[(.int .i64 a1), (.slice a2 a2l a2c)])] h (straitref09_Set_List.ret K) = straitref09_Set_List a1 a2 a2l a2c h K := by kernel_rfl
set_option maxRecDepth 100000 in
theorem straitref09_Set_List.calls {a1 : Int} {a2 : Option Addr} {a2l : Nat} {a2c : Nat} {h : Heap} {K : (Option Addr) → Nat → Nat → Heap → Prop} (hh : straitref09_Set_List a1 a2 a2l a2c h K) (w : World) (hw : w.heap = h) :
    (callFunc 28 #[(.agg #[(.int .i64 a1), (.slice a2 a2l a2c)])]).run Try.prog w = .ok (.enter 28 #[(.agg #[(.int .i64 a1), (.slice a2 a2l a2c)])]) w ∧ Calls Try.prog 28 #[(.agg #[(.int .i64 a1), (.slice a2 a2l a2c)])] w fun e w' => ∃ v, e = .returned v ∧ Out w w' ∧ straitref09_Set_List.ret K v w'.heap := by
  rw [← straitref09_Set_List.eq] at hh
  exact fn_calls (args := [(.agg #[(.int .i64 a1), (.slice a2 a2l a2c)])]) (c := straitref09_Set_List.code) straitref09_Set_List.ok Try.func28 (by kernel_rfl) (by kernel_rfl) (by kernel_rfl) (by kernel_rfl) (loops_ok (l := [(straitref09_Set_List.c0, none, 0, straitref09_Set_List.keep0, straitref09_Set_List.outs0)]) (by kernel_rfl) ⟨straitref09_Set_List.L0, trivial⟩) hh w hw

/-! ### (*strait/straitref13.Row).Above: function 26 -/
def straitref13_Row_Above.b0 (K2 : Heap → Prop) (cont : (Option Addr) → Int → Addr → Int → Heap → Prop) (c0_1001 : Option Addr) (c1_1002 : Int) (c5_1003 : Addr) (v6_1004 : Int) (h1005 : Heap) : Prop :=
  chkP c0_1001 fun a1006 => ∃ (x1007 : Option Addr) (x1007l : Nat) (x1007c : Nat), cell h1005 (a1006.add 1) = some (.slice x1007 x1007l x1007c) ∧ (iteB (decide (v6_1004 < (x1007l : Int))) ((chkP c0_1001 fun a1008 => ∃ (x1009 : Option Addr) (x1009l : Nat) (x1009c : Nat), cell h1005 (a1008.add 2) = some (.slice x1009 x1009l x1009c) ∧ chkP x1009 fun a1010 => (0 ≤ v6_1004 ∧ v6_1004 < (x1009l : Int)) ∧ ∃ (x1011 : Int), cell h1005 (a1010.add (v6_1004.toNat * 1)) = some (.int .i64 x1011) ∧ (iteB (decide (x1011 > c1_1002)) (∃ (x1012 : Option Addr) (x1012l : Nat) (x1012c : Nat), cell h1005 (c5_1003.add 1) = some (.slice x1012 x1012l x1012c) ∧ chkP c0_1001 fun a1013 => ∃ (x1014 : Option Addr) (x1014l : Nat) (x1014c : Nat), cell h1005 (a1013.add 1) = some (.slice x1014 x1014l x1014c) ∧ chkP x1014 fun a1015 => (0 ≤ v6_1004 ∧ v6_1004 < (x1014l : Int)) ∧ ∃ (x1016 : Int), cell h1005 (a1015.add (v6_1004.toNat * 1)) = some (.int .i64 x1016) ∧ chkP x1012 fun a1017 => (0 ≤ x1016 ∧ x1016 < (x1012l : Int)) ∧ stC h1005 (a1017.add (x1016.toNat * 1)) (.bool true) fun h1018 => ((cont c0_1001 c1_1002 c5_1003 (IntKind.i64.wrap (v6_1004 + 1)) h1018))) (((cont c0_1001 c1_1002 c5_1003 (IntKind.i64.wrap (v6_1004 + 1)) h1005)))))) (K2 h1005))
def straitref13_Row_Above.l0 (K2 : Heap → Prop) : Nat → (Option Addr) → Int → Addr → Int → Heap → Prop
  | 0, _, _, _, _, _ => False
  | m + 1, c0_1001, c1_1002, c5_1003, v6_1004, h => straitref13_Row_Above.b0 K2 (straitref13_Row_Above.l0 K2 m) c0_1001 c1_1002 c5_1003 v6_1004 h
def straitref13_Row_Above (a1 : Option Addr) (a2 : Int) (h : Heap) (K : (Option Addr) → Nat → Nat → Heap → Prop) : Prop :=
  (chkP a1 fun a3 => ∃ (x4 : Int), cell h a3 = some (.int .i64 x4) ∧ callP4 (straitref09_New x4 h) fun x5 x6 x6l x6c h7 => newP h7 (.cells #[(.int .i64 0), (.slice none 0 0)] 56) fun a8 h9 => stC h9 a8 (.int .i64 x5) fun h10 => stC h10 (a8.add 1) (.slice x6 x6l x6c) fun h11 => ((∃ m13, straitref13_Row_Above.l0 (fun h12 => ((∃ (x14 : Int), cell h12 a8 = some (.int .i64 x14) ∧ ∃ (x15 : Option Addr) (x15l : Nat) (x15c : Nat), cell h12 (a8.add 1) = some (.slice x15 x15l x15c) ∧ callP3 (straitref09_Set_List x14 x15 x15l x15c h12) fun x16 x16l x16c h17 => K x16 x16l x16c h17))) m13 a1 a2 a8 0 h11)))
def straitref13_Row_Above.ret (K : (Option Addr) → Nat → Nat → Heap → Prop) (v : Value) (h : Heap) : Prop := match v with
  | (.slice r18 r18l r18c) => K r18 r18l r18c h
  | _ => False
theorem straitref13_Row_Above.ret_elim {K : (Option Addr) → Nat → Nat → Heap → Prop} {K' : Value → Heap → Prop} {v : Value} {h : Heap} (hk : ∀ r18 r18l r18c h, K r18 r18l r18c h → K' (.slice r18 r18l r18c) h) (hh : straitref13_Row_Above.ret K v h) : K' v h := by
  unfold straitref13_Row_Above.ret at hh
  split at hh
  · exact hk _ _ _ _ hh
  · exact hh.elim
def straitref13_Row_Above.call (f : FuncId) (vs : List Value) (h : Heap) (K : Value → Heap → Prop) : Prop := match f, vs with
  | 27, [(.int .i64 a1)] => callP4 (straitref09_New a1 h) fun r12 r13 r13l r13c h' => K (.agg #[(.int .i64 r12), (.slice r13 r13l r13c)]) h'
  | 28, [(.agg ⟨[(.int .i64 a1), (.slice a2 a2l a2c)]⟩)] => callP3 (straitref09_Set_List a1 a2 a2l a2c h) fun r8 r8l r8c h' => K (.slice r8 r8l r8c) h'
  | _, _ => False
def straitref13_Row_Above.r0 (K : Nat → List Value → Heap → Prop) (m : Nat) (vs : List Value) (h : Heap) : Prop := match vs with
  | [(.pointer c0_1001), (.int .i64 c1_1002), (.pointer (some c5_1003)), (.int .i64 v6_1004)] => straitref13_Row_Above.l0 (fun h' => K 2 [(.pointer (some c5_1003))] h') m c0_1001 c1_1002 c5_1003 v6_1004 h
  | _ => False
def straitref13_Row_Above.loop (i : Nat) (vs : List Value) (h : Heap) (K : Nat → List Value → Heap → Prop) : Prop := match i with
  | 0 => ∃ m, straitref13_Row_Above.r0 K m vs h
  | _ => False
noncomputable def straitref13_Row_Above.ctx : Ctx := { P := Try.prog, call := straitref13_Row_Above.call, qcall := fun _ _ _ _ => False, quiet := fun f => false, loop := straitref13_Row_Above.loop }
theorem straitref13_Row_Above.ok : straitref13_Row_Above.ctx.OK where
  mixed := by kernel_rfl
  mono := by
    intro f args h K K' hh hk
    change straitref13_Row_Above.call f args h K at hh
    change straitref13_Row_Above.call f args h K'
    unfold straitref13_Row_Above.call at hh ⊢
    split at hh
    · obtain ⟨R, h1, h2⟩ := hh
      exact ⟨R, h1, fun _ _ _ _ x hr => hk _ _ (h2 _ _ _ _ x hr)⟩
    · obtain ⟨R, h1, h2⟩ := hh
      exact ⟨R, h1, fun _ _ _ x hr => hk _ _ (h2 _ _ _ x hr)⟩
    · exact hh.elim
  call := by
    intro f args h K hh w hw
    change straitref13_Row_Above.call f args h K at hh
    unfold straitref13_Row_Above.call at hh
    split at hh
    · obtain ⟨R, h1, h2⟩ := hh
      obtain ⟨g1, g2⟩ := straitref09_New.calls h1 w hw
      exact ⟨g1, g2.mono fun e w' ⟨v, he, ho, hr⟩ => ⟨v, he, ho, straitref09_New.ret_elim h2 hr⟩⟩
    · obtain ⟨R, h1, h2⟩ := hh
      obtain ⟨g1, g2⟩ := straitref09_Set_List.calls h1 w hw
      exact ⟨g1, g2.mono fun e w' ⟨v, he, ho, hr⟩ => ⟨v, he, ho, straitref09_Set_List.ret_elim h2 hr⟩⟩
    · exact hh.elim
  qmono := fun hh _ => hh.elim
  qval := fun hh => hh.elim
  qcall := fun hh => hh.elim
noncomputable def straitref13_Row_Above.code : Code := (Try.f26.body).getD .skip
def straitref13_Row_Above.ann : Ann := (.two .auto (.two .auto (.two (.two .auto (.two (.loop 0 [0, 1, 5, 6] [(2, [5])] (.two .auto (.two (.two (.two .auto (.two (.reg [0, 1, 0, 4, 12, 28, 0, 124, 252, 511, 1023] (.take 0 (.take 1 (.take 2 (.take 3 (.take 4 (.take 5 (.take 6 (.take 7 (.take 8 (.take 9 (.alt 10 .done .noalt)))))))))))) .auto)) .auto) .auto))) .auto)) .auto)))
noncomputable def straitref13_Row_Above.c0 : Code := sub straitref13_Row_Above.code [1, 1, 0, 1, 0, 0]
def straitref13_Row_Above.a0 : Ann := (.two .auto (.two (.two (.two .auto (.two (.reg [0, 1, 0, 4, 12, 28, 0, 124, 252, 511, 1023] (.take 0 (.take 1 (.take 2 (.take 3 (.take 4 (.take 5 (.take 6 (.take 7 (.take 8 (.take 9 (.alt 10 .done .noalt)))))))))))) .auto)) .auto) .auto))
def straitref13_Row_Above.keep0 : List Nat := [0, 1, 5, 6]
def straitref13_Row_Above.outs0 : List (Nat × List Nat) := [(2, [5])]
set_option maxRecDepth 100000 in
theorem straitref13_Row_Above.L0 : LoopOK straitref13_Row_Above.ctx 42 straitref13_Row_Above.c0 0 straitref13_Row_Above.keep0 straitref13_Row_Above.outs0 := by
  refine loop_ok (n := straitref13_Row_Above.a0) straitref13_Row_Above.ok (by kernel_rfl) (loops_ok (l := []) (by kernel_rfl) ?_) straitref13_Row_Above.r0 ?_ ?_ (fun vs h K hh => hh)
  · exact trivial
  · intro K vs h hh
    unfold straitref13_Row_Above.r0 at hh
    split at hh
    · exact hh
    · exact hh
  · intro K m vs h hh
    unfold straitref13_Row_Above.r0 at hh
    split at hh
    · exact cast (by kernel_rfl) hh
    · exact hh.elim
set_option maxRecDepth 100000 in
theorem straitref13_Row_Above.eq (a1 : Option Addr) (a2 : Int) (h : Heap) (K : (Option Addr) → Nat → Nat → Heap → Prop) : evF straitref13_Row_Above.ctx Try.f26 straitref13_Row_Above.ann [(.pointer a1), (.int .i64 a2)] h (straitref13_Row_Above.ret K) = straitref13_Row_Above a1 a2 h K := by kernel_rfl
set_option maxRecDepth 100000 in
theorem straitref13_Row_Above.calls {a1 : Option Addr} {a2 : Int} {h : Heap} {K : (Option Addr) → Nat → Nat → Heap → Prop} (hh : straitref13_Row_Above a1 a2 h K) (w : World) (hw : w.heap = h) :
    (callFunc 26 #[(.pointer a1), (.int .i64 a2)]).run Try.prog w = .ok (.enter 26 #[(.pointer a1), (.int .i64 a2)]) w ∧ Calls Try.prog 26 #[(.pointer a1), (.int .i64 a2)] w fun e w' => ∃ v, e = .returned v ∧ Out w w' ∧ straitref13_Row_Above.ret K v w'.heap := by
  rw [← straitref13_Row_Above.eq] at hh
  exact fn_calls (args := [(.pointer a1), (.int .i64 a2)]) (c := straitref13_Row_Above.code) straitref13_Row_Above.ok Try.func26 (by kernel_rfl) (by kernel_rfl) (by kernel_rfl) (by kernel_rfl) (loops_ok (l := [(straitref13_Row_Above.c0, none, 0, straitref13_Row_Above.keep0, straitref13_Row_Above.outs0)]) (by kernel_rfl) ⟨straitref13_Row_Above.L0, trivial⟩) hh w hw

/-! ### strait/straitref09.Ints: function 25 -/
def straitref09_Ints.b0 (K0 : Bool → Heap → Prop) (K2 : Heap → Prop) (cont : (Option Addr) → Nat → Nat → (Option Addr) → Nat → Nat → Int → Heap → Prop) (c0_1001 : Option Addr) (c0_1002 : Nat) (c0_1003 : Nat) (c1_1004 : Option Addr) (c1_1005 : Nat) (c1_1006 : Nat) (v5_1007 : Int) (h1008 : Heap) : Prop :=
  (iteB (decide (v5_1007 < (c0_1002 : Int))) ((chkP c0_1001 fun a1009 => (0 ≤ v5_1007 ∧ v5_1007 < (c0_1002 : Int)) ∧ ∃ (x1010 : Int), cell h1008 (a1009.add (v5_1007.toNat * 1)) = some (.int .i64 x1010) ∧ chkP c1_1004 fun a1011 => (0 ≤ v5_1007 ∧ v5_1007 < (c1_1005 : Int)) ∧ ∃ (x1012 : Int), cell h1008 (a1011.add (v5_1007.toNat * 1)) = some (.int .i64 x1012) ∧ (iteB (x1010 != x1012) (K0 false h1008) (((cont c0_1001 c0_1002 c0_1003 c1_1004 c1_1005 c1_1006 (IntKind.i64.wrap (v5_1007 + 1)) h1008)))))) (K2 h1008))
def straitref09_Ints.l0 (K0 : Bool → Heap → Prop) (K2 : Heap → Prop) : Nat → (Option Addr) → Nat → Nat → (Option Addr) → Nat → Nat → Int → Heap → Prop
  | 0, _, _, _, _, _, _, _, _ => False
  | m + 1, c0_1001, c0_1002, c0_1003, c1_1004, c1_1005, c1_1006, v5_1007, h => straitref09_Ints.b0 K0 K2 (straitref09_Ints.l0 K0 K2 m) c0_1001 c0_1002 c0_1003 c1_1004 c1_1005 c1_1006 v5_1007 h
def straitref09_Ints (a1 : Option Addr) (a1l : Nat) (a1c : Nat) (a2 : Option Addr) (a2l : Nat) (a2c : Nat) (h : Heap) (K : Bool → Heap → Prop) : Prop :=
  ((iteB ((a1l : Int) != (a2l : Int)) (K false h) (((∃ m6, straitref09_Ints.l0 (fun z3 h4 => K z3 h4) (fun h5 => (K true h5)) m6 a1 a1l a1c a2 a2l a2c 0 h)))))
def straitref09_Ints.ret (K : Bool → Heap → Prop) (v : Value) (h : Heap) : Prop := match v with
  | (.bool r7) => K r7 h
  | _ => False
theorem straitref09_Ints.ret_elim {K : Bool → Heap → Prop} {K' : Value → Heap → Prop} {v : Value} {h : Heap} (hk : ∀ r7 h, K r7 h → K' (.bool r7) h) (hh : straitref09_Ints.ret K v h) : K' v h := by
  unfold straitref09_Ints.ret at hh
  split at hh
  · exact hk _ _ hh
  · exact hh.elim
def straitref09_Ints.r0 (K : Nat → List Value → Heap → Prop) (m : Nat) (vs : List Value) (h : Heap) : Prop := match vs with
  | [(.slice c0_1001 c0_1002 c0_1003), (.slice c1_1004 c1_1005 c1_1006), (.int .i64 v5_1007)] => straitref09_Ints.l0 (fun z8 h' => K 0 [(.bool z8)] h') (fun h' => K 2 [] h') m c0_1001 c0_1002 c0_1003 c1_1004 c1_1005 c1_1006 v5_1007 h
  | _ => False
def straitref09_Ints.loop (i : Nat) (vs : List Value) (h : Heap) (K : Nat → List Value → Heap → Prop) : Prop := match i with
  | 0 => ∃ m, straitref09_Ints.r0 K m vs h
  | _ => False
noncomputable def straitref09_Ints.ctx : Ctx := { P := Try.prog, call := fun _ _ _ _ => False, qcall := fun _ _ _ _ => False, quiet := fun f => false, loop := straitref09_Ints.loop }
theorem straitref09_Ints.ok : straitref09_Ints.ctx.OK where
  mixed := by kernel_rfl
  mono := fun hh _ => hh.elim
  call := fun hh => hh.elim
  qmono := fun hh _ => hh.elim
  qval := fun hh => hh.elim
  qcall := fun hh => hh.elim
noncomputable def straitref09_Ints.code : Code := (Try.f25.body).getD .skip
def straitref09_Ints.ann : Ann := (.two .auto (.two .auto (.two (.two .auto (.two (.loop 0 [0, 1, 5] [(2, []), (0, [4])] (.two .auto (.two (.two (.two (.reg [0, 0, 3, 7, 0, 0, 48, 112, 255] (.take 0 (.take 1 (.take 2 (.take 3 (.take 4 (.take 5 (.take 6 (.take 7 (.take 8 .done)))))))))) .auto) .auto) .auto))) .auto)) .auto)))
noncomputable def straitref09_Ints.c0 : Code := sub straitref09_Ints.code [1, 1, 0, 1, 0, 0]
def straitref09_Ints.a0 : Ann := (.two .auto (.two (.two (.two (.reg [0, 0, 3, 7, 0, 0, 48, 112, 255] (.take 0 (.take 1 (.take 2 (.take 3 (.take 4 (.take 5 (.take 6 (.take 7 (.take 8 .done)))))))))) .auto) .auto) .auto))
def straitref09_Ints.keep0 : List Nat := [0, 1, 5]
def straitref09_Ints.outs0 : List (Nat × List Nat) := [(2, []), (0, [4])]
set_option maxRecDepth 100000 in
theorem straitref09_Ints.L0 : LoopOK straitref09_Ints.ctx 26 straitref09_Ints.c0 0 straitref09_Ints.keep0 straitref09_Ints.outs0 := by
  refine loop_ok (n := straitref09_Ints.a0) straitref09_Ints.ok (by kernel_rfl) (loops_ok (l := []) (by kernel_rfl) ?_) straitref09_Ints.r0 ?_ ?_ (fun vs h K hh => hh)
  · exact trivial
  · intro K vs h hh
    unfold straitref09_Ints.r0 at hh
    split at hh
    · exact hh
    · exact hh
  · intro K m vs h hh
    unfold straitref09_Ints.r0 at hh
    split at hh
    · exact cast (by kernel_rfl) hh
    · exact hh.elim
set_option maxRecDepth 100000 in
theorem straitref09_Ints.eq (a1 : Option Addr) (a1l : Nat) (a1c : Nat) (a2 : Option Addr) (a2l : Nat) (a2c : Nat) (h : Heap) (K : Bool → Heap → Prop) : evF straitref09_Ints.ctx Try.f25 straitref09_Ints.ann [(.slice a1 a1l a1c), (.slice a2 a2l a2c)] h (straitref09_Ints.ret K) = straitref09_Ints a1 a1l a1c a2 a2l a2c h K := by kernel_rfl
set_option maxRecDepth 100000 in
theorem straitref09_Ints.calls {a1 : Option Addr} {a1l : Nat} {a1c : Nat} {a2 : Option Addr} {a2l : Nat} {a2c : Nat} {h : Heap} {K : Bool → Heap → Prop} (hh : straitref09_Ints a1 a1l a1c a2 a2l a2c h K) (w : World) (hw : w.heap = h) :
    (callFunc 25 #[(.slice a1 a1l a1c), (.slice a2 a2l a2c)]).run Try.prog w = .ok (.enter 25 #[(.slice a1 a1l a1c), (.slice a2 a2l a2c)]) w ∧ Calls Try.prog 25 #[(.slice a1 a1l a1c), (.slice a2 a2l a2c)] w fun e w' => ∃ v, e = .returned v ∧ Out w w' ∧ straitref09_Ints.ret K v w'.heap := by
  rw [← straitref09_Ints.eq] at hh
  exact fn_calls (args := [(.slice a1 a1l a1c), (.slice a2 a2l a2c)]) (c := straitref09_Ints.code) straitref09_Ints.ok Try.func25 (by kernel_rfl) (by kernel_rfl) (by kernel_rfl) (by kernel_rfl) (loops_ok (l := [(straitref09_Ints.c0, none, 0, straitref09_Ints.keep0, straitref09_Ints.outs0)]) (by kernel_rfl) ⟨straitref09_Ints.L0, trivial⟩) hh w hw

/-! ### strait/straitlaw13.same: function 12 -/
def straitlaw13_same (a1 : Option Addr) (a2 : Option Addr) (a3 : Int) (a4 : Int) (h : Heap) (K : Bool → Heap → Prop) : Prop :=
  (callP3 (straitref13_Row_Highest a2 h) fun x5 x6 x7 h8 => newP h8 (.cells #[(.int .i64 0), (.int .i64 0), (.bool false)] 51) fun a9 h10 => stC h10 a9 (.int .i64 x5) fun h11 => stC h11 (a9.add 1) (.int .i64 x6) fun h12 => stC h12 (a9.add 2) (.bool x7) fun h13 => (callP3 (bucket_Row_Highest a1 h13) fun x14 x15 x16 h17 => (∃ (x18 : Int), cell h17 a9 = some (.int .i64 x18) ∧ ∃ (x19 : Int), cell h17 (a9.add 1) = some (.int .i64 x19) ∧ ∃ (x20 : Bool), cell h17 (a9.add 2) = some (.bool x20) ∧ iteB (eqAll [(x18 == x14), (x19 == x15), (x20 == x16)]) (qcallP1 h17 (bucket_Row_Len a1 h17) fun x21 => chkP a2 fun a22 => ∃ (x23 : Option Addr) (x23l : Nat) (x23c : Nat), cell h17 (a22.add 1) = some (.slice x23 x23l x23c) ∧ iteB (x21 == (x23l : Int)) (callP1 (bucket_Row_Label a1 a3 h17) fun x24 h25 => qcallP1 h25 (straitref13_Row_Label a2 a3 h25) fun x26 => iteB (x24 == x26) (qcallP1 h25 (bucket_Row_Count a1 a4 h25) fun x27 => qcallP1 h25 (straitref13_Row_Count a2 a4 h25) fun x28 => iteB (x27 == x28) (callP3 (bucket_Row_Above a1 a4 h25) fun x29 x29l x29c h30 => callP3 (straitref13_Row_Above a2 a4 h30) fun x31 x31l x31c h32 => qcallP1 h32 (straitref09_Ints x29 x29l x29c x31 x31l x31c h32) fun x33 => K x33 h32) (K false h25)) (K false h25)) (K false h17)) (K false h17))))
def straitlaw13_same.ret (K : Bool → Heap → Prop) (v : Value) (h : Heap) : Prop := match v with
  | (.bool r36) => K r36 h
  | _ => False
theorem straitlaw13_same.ret_elim {K : Bool → Heap → Prop} {K' : Value → Heap → Prop} {v : Value} {h : Heap} (hk : ∀ r36 h, K r36 h → K' (.bool r36) h) (hh : straitlaw13_same.ret K v h) : K' v h := by
  unfold straitlaw13_same.ret at hh
  split at hh
  · exact hk _ _ hh
  · exact hh.elim
def straitlaw13_same.call (f : FuncId) (vs : List Value) (h : Heap) (K : Value → Heap → Prop) : Prop := match f, vs with
  | 13, [(.pointer a1)] => callP3 (bucket_Row_Highest a1 h) fun r13 r14 r15 h' => K (.tuple #[(.int .i64 r13), (.int .i64 r14), (.bool r15)]) h'
  | 14, [(.pointer a1), (.int .i64 a2)] => callP1 (bucket_Row_Label a1 a2 h) fun r9 h' => K (.int .i64 r9) h'
  | 16, [(.pointer a1), (.int .i64 a2)] => callP3 (bucket_Row_Above a1 a2 h) fun r8 r8l r8c h' => K (.slice r8 r8l r8c) h'
  | 22, [(.pointer a1)] => callP3 (straitref13_Row_Highest a1 h) fun r17 r18 r19 h' => K (.agg #[(.int .i64 r17), (.int .i64 r18), (.bool r19)]) h'
  | 26, [(.pointer a1), (.int .i64 a2)] => callP3 (straitref13_Row_Above a1 a2 h) fun r18 r18l r18c h' => K (.slice r18 r18l r18c) h'
  | _, _ => False
def straitlaw13_same.qcall (f : FuncId) (vs : List Value) (h : Heap) (K : Value → Prop) : Prop := match f, vs with
  | 15, [(.pointer a1), (.int .i64 a2)] => qcallP1 h (bucket_Row_Count a1 a2 h) fun r8 => K (.int .i64 r8)
  | 17, [(.pointer a1)] => qcallP1 h (bucket_Row_Len a1 h) fun r4 => K (.int .i64 r4)
  | 23, [(.pointer a1), (.int .i64 a2)] => qcallP1 h (straitref13_Row_Label a1 a2 h) fun r7 => K (.int .i64 r7)
  | 24, [(.pointer a1), (.int .i64 a2)] => qcallP1 h (straitref13_Row_Count a1 a2 h) fun r6 => K (.int .i64 r6)
  | 25, [(.slice a1 a1l a1c), (.slice a2 a2l a2c)] => qcallP1 h (straitref09_Ints a1 a1l a1c a2 a2l a2c h) fun r7 => K (.bool r7)
  | _, _ => False
noncomputable def straitlaw13_same.ctx : Ctx := { P := Try.prog, call := straitlaw13_same.call, qcall := straitlaw13_same.qcall, quiet := fun f => Nat.beq f 15 || Nat.beq f 17 || Nat.beq f 23 || Nat.beq f 24 || Nat.beq f 25, loop := fun _ _ _ _ => False }
theorem straitlaw13_same.ok : straitlaw13_same.ctx.OK where
  mixed := by kernel_rfl
  mono := by
    intro f args h K K' hh hk
    change straitlaw13_same.call f args h K at hh
    change straitlaw13_same.call f args h K'
    unfold straitlaw13_same.call at hh ⊢
    split at hh
    · obtain ⟨R, h1, h2⟩ := hh
      exact ⟨R, h1, fun _ _ _ x hr => hk _ _ (h2 _ _ _ x hr)⟩
    · obtain ⟨R, h1, h2⟩ := hh
      exact ⟨R, h1, fun _ x hr => hk _ _ (h2 _ x hr)⟩
    · obtain ⟨R, h1, h2⟩ := hh
      exact ⟨R, h1, fun _ _ _ x hr => hk _ _ (h2 _ _ _ x hr)⟩
    · obtain ⟨R, h1, h2⟩ := hh
      exact ⟨R, h1, fun _ _ _ x hr => hk _ _ (h2 _ _ _ x hr)⟩
    · obtain ⟨R, h1, h2⟩ := hh
      exact ⟨R, h1, fun _ _ _ x hr => hk _ _ (h2 _ _ _ x hr)⟩
    · exact hh.elim
  call := by
    intro f args h K hh w hw
    change straitlaw13_same.call f args h K at hh
    unfold straitlaw13_same.call at hh
    split at hh
    · obtain ⟨R, h1, h2⟩ := hh
      obtain ⟨g1, g2⟩ := bucket_Row_Highest.calls h1 w hw
      exact ⟨g1, g2.mono fun e w' ⟨v, he, ho, hr⟩ => ⟨v, he, ho, bucket_Row_Highest.ret_elim h2 hr⟩⟩
    · obtain ⟨R, h1, h2⟩ := hh
      obtain ⟨g1, g2⟩ := bucket_Row_Label.calls h1 w hw
      exact ⟨g1, g2.mono fun e w' ⟨v, he, ho, hr⟩ => ⟨v, he, ho, bucket_Row_Label.ret_elim h2 hr⟩⟩
    · obtain ⟨R, h1, h2⟩ := hh
      obtain ⟨g1, g2⟩ := bucket_Row_Above.calls h1 w hw
      exact ⟨g1, g2.mono fun e w' ⟨v, he, ho, hr⟩ => ⟨v, he, ho, bucket_Row_Above.ret_elim h2 hr⟩⟩
    · obtain ⟨R, h1, h2⟩ := hh
      obtain ⟨g1, g2⟩ := straitref13_Row_Highest.calls h1 w hw
      exact ⟨g1, g2.mono fun e w' ⟨v, he, ho, hr⟩ => ⟨v, he, ho, straitref13_Row_Highest.ret_elim h2 hr⟩⟩
    · obtain ⟨R, h1, h2⟩ := hh
      obtain ⟨g1, g2⟩ := straitref13_Row_Above.calls h1 w hw
      exact ⟨g1, g2.mono fun e w' ⟨v, he, ho, hr⟩ => ⟨v, he, ho, straitref13_Row_Above.ret_elim h2 hr⟩⟩
    · exact hh.elim
  qmono := by
    intro f args h K K' hh hk
    change straitlaw13_same.qcall f args h K at hh
    change straitlaw13_same.qcall f args h K'
    unfold straitlaw13_same.qcall at hh ⊢
    split at hh
    · obtain ⟨x0, h1, h2⟩ := hh
      exact ⟨x0, h1, hk _ h2⟩
    · obtain ⟨x0, h1, h2⟩ := hh
      exact ⟨x0, h1, hk _ h2⟩
    · obtain ⟨x0, h1, h2⟩ := hh
      exact ⟨x0, h1, hk _ h2⟩
    · obtain ⟨x0, h1, h2⟩ := hh
      exact ⟨x0, h1, hk _ h2⟩
    · obtain ⟨x0, h1, h2⟩ := hh
      exact ⟨x0, h1, hk _ h2⟩
    · exact hh.elim
  qval := by
    intro f args h K hh
    change straitlaw13_same.qcall f args h K at hh
    suffices H : ∃ v, K v ∧ straitlaw13_same.qcall f args h (· = v) from H
    unfold straitlaw13_same.qcall at hh ⊢
    split at hh
    · obtain ⟨x0, h1, h2⟩ := hh
      exact ⟨_, h2, x0, h1, rfl⟩
    · obtain ⟨x0, h1, h2⟩ := hh
      exact ⟨_, h2, x0, h1, rfl⟩
    · obtain ⟨x0, h1, h2⟩ := hh
      exact ⟨_, h2, x0, h1, rfl⟩
    · obtain ⟨x0, h1, h2⟩ := hh
      exact ⟨_, h2, x0, h1, rfl⟩
    · obtain ⟨x0, h1, h2⟩ := hh
      exact ⟨_, h2, x0, h1, rfl⟩
    · exact hh.elim
  qcall := by
    intro f args h v hh w hw
    change straitlaw13_same.qcall f args h (· = v) at hh
    unfold straitlaw13_same.qcall at hh
    split at hh
    · obtain ⟨x0, h1, h2⟩ := hh
      obtain ⟨g1, g2⟩ := bucket_Row_Count.calls h1 w hw
      refine .inl ⟨g1, g2.mono fun e w' ⟨u, he, ho, hr⟩ => ?_⟩
      have hq := bucket_Row_Count.ret_elim (K' := fun u h' => u = v ∧ h' = h) (fun _ h' hr => by obtain ⟨rfl, rfl⟩ := hr; exact ⟨h2, rfl⟩) hr
      exact ⟨hq.1 ▸ he, ho, hq.2⟩
    · obtain ⟨x0, h1, h2⟩ := hh
      obtain ⟨g1, g2⟩ := bucket_Row_Len.calls h1 w hw
      refine .inl ⟨g1, g2.mono fun e w' ⟨u, he, ho, hr⟩ => ?_⟩
      have hq := bucket_Row_Len.ret_elim (K' := fun u h' => u = v ∧ h' = h) (fun _ h' hr => by obtain ⟨rfl, rfl⟩ := hr; exact ⟨h2, rfl⟩) hr
      exact ⟨hq.1 ▸ he, ho, hq.2⟩
    · obtain ⟨x0, h1, h2⟩ := hh
      obtain ⟨g1, g2⟩ := straitref13_Row_Label.calls h1 w hw
      refine .inl ⟨g1, g2.mono fun e w' ⟨u, he, ho, hr⟩ => ?_⟩
      have hq := straitref13_Row_Label.ret_elim (K' := fun u h' => u = v ∧ h' = h) (fun _ h' hr => by obtain ⟨rfl, rfl⟩ := hr; exact ⟨h2, rfl⟩) hr
      exact ⟨hq.1 ▸ he, ho, hq.2⟩
    · obtain ⟨x0, h1, h2⟩ := hh
      obtain ⟨g1, g2⟩ := straitref13_Row_Count.calls h1 w hw
      refine .inl ⟨g1, g2.mono fun e w' ⟨u, he, ho, hr⟩ => ?_⟩
      have hq := straitref13_Row_Count.ret_elim (K' := fun u h' => u = v ∧ h' = h) (fun _ h' hr => by obtain ⟨rfl, rfl⟩ := hr; exact ⟨h2, rfl⟩) hr
      exact ⟨hq.1 ▸ he, ho, hq.2⟩
    · obtain ⟨x0, h1, h2⟩ := hh
      obtain ⟨g1, g2⟩ := straitref09_Ints.calls h1 w hw
      refine .inl ⟨g1, g2.mono fun e w' ⟨u, he, ho, hr⟩ => ?_⟩
      have hq := straitref09_Ints.ret_elim (K' := fun u h' => u = v ∧ h' = h) (fun _ h' hr => by obtain ⟨rfl, rfl⟩ := hr; exact ⟨h2, rfl⟩) hr
      exact ⟨hq.1 ▸ he, ho, hq.2⟩
    · exact hh.elim
noncomputable def straitlaw13_same.code : Code := (Try.f12.body).getD .skip
def straitlaw13_same.ann : Ann := (.two .auto (.two .auto (.two .auto (.two (.reg [0, 0, 0, 0, 14, 31, 63, 127, 255, 127, 639, 1663, 3711, 7807, 16383, 32767, 65535, 131071, 131071, 524287, 131071, 131071, 4194303, 8388607, 16777215, 33554431, 67108863, 67108863, 268435455, 67108863, 67108863, 2147483647, 4294967295, 8589934591, 17179869183, 34359738367, 34359738367, 137438953471, 34359738367, 34359738367, 1099511627775, 2199023255551, 4398046511103, 8796093022207] (.take 0 (.take 1 (.take 2 (.take 3 (.take 4 (.take 5 (.take 6 (.take 7 (.take 8 (.take 9 (.take 10 (.take 11 (.take 12 (.take 13 (.take 14 (.take 15 (.take 16 (.take 17 (.take 18 (.take 20 (.take 21 (.alt 19 (.take 22 (.take 23 (.take 24 (.take 25 (.take 26 (.take 27 (.take 28 (.take 29 (.take 30 (.take 31 (.take 32 (.take 33 (.take 34 (.take 35 (.take 36 (.take 38 (.take 39 (.alt 37 (.alt 40 (.take 41 (.take 42 (.take 43 .done))) .noalt) .noalt)))))))))))))))))) .noalt))))))))))))))))))))))) .auto))))
set_option maxRecDepth 100000 in
theorem straitlaw13_same.eq (a1 : Option Addr) (a2 : Option Addr) (a3 : Int) (a4 : Int) (h : Heap) (K : Bool → Heap → Prop) : evF straitlaw13_same.ctx Try.f12 straitlaw13_same.ann [(.pointer a1), (.pointer a2), (.int .i64 a3), (.int .i64 a4)] h (straitlaw13_same.ret K) = straitlaw13_same a1 a2 a3 a4 h K := by kernel_rfl
set_option maxRecDepth 100000 in
theorem straitlaw13_same.calls {a1 : Option Addr} {a2 : Option Addr} {a3 : Int} {a4 : Int} {h : Heap} {K : Bool → Heap → Prop} (hh : straitlaw13_same a1 a2 a3 a4 h K) (w : World) (hw : w.heap = h) :
    (callFunc 12 #[(.pointer a1), (.pointer a2), (.int .i64 a3), (.int .i64 a4)]).run Try.prog w = .ok (.enter 12 #[(.pointer a1), (.pointer a2), (.int .i64 a3), (.int .i64 a4)]) w ∧ Calls Try.prog 12 #[(.pointer a1), (.pointer a2), (.int .i64 a3), (.int .i64 a4)] w fun e w' => ∃ v, e = .returned v ∧ Out w w' ∧ straitlaw13_same.ret K v w'.heap := by
  rw [← straitlaw13_same.eq] at hh
  exact fn_calls (args := [(.pointer a1), (.pointer a2), (.int .i64 a3), (.int .i64 a4)]) (c := straitlaw13_same.code) straitlaw13_same.ok Try.func12 (by kernel_rfl) (by kernel_rfl) (by kernel_rfl) (by kernel_rfl) (loops_ok (l := []) (by kernel_rfl) trivial) hh w hw

/-! ### strait/straitlaw13.BucketPlays: function 3 -/
def straitlaw13_BucketPlays.b0 (K0 : Bool → Heap → Prop) (K2 : Heap → Prop) (cont : (Option Addr) → Nat → Nat → (Option Addr) → (Option Addr) → Int → Heap → Prop) (c1_1001 : Option Addr) (c1_1002 : Nat) (c1_1003 : Nat) (c5_1004 : Option Addr) (c6_1005 : Option Addr) (v7_1006 : Int) (h1007 : Heap) : Prop :=
  (iteB (decide (v7_1006 < (c1_1002 : Int))) ((let j1063 := (fun (h1062 : Heap) => cont c1_1001 c1_1002 c1_1003 c5_1004 c6_1005 (IntKind.i64.wrap (v7_1006 + 1)) h1062);
  chkP c1_1001 fun a1008 => (0 ≤ v7_1006 ∧ v7_1006 < (c1_1002 : Int)) ∧ ∃ (x1009 : Int), cell h1007 (a1008.add (v7_1006.toNat * 3)) = some (.int .i64 x1009) ∧ ∃ (x1010 : Int), cell h1007 ((a1008.add (v7_1006.toNat * 3)).add 1) = some (.int .i64 x1010) ∧ ∃ (x1011 : Int), cell h1007 ((a1008.add (v7_1006.toNat * 3)).add 2) = some (.int .i64 x1011) ∧ newP h1007 (.cells #[(.int .i64 0), (.int .i64 0), (.int .i64 0)] 29) fun a1012 h1013 => stC h1013 a1012 (.int .i64 x1009) fun h1014 => stC h1014 (a1012.add 1) (.int .i64 x1010) fun h1015 => stC h1015 (a1012.add 2) (.int .i64 x1011) fun h1016 => (∃ (x1017 : Int), cell h1016 a1012 = some (.int .i64 x1017) ∧ iteB (x1017 == (0 : Int)) (∃ (x1018 : Int), cell h1016 (a1012.add 1) = some (.int .i64 x1018) ∧ ∃ (x1019 : Int), cell h1016 (a1012.add 2) = some (.int .i64 x1019) ∧ ∃ (x1020 : Int), cell h1016 (a1012.add 1) = some (.int .i64 x1020) ∧ ∃ (x1021 : Int), cell h1016 (a1012.add 2) = some (.int .i64 x1021) ∧ callP1 (bucket_Row_Put c5_1004 x1018 x1019 h1016) fun x1022 h1023 => (∃ (x1024 : Int), cell h1023 (a1012.add 2) = some (.int .i64 x1024) ∧ ((.int .i64 x1024) : Value) = (.int .i64 x1021)) ∧ (∃ (x1025 : Int), cell h1023 (a1012.add 1) = some (.int .i64 x1025) ∧ ((.int .i64 x1025) : Value) = (.int .i64 x1020)) ∧ callP1 (straitref13_Row_Put c6_1005 x1020 x1021 h1023) fun x1026 h1027 => iteB (!(x1022 == x1026)) (True ∧ K0 false h1027) (∃ (x1028 : Int), cell h1027 a1012 = some (.int .i64 x1028) ∧ iteB (x1028 != (0 : Int)) (∃ (x1029 : Int), cell h1027 (a1012.add 1) = some (.int .i64 x1029) ∧ ∃ (x1030 : Int), cell h1027 (a1012.add 1) = some (.int .i64 x1030) ∧ callP1 (bucket_Row_Drop c5_1004 x1029 h1027) fun x1031 h1032 => (∃ (x1033 : Int), cell h1032 (a1012.add 1) = some (.int .i64 x1033) ∧ ((.int .i64 x1033) : Value) = (.int .i64 x1030)) ∧ callP1 (straitref13_Row_Drop c6_1005 x1030 h1032) fun x1034 h1035 => iteB (!(x1031 == x1034)) (K0 false h1035) (∃ (x1036 : Int), cell h1035 (a1012.add 1) = some (.int .i64 x1036) ∧ ∃ (x1037 : Int), cell h1035 (a1012.add 2) = some (.int .i64 x1037) ∧ callP1 (straitlaw13_same c5_1004 c6_1005 x1036 x1037 h1035) fun x1038 h1039 => (iteB (!x1038) (K0 false h1039) (((j1063 h1039)))))) (True ∧ ∃ (x1040 : Int), cell h1027 (a1012.add 1) = some (.int .i64 x1040) ∧ ∃ (x1041 : Int), cell h1027 (a1012.add 2) = some (.int .i64 x1041) ∧ callP1 (straitlaw13_same c5_1004 c6_1005 x1040 x1041 h1027) fun x1042 h1043 => (iteB (!x1042) (K0 false h1043) (((j1063 h1043))))))) (True ∧ True ∧ ∃ (x1044 : Int), cell h1016 a1012 = some (.int .i64 x1044) ∧ iteB (x1044 != (0 : Int)) (∃ (x1045 : Int), cell h1016 (a1012.add 1) = some (.int .i64 x1045) ∧ ∃ (x1046 : Int), cell h1016 (a1012.add 1) = some (.int .i64 x1046) ∧ callP1 (bucket_Row_Drop c5_1004 x1045 h1016) fun x1047 h1048 => (∃ (x1049 : Int), cell h1048 (a1012.add 1) = some (.int .i64 x1049) ∧ ((.int .i64 x1049) : Value) = (.int .i64 x1046)) ∧ callP1 (straitref13_Row_Drop c6_1005 x1046 h1048) fun x1050 h1051 => iteB (!(x1047 == x1050)) (K0 false h1051) (∃ (x1052 : Int), cell h1051 (a1012.add 1) = some (.int .i64 x1052) ∧ ∃ (x1053 : Int), cell h1051 (a1012.add 2) = some (.int .i64 x1053) ∧ callP1 (straitlaw13_same c5_1004 c6_1005 x1052 x1053 h1051) fun x1054 h1055 => (iteB (!x1054) (K0 false h1055) (((j1063 h1055)))))) (True ∧ ∃ (x1056 : Int), cell h1016 (a1012.add 1) = some (.int .i64 x1056) ∧ ∃ (x1057 : Int), cell h1016 (a1012.add 2) = some (.int .i64 x1057) ∧ callP1 (straitlaw13_same c5_1004 c6_1005 x1056 x1057 h1016) fun x1058 h1059 => (iteB (!x1058) (K0 false h1059) (((j1063 h1059))))))))) (K2 h1007))
def straitlaw13_BucketPlays.l0 (K0 : Bool → Heap → Prop) (K2 : Heap → Prop) : Nat → (Option Addr) → Nat → Nat → (Option Addr) → (Option Addr) → Int → Heap → Prop
  | 0, _, _, _, _, _, _, _ => False
  | m + 1, c1_1001, c1_1002, c1_1003, c5_1004, c6_1005, v7_1006, h => straitlaw13_BucketPlays.b0 K0 K2 (straitlaw13_BucketPlays.l0 K0 K2 m) c1_1001 c1_1002 c1_1003 c5_1004 c6_1005 v7_1006 h
def straitlaw13_BucketPlays (a1 : Int) (a2 : Option Addr) (a2l : Nat) (a2c : Nat) (h : Heap) (K : Bool → Heap → Prop) : Prop :=
  ((iteB (decide ((a2l : Int) > (200 : Int))) (callP1 (straitlaw13_awake h) fun x3 h4 => K x3 h4) ((callP1 (bucket_New a1 h) fun x5 h6 => callP1 (straitref13_New a1 h6) fun x7 h8 => ((∃ m12, straitlaw13_BucketPlays.l0 (fun z9 h10 => K z9 h10) (fun h11 => ((iteB (!x5.isNone) (callP1 (straitlaw13_same x5 x7 (-1) 0 h11) fun x13 h14 => iteB x13 (callP1 (straitlaw13_awake h14) fun x15 h16 => K x15 h16) (K false h14)) (K false h11)))) m12 a2 a2l a2c x5 x7 0 h8))))))
def straitlaw13_BucketPlays.ret (K : Bool → Heap → Prop) (v : Value) (h : Heap) : Prop := match v with
  | (.bool r19) => K r19 h
  | _ => False
theorem straitlaw13_BucketPlays.ret_elim {K : Bool → Heap → Prop} {K' : Value → Heap → Prop} {v : Value} {h : Heap} (hk : ∀ r19 h, K r19 h → K' (.bool r19) h) (hh : straitlaw13_BucketPlays.ret K v h) : K' v h := by
  unfold straitlaw13_BucketPlays.ret at hh
  split at hh
  · exact hk _ _ hh
  · exact hh.elim
def straitlaw13_BucketPlays.call (f : FuncId) (vs : List Value) (h : Heap) (K : Value → Heap → Prop) : Prop := match f, vs with
  | 5, [] => callP1 (straitlaw13_awake h) fun r24 h' => K (.bool r24) h'
  | 6, [(.int .i64 a1)] => callP1 (bucket_New a1 h) fun r55 h' => K (.pointer r55) h'
  | 7, [(.int .i64 a1)] => callP1 (straitref13_New a1 h) fun r5 h' => K (.pointer r5) h'
  | 8, [(.pointer a1), (.int .i64 a2), (.int .i64 a3)] => callP1 (bucket_Row_Put a1 a2 a3 h) fun r45 h' => K (.bool r45) h'
  | 9, [(.pointer a1), (.int .i64 a2), (.int .i64 a3)] => callP1 (straitref13_Row_Put a1 a2 a3 h) fun r34 h' => K (.bool r34) h'
  | 10, [(.pointer a1), (.int .i64 a2)] => callP1 (bucket_Row_Drop a1 a2 h) fun r62 h' => K (.bool r62) h'
  | 11, [(.pointer a1), (.int .i64 a2)] => callP1 (straitref13_Row_Drop a1 a2 h) fun r13 h' => K (.bool r13) h'
  | 12, [(.pointer a1), (.pointer a2), (.int .i64 a3), (.int .i64 a4)] => callP1 (straitlaw13_same a1 a2 a3 a4 h) fun r36 h' => K (.bool r36) h'
  | _, _ => False
def straitlaw13_BucketPlays.r0 (K : Nat → List Value → Heap → Prop) (m : Nat) (vs : List Value) (h : Heap) : Prop := match vs with
  | [(.slice c1_1001 c1_1002 c1_1003), (.pointer c5_1004), (.pointer c6_1005), (.int .i64 v7_1006)] => straitlaw13_BucketPlays.l0 (fun z20 h' => K 0 [(.bool z20)] h') (fun h' => K 2 [(.pointer c5_1004), (.pointer c6_1005)] h') m c1_1001 c1_1002 c1_1003 c5_1004 c6_1005 v7_1006 h
  | _ => False
def straitlaw13_BucketPlays.loop (i : Nat) (vs : List Value) (h : Heap) (K : Nat → List Value → Heap → Prop) : Prop := match i with
  | 0 => ∃ m, straitlaw13_BucketPlays.r0 K m vs h
  | _ => False
noncomputable def straitlaw13_BucketPlays.ctx : Ctx := { P := Try.prog, call := straitlaw13_BucketPlays.call, qcall := fun _ _ _ _ => False, quiet := fun f => false, loop := straitlaw13_BucketPlays.loop }
theorem straitlaw13_BucketPlays.ok : straitlaw13_BucketPlays.ctx.OK where
  mixed := by kernel_rfl
  mono := by
    intro f args h K K' hh hk
    change straitlaw13_BucketPlays.call f args h K at hh
    change straitlaw13_BucketPlays.call f args h K'
    unfold straitlaw13_BucketPlays.call at hh ⊢
    split at hh
    · obtain ⟨R, h1, h2⟩ := hh
      exact ⟨R, h1, fun _ x hr => hk _ _ (h2 _ x hr)⟩
    · obtain ⟨R, h1, h2⟩ := hh
      exact ⟨R, h1, fun _ x hr => hk _ _ (h2 _ x hr)⟩
    · obtain ⟨R, h1, h2⟩ := hh
      exact ⟨R, h1, fun _ x hr => hk _ _ (h2 _ x hr)⟩
    · obtain ⟨R, h1, h2⟩ := hh
      exact ⟨R, h1, fun _ x hr => hk _ _ (h2 _ x hr)⟩
    · obtain ⟨R, h1, h2⟩ := hh
      exact ⟨R, h1, fun _ x hr => hk _ _ (h2 _ x hr)⟩
    · obtain ⟨R, h1, h2⟩ := hh
      exact ⟨R, h1, fun _ x hr => hk _ _ (h2 _ x hr)⟩
    · obtain ⟨R, h1, h2⟩ := hh
      exact ⟨R, h1, fun _ x hr => hk _ _ (h2 _ x hr)⟩
    · obtain ⟨R, h1, h2⟩ := hh
      exact ⟨R, h1, fun _ x hr => hk _ _ (h2 _ x hr)⟩
    · exact hh.elim
  call := by
    intro f args h K hh w hw
    change straitlaw13_BucketPlays.call f args h K at hh
    unfold straitlaw13_BucketPlays.call at hh
    split at hh
    · obtain ⟨R, h1, h2⟩ := hh
      obtain ⟨g1, g2⟩ := straitlaw13_awake.calls h1 w hw
      exact ⟨g1, g2.mono fun e w' ⟨v, he, ho, hr⟩ => ⟨v, he, ho, straitlaw13_awake.ret_elim h2 hr⟩⟩
    · obtain ⟨R, h1, h2⟩ := hh
      obtain ⟨g1, g2⟩ := bucket_New.calls h1 w hw
      exact ⟨g1, g2.mono fun e w' ⟨v, he, ho, hr⟩ => ⟨v, he, ho, bucket_New.ret_elim h2 hr⟩⟩
    · obtain ⟨R, h1, h2⟩ := hh
      obtain ⟨g1, g2⟩ := straitref13_New.calls h1 w hw
      exact ⟨g1, g2.mono fun e w' ⟨v, he, ho, hr⟩ => ⟨v, he, ho, straitref13_New.ret_elim h2 hr⟩⟩
    · obtain ⟨R, h1, h2⟩ := hh
      obtain ⟨g1, g2⟩ := bucket_Row_Put.calls h1 w hw
      exact ⟨g1, g2.mono fun e w' ⟨v, he, ho, hr⟩ => ⟨v, he, ho, bucket_Row_Put.ret_elim h2 hr⟩⟩
    · obtain ⟨R, h1, h2⟩ := hh
      obtain ⟨g1, g2⟩ := straitref13_Row_Put.calls h1 w hw
      exact ⟨g1, g2.mono fun e w' ⟨v, he, ho, hr⟩ => ⟨v, he, ho, straitref13_Row_Put.ret_elim h2 hr⟩⟩
    · obtain ⟨R, h1, h2⟩ := hh
      obtain ⟨g1, g2⟩ := bucket_Row_Drop.calls h1 w hw
      exact ⟨g1, g2.mono fun e w' ⟨v, he, ho, hr⟩ => ⟨v, he, ho, bucket_Row_Drop.ret_elim h2 hr⟩⟩
    · obtain ⟨R, h1, h2⟩ := hh
      obtain ⟨g1, g2⟩ := straitref13_Row_Drop.calls h1 w hw
      exact ⟨g1, g2.mono fun e w' ⟨v, he, ho, hr⟩ => ⟨v, he, ho, straitref13_Row_Drop.ret_elim h2 hr⟩⟩
    · obtain ⟨R, h1, h2⟩ := hh
      obtain ⟨g1, g2⟩ := straitlaw13_same.calls h1 w hw
      exact ⟨g1, g2.mono fun e w' ⟨v, he, ho, hr⟩ => ⟨v, he, ho, straitlaw13_same.ret_elim h2 hr⟩⟩
    · exact hh.elim
  qmono := fun hh _ => hh.elim
  qval := fun hh => hh.elim
  qcall := fun hh => hh.elim
noncomputable def straitlaw13_BucketPlays.code : Code := (Try.f3.body).getD .skip
def straitlaw13_BucketPlays.ann : Ann := (.two .auto (.two .auto (.two .auto (.two (.two .auto (.two (.loop 0 [1, 5, 6, 7] [(2, [5, 6]), (0, [4])] (.two .auto (.two (.two (.two .auto (.two (.reg [0, 1, 3, 7, 15, 15, 47, 15, 143, 511, 15, 15, 2063, 15, 8207, 32767, 65535, 131071, 262143, 524287, 1048575, 2097151, 4194303, 8388607, 8388607, 25165823, 67108863, 8388607, 8388607, 276824063, 1073741823, 2147483647, 4294967295, 8589934591, 17179869183, 34359738367, 34359738367, 34359738367, 171798691839, 34359738367, 584115552255, 2199023255551, 4398046511103, 8796093022207] (.take 0 (.take 1 (.take 2 (.take 3 (.take 4 (.take 5 (.take 6 (.take 7 (.take 8 (.take 10 (.take 11 (.take 13 (.early 12 (.early 14 (.alt 9 (.alt 15 (.take 16 (.take 17 (.take 18 (.take 19 (.take 20 (.take 21 (.take 22 (.take 23 (.take 24 (.take 25 (.take 27 (.take 28 (.early 29 (.alt 26 (.alt 30 (.take 31 (.take 32 (.take 33 (.take 34 (.take 35 (.take 36 (.take 37 (.take 38 (.take 39 (.take 40 (.alt 41 (.take 42 (.take 43 .done)) .noalt))))))))))) .noalt) .noalt)))))))))))))) .noalt) .noalt)))))))))))))))) .auto)) .auto) .auto))) .auto)) .auto))))
noncomputable def straitlaw13_BucketPlays.c0 : Code := sub straitlaw13_BucketPlays.code [1, 1, 1, 0, 1, 0, 0]
def straitlaw13_BucketPlays.a0 : Ann := (.two .auto (.two (.two (.two .auto (.two (.reg [0, 1, 3, 7, 15, 15, 47, 15, 143, 511, 15, 15, 2063, 15, 8207, 32767, 65535, 131071, 262143, 524287, 1048575, 2097151, 4194303, 8388607, 8388607, 25165823, 67108863, 8388607, 8388607, 276824063, 1073741823, 2147483647, 4294967295, 8589934591, 17179869183, 34359738367, 34359738367, 34359738367, 171798691839, 34359738367, 584115552255, 2199023255551, 4398046511103, 8796093022207] (.take 0 (.take 1 (.take 2 (.take 3 (.take 4 (.take 5 (.take 6 (.take 7 (.take 8 (.take 10 (.take 11 (.take 13 (.early 12 (.early 14 (.alt 9 (.alt 15 (.take 16 (.take 17 (.take 18 (.take 19 (.take 20 (.take 21 (.take 22 (.take 23 (.take 24 (.take 25 (.take 27 (.take 28 (.early 29 (.alt 26 (.alt 30 (.take 31 (.take 32 (.take 33 (.take 34 (.take 35 (.take 36 (.take 37 (.take 38 (.take 39 (.take 40 (.alt 41 (.take 42 (.take 43 .done)) .noalt))))))))))) .noalt) .noalt)))))))))))))) .noalt) .noalt)))))))))))))))) .auto)) .auto) .auto))
def straitlaw13_BucketPlays.keep0 : List Nat := [1, 5, 6, 7]
def straitlaw13_BucketPlays.outs0 : List (Nat × List Nat) := [(2, [5, 6]), (0, [4])]
set_option maxRecDepth 100000 in
theorem straitlaw13_BucketPlays.L0 : LoopOK straitlaw13_BucketPlays.ctx 81 straitlaw13_BucketPlays.c0 0 straitlaw13_BucketPlays.keep0 straitlaw13_BucketPlays.outs0 := by
  refine loop_ok (n := straitlaw13_BucketPlays.a0) straitlaw13_BucketPlays.ok (by kernel_rfl) (loops_ok (l := []) (by kernel_rfl) ?_) straitlaw13_BucketPlays.r0 ?_ ?_ (fun vs h K hh => hh)
  · exact trivial
  · intro K vs h hh
    unfold straitlaw13_BucketPlays.r0 at hh
    split at hh
    · exact hh
    · exact hh
  · intro K m vs h hh
    unfold straitlaw13_BucketPlays.r0 at hh
    split at hh
    · exact cast (by kernel_rfl) hh
    · exact hh.elim
set_option maxRecDepth 100000 in
theorem straitlaw13_BucketPlays.eq (a1 : Int) (a2 : Option Addr) (a2l : Nat) (a2c : Nat) (h : Heap) (K : Bool → Heap → Prop) : evF straitlaw13_BucketPlays.ctx Try.f3 straitlaw13_BucketPlays.ann [(.int .i64 a1), (.slice a2 a2l a2c)] h (straitlaw13_BucketPlays.ret K) = straitlaw13_BucketPlays a1 a2 a2l a2c h K := by kernel_rfl
set_option maxRecDepth 100000 in
theorem straitlaw13_BucketPlays.calls {a1 : Int} {a2 : Option Addr} {a2l : Nat} {a2c : Nat} {h : Heap} {K : Bool → Heap → Prop} (hh : straitlaw13_BucketPlays a1 a2 a2l a2c h K) (w : World) (hw : w.heap = h) :
    (callFunc 3 #[(.int .i64 a1), (.slice a2 a2l a2c)]).run Try.prog w = .ok (.enter 3 #[(.int .i64 a1), (.slice a2 a2l a2c)]) w ∧ Calls Try.prog 3 #[(.int .i64 a1), (.slice a2 a2l a2c)] w fun e w' => ∃ v, e = .returned v ∧ Out w w' ∧ straitlaw13_BucketPlays.ret K v w'.heap := by
  rw [← straitlaw13_BucketPlays.eq] at hh
  exact fn_calls (args := [(.int .i64 a1), (.slice a2 a2l a2c)]) (c := straitlaw13_BucketPlays.code) straitlaw13_BucketPlays.ok Try.func3 (by kernel_rfl) (by kernel_rfl) (by kernel_rfl) (by kernel_rfl) (loops_ok (l := [(straitlaw13_BucketPlays.c0, none, 0, straitlaw13_BucketPlays.keep0, straitlaw13_BucketPlays.outs0)]) (by kernel_rfl) ⟨straitlaw13_BucketPlays.L0, trivial⟩) hh w hw

/-! ### strait/straitlaw13.BucketFalls: function 4 -/
def straitlaw13_BucketFalls.b1 (K0 : Bool → Heap → Prop) (K4 : Heap → Prop) (cont : (Option Addr) → Int → Int → Heap → Prop) (c7_2001 : Option Addr) (v12_2002 : Int) (v14_2003 : Int) (h2004 : Heap) : Prop :=
  (iteB (decide (v12_2002 > (0 : Int))) ((callP3 (bucket_Row_Highest c7_2001 h2004) fun x2005 x2006 x2007 h2008 => (iteB (!x2007) (K0 false h2008) (iteB (decide (x2006 > v14_2003)) (K0 false h2008) (callP1 (bucket_Row_Label c7_2001 x2005 h2008) fun x2009 h2010 => iteB (x2009 != x2006) (K0 false h2010) (callP1 (bucket_Row_Drop c7_2001 x2005 h2010) fun x2011 h2012 => (iteB (!x2011) (K0 false h2012) ((((cont c7_2001 (IntKind.i64.wrap (v12_2002 - 1)) x2006 h2012))))))))))) (K4 h2004))
def straitlaw13_BucketFalls.l1 (K0 : Bool → Heap → Prop) (K4 : Heap → Prop) : Nat → (Option Addr) → Int → Int → Heap → Prop
  | 0, _, _, _, _ => False
  | m + 1, c7_2001, v12_2002, v14_2003, h => straitlaw13_BucketFalls.b1 K0 K4 (straitlaw13_BucketFalls.l1 K0 K4 m) c7_2001 v12_2002 v14_2003 h
def straitlaw13_BucketFalls.b0 (K2 : Int → Heap → Prop) (cont : (Option Addr) → Nat → Nat → (Option Addr) → Int → Int → Heap → Prop) (c0_1001 : Option Addr) (c0_1002 : Nat) (c0_1003 : Nat) (c7_1004 : Option Addr) (v12_1005 : Int) (v13_1006 : Int) (h1007 : Heap) : Prop :=
  (iteB (decide (v13_1006 < (c0_1002 : Int))) ((chkP c0_1001 fun a1008 => (0 ≤ v13_1006 ∧ v13_1006 < (c0_1002 : Int)) ∧ ∃ (x1009 : Int), cell h1007 (a1008.add (v13_1006.toNat * 1)) = some (.int .u8 x1009) ∧ callP1 (bucket_Row_Put c7_1004 v13_1006 (IntKind.i64.wrap x1009) h1007) fun x1010 h1011 => (iteB x1010 (((cont c0_1001 c0_1002 c0_1003 c7_1004 (IntKind.i64.wrap (v12_1005 + 1)) (IntKind.i64.wrap (v13_1006 + 1)) h1011))) (((cont c0_1001 c0_1002 c0_1003 c7_1004 v12_1005 (IntKind.i64.wrap (v13_1006 + 1)) h1011)))))) (K2 v12_1005 h1007))
def straitlaw13_BucketFalls.l0 (K2 : Int → Heap → Prop) : Nat → (Option Addr) → Nat → Nat → (Option Addr) → Int → Int → Heap → Prop
  | 0, _, _, _, _, _, _, _ => False
  | m + 1, c0_1001, c0_1002, c0_1003, c7_1004, v12_1005, v13_1006, h => straitlaw13_BucketFalls.b0 K2 (straitlaw13_BucketFalls.l0 K2 m) c0_1001 c0_1002 c0_1003 c7_1004 v12_1005 v13_1006 h
def straitlaw13_BucketFalls (a1 : Option Addr) (a1l : Nat) (a1c : Nat) (a2 : Int) (a3 : Int) (h : Heap) (K : Bool → Heap → Prop) : Prop :=
  ((iteB (decide ((a1l : Int) > (100 : Int))) (callP1 (straitlaw13_awake h) fun x4 h5 => K x4 h5) ((callP1 (bucket_New (a1l : Int) h) fun x6 h7 => ((callP3 (bucket_Row_Highest none h7) fun x8 x9 x10 h11 => (let j41 := (fun (h24 : Heap) => ((∃ m27, straitlaw13_BucketFalls.l0 (fun z25 h26 => (((∃ m31, straitlaw13_BucketFalls.l1 (fun z28 h29 => K z28 h29) (fun h30 => ((callP3 (bucket_Row_Highest x6 h30) fun x32 x33 x34 h35 => (iteB (!x34) (qcallP1 h35 (bucket_Row_Len x6 h35) fun x36 => iteB (x36 == (0 : Int)) (callP1 (straitlaw13_awake h35) fun x37 h38 => K x37 h38) (K false h35)) (K false h35))))) m31 x6 z25 (IntKind.i64.wrap (2 * (a1l : Int))) h26)))) m27 a1 a1l a1c x6 0 0 h24)));
  callP1 (bucket_Row_Put none a2 a3 h11) fun x12 h13 => iteB x12 (K false h13) (callP1 (bucket_Row_Drop none a2 h13) fun x14 h15 => iteB x14 (K false h15) (callP1 (bucket_Row_Label none a2 h15) fun x16 h17 => iteB (x16 != ((-1) : Int)) (K false h17) (iteB x10 (K false h17) (qcallP1 h17 (bucket_Row_Count none a3 h17) fun x18 => iteB (x18 != (0 : Int)) (K false h17) (callP3 (bucket_Row_Above none a3 h17) fun x19 x19l x19c h20 => iteB ((x19l : Int) != (0 : Int)) (K false h20) (qcallP1 h20 (bucket_Row_Len none h20) fun x21 => (iteB (x21 != (0 : Int)) (K false h20) ((j41 h20))))))))))))))))
def straitlaw13_BucketFalls.ret (K : Bool → Heap → Prop) (v : Value) (h : Heap) : Prop := match v with
  | (.bool r42) => K r42 h
  | _ => False
theorem straitlaw13_BucketFalls.ret_elim {K : Bool → Heap → Prop} {K' : Value → Heap → Prop} {v : Value} {h : Heap} (hk : ∀ r42 h, K r42 h → K' (.bool r42) h) (hh : straitlaw13_BucketFalls.ret K v h) : K' v h := by
  unfold straitlaw13_BucketFalls.ret at hh
  split at hh
  · exact hk _ _ hh
  · exact hh.elim
def straitlaw13_BucketFalls.call (f : FuncId) (vs : List Value) (h : Heap) (K : Value → Heap → Prop) : Prop := match f, vs with
  | 5, [] => callP1 (straitlaw13_awake h) fun r24 h' => K (.bool r24) h'
  | 6, [(.int .i64 a1)] => callP1 (bucket_New a1 h) fun r55 h' => K (.pointer r55) h'
  | 8, [(.pointer a1), (.int .i64 a2), (.int .i64 a3)] => callP1 (bucket_Row_Put a1 a2 a3 h) fun r45 h' => K (.bool r45) h'
  | 10, [(.pointer a1), (.int .i64 a2)] => callP1 (bucket_Row_Drop a1 a2 h) fun r62 h' => K (.bool r62) h'
  | 13, [(.pointer a1)] => callP3 (bucket_Row_Highest a1 h) fun r13 r14 r15 h' => K (.tuple #[(.int .i64 r13), (.int .i64 r14), (.bool r15)]) h'
  | 14, [(.pointer a1), (.int .i64 a2)] => callP1 (bucket_Row_Label a1 a2 h) fun r9 h' => K (.int .i64 r9) h'
  | 16, [(.pointer a1), (.int .i64 a2)] => callP3 (bucket_Row_Above a1 a2 h) fun r8 r8l r8c h' => K (.slice r8 r8l r8c) h'
  | _, _ => False
def straitlaw13_BucketFalls.qcall (f : FuncId) (vs : List Value) (h : Heap) (K : Value → Prop) : Prop := match f, vs with
  | 15, [(.pointer a1), (.int .i64 a2)] => qcallP1 h (bucket_Row_Count a1 a2 h) fun r8 => K (.int .i64 r8)
  | 17, [(.pointer a1)] => qcallP1 h (bucket_Row_Len a1 h) fun r4 => K (.int .i64 r4)
  | _, _ => False
def straitlaw13_BucketFalls.r0 (K : Nat → List Value → Heap → Prop) (m : Nat) (vs : List Value) (h : Heap) : Prop := match vs with
  | [(.slice c0_1001 c0_1002 c0_1003), (.pointer c7_1004), (.int .i64 v12_1005), (.int .i64 v13_1006)] => straitlaw13_BucketFalls.l0 (fun z43 h' => K 2 [(.slice c0_1001 c0_1002 c0_1003), (.pointer c7_1004), (.int .i64 z43)] h') m c0_1001 c0_1002 c0_1003 c7_1004 v12_1005 v13_1006 h
  | _ => False
def straitlaw13_BucketFalls.r1 (K : Nat → List Value → Heap → Prop) (m : Nat) (vs : List Value) (h : Heap) : Prop := match vs with
  | [(.pointer c7_2001), (.int .i64 v12_2002), (.int .i64 v14_2003)] => straitlaw13_BucketFalls.l1 (fun z44 h' => K 0 [(.bool z44)] h') (fun h' => K 4 [(.pointer c7_2001)] h') m c7_2001 v12_2002 v14_2003 h
  | _ => False
def straitlaw13_BucketFalls.loop (i : Nat) (vs : List Value) (h : Heap) (K : Nat → List Value → Heap → Prop) : Prop := match i with
  | 0 => ∃ m, straitlaw13_BucketFalls.r0 K m vs h
  | 1 => ∃ m, straitlaw13_BucketFalls.r1 K m vs h
  | _ => False
noncomputable def straitlaw13_BucketFalls.ctx : Ctx := { P := Try.prog, call := straitlaw13_BucketFalls.call, qcall := straitlaw13_BucketFalls.qcall, quiet := fun f => Nat.beq f 15 || Nat.beq f 17, loop := straitlaw13_BucketFalls.loop }
theorem straitlaw13_BucketFalls.ok : straitlaw13_BucketFalls.ctx.OK where
  mixed := by kernel_rfl
  mono := by
    intro f args h K K' hh hk
    change straitlaw13_BucketFalls.call f args h K at hh
    change straitlaw13_BucketFalls.call f args h K'
    unfold straitlaw13_BucketFalls.call at hh ⊢
    split at hh
    · obtain ⟨R, h1, h2⟩ := hh
      exact ⟨R, h1, fun _ x hr => hk _ _ (h2 _ x hr)⟩
    · obtain ⟨R, h1, h2⟩ := hh
      exact ⟨R, h1, fun _ x hr => hk _ _ (h2 _ x hr)⟩
    · obtain ⟨R, h1, h2⟩ := hh
      exact ⟨R, h1, fun _ x hr => hk _ _ (h2 _ x hr)⟩
    · obtain ⟨R, h1, h2⟩ := hh
      exact ⟨R, h1, fun _ x hr => hk _ _ (h2 _ x hr)⟩
    · obtain ⟨R, h1, h2⟩ := hh
      exact ⟨R, h1, fun _ _ _ x hr => hk _ _ (h2 _ _ _ x hr)⟩
    · obtain ⟨R, h1, h2⟩ := hh
      exact ⟨R, h1, fun _ x hr => hk _ _ (h2 _ x hr)⟩
    · obtain ⟨R, h1, h2⟩ := hh
      exact ⟨R, h1, fun _ _ _ x hr => hk _ _ (h2 _ _ _ x hr)⟩
    · exact hh.elim
  call := by
    intro f args h K hh w hw
    change straitlaw13_BucketFalls.call f args h K at hh
    unfold straitlaw13_BucketFalls.call at hh
    split at hh
    · obtain ⟨R, h1, h2⟩ := hh
      obtain ⟨g1, g2⟩ := straitlaw13_awake.calls h1 w hw
      exact ⟨g1, g2.mono fun e w' ⟨v, he, ho, hr⟩ => ⟨v, he, ho, straitlaw13_awake.ret_elim h2 hr⟩⟩
    · obtain ⟨R, h1, h2⟩ := hh
      obtain ⟨g1, g2⟩ := bucket_New.calls h1 w hw
      exact ⟨g1, g2.mono fun e w' ⟨v, he, ho, hr⟩ => ⟨v, he, ho, bucket_New.ret_elim h2 hr⟩⟩
    · obtain ⟨R, h1, h2⟩ := hh
      obtain ⟨g1, g2⟩ := bucket_Row_Put.calls h1 w hw
      exact ⟨g1, g2.mono fun e w' ⟨v, he, ho, hr⟩ => ⟨v, he, ho, bucket_Row_Put.ret_elim h2 hr⟩⟩
    · obtain ⟨R, h1, h2⟩ := hh
      obtain ⟨g1, g2⟩ := bucket_Row_Drop.calls h1 w hw
      exact ⟨g1, g2.mono fun e w' ⟨v, he, ho, hr⟩ => ⟨v, he, ho, bucket_Row_Drop.ret_elim h2 hr⟩⟩
    · obtain ⟨R, h1, h2⟩ := hh
      obtain ⟨g1, g2⟩ := bucket_Row_Highest.calls h1 w hw
      exact ⟨g1, g2.mono fun e w' ⟨v, he, ho, hr⟩ => ⟨v, he, ho, bucket_Row_Highest.ret_elim h2 hr⟩⟩
    · obtain ⟨R, h1, h2⟩ := hh
      obtain ⟨g1, g2⟩ := bucket_Row_Label.calls h1 w hw
      exact ⟨g1, g2.mono fun e w' ⟨v, he, ho, hr⟩ => ⟨v, he, ho, bucket_Row_Label.ret_elim h2 hr⟩⟩
    · obtain ⟨R, h1, h2⟩ := hh
      obtain ⟨g1, g2⟩ := bucket_Row_Above.calls h1 w hw
      exact ⟨g1, g2.mono fun e w' ⟨v, he, ho, hr⟩ => ⟨v, he, ho, bucket_Row_Above.ret_elim h2 hr⟩⟩
    · exact hh.elim
  qmono := by
    intro f args h K K' hh hk
    change straitlaw13_BucketFalls.qcall f args h K at hh
    change straitlaw13_BucketFalls.qcall f args h K'
    unfold straitlaw13_BucketFalls.qcall at hh ⊢
    split at hh
    · obtain ⟨x0, h1, h2⟩ := hh
      exact ⟨x0, h1, hk _ h2⟩
    · obtain ⟨x0, h1, h2⟩ := hh
      exact ⟨x0, h1, hk _ h2⟩
    · exact hh.elim
  qval := by
    intro f args h K hh
    change straitlaw13_BucketFalls.qcall f args h K at hh
    suffices H : ∃ v, K v ∧ straitlaw13_BucketFalls.qcall f args h (· = v) from H
    unfold straitlaw13_BucketFalls.qcall at hh ⊢
    split at hh
    · obtain ⟨x0, h1, h2⟩ := hh
      exact ⟨_, h2, x0, h1, rfl⟩
    · obtain ⟨x0, h1, h2⟩ := hh
      exact ⟨_, h2, x0, h1, rfl⟩
    · exact hh.elim
  qcall := by
    intro f args h v hh w hw
    change straitlaw13_BucketFalls.qcall f args h (· = v) at hh
    unfold straitlaw13_BucketFalls.qcall at hh
    split at hh
    · obtain ⟨x0, h1, h2⟩ := hh
      obtain ⟨g1, g2⟩ := bucket_Row_Count.calls h1 w hw
      refine .inl ⟨g1, g2.mono fun e w' ⟨u, he, ho, hr⟩ => ?_⟩
      have hq := bucket_Row_Count.ret_elim (K' := fun u h' => u = v ∧ h' = h) (fun _ h' hr => by obtain ⟨rfl, rfl⟩ := hr; exact ⟨h2, rfl⟩) hr
      exact ⟨hq.1 ▸ he, ho, hq.2⟩
    · obtain ⟨x0, h1, h2⟩ := hh
      obtain ⟨g1, g2⟩ := bucket_Row_Len.calls h1 w hw
      refine .inl ⟨g1, g2.mono fun e w' ⟨u, he, ho, hr⟩ => ?_⟩
      have hq := bucket_Row_Len.ret_elim (K' := fun u h' => u = v ∧ h' = h) (fun _ h' hr => by obtain ⟨rfl, rfl⟩ := hr; exact ⟨h2, rfl⟩) hr
      exact ⟨hq.1 ▸ he, ho, hq.2⟩
    · exact hh.elim
noncomputable def straitlaw13_BucketFalls.code : Code := (Try.f4.body).getD .skip
def straitlaw13_BucketFalls.ann : Ann := (.two .auto (.two .auto (.two .auto (.two .auto (.two .auto (.two .auto (.two .auto (.two (.two .auto (.two (.loop 0 [0, 7, 12, 13] [(2, [0, 7, 12])] .auto) .auto)) (.two .auto (.two (.two (.loop 1 [7, 12, 14] [(4, [7]), (0, [6])] .auto) .auto) .auto))))))))))
noncomputable def straitlaw13_BucketFalls.c1 : Code := sub straitlaw13_BucketFalls.code [1, 1, 1, 1, 1, 1, 1, 1, 1, 0, 0, 0]
def straitlaw13_BucketFalls.a1 : Ann := .auto
def straitlaw13_BucketFalls.keep1 : List Nat := [7, 12, 14]
def straitlaw13_BucketFalls.outs1 : List (Nat × List Nat) := [(4, [7]), (0, [6])]
noncomputable def straitlaw13_BucketFalls.c0 : Code := sub straitlaw13_BucketFalls.code [1, 1, 1, 1, 1, 1, 1, 0, 1, 0, 0]
def straitlaw13_BucketFalls.a0 : Ann := .auto
def straitlaw13_BucketFalls.keep0 : List Nat := [0, 7, 12, 13]
def straitlaw13_BucketFalls.outs0 : List (Nat × List Nat) := [(2, [0, 7, 12])]
set_option maxRecDepth 100000 in
theorem straitlaw13_BucketFalls.L0 : LoopOK straitlaw13_BucketFalls.ctx 136 straitlaw13_BucketFalls.c0 0 straitlaw13_BucketFalls.keep0 straitlaw13_BucketFalls.outs0 := by
  refine loop_ok (n := straitlaw13_BucketFalls.a0) straitlaw13_BucketFalls.ok (by kernel_rfl) (loops_ok (l := []) (by kernel_rfl) ?_) straitlaw13_BucketFalls.r0 ?_ ?_ (fun vs h K hh => hh)
  · exact trivial
  · intro K vs h hh
    unfold straitlaw13_BucketFalls.r0 at hh
    split at hh
    · exact hh
    · exact hh
  · intro K m vs h hh
    unfold straitlaw13_BucketFalls.r0 at hh
    split at hh
    · exact cast (by kernel_rfl) hh
    · exact hh.elim
set_option maxRecDepth 100000 in
theorem straitlaw13_BucketFalls.L1 : LoopOK straitlaw13_BucketFalls.ctx 136 straitlaw13_BucketFalls.c1 1 straitlaw13_BucketFalls.keep1 straitlaw13_BucketFalls.outs1 := by
  refine loop_ok (n := straitlaw13_BucketFalls.a1) straitlaw13_BucketFalls.ok (by kernel_rfl) (loops_ok (l := []) (by kernel_rfl) ?_) straitlaw13_BucketFalls.r1 ?_ ?_ (fun vs h K hh => hh)
  · exact trivial
  · intro K vs h hh
    unfold straitlaw13_BucketFalls.r1 at hh
    split at hh
    · exact hh
    · exact hh
  · intro K m vs h hh
    unfold straitlaw13_BucketFalls.r1 at hh
    split at hh
    · exact cast (by kernel_rfl) hh
    · exact hh.elim
set_option maxRecDepth 100000 in
theorem straitlaw13_BucketFalls.eq (a1 : Option Addr) (a1l : Nat) (a1c : Nat) (a2 : Int) (a3 : Int) (h : Heap) (K : Bool → Heap → Prop) : evF straitlaw13_BucketFalls.ctx Try.f4 straitlaw13_BucketFalls.ann [(.slice a1 a1l a1c), (.int .i64 a2), (.int .i64 a3)] h (straitlaw13_BucketFalls.ret K) = straitlaw13_BucketFalls a1 a1l a1c a2 a3 h K := by kernel_rfl
set_option maxRecDepth 100000 in
theorem straitlaw13_BucketFalls.calls {a1 : Option Addr} {a1l : Nat} {a1c : Nat} {a2 : Int} {a3 : Int} {h : Heap} {K : Bool → Heap → Prop} (hh : straitlaw13_BucketFalls a1 a1l a1c a2 a3 h K) (w : World) (hw : w.heap = h) :
    (callFunc 4 #[(.slice a1 a1l a1c), (.int .i64 a2), (.int .i64 a3)]).run Try.prog w = .ok (.enter 4 #[(.slice a1 a1l a1c), (.int .i64 a2), (.int .i64 a3)]) w ∧ Calls Try.prog 4 #[(.slice a1 a1l a1c), (.int .i64 a2), (.int .i64 a3)] w fun e w' => ∃ v, e = .returned v ∧ Out w w' ∧ straitlaw13_BucketFalls.ret K v w'.heap := by
  rw [← straitlaw13_BucketFalls.eq] at hh
  exact fn_calls (args := [(.slice a1 a1l a1c), (.int .i64 a2), (.int .i64 a3)]) (c := straitlaw13_BucketFalls.code) straitlaw13_BucketFalls.ok Try.func4 (by kernel_rfl) (by kernel_rfl) (by kernel_rfl) (by kernel_rfl) (loops_ok (l := [(straitlaw13_BucketFalls.c0, none, 0, straitlaw13_BucketFalls.keep0, straitlaw13_BucketFalls.outs0), (straitlaw13_BucketFalls.c1, none, 1, straitlaw13_BucketFalls.keep1, straitlaw13_BucketFalls.outs1)]) (by kernel_rfl) ⟨straitlaw13_BucketFalls.L0, straitlaw13_BucketFalls.L1, trivial⟩) hh w hw

end Go.Proofs.Ythcbigbgfekmdaa
