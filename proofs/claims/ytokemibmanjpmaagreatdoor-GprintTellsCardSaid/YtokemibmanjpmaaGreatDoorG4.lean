/- WRITTEN BY A PROGRAM OF THIS SESSION (gen.py): what each function asks of memory, and that the model's run comes to it. -/
import Derived.Test.YtokemibmanjpmaaGreatDoorProg
import Derived.Test.YtokemibmanjpmaaGreatDoorFw8
import Derived.Test.YtokemibmanjpmaaGreatDoorG3
namespace Go.Proofs.YtokemibmanjpmaaGreatDoor
open Go.Hp
set_option linter.unusedVariables false
set_option linter.unusedSimpArgs false
set_option linter.unusedSectionVars false

/-! ### strait/straitref06.List: function 67 -/
section
variable [DKc]
def straitref06_List.b0 (K2 : ByteArray → Heap → Prop) (cont : (Option Addr) → Nat → Nat → ByteArray → Int → Heap → Prop) (c0_1001 : Option Addr) (c0_1002 : Nat) (c0_1003 : Nat) (v3_1004 : ByteArray) (v4_1005 : Int) (h1006 : Heap) : Prop :=
  (iteB (decide (v4_1005 < (c0_1002 : Int))) (((iteB (decide (v4_1005 > (0 : Int))) ((((v3_1004.size + (⟨#[32]⟩ : ByteArray).size : Nat) : Int) ≤ 9223372036854775807) ∧ (chkP c0_1001 fun a1012 => (0 ≤ v4_1005 ∧ v4_1005 < (c0_1002 : Int)) ∧ ∃ (x1013 : Int), cell h1006 (a1012.add (v4_1005.toNat * 1)) = some (.int .i64 x1013) ∧ callP1 (straitref06_Print x1013 h1006) fun x1014 h1015 => ((((v3_1004 ++ (⟨#[32]⟩ : ByteArray)).size + x1014.size : Nat) : Int) ≤ 9223372036854775807) ∧ ((cont c0_1001 c0_1002 c0_1003 ((v3_1004 ++ (⟨#[32]⟩ : ByteArray)) ++ x1014) (IntKind.i64.wrap (v4_1005 + 1)) h1015)))) ((chkP c0_1001 fun a1016 => (0 ≤ v4_1005 ∧ v4_1005 < (c0_1002 : Int)) ∧ ∃ (x1017 : Int), cell h1006 (a1016.add (v4_1005.toNat * 1)) = some (.int .i64 x1017) ∧ callP1 (straitref06_Print x1017 h1006) fun x1018 h1019 => (((v3_1004.size + x1018.size : Nat) : Int) ≤ 9223372036854775807) ∧ ((cont c0_1001 c0_1002 c0_1003 (v3_1004 ++ x1018) (IntKind.i64.wrap (v4_1005 + 1)) h1019))))))) (K2 v3_1004 h1006))
def straitref06_List.l0 (K2 : ByteArray → Heap → Prop) : Nat → (Option Addr) → Nat → Nat → ByteArray → Int → Heap → Prop
  | 0, _, _, _, _, _, _ => False
  | m + 1, c0_1001, c0_1002, c0_1003, v3_1004, v4_1005, h => straitref06_List.b0 K2 (straitref06_List.l0 K2 m) c0_1001 c0_1002 c0_1003 v3_1004 v4_1005 h
def straitref06_List (a1 : Option Addr) (a1l : Nat) (a1c : Nat) (h : Heap) (K : ByteArray → Heap → Prop) : Prop :=
  (((∃ m4, straitref06_List.l0 (fun z2 h3 => (K z2 h3)) m4 a1 a1l a1c (⟨#[]⟩ : ByteArray) 0 h)))
def straitref06_List.ret (K : ByteArray → Heap → Prop) (v : Value) (h : Heap) : Prop := match v with
  | (.string r5) => K r5 h
  | _ => False
theorem straitref06_List.ret_elim {K : ByteArray → Heap → Prop} {K' : Value → Heap → Prop} {v : Value} {h : Heap} (hk : ∀ r5 h, K r5 h → K' (.string r5) h) (hh : straitref06_List.ret K v h) : K' v h := by
  unfold straitref06_List.ret at hh
  split at hh
  · exact hk _ _ hh
  · exact hh.elim
def straitref06_List.call (f : FuncId) (vs : List Value) (h : Heap) (K : Value → Heap → Prop) : Prop := match f, vs with
  | 65, [(.int .i64 a1)] => callP1 (straitref06_Print a1 h) fun r8 h' => K (.string r8) h'
  | _, _ => False
def straitref06_List.r0 (K : Nat → List Value → Heap → Prop) (m : Nat) (vs : List Value) (h : Heap) : Prop := match vs with
  | [(.slice c0_1001 c0_1002 c0_1003), (.string v3_1004), (.int .i64 v4_1005)] => straitref06_List.l0 (fun z6 h' => K 2 [(.string z6)] h') m c0_1001 c0_1002 c0_1003 v3_1004 v4_1005 h
  | _ => False
def straitref06_List.loop (i : Nat) (vs : List Value) (h : Heap) (K : Nat → List Value → Heap → Prop) : Prop := match i with
  | 0 => ∃ m, straitref06_List.r0 K m vs h
  | _ => False
noncomputable def straitref06_List.ctx : Ctx := { P := Tryz.prog, call := straitref06_List.call, qcall := fun _ _ _ _ => False, quiet := fun f => Nat.beq f 1000138 || Nat.beq f 2000157, loop := straitref06_List.loop }
theorem straitref06_List.ok : straitref06_List.ctx.OK where
  mixed := by kernel_rfl
  mono := by
    intro f args h K K' hh hk
    change straitref06_List.call f args h K at hh
    change straitref06_List.call f args h K'
    unfold straitref06_List.call at hh ⊢
    split at hh
    · obtain ⟨R, h1, h2⟩ := hh
      exact ⟨R, h1, fun _ x hr => hk _ _ (h2 _ x hr)⟩
    · exact hh.elim
  call := by
    intro f args h K hh w hw
    change straitref06_List.call f args h K at hh
    unfold straitref06_List.call at hh
    split at hh
    · obtain ⟨R, h1, h2⟩ := hh
      obtain ⟨g1, g2⟩ := straitref06_Print.calls h1 w hw
      exact ⟨g1, g2.mono fun e w' ⟨v, he, ho, hr⟩ => ⟨v, he, ho, straitref06_Print.ret_elim h2 hr⟩⟩
    · exact hh.elim
  qmono := fun hh _ => hh.elim
  qval := fun hh => hh.elim
  qcall := fun hh => hh.elim
noncomputable def straitref06_List.code : Code := (Tryz.f67.body).getD .skip
def straitref06_List.ann : Ann := (.two .auto (.two .auto (.two (.two .auto (.two (.loop 0 [0, 3, 4] [(2, [3])] .auto) .auto)) .auto)))
noncomputable def straitref06_List.c0 : Code := sub straitref06_List.code [1, 1, 0, 1, 0, 0]
def straitref06_List.a0 : Ann := .auto
def straitref06_List.keep0 : List Nat := [0, 3, 4]
def straitref06_List.outs0 : List (Nat × List Nat) := [(2, [3])]
set_option maxRecDepth 100000 in
theorem straitref06_List.L0 : LoopOK straitref06_List.ctx 23 straitref06_List.c0 0 straitref06_List.keep0 straitref06_List.outs0 := by
  refine loop_ok (n := straitref06_List.a0) straitref06_List.ok (by kernel_rfl) (loops_ok (l := []) (by kernel_rfl) ?_) straitref06_List.r0 ?_ ?_ (fun vs h K hh => hh)
  · exact trivial
  · intro K vs h hh
    unfold straitref06_List.r0 at hh
    split at hh
    · exact hh
    · exact hh
  · intro K m vs h hh
    unfold straitref06_List.r0 at hh
    split at hh
    · exact cast (by kernel_rfl) hh
    · exact hh.elim
set_option maxRecDepth 100000 in
theorem straitref06_List.eq (a1 : Option Addr) (a1l : Nat) (a1c : Nat) (h : Heap) (K : ByteArray → Heap → Prop) : evF straitref06_List.ctx Tryz.f67 straitref06_List.ann [(.slice a1 a1l a1c)] h (straitref06_List.ret K) = straitref06_List a1 a1l a1c h K := by kernel_rfl
set_option maxRecDepth 100000 in
theorem straitref06_List.calls {a1 : Option Addr} {a1l : Nat} {a1c : Nat} {h : Heap} {K : ByteArray → Heap → Prop} (hh : straitref06_List a1 a1l a1c h K) (w : World) (hw : w.heap = h) :
    (callFunc 67 #[(.slice a1 a1l a1c)]).run Tryz.prog w = .ok (.enter 67 #[(.slice a1 a1l a1c)]) w ∧ Calls Tryz.prog 67 #[(.slice a1 a1l a1c)] w fun e w' => ∃ v, e = .returned v ∧ Out w w' ∧ straitref06_List.ret K v w'.heap := by
  rw [← straitref06_List.eq] at hh
  exact fn_calls (args := [(.slice a1 a1l a1c)]) (c := straitref06_List.code) straitref06_List.ok Tryz.func67 (by kernel_rfl) (by kernel_rfl) (by kernel_rfl) (by kernel_rfl) (loops_ok (l := [(straitref06_List.c0, none, 0, straitref06_List.keep0, straitref06_List.outs0)]) (by kernel_rfl) ⟨straitref06_List.L0, trivial⟩) hh w hw
end

/-! ### strait/straitref18.edges: function 82 -/
section
variable [DKc]
def straitref18_edges.b0 (K2 : ByteArray → Heap → Prop) (cont : (Option Addr) → Nat → Nat → ByteArray → Int → Heap → Prop) (c0_1001 : Option Addr) (c0_1002 : Nat) (c0_1003 : Nat) (v3_1004 : ByteArray) (v4_1005 : Int) (h1006 : Heap) : Prop :=
  (iteB (decide (v4_1005 < (c0_1002 : Int))) ((chkP c0_1001 fun a1007 => (0 ≤ v4_1005 ∧ v4_1005 < (c0_1002 : Int)) ∧ ∃ (x1008 : Int), cell h1006 (a1007.add (v4_1005.toNat * 3)) = some (.int .i64 x1008) ∧ chkP c0_1001 fun a1009 => (0 ≤ v4_1005 ∧ v4_1005 < (c0_1002 : Int)) ∧ ∃ (x1010 : Int), cell h1006 ((a1009.add (v4_1005.toNat * 3)).add 1) = some (.int .i64 x1010) ∧ chkP c0_1001 fun a1011 => (0 ≤ v4_1005 ∧ v4_1005 < (c0_1002 : Int)) ∧ ∃ (x1012 : Int), cell h1006 ((a1011.add (v4_1005.toNat * 3)).add 2) = some (.int .i64 x1012) ∧ newP h1006 (.cells #[(.int .i64 x1008), (.int .i64 x1010), (.int .i64 x1012)] 2) fun a1013 h1014 => callP1 (straitref06_List (some a1013) 3 3 h1014) fun x1015 h1016 => (((v3_1004.size + x1015.size : Nat) : Int) ≤ 9223372036854775807) ∧ ((((v3_1004 ++ x1015).size + (⟨#[10]⟩ : ByteArray).size : Nat) : Int) ≤ 9223372036854775807) ∧ ((cont c0_1001 c0_1002 c0_1003 ((v3_1004 ++ x1015) ++ (⟨#[10]⟩ : ByteArray)) (IntKind.i64.wrap (v4_1005 + 1)) h1016)))) (K2 v3_1004 h1006))
def straitref18_edges.l0 (K2 : ByteArray → Heap → Prop) : Nat → (Option Addr) → Nat → Nat → ByteArray → Int → Heap → Prop
  | 0, _, _, _, _, _, _ => False
  | m + 1, c0_1001, c0_1002, c0_1003, v3_1004, v4_1005, h => straitref18_edges.b0 K2 (straitref18_edges.l0 K2 m) c0_1001 c0_1002 c0_1003 v3_1004 v4_1005 h
def straitref18_edges (a1 : Option Addr) (a1l : Nat) (a1c : Nat) (h : Heap) (K : ByteArray → Heap → Prop) : Prop :=
  (((∃ m4, straitref18_edges.l0 (fun z2 h3 => (K z2 h3)) m4 a1 a1l a1c (⟨#[]⟩ : ByteArray) 0 h)))
def straitref18_edges.ret (K : ByteArray → Heap → Prop) (v : Value) (h : Heap) : Prop := match v with
  | (.string r5) => K r5 h
  | _ => False
theorem straitref18_edges.ret_elim {K : ByteArray → Heap → Prop} {K' : Value → Heap → Prop} {v : Value} {h : Heap} (hk : ∀ r5 h, K r5 h → K' (.string r5) h) (hh : straitref18_edges.ret K v h) : K' v h := by
  unfold straitref18_edges.ret at hh
  split at hh
  · exact hk _ _ hh
  · exact hh.elim
def straitref18_edges.call (f : FuncId) (vs : List Value) (h : Heap) (K : Value → Heap → Prop) : Prop := match f, vs with
  | 67, [(.slice a1 a1l a1c)] => callP1 (straitref06_List a1 a1l a1c h) fun r5 h' => K (.string r5) h'
  | _, _ => False
def straitref18_edges.r0 (K : Nat → List Value → Heap → Prop) (m : Nat) (vs : List Value) (h : Heap) : Prop := match vs with
  | [(.slice c0_1001 c0_1002 c0_1003), (.string v3_1004), (.int .i64 v4_1005)] => straitref18_edges.l0 (fun z6 h' => K 2 [(.string z6)] h') m c0_1001 c0_1002 c0_1003 v3_1004 v4_1005 h
  | _ => False
def straitref18_edges.loop (i : Nat) (vs : List Value) (h : Heap) (K : Nat → List Value → Heap → Prop) : Prop := match i with
  | 0 => ∃ m, straitref18_edges.r0 K m vs h
  | _ => False
noncomputable def straitref18_edges.ctx : Ctx := { P := Tryz.prog, call := straitref18_edges.call, qcall := fun _ _ _ _ => False, quiet := fun f => Nat.beq f 1000138 || Nat.beq f 2000157, loop := straitref18_edges.loop }
theorem straitref18_edges.ok : straitref18_edges.ctx.OK where
  mixed := by kernel_rfl
  mono := by
    intro f args h K K' hh hk
    change straitref18_edges.call f args h K at hh
    change straitref18_edges.call f args h K'
    unfold straitref18_edges.call at hh ⊢
    split at hh
    · obtain ⟨R, h1, h2⟩ := hh
      exact ⟨R, h1, fun _ x hr => hk _ _ (h2 _ x hr)⟩
    · exact hh.elim
  call := by
    intro f args h K hh w hw
    change straitref18_edges.call f args h K at hh
    unfold straitref18_edges.call at hh
    split at hh
    · obtain ⟨R, h1, h2⟩ := hh
      obtain ⟨g1, g2⟩ := straitref06_List.calls h1 w hw
      exact ⟨g1, g2.mono fun e w' ⟨v, he, ho, hr⟩ => ⟨v, he, ho, straitref06_List.ret_elim h2 hr⟩⟩
    · exact hh.elim
  qmono := fun hh _ => hh.elim
  qval := fun hh => hh.elim
  qcall := fun hh => hh.elim
noncomputable def straitref18_edges.code : Code := (Tryz.f82.body).getD .skip
def straitref18_edges.ann : Ann := (.two .auto (.two .auto (.two (.two .auto (.two (.loop 0 [0, 3, 4] [(2, [3])] (.two .auto (.two (.two (.reg [0, 0, 0, 6, 14, 30, 0, 0, 192, 448, 960, 0, 0, 6144, 14336, 30720, 65534, 131070, 262143, 524287, 1048575] (.take 0 (.take 1 (.take 2 (.take 3 (.take 4 (.take 5 (.take 6 (.take 7 (.take 8 (.take 9 (.take 10 (.take 11 (.take 12 (.take 13 (.take 14 (.take 15 (.alt 16 (.alt 17 (.take 18 (.take 19 (.take 20 .done))) .noalt) .noalt)))))))))))))))))) .auto) .auto))) .auto)) .auto)))
noncomputable def straitref18_edges.c0 : Code := sub straitref18_edges.code [1, 1, 0, 1, 0, 0]
def straitref18_edges.a0 : Ann := (.two .auto (.two (.two (.reg [0, 0, 0, 6, 14, 30, 0, 0, 192, 448, 960, 0, 0, 6144, 14336, 30720, 65534, 131070, 262143, 524287, 1048575] (.take 0 (.take 1 (.take 2 (.take 3 (.take 4 (.take 5 (.take 6 (.take 7 (.take 8 (.take 9 (.take 10 (.take 11 (.take 12 (.take 13 (.take 14 (.take 15 (.alt 16 (.alt 17 (.take 18 (.take 19 (.take 20 .done))) .noalt) .noalt)))))))))))))))))) .auto) .auto))
def straitref18_edges.keep0 : List Nat := [0, 3, 4]
def straitref18_edges.outs0 : List (Nat × List Nat) := [(2, [3])]
set_option maxRecDepth 100000 in
theorem straitref18_edges.L0 : LoopOK straitref18_edges.ctx 32 straitref18_edges.c0 0 straitref18_edges.keep0 straitref18_edges.outs0 := by
  refine loop_ok (n := straitref18_edges.a0) straitref18_edges.ok (by kernel_rfl) (loops_ok (l := []) (by kernel_rfl) ?_) straitref18_edges.r0 ?_ ?_ (fun vs h K hh => hh)
  · exact trivial
  · intro K vs h hh
    unfold straitref18_edges.r0 at hh
    split at hh
    · exact hh
    · exact hh
  · intro K m vs h hh
    unfold straitref18_edges.r0 at hh
    split at hh
    · exact cast (by kernel_rfl) hh
    · exact hh.elim
set_option maxRecDepth 100000 in
theorem straitref18_edges.eq (a1 : Option Addr) (a1l : Nat) (a1c : Nat) (h : Heap) (K : ByteArray → Heap → Prop) : evF straitref18_edges.ctx Tryz.f82 straitref18_edges.ann [(.slice a1 a1l a1c)] h (straitref18_edges.ret K) = straitref18_edges a1 a1l a1c h K := by kernel_rfl
set_option maxRecDepth 100000 in
theorem straitref18_edges.calls {a1 : Option Addr} {a1l : Nat} {a1c : Nat} {h : Heap} {K : ByteArray → Heap → Prop} (hh : straitref18_edges a1 a1l a1c h K) (w : World) (hw : w.heap = h) :
    (callFunc 82 #[(.slice a1 a1l a1c)]).run Tryz.prog w = .ok (.enter 82 #[(.slice a1 a1l a1c)]) w ∧ Calls Tryz.prog 82 #[(.slice a1 a1l a1c)] w fun e w' => ∃ v, e = .returned v ∧ Out w w' ∧ straitref18_edges.ret K v w'.heap := by
  rw [← straitref18_edges.eq] at hh
  exact fn_calls (args := [(.slice a1 a1l a1c)]) (c := straitref18_edges.code) straitref18_edges.ok Tryz.func82 (by kernel_rfl) (by kernel_rfl) (by kernel_rfl) (by kernel_rfl) (loops_ok (l := [(straitref18_edges.c0, none, 0, straitref18_edges.keep0, straitref18_edges.outs0)]) (by kernel_rfl) ⟨straitref18_edges.L0, trivial⟩) hh w hw
end

/-! ### strait/straitref18.Text: function 48 -/
section
variable [DKc]
def straitref18_Text (a1 : Int) (a2 : Option Addr) (a2l : Nat) (a2c : Nat) (h : Heap) (K : ByteArray → Heap → Prop) : Prop :=
  (newP h (.cells #[(.int .i64 a1), (.int .i64 (a2l : Int))] 2) fun a3 h4 => callP1 (straitref06_List (some a3) 2 2 h4) fun x5 h6 => ((((⟨#[103, 114, 97, 112, 104, 32]⟩ : ByteArray).size + x5.size : Nat) : Int) ≤ 9223372036854775807) ∧ (((((⟨#[103, 114, 97, 112, 104, 32]⟩ : ByteArray) ++ x5).size + (⟨#[10]⟩ : ByteArray).size : Nat) : Int) ≤ 9223372036854775807) ∧ callP1 (straitref18_edges a2 a2l a2c h6) fun x7 h8 => ((((((⟨#[103, 114, 97, 112, 104, 32]⟩ : ByteArray) ++ x5) ++ (⟨#[10]⟩ : ByteArray)).size + x7.size : Nat) : Int) ≤ 9223372036854775807) ∧ (K ((((⟨#[103, 114, 97, 112, 104, 32]⟩ : ByteArray) ++ x5) ++ (⟨#[10]⟩ : ByteArray)) ++ x7) h8))
def straitref18_Text.ret (K : ByteArray → Heap → Prop) (v : Value) (h : Heap) : Prop := match v with
  | (.string r9) => K r9 h
  | _ => False
theorem straitref18_Text.ret_elim {K : ByteArray → Heap → Prop} {K' : Value → Heap → Prop} {v : Value} {h : Heap} (hk : ∀ r9 h, K r9 h → K' (.string r9) h) (hh : straitref18_Text.ret K v h) : K' v h := by
  unfold straitref18_Text.ret at hh
  split at hh
  · exact hk _ _ hh
  · exact hh.elim
def straitref18_Text.call (f : FuncId) (vs : List Value) (h : Heap) (K : Value → Heap → Prop) : Prop := match f, vs with
  | 67, [(.slice a1 a1l a1c)] => callP1 (straitref06_List a1 a1l a1c h) fun r5 h' => K (.string r5) h'
  | 82, [(.slice a1 a1l a1c)] => callP1 (straitref18_edges a1 a1l a1c h) fun r5 h' => K (.string r5) h'
  | _, _ => False
noncomputable def straitref18_Text.ctx : Ctx := { P := Tryz.prog, call := straitref18_Text.call, qcall := fun _ _ _ _ => False, quiet := fun f => Nat.beq f 1000138 || Nat.beq f 2000157, loop := fun _ _ _ _ => False }
theorem straitref18_Text.ok : straitref18_Text.ctx.OK where
  mixed := by kernel_rfl
  mono := by
    intro f args h K K' hh hk
    change straitref18_Text.call f args h K at hh
    change straitref18_Text.call f args h K'
    unfold straitref18_Text.call at hh ⊢
    split at hh
    · obtain ⟨R, h1, h2⟩ := hh
      exact ⟨R, h1, fun _ x hr => hk _ _ (h2 _ x hr)⟩
    · obtain ⟨R, h1, h2⟩ := hh
      exact ⟨R, h1, fun _ x hr => hk _ _ (h2 _ x hr)⟩
    · exact hh.elim
  call := by
    intro f args h K hh w hw
    change straitref18_Text.call f args h K at hh
    unfold straitref18_Text.call at hh
    split at hh
    · obtain ⟨R, h1, h2⟩ := hh
      obtain ⟨g1, g2⟩ := straitref06_List.calls h1 w hw
      exact ⟨g1, g2.mono fun e w' ⟨v, he, ho, hr⟩ => ⟨v, he, ho, straitref06_List.ret_elim h2 hr⟩⟩
    · obtain ⟨R, h1, h2⟩ := hh
      obtain ⟨g1, g2⟩ := straitref18_edges.calls h1 w hw
      exact ⟨g1, g2.mono fun e w' ⟨v, he, ho, hr⟩ => ⟨v, he, ho, straitref18_edges.ret_elim h2 hr⟩⟩
    · exact hh.elim
  qmono := fun hh _ => hh.elim
  qval := fun hh => hh.elim
  qcall := fun hh => hh.elim
noncomputable def straitref18_Text.code : Code := (Tryz.f48.body).getD .skip
def straitref18_Text.ann : Ann := .auto
set_option maxRecDepth 100000 in
theorem straitref18_Text.eq (a1 : Int) (a2 : Option Addr) (a2l : Nat) (a2c : Nat) (h : Heap) (K : ByteArray → Heap → Prop) : evF straitref18_Text.ctx Tryz.f48 straitref18_Text.ann [(.int .i64 a1), (.slice a2 a2l a2c)] h (straitref18_Text.ret K) = straitref18_Text a1 a2 a2l a2c h K := by kernel_rfl
set_option maxRecDepth 100000 in
theorem straitref18_Text.calls {a1 : Int} {a2 : Option Addr} {a2l : Nat} {a2c : Nat} {h : Heap} {K : ByteArray → Heap → Prop} (hh : straitref18_Text a1 a2 a2l a2c h K) (w : World) (hw : w.heap = h) :
    (callFunc 48 #[(.int .i64 a1), (.slice a2 a2l a2c)]).run Tryz.prog w = .ok (.enter 48 #[(.int .i64 a1), (.slice a2 a2l a2c)]) w ∧ Calls Tryz.prog 48 #[(.int .i64 a1), (.slice a2 a2l a2c)] w fun e w' => ∃ v, e = .returned v ∧ Out w w' ∧ straitref18_Text.ret K v w'.heap := by
  rw [← straitref18_Text.eq] at hh
  exact fn_calls (args := [(.int .i64 a1), (.slice a2 a2l a2c)]) (c := straitref18_Text.code) straitref18_Text.ok Tryz.func48 (by kernel_rfl) (by kernel_rfl) (by kernel_rfl) (by kernel_rfl) (loops_ok (l := []) (by kernel_rfl) trivial) hh w hw
end

/-! ### strait/straitref18.Print: function 28 -/
section
variable [DKc]
def straitref18_Print (a1 : Int) (a2 : Option Addr) (a2l : Nat) (a2c : Nat) (h : Heap) (K : ByteArray → Heap → Prop) : Prop :=
  newP h (.cells #[(.int .i64 a1), (.slice a2 a2l a2c)] 43) fun a3 h4 => (∃ (x5 : Option Addr) (x5l : Nat) (x5c : Nat), cell h4 (a3.add 1) = some (.slice x5 x5l x5c) ∧ ∃ (x6 : Int), cell h4 a3 = some (.int .i64 x6) ∧ callP4 (straitref15_Split x5 x5l x5c h4) fun x7 x7l x7c x8 h9 => (∃ (x10 : Int), cell h9 a3 = some (.int .i64 x10) ∧ ((.int .i64 x10) : Value) = (.int .i64 x6)) ∧ callP1 (straitref18_Text x6 x7 x7l x7c h9) fun x11 h12 => K x11 h12)
def straitref18_Print.ret (K : ByteArray → Heap → Prop) (v : Value) (h : Heap) : Prop := match v with
  | (.string r13) => K r13 h
  | _ => False
theorem straitref18_Print.ret_elim {K : ByteArray → Heap → Prop} {K' : Value → Heap → Prop} {v : Value} {h : Heap} (hk : ∀ r13 h, K r13 h → K' (.string r13) h) (hh : straitref18_Print.ret K v h) : K' v h := by
  unfold straitref18_Print.ret at hh
  split at hh
  · exact hk _ _ hh
  · exact hh.elim
def straitref18_Print.call (f : FuncId) (vs : List Value) (h : Heap) (K : Value → Heap → Prop) : Prop := match f, vs with
  | 48, [(.int .i64 a1), (.slice a2 a2l a2c)] => callP1 (straitref18_Text a1 a2 a2l a2c h) fun r9 h' => K (.string r9) h'
  | 63, [(.slice a1 a1l a1c)] => callP4 (straitref15_Split a1 a1l a1c h) fun r16 r16l r16c r17 h' => K (.agg #[(.slice r16 r16l r16c), (.bool r17)]) h'
  | _, _ => False
noncomputable def straitref18_Print.ctx : Ctx := { P := Tryz.prog, call := straitref18_Print.call, qcall := fun _ _ _ _ => False, quiet := fun f => Nat.beq f 1000138 || Nat.beq f 2000157, loop := fun _ _ _ _ => False }
theorem straitref18_Print.ok : straitref18_Print.ctx.OK where
  mixed := by kernel_rfl
  mono := by
    intro f args h K K' hh hk
    change straitref18_Print.call f args h K at hh
    change straitref18_Print.call f args h K'
    unfold straitref18_Print.call at hh ⊢
    split at hh
    · obtain ⟨R, h1, h2⟩ := hh
      exact ⟨R, h1, fun _ x hr => hk _ _ (h2 _ x hr)⟩
    · obtain ⟨R, h1, h2⟩ := hh
      exact ⟨R, h1, fun _ _ _ _ x hr => hk _ _ (h2 _ _ _ _ x hr)⟩
    · exact hh.elim
  call := by
    intro f args h K hh w hw
    change straitref18_Print.call f args h K at hh
    unfold straitref18_Print.call at hh
    split at hh
    · obtain ⟨R, h1, h2⟩ := hh
      obtain ⟨g1, g2⟩ := straitref18_Text.calls h1 w hw
      exact ⟨g1, g2.mono fun e w' ⟨v, he, ho, hr⟩ => ⟨v, he, ho, straitref18_Text.ret_elim h2 hr⟩⟩
    · obtain ⟨R, h1, h2⟩ := hh
      obtain ⟨g1, g2⟩ := straitref15_Split.calls h1 w hw
      exact ⟨g1, g2.mono fun e w' ⟨v, he, ho, hr⟩ => ⟨v, he, ho, straitref15_Split.ret_elim h2 hr⟩⟩
    · exact hh.elim
  qmono := fun hh _ => hh.elim
  qval := fun hh => hh.elim
  qcall := fun hh => hh.elim
noncomputable def straitref18_Print.code : Code := (Tryz.f28.body).getD .skip
def straitref18_Print.ann : Ann := (.two .auto (.two (.reg [0, 1, 0, 4, 12, 28, 63, 127] (.take 0 (.take 2 (.take 3 (.early 1 (.alt 4 (.take 5 (.alt 6 (.take 7 .done) .noalt)) .noalt)))))) .auto))
set_option maxRecDepth 100000 in
theorem straitref18_Print.eq (a1 : Int) (a2 : Option Addr) (a2l : Nat) (a2c : Nat) (h : Heap) (K : ByteArray → Heap → Prop) : evF straitref18_Print.ctx Tryz.f28 straitref18_Print.ann [(.agg #[(.int .i64 a1), (.slice a2 a2l a2c)])] h (straitref18_Print.ret K) = straitref18_Print a1 a2 a2l a2c h K := by kernel_rfl
set_option maxRecDepth 100000 in
theorem straitref18_Print.calls {a1 : Int} {a2 : Option Addr} {a2l : Nat} {a2c : Nat} {h : Heap} {K : ByteArray → Heap → Prop} (hh : straitref18_Print a1 a2 a2l a2c h K) (w : World) (hw : w.heap = h) :
    (callFunc 28 #[(.agg #[(.int .i64 a1), (.slice a2 a2l a2c)])]).run Tryz.prog w = .ok (.enter 28 #[(.agg #[(.int .i64 a1), (.slice a2 a2l a2c)])]) w ∧ Calls Tryz.prog 28 #[(.agg #[(.int .i64 a1), (.slice a2 a2l a2c)])] w fun e w' => ∃ v, e = .returned v ∧ Out w w' ∧ straitref18_Print.ret K v w'.heap := by
  rw [← straitref18_Print.eq] at hh
  exact fn_calls (args := [(.agg #[(.int .i64 a1), (.slice a2 a2l a2c)])]) (c := straitref18_Print.code) straitref18_Print.ok Tryz.func28 (by kernel_rfl) (by kernel_rfl) (by kernel_rfl) (by kernel_rfl) (loops_ok (l := []) (by kernel_rfl) trivial) hh w hw
end

/-! ### (strait/straitref16.Net).Weight: function 66 -/
def straitref16_Net_Weight.b0 (K0 : Int → Heap → Prop) (K2 : Heap → Prop) (cont : Int → Int → Addr → Int → Heap → Prop) (c1_1001 : Int) (c2_1002 : Int) (c3_1003 : Addr) (v7_1004 : Int) (h1005 : Heap) : Prop :=
  ∃ (x1006 : Option Addr) (x1006l : Nat) (x1006c : Nat), cell h1005 (c3_1003.add 1) = some (.slice x1006 x1006l x1006c) ∧ (iteB (decide (v7_1004 < (x1006l : Int))) ((let j1019 := (fun (y1015 : Bool) => iteB y1015 (∃ (x1016 : Option Addr) (x1016l : Nat) (x1016c : Nat), cell h1005 (c3_1003.add 1) = some (.slice x1016 x1016l x1016c) ∧ chkP x1016 fun a1017 => (0 ≤ v7_1004 ∧ v7_1004 < (x1016l : Int)) ∧ ∃ (x1018 : Int), cell h1005 ((a1017.add (v7_1004.toNat * 3)).add 2) = some (.int .i64 x1018) ∧ K0 x1018 h1005) (((cont c1_1001 c2_1002 c3_1003 (IntKind.i64.wrap (v7_1004 + 1)) h1005))));
  ∃ (x1007 : Option Addr) (x1007l : Nat) (x1007c : Nat), cell h1005 (c3_1003.add 1) = some (.slice x1007 x1007l x1007c) ∧ chkP x1007 fun a1008 => (0 ≤ v7_1004 ∧ v7_1004 < (x1007l : Int)) ∧ ∃ (x1009 : Int), cell h1005 (a1008.add (v7_1004.toNat * 3)) = some (.int .i64 x1009) ∧ bindV (if c2_1002 < c1_1001 then c2_1002 else c1_1001) fun n1010 => iteB (x1009 == n1010) (∃ (x1011 : Option Addr) (x1011l : Nat) (x1011c : Nat), cell h1005 (c3_1003.add 1) = some (.slice x1011 x1011l x1011c) ∧ chkP x1011 fun a1012 => (0 ≤ v7_1004 ∧ v7_1004 < (x1011l : Int)) ∧ ∃ (x1013 : Int), cell h1005 ((a1012.add (v7_1004.toNat * 3)).add 1) = some (.int .i64 x1013) ∧ bindV (if c2_1002 > c1_1001 then c2_1002 else c1_1001) fun n1014 => (j1019 (x1013 == n1014))) ((j1019 false)))) (K2 h1005))
def straitref16_Net_Weight.l0 (K0 : Int → Heap → Prop) (K2 : Heap → Prop) : Nat → Int → Int → Addr → Int → Heap → Prop
  | 0, _, _, _, _, _ => False
  | m + 1, c1_1001, c2_1002, c3_1003, v7_1004, h => straitref16_Net_Weight.b0 K0 K2 (straitref16_Net_Weight.l0 K0 K2 m) c1_1001 c2_1002 c3_1003 v7_1004 h
def straitref16_Net_Weight (a1 : Int) (a2 : Option Addr) (a2l : Nat) (a2c : Nat) (a3 : Int) (a4 : Int) (h : Heap) (K : Int → Heap → Prop) : Prop :=
  newP h (.cells #[(.int .i64 a1), (.slice a2 a2l a2c)] 43) fun a5 h6 => ((∃ m10, straitref16_Net_Weight.l0 (fun z7 h8 => K z7 h8) (fun h9 => (K 0 h9)) m10 a3 a4 a5 0 h6))
def straitref16_Net_Weight.ret (K : Int → Heap → Prop) (v : Value) (h : Heap) : Prop := match v with
  | (.int .i64 r11) => K r11 h
  | _ => False
theorem straitref16_Net_Weight.ret_elim {K : Int → Heap → Prop} {K' : Value → Heap → Prop} {v : Value} {h : Heap} (hk : ∀ r11 h, K r11 h → K' (.int .i64 r11) h) (hh : straitref16_Net_Weight.ret K v h) : K' v h := by
  unfold straitref16_Net_Weight.ret at hh
  split at hh
  · exact hk _ _ hh
  · exact hh.elim
def straitref16_Net_Weight.r0 (K : Nat → List Value → Heap → Prop) (m : Nat) (vs : List Value) (h : Heap) : Prop := match vs with
  | [(.int .i64 c1_1001), (.int .i64 c2_1002), (.pointer (some c3_1003)), (.int .i64 v7_1004)] => straitref16_Net_Weight.l0 (fun z12 h' => K 0 [(.int .i64 z12)] h') (fun h' => K 2 [] h') m c1_1001 c2_1002 c3_1003 v7_1004 h
  | _ => False
def straitref16_Net_Weight.loop (i : Nat) (vs : List Value) (h : Heap) (K : Nat → List Value → Heap → Prop) : Prop := match i with
  | 0 => ∃ m, straitref16_Net_Weight.r0 K m vs h
  | _ => False
noncomputable def straitref16_Net_Weight.ctx : Ctx := { P := Tryz.prog, call := fun _ _ _ _ => False, qcall := fun _ _ _ _ => False, quiet := fun f => Nat.beq f 1000138 || Nat.beq f 2000157, loop := straitref16_Net_Weight.loop }
theorem straitref16_Net_Weight.ok [DKc] : straitref16_Net_Weight.ctx.OK where
  mixed := by kernel_rfl
  mono := fun hh _ => hh.elim
  call := fun hh => hh.elim
  qmono := fun hh _ => hh.elim
  qval := fun hh => hh.elim
  qcall := fun hh => hh.elim
noncomputable def straitref16_Net_Weight.code : Code := (Tryz.f66.body).getD .skip
def straitref16_Net_Weight.ann : Ann := (.two .auto (.two (.two .auto (.two (.loop 0 [1, 2, 3, 7] [(2, []), (0, [6])] .auto) .auto)) .auto))
noncomputable def straitref16_Net_Weight.c0 : Code := sub straitref16_Net_Weight.code [1, 0, 1, 0, 0]
def straitref16_Net_Weight.a0 : Ann := .auto
def straitref16_Net_Weight.keep0 : List Nat := [1, 2, 3, 7]
def straitref16_Net_Weight.outs0 : List (Nat × List Nat) := [(2, []), (0, [6])]
set_option maxRecDepth 100000 in
theorem straitref16_Net_Weight.L0 [DKc] : LoopOK straitref16_Net_Weight.ctx 43 straitref16_Net_Weight.c0 0 straitref16_Net_Weight.keep0 straitref16_Net_Weight.outs0 := by
  refine loop_ok (n := straitref16_Net_Weight.a0) straitref16_Net_Weight.ok (by kernel_rfl) (loops_ok (l := []) (by kernel_rfl) ?_) straitref16_Net_Weight.r0 ?_ ?_ (fun vs h K hh => hh)
  · exact trivial
  · intro K vs h hh
    unfold straitref16_Net_Weight.r0 at hh
    split at hh
    · exact hh
    · exact hh
  · intro K m vs h hh
    unfold straitref16_Net_Weight.r0 at hh
    split at hh
    · exact cast (by kernel_rfl) hh
    · exact hh.elim
set_option maxRecDepth 100000 in
theorem straitref16_Net_Weight.eq (a1 : Int) (a2 : Option Addr) (a2l : Nat) (a2c : Nat) (a3 : Int) (a4 : Int) (h : Heap) (K : Int → Heap → Prop) : evF straitref16_Net_Weight.ctx Tryz.f66 straitref16_Net_Weight.ann [(.agg #[(.int .i64 a1), (.slice a2 a2l a2c)]), (.int .i64 a3), (.int .i64 a4)] h (straitref16_Net_Weight.ret K) = straitref16_Net_Weight a1 a2 a2l a2c a3 a4 h K := by kernel_rfl
set_option maxRecDepth 100000 in
theorem straitref16_Net_Weight.calls [DKc] {a1 : Int} {a2 : Option Addr} {a2l : Nat} {a2c : Nat} {a3 : Int} {a4 : Int} {h : Heap} {K : Int → Heap → Prop} (hh : straitref16_Net_Weight a1 a2 a2l a2c a3 a4 h K) (w : World) (hw : w.heap = h) :
    (callFunc 66 #[(.agg #[(.int .i64 a1), (.slice a2 a2l a2c)]), (.int .i64 a3), (.int .i64 a4)]).run Tryz.prog w = .ok (.enter 66 #[(.agg #[(.int .i64 a1), (.slice a2 a2l a2c)]), (.int .i64 a3), (.int .i64 a4)]) w ∧ Calls Tryz.prog 66 #[(.agg #[(.int .i64 a1), (.slice a2 a2l a2c)]), (.int .i64 a3), (.int .i64 a4)] w fun e w' => ∃ v, e = .returned v ∧ Out w w' ∧ straitref16_Net_Weight.ret K v w'.heap := by
  rw [← straitref16_Net_Weight.eq] at hh
  exact fn_calls (args := [(.agg #[(.int .i64 a1), (.slice a2 a2l a2c)]), (.int .i64 a3), (.int .i64 a4)]) (c := straitref16_Net_Weight.code) straitref16_Net_Weight.ok Tryz.func66 (by kernel_rfl) (by kernel_rfl) (by kernel_rfl) (by kernel_rfl) (loops_ok (l := [(straitref16_Net_Weight.c0, none, 0, straitref16_Net_Weight.keep0, straitref16_Net_Weight.outs0)]) (by kernel_rfl) ⟨straitref16_Net_Weight.L0, trivial⟩) hh w hw

/-! ### (strait/straitref16.Net).Near: function 64 -/
def straitref16_Net_Near.b0 (K2 : (Option Addr) → Nat → Nat → Heap → Prop) (cont : Int → Addr → (Option Addr) → Nat → Nat → Int → Heap → Prop) (c1_1001 : Int) (c2_1002 : Addr) (v5_1003 : Option Addr) (v5_1003l : Nat) (v5_1003c : Nat) (v6_1004 : Int) (h1005 : Heap) : Prop :=
  ∃ (x1006 : Int), cell h1005 c2_1002 = some (.int .i64 x1006) ∧ (iteB (decide (v6_1004 < x1006)) ((∃ (x1007 : Int), cell h1005 c2_1002 = some (.int .i64 x1007) ∧ ∃ (x1008 : Option Addr) (x1008l : Nat) (x1008c : Nat), cell h1005 (c2_1002.add 1) = some (.slice x1008 x1008l x1008c) ∧ callP1 (straitref16_Net_Weight x1007 x1008 x1008l x1008c v6_1004 c1_1001 h1005) fun x1009 h1010 => (iteB (decide (x1009 > (0 : Int))) (newP h1010 (.cells #[(.int .i64 v6_1004)] 3) fun a1011 h1012 => ∃ n1017, cellsAt h1012 (some a1011) (1 * 1) n1017 ∧ appP 3 1 8 [(.int .i64 0)] v5_1003 v5_1003l v5_1003c 1 n1017 h1012 fun q1013 l1014 c1015 h1016 => ((cont c1_1001 c2_1002 q1013 l1014 c1015 (IntKind.i64.wrap (v6_1004 + 1)) h1016))) (((cont c1_1001 c2_1002 v5_1003 v5_1003l v5_1003c (IntKind.i64.wrap (v6_1004 + 1)) h1010)))))) (K2 v5_1003 v5_1003l v5_1003c h1005))
def straitref16_Net_Near.l0 (K2 : (Option Addr) → Nat → Nat → Heap → Prop) : Nat → Int → Addr → (Option Addr) → Nat → Nat → Int → Heap → Prop
  | 0, _, _, _, _, _, _, _ => False
  | m + 1, c1_1001, c2_1002, v5_1003, v5_1003l, v5_1003c, v6_1004, h => straitref16_Net_Near.b0 K2 (straitref16_Net_Near.l0 K2 m) c1_1001 c2_1002 v5_1003 v5_1003l v5_1003c v6_1004 h
def straitref16_Net_Near (a1 : Int) (a2 : Option Addr) (a2l : Nat) (a2c : Nat) (a3 : Int) (h : Heap) (K : (Option Addr) → Nat → Nat → Heap → Prop) : Prop :=
  newP h (.cells #[(.int .i64 a1), (.slice a2 a2l a2c)] 43) fun a4 h5 => (((∃ m8, straitref16_Net_Near.l0 (fun z6 z6l z6c h7 => (K z6 z6l z6c h7)) m8 a3 a4 none 0 0 0 h5)))
def straitref16_Net_Near.ret (K : (Option Addr) → Nat → Nat → Heap → Prop) (v : Value) (h : Heap) : Prop := match v with
  | (.slice r9 r9l r9c) => K r9 r9l r9c h
  | _ => False
theorem straitref16_Net_Near.ret_elim {K : (Option Addr) → Nat → Nat → Heap → Prop} {K' : Value → Heap → Prop} {v : Value} {h : Heap} (hk : ∀ r9 r9l r9c h, K r9 r9l r9c h → K' (.slice r9 r9l r9c) h) (hh : straitref16_Net_Near.ret K v h) : K' v h := by
  unfold straitref16_Net_Near.ret at hh
  split at hh
  · exact hk _ _ _ _ hh
  · exact hh.elim
def straitref16_Net_Near.call (f : FuncId) (vs : List Value) (h : Heap) (K : Value → Heap → Prop) : Prop := match f, vs with
  | 66, [(.agg ⟨[(.int .i64 a1), (.slice a2 a2l a2c)]⟩), (.int .i64 a3), (.int .i64 a4)] => callP1 (straitref16_Net_Weight a1 a2 a2l a2c a3 a4 h) fun r11 h' => K (.int .i64 r11) h'
  | _, _ => False
def straitref16_Net_Near.r0 (K : Nat → List Value → Heap → Prop) (m : Nat) (vs : List Value) (h : Heap) : Prop := match vs with
  | [(.int .i64 c1_1001), (.pointer (some c2_1002)), (.slice v5_1003 v5_1003l v5_1003c), (.int .i64 v6_1004)] => straitref16_Net_Near.l0 (fun z10 z10l z10c h' => K 2 [(.slice z10 z10l z10c)] h') m c1_1001 c2_1002 v5_1003 v5_1003l v5_1003c v6_1004 h
  | _ => False
def straitref16_Net_Near.loop (i : Nat) (vs : List Value) (h : Heap) (K : Nat → List Value → Heap → Prop) : Prop := match i with
  | 0 => ∃ m, straitref16_Net_Near.r0 K m vs h
  | _ => False
noncomputable def straitref16_Net_Near.ctx : Ctx := { P := Tryz.prog, call := straitref16_Net_Near.call, qcall := fun _ _ _ _ => False, quiet := fun f => Nat.beq f 1000138 || Nat.beq f 2000157, loop := straitref16_Net_Near.loop }
theorem straitref16_Net_Near.ok [DKc] : straitref16_Net_Near.ctx.OK where
  mixed := by kernel_rfl
  mono := by
    intro f args h K K' hh hk
    change straitref16_Net_Near.call f args h K at hh
    change straitref16_Net_Near.call f args h K'
    unfold straitref16_Net_Near.call at hh ⊢
    split at hh
    · obtain ⟨R, h1, h2⟩ := hh
      exact ⟨R, h1, fun _ x hr => hk _ _ (h2 _ x hr)⟩
    · exact hh.elim
  call := by
    intro f args h K hh w hw
    change straitref16_Net_Near.call f args h K at hh
    unfold straitref16_Net_Near.call at hh
    split at hh
    · obtain ⟨R, h1, h2⟩ := hh
      obtain ⟨g1, g2⟩ := straitref16_Net_Weight.calls h1 w hw
      exact ⟨g1, g2.mono fun e w' ⟨v, he, ho, hr⟩ => ⟨v, he, ho, straitref16_Net_Weight.ret_elim h2 hr⟩⟩
    · exact hh.elim
  qmono := fun hh _ => hh.elim
  qval := fun hh => hh.elim
  qcall := fun hh => hh.elim
noncomputable def straitref16_Net_Near.code : Code := (Tryz.f64.body).getD .skip
def straitref16_Net_Near.ann : Ann := (.two .auto (.two .auto (.two (.two .auto (.two (.loop 0 [1, 2, 5, 6] [(2, [5])] .auto) .auto)) .auto)))
noncomputable def straitref16_Net_Near.c0 : Code := sub straitref16_Net_Near.code [1, 1, 0, 1, 0, 0]
def straitref16_Net_Near.a0 : Ann := .auto
def straitref16_Net_Near.keep0 : List Nat := [1, 2, 5, 6]
def straitref16_Net_Near.outs0 : List (Nat × List Nat) := [(2, [5])]
set_option maxRecDepth 100000 in
theorem straitref16_Net_Near.L0 [DKc] : LoopOK straitref16_Net_Near.ctx 23 straitref16_Net_Near.c0 0 straitref16_Net_Near.keep0 straitref16_Net_Near.outs0 := by
  refine loop_ok (n := straitref16_Net_Near.a0) straitref16_Net_Near.ok (by kernel_rfl) (loops_ok (l := []) (by kernel_rfl) ?_) straitref16_Net_Near.r0 ?_ ?_ (fun vs h K hh => hh)
  · exact trivial
  · intro K vs h hh
    unfold straitref16_Net_Near.r0 at hh
    split at hh
    · exact hh
    · exact hh
  · intro K m vs h hh
    unfold straitref16_Net_Near.r0 at hh
    split at hh
    · exact cast (by kernel_rfl) hh
    · exact hh.elim
set_option maxRecDepth 100000 in
theorem straitref16_Net_Near.eq (a1 : Int) (a2 : Option Addr) (a2l : Nat) (a2c : Nat) (a3 : Int) (h : Heap) (K : (Option Addr) → Nat → Nat → Heap → Prop) : evF straitref16_Net_Near.ctx Tryz.f64 straitref16_Net_Near.ann [(.agg #[(.int .i64 a1), (.slice a2 a2l a2c)]), (.int .i64 a3)] h (straitref16_Net_Near.ret K) = straitref16_Net_Near a1 a2 a2l a2c a3 h K := by kernel_rfl
set_option maxRecDepth 100000 in
theorem straitref16_Net_Near.calls [DKc] {a1 : Int} {a2 : Option Addr} {a2l : Nat} {a2c : Nat} {a3 : Int} {h : Heap} {K : (Option Addr) → Nat → Nat → Heap → Prop} (hh : straitref16_Net_Near a1 a2 a2l a2c a3 h K) (w : World) (hw : w.heap = h) :
    (callFunc 64 #[(.agg #[(.int .i64 a1), (.slice a2 a2l a2c)]), (.int .i64 a3)]).run Tryz.prog w = .ok (.enter 64 #[(.agg #[(.int .i64 a1), (.slice a2 a2l a2c)]), (.int .i64 a3)]) w ∧ Calls Tryz.prog 64 #[(.agg #[(.int .i64 a1), (.slice a2 a2l a2c)]), (.int .i64 a3)] w fun e w' => ∃ v, e = .returned v ∧ Out w w' ∧ straitref16_Net_Near.ret K v w'.heap := by
  rw [← straitref16_Net_Near.eq] at hh
  exact fn_calls (args := [(.agg #[(.int .i64 a1), (.slice a2 a2l a2c)]), (.int .i64 a3)]) (c := straitref16_Net_Near.code) straitref16_Net_Near.ok Tryz.func64 (by kernel_rfl) (by kernel_rfl) (by kernel_rfl) (by kernel_rfl) (loops_ok (l := [(straitref16_Net_Near.c0, none, 0, straitref16_Net_Near.keep0, straitref16_Net_Near.outs0)]) (by kernel_rfl) ⟨straitref16_Net_Near.L0, trivial⟩) hh w hw

/-! ### strait/straitref18.Dot: function 29 -/
section
variable [DKc]
def straitref18_Dot.b1 (K4 : ByteArray → Heap → Prop) (cont : Addr → ByteArray → Int → Heap → Prop) (c1_2001 : Addr) (v3_2002 : ByteArray) (v5_2003 : Int) (h2004 : Heap) : Prop :=
  ∃ (x2005 : Option Addr) (x2005l : Nat) (x2005c : Nat), cell h2004 (c1_2001.add 1) = some (.slice x2005 x2005l x2005c) ∧ (iteB (decide (v5_2003 < (x2005l : Int))) ((∃ (x2006 : Option Addr) (x2006l : Nat) (x2006c : Nat), cell h2004 (c1_2001.add 1) = some (.slice x2006 x2006l x2006c) ∧ chkP x2006 fun a2007 => (0 ≤ v5_2003 ∧ v5_2003 < (x2006l : Int)) ∧ ∃ (x2008 : Int), cell h2004 (a2007.add (v5_2003.toNat * 3)) = some (.int .i64 x2008) ∧ ∃ (x2009 : Int), cell h2004 ((a2007.add (v5_2003.toNat * 3)).add 1) = some (.int .i64 x2009) ∧ ∃ (x2010 : Int), cell h2004 ((a2007.add (v5_2003.toNat * 3)).add 2) = some (.int .i64 x2010) ∧ newP h2004 (.cells #[(.int .i64 0), (.int .i64 0), (.int .i64 0)] 27) fun a2011 h2012 => stC h2012 a2011 (.int .i64 x2008) fun h2013 => stC h2013 (a2011.add 1) (.int .i64 x2009) fun h2014 => stC h2014 (a2011.add 2) (.int .i64 x2010) fun h2015 => (∃ (x2016 : Int), cell h2015 a2011 = some (.int .i64 x2016) ∧ ∃ (x2017 : Int), cell h2015 (a2011.add 1) = some (.int .i64 x2017) ∧ ∃ (x2018 : Int), cell h2015 (a2011.add 2) = some (.int .i64 x2018) ∧ callP1 (straitref06_Print x2016 h2015) fun x2019 h2020 => (∃ (x2021 : Int), cell h2020 (a2011.add 2) = some (.int .i64 x2021) ∧ ((.int .i64 x2021) : Value) = (.int .i64 x2018)) ∧ (∃ (x2022 : Int), cell h2020 (a2011.add 1) = some (.int .i64 x2022) ∧ ((.int .i64 x2022) : Value) = (.int .i64 x2017)) ∧ (((v3_2002.size + x2019.size : Nat) : Int) ≤ 9223372036854775807) ∧ ((((v3_2002 ++ x2019).size + (⟨#[32, 45, 45, 32]⟩ : ByteArray).size : Nat) : Int) ≤ 9223372036854775807) ∧ callP1 (straitref06_Print x2017 h2020) fun x2023 h2024 => (∃ (x2025 : Int), cell h2024 (a2011.add 2) = some (.int .i64 x2025) ∧ ((.int .i64 x2025) : Value) = (.int .i64 x2018)) ∧ (((((v3_2002 ++ x2019) ++ (⟨#[32, 45, 45, 32]⟩ : ByteArray)).size + x2023.size : Nat) : Int) ≤ 9223372036854775807) ∧ ((((((v3_2002 ++ x2019) ++ (⟨#[32, 45, 45, 32]⟩ : ByteArray)) ++ x2023).size + (⟨#[32, 91]⟩ : ByteArray).size : Nat) : Int) ≤ 9223372036854775807) ∧ callP1 (straitref06_Print x2018 h2024) fun x2026 h2027 => (((((((v3_2002 ++ x2019) ++ (⟨#[32, 45, 45, 32]⟩ : ByteArray)) ++ x2023) ++ (⟨#[32, 91]⟩ : ByteArray)).size + x2026.size : Nat) : Int) ≤ 9223372036854775807) ∧ ((((((((v3_2002 ++ x2019) ++ (⟨#[32, 45, 45, 32]⟩ : ByteArray)) ++ x2023) ++ (⟨#[32, 91]⟩ : ByteArray)) ++ x2026).size + (⟨#[93, 59, 10]⟩ : ByteArray).size : Nat) : Int) ≤ 9223372036854775807) ∧ ((cont c1_2001 ((((((v3_2002 ++ x2019) ++ (⟨#[32, 45, 45, 32]⟩ : ByteArray)) ++ x2023) ++ (⟨#[32, 91]⟩ : ByteArray)) ++ x2026) ++ (⟨#[93, 59, 10]⟩ : ByteArray)) (IntKind.i64.wrap (v5_2003 + 1)) h2027))))) (K4 v3_2002 h2004))
def straitref18_Dot.l1 (K4 : ByteArray → Heap → Prop) : Nat → Addr → ByteArray → Int → Heap → Prop
  | 0, _, _, _, _ => False
  | m + 1, c1_2001, v3_2002, v5_2003, h => straitref18_Dot.b1 K4 (straitref18_Dot.l1 K4 m) c1_2001 v3_2002 v5_2003 h
def straitref18_Dot.b0 (K2 : ByteArray → Heap → Prop) (cont : Addr → ByteArray → Int → Heap → Prop) (c1_1001 : Addr) (v3_1002 : ByteArray) (v4_1003 : Int) (h1004 : Heap) : Prop :=
  ∃ (x1005 : Int), cell h1004 c1_1001 = some (.int .i64 x1005) ∧ (iteB (decide (v4_1003 < x1005)) ((∃ (x1006 : Int), cell h1004 c1_1001 = some (.int .i64 x1006) ∧ ∃ (x1007 : Option Addr) (x1007l : Nat) (x1007c : Nat), cell h1004 (c1_1001.add 1) = some (.slice x1007 x1007l x1007c) ∧ callP3 (straitref16_Net_Near x1006 x1007 x1007l x1007c v4_1003 h1004) fun x1008 x1008l x1008c h1009 => (iteB ((x1008l : Int) == (0 : Int)) (callP1 (straitref06_Print v4_1003 h1009) fun x1010 h1011 => (((v3_1002.size + x1010.size : Nat) : Int) ≤ 9223372036854775807) ∧ ((((v3_1002 ++ x1010).size + (⟨#[59, 10]⟩ : ByteArray).size : Nat) : Int) ≤ 9223372036854775807) ∧ ((cont c1_1001 ((v3_1002 ++ x1010) ++ (⟨#[59, 10]⟩ : ByteArray)) (IntKind.i64.wrap (v4_1003 + 1)) h1011))) (((cont c1_1001 v3_1002 (IntKind.i64.wrap (v4_1003 + 1)) h1009)))))) (K2 v3_1002 h1004))
def straitref18_Dot.l0 (K2 : ByteArray → Heap → Prop) : Nat → Addr → ByteArray → Int → Heap → Prop
  | 0, _, _, _, _ => False
  | m + 1, c1_1001, v3_1002, v4_1003, h => straitref18_Dot.b0 K2 (straitref18_Dot.l0 K2 m) c1_1001 v3_1002 v4_1003 h
def straitref18_Dot (a1 : Int) (a2 : Option Addr) (a2l : Nat) (a2c : Nat) (h : Heap) (K : ByteArray → Heap → Prop) : Prop :=
  newP h (.cells #[(.int .i64 a1), (.slice a2 a2l a2c)] 43) fun a3 h4 => (((∃ m7, straitref18_Dot.l0 (fun z5 h6 => (((∃ m10, straitref18_Dot.l1 (fun z8 h9 => (((((z8.size + (⟨#[125, 10]⟩ : ByteArray).size : Nat) : Int) ≤ 9223372036854775807) ∧ (K (z8 ++ (⟨#[125, 10]⟩ : ByteArray)) h9)))) m10 a3 z5 0 h6)))) m7 a3 (⟨#[103, 114, 97, 112, 104, 32, 123, 10]⟩ : ByteArray) 0 h4)))
def straitref18_Dot.ret (K : ByteArray → Heap → Prop) (v : Value) (h : Heap) : Prop := match v with
  | (.string r11) => K r11 h
  | _ => False
theorem straitref18_Dot.ret_elim {K : ByteArray → Heap → Prop} {K' : Value → Heap → Prop} {v : Value} {h : Heap} (hk : ∀ r11 h, K r11 h → K' (.string r11) h) (hh : straitref18_Dot.ret K v h) : K' v h := by
  unfold straitref18_Dot.ret at hh
  split at hh
  · exact hk _ _ hh
  · exact hh.elim
def straitref18_Dot.call (f : FuncId) (vs : List Value) (h : Heap) (K : Value → Heap → Prop) : Prop := match f, vs with
  | 64, [(.agg ⟨[(.int .i64 a1), (.slice a2 a2l a2c)]⟩), (.int .i64 a3)] => callP3 (straitref16_Net_Near a1 a2 a2l a2c a3 h) fun r9 r9l r9c h' => K (.slice r9 r9l r9c) h'
  | 65, [(.int .i64 a1)] => callP1 (straitref06_Print a1 h) fun r8 h' => K (.string r8) h'
  | _, _ => False
def straitref18_Dot.r0 (K : Nat → List Value → Heap → Prop) (m : Nat) (vs : List Value) (h : Heap) : Prop := match vs with
  | [(.pointer (some c1_1001)), (.string v3_1002), (.int .i64 v4_1003)] => straitref18_Dot.l0 (fun z12 h' => K 2 [(.pointer (some c1_1001)), (.string z12)] h') m c1_1001 v3_1002 v4_1003 h
  | _ => False
def straitref18_Dot.r1 (K : Nat → List Value → Heap → Prop) (m : Nat) (vs : List Value) (h : Heap) : Prop := match vs with
  | [(.pointer (some c1_2001)), (.string v3_2002), (.int .i64 v5_2003)] => straitref18_Dot.l1 (fun z13 h' => K 4 [(.string z13)] h') m c1_2001 v3_2002 v5_2003 h
  | _ => False
def straitref18_Dot.loop (i : Nat) (vs : List Value) (h : Heap) (K : Nat → List Value → Heap → Prop) : Prop := match i with
  | 0 => ∃ m, straitref18_Dot.r0 K m vs h
  | 1 => ∃ m, straitref18_Dot.r1 K m vs h
  | _ => False
noncomputable def straitref18_Dot.ctx : Ctx := { P := Tryz.prog, call := straitref18_Dot.call, qcall := fun _ _ _ _ => False, quiet := fun f => Nat.beq f 1000138 || Nat.beq f 2000157, loop := straitref18_Dot.loop }
theorem straitref18_Dot.ok : straitref18_Dot.ctx.OK where
  mixed := by kernel_rfl
  mono := by
    intro f args h K K' hh hk
    change straitref18_Dot.call f args h K at hh
    change straitref18_Dot.call f args h K'
    unfold straitref18_Dot.call at hh ⊢
    split at hh
    · obtain ⟨R, h1, h2⟩ := hh
      exact ⟨R, h1, fun _ _ _ x hr => hk _ _ (h2 _ _ _ x hr)⟩
    · obtain ⟨R, h1, h2⟩ := hh
      exact ⟨R, h1, fun _ x hr => hk _ _ (h2 _ x hr)⟩
    · exact hh.elim
  call := by
    intro f args h K hh w hw
    change straitref18_Dot.call f args h K at hh
    unfold straitref18_Dot.call at hh
    split at hh
    · obtain ⟨R, h1, h2⟩ := hh
      obtain ⟨g1, g2⟩ := straitref16_Net_Near.calls h1 w hw
      exact ⟨g1, g2.mono fun e w' ⟨v, he, ho, hr⟩ => ⟨v, he, ho, straitref16_Net_Near.ret_elim h2 hr⟩⟩
    · obtain ⟨R, h1, h2⟩ := hh
      obtain ⟨g1, g2⟩ := straitref06_Print.calls h1 w hw
      exact ⟨g1, g2.mono fun e w' ⟨v, he, ho, hr⟩ => ⟨v, he, ho, straitref06_Print.ret_elim h2 hr⟩⟩
    · exact hh.elim
  qmono := fun hh _ => hh.elim
  qval := fun hh => hh.elim
  qcall := fun hh => hh.elim
noncomputable def straitref18_Dot.code : Code := (Tryz.f29.body).getD .skip
def straitref18_Dot.ann : Ann := (.two .auto (.two .auto (.two (.two .auto (.two (.loop 0 [1, 3, 4] [(2, [1, 3])] .auto) .auto)) (.two (.two .auto (.two (.loop 1 [1, 3, 5] [(4, [3])] (.two .auto (.two (.two (.two .auto (.reg [0, 0, 2, 6, 15, 31, 0, 64, 206, 511, 1023, 0, 2048, 6606, 16383, 32767, 65535] (.take 0 (.take 1 (.take 2 (.take 6 (.take 11 (.early 7 (.early 12 (.alt 3 (.take 4 (.take 5 (.alt 8 (.take 9 (.take 10 (.alt 13 (.take 14 (.take 15 (.take 16 .done))) .noalt))) .noalt))) .noalt)))))))))) .auto) .auto))) .auto)) .auto))))
noncomputable def straitref18_Dot.c1 : Code := sub straitref18_Dot.code [1, 1, 1, 0, 1, 0, 0]
def straitref18_Dot.a1 : Ann := (.two .auto (.two (.two (.two .auto (.reg [0, 0, 2, 6, 15, 31, 0, 64, 206, 511, 1023, 0, 2048, 6606, 16383, 32767, 65535] (.take 0 (.take 1 (.take 2 (.take 6 (.take 11 (.early 7 (.early 12 (.alt 3 (.take 4 (.take 5 (.alt 8 (.take 9 (.take 10 (.alt 13 (.take 14 (.take 15 (.take 16 .done))) .noalt))) .noalt))) .noalt)))))))))) .auto) .auto))
def straitref18_Dot.keep1 : List Nat := [1, 3, 5]
def straitref18_Dot.outs1 : List (Nat × List Nat) := [(4, [3])]
noncomputable def straitref18_Dot.c0 : Code := sub straitref18_Dot.code [1, 1, 0, 1, 0, 0]
def straitref18_Dot.a0 : Ann := .auto
def straitref18_Dot.keep0 : List Nat := [1, 3, 4]
def straitref18_Dot.outs0 : List (Nat × List Nat) := [(2, [1, 3])]
set_option maxRecDepth 100000 in
theorem straitref18_Dot.L0 : LoopOK straitref18_Dot.ctx 53 straitref18_Dot.c0 0 straitref18_Dot.keep0 straitref18_Dot.outs0 := by
  refine loop_ok (n := straitref18_Dot.a0) straitref18_Dot.ok (by kernel_rfl) (loops_ok (l := []) (by kernel_rfl) ?_) straitref18_Dot.r0 ?_ ?_ (fun vs h K hh => hh)
  · exact trivial
  · intro K vs h hh
    unfold straitref18_Dot.r0 at hh
    split at hh
    · exact hh
    · exact hh
  · intro K m vs h hh
    unfold straitref18_Dot.r0 at hh
    split at hh
    · exact cast (by kernel_rfl) hh
    · exact hh.elim
set_option maxRecDepth 100000 in
theorem straitref18_Dot.L1 : LoopOK straitref18_Dot.ctx 53 straitref18_Dot.c1 1 straitref18_Dot.keep1 straitref18_Dot.outs1 := by
  refine loop_ok (n := straitref18_Dot.a1) straitref18_Dot.ok (by kernel_rfl) (loops_ok (l := []) (by kernel_rfl) ?_) straitref18_Dot.r1 ?_ ?_ (fun vs h K hh => hh)
  · exact trivial
  · intro K vs h hh
    unfold straitref18_Dot.r1 at hh
    split at hh
    · exact hh
    · exact hh
  · intro K m vs h hh
    unfold straitref18_Dot.r1 at hh
    split at hh
    · exact cast (by kernel_rfl) hh
    · exact hh.elim
set_option maxRecDepth 100000 in
theorem straitref18_Dot.eq (a1 : Int) (a2 : Option Addr) (a2l : Nat) (a2c : Nat) (h : Heap) (K : ByteArray → Heap → Prop) : evF straitref18_Dot.ctx Tryz.f29 straitref18_Dot.ann [(.agg #[(.int .i64 a1), (.slice a2 a2l a2c)])] h (straitref18_Dot.ret K) = straitref18_Dot a1 a2 a2l a2c h K := by kernel_rfl
set_option maxRecDepth 100000 in
theorem straitref18_Dot.calls {a1 : Int} {a2 : Option Addr} {a2l : Nat} {a2c : Nat} {h : Heap} {K : ByteArray → Heap → Prop} (hh : straitref18_Dot a1 a2 a2l a2c h K) (w : World) (hw : w.heap = h) :
    (callFunc 29 #[(.agg #[(.int .i64 a1), (.slice a2 a2l a2c)])]).run Tryz.prog w = .ok (.enter 29 #[(.agg #[(.int .i64 a1), (.slice a2 a2l a2c)])]) w ∧ Calls Tryz.prog 29 #[(.agg #[(.int .i64 a1), (.slice a2 a2l a2c)])] w fun e w' => ∃ v, e = .returned v ∧ Out w w' ∧ straitref18_Dot.ret K v w'.heap := by
  rw [← straitref18_Dot.eq] at hh
  exact fn_calls (args := [(.agg #[(.int .i64 a1), (.slice a2 a2l a2c)])]) (c := straitref18_Dot.code) straitref18_Dot.ok Tryz.func29 (by kernel_rfl) (by kernel_rfl) (by kernel_rfl) (by kernel_rfl) (loops_ok (l := [(straitref18_Dot.c0, none, 0, straitref18_Dot.keep0, straitref18_Dot.outs0), (straitref18_Dot.c1, none, 1, straitref18_Dot.keep1, straitref18_Dot.outs1)]) (by kernel_rfl) ⟨straitref18_Dot.L0, straitref18_Dot.L1, trivial⟩) hh w hw
end

/-! ### strait/straitref18.Rows: function 30 -/
section
variable [DKc]
def straitref18_Rows.b1 (K4 : (Option Addr) → Nat → Nat → Heap → Prop) (cont : Addr → ByteArray → Int → (Option Addr) → Nat → Nat → Int → Heap → Prop) (c1_2001 : Addr) (c3_2002 : ByteArray) (c4_2003 : Int) (v5_2004 : Option Addr) (v5_2004l : Nat) (v5_2004c : Nat) (v6_2005 : Int) (h2006 : Heap) : Prop :=
  ∃ (x2007 : Int), cell h2006 c1_2001 = some (.int .i64 x2007) ∧ (iteB (decide (v6_2005 < x2007)) ((∃ (x2008 : Int), cell h2006 c1_2001 = some (.int .i64 x2008) ∧ ∃ (x2009 : Option Addr) (x2009l : Nat) (x2009c : Nat), cell h2006 (c1_2001.add 1) = some (.slice x2009 x2009l x2009c) ∧ callP1 (straitref16_Net_Weight x2008 x2009 x2009l x2009c c4_2003 v6_2005 h2006) fun x2010 h2011 => newP h2011 (.cells #[(.int .i64 x2010)] 2) fun a2012 h2013 => ∃ n2018, cellsAt h2013 (some a2012) (1 * 1) n2018 ∧ appP 2 1 8 [(.int .i64 0)] v5_2004 v5_2004l v5_2004c 1 n2018 h2013 fun q2014 l2015 c2016 h2017 => ((cont c1_2001 c3_2002 c4_2003 q2014 l2015 c2016 (IntKind.i64.wrap (v6_2005 + 1)) h2017)))) (K4 v5_2004 v5_2004l v5_2004c h2006))
def straitref18_Rows.l1 (K4 : (Option Addr) → Nat → Nat → Heap → Prop) : Nat → Addr → ByteArray → Int → (Option Addr) → Nat → Nat → Int → Heap → Prop
  | 0, _, _, _, _, _, _, _, _ => False
  | m + 1, c1_2001, c3_2002, c4_2003, v5_2004, v5_2004l, v5_2004c, v6_2005, h => straitref18_Rows.b1 K4 (straitref18_Rows.l1 K4 m) c1_2001 c3_2002 c4_2003 v5_2004 v5_2004l v5_2004c v6_2005 h
def straitref18_Rows.b0 (K2 : ByteArray → Heap → Prop) (cont : Addr → ByteArray → Int → Heap → Prop) (c1_1001 : Addr) (v3_1002 : ByteArray) (v4_1003 : Int) (h1004 : Heap) : Prop :=
  ∃ (x1005 : Int), cell h1004 c1_1001 = some (.int .i64 x1005) ∧ (iteB (decide (v4_1003 < x1005)) ((((∃ m1008, straitref18_Rows.l1 (fun z1006 z1006l z1006c h1007 => ((callP1 (straitref06_List z1006 z1006l z1006c h1007) fun x1009 h1010 => (((v3_1002.size + x1009.size : Nat) : Int) ≤ 9223372036854775807) ∧ ((((v3_1002 ++ x1009).size + (⟨#[10]⟩ : ByteArray).size : Nat) : Int) ≤ 9223372036854775807) ∧ ((cont c1_1001 ((v3_1002 ++ x1009) ++ (⟨#[10]⟩ : ByteArray)) (IntKind.i64.wrap (v4_1003 + 1)) h1010))))) m1008 c1_1001 v3_1002 v4_1003 none 0 0 0 h1004)))) (K2 v3_1002 h1004))
def straitref18_Rows.l0 (K2 : ByteArray → Heap → Prop) : Nat → Addr → ByteArray → Int → Heap → Prop
  | 0, _, _, _, _ => False
  | m + 1, c1_1001, v3_1002, v4_1003, h => straitref18_Rows.b0 K2 (straitref18_Rows.l0 K2 m) c1_1001 v3_1002 v4_1003 h
def straitref18_Rows (a1 : Int) (a2 : Option Addr) (a2l : Nat) (a2c : Nat) (h : Heap) (K : ByteArray → Heap → Prop) : Prop :=
  newP h (.cells #[(.int .i64 a1), (.slice a2 a2l a2c)] 43) fun a3 h4 => (((∃ m7, straitref18_Rows.l0 (fun z5 h6 => (K z5 h6)) m7 a3 (⟨#[]⟩ : ByteArray) 0 h4)))
def straitref18_Rows.ret (K : ByteArray → Heap → Prop) (v : Value) (h : Heap) : Prop := match v with
  | (.string r8) => K r8 h
  | _ => False
theorem straitref18_Rows.ret_elim {K : ByteArray → Heap → Prop} {K' : Value → Heap → Prop} {v : Value} {h : Heap} (hk : ∀ r8 h, K r8 h → K' (.string r8) h) (hh : straitref18_Rows.ret K v h) : K' v h := by
  unfold straitref18_Rows.ret at hh
  split at hh
  · exact hk _ _ hh
  · exact hh.elim
def straitref18_Rows.call (f : FuncId) (vs : List Value) (h : Heap) (K : Value → Heap → Prop) : Prop := match f, vs with
  | 66, [(.agg ⟨[(.int .i64 a1), (.slice a2 a2l a2c)]⟩), (.int .i64 a3), (.int .i64 a4)] => callP1 (straitref16_Net_Weight a1 a2 a2l a2c a3 a4 h) fun r11 h' => K (.int .i64 r11) h'
  | 67, [(.slice a1 a1l a1c)] => callP1 (straitref06_List a1 a1l a1c h) fun r5 h' => K (.string r5) h'
  | _, _ => False
def straitref18_Rows.r0 (K : Nat → List Value → Heap → Prop) (m : Nat) (vs : List Value) (h : Heap) : Prop := match vs with
  | [(.pointer (some c1_1001)), (.string v3_1002), (.int .i64 v4_1003)] => straitref18_Rows.l0 (fun z9 h' => K 2 [(.string z9)] h') m c1_1001 v3_1002 v4_1003 h
  | _ => False
def straitref18_Rows.r1 (K : Nat → List Value → Heap → Prop) (m : Nat) (vs : List Value) (h : Heap) : Prop := match vs with
  | [(.pointer (some c1_2001)), (.string c3_2002), (.int .i64 c4_2003), (.slice v5_2004 v5_2004l v5_2004c), (.int .i64 v6_2005)] => straitref18_Rows.l1 (fun z10 z10l z10c h' => K 4 [(.pointer (some c1_2001)), (.string c3_2002), (.int .i64 c4_2003), (.slice z10 z10l z10c)] h') m c1_2001 c3_2002 c4_2003 v5_2004 v5_2004l v5_2004c v6_2005 h
  | _ => False
def straitref18_Rows.loop (i : Nat) (vs : List Value) (h : Heap) (K : Nat → List Value → Heap → Prop) : Prop := match i with
  | 0 => ∃ m, straitref18_Rows.r0 K m vs h
  | 1 => ∃ m, straitref18_Rows.r1 K m vs h
  | _ => False
noncomputable def straitref18_Rows.ctx : Ctx := { P := Tryz.prog, call := straitref18_Rows.call, qcall := fun _ _ _ _ => False, quiet := fun f => Nat.beq f 1000138 || Nat.beq f 2000157, loop := straitref18_Rows.loop }
theorem straitref18_Rows.ok : straitref18_Rows.ctx.OK where
  mixed := by kernel_rfl
  mono := by
    intro f args h K K' hh hk
    change straitref18_Rows.call f args h K at hh
    change straitref18_Rows.call f args h K'
    unfold straitref18_Rows.call at hh ⊢
    split at hh
    · obtain ⟨R, h1, h2⟩ := hh
      exact ⟨R, h1, fun _ x hr => hk _ _ (h2 _ x hr)⟩
    · obtain ⟨R, h1, h2⟩ := hh
      exact ⟨R, h1, fun _ x hr => hk _ _ (h2 _ x hr)⟩
    · exact hh.elim
  call := by
    intro f args h K hh w hw
    change straitref18_Rows.call f args h K at hh
    unfold straitref18_Rows.call at hh
    split at hh
    · obtain ⟨R, h1, h2⟩ := hh
      obtain ⟨g1, g2⟩ := straitref16_Net_Weight.calls h1 w hw
      exact ⟨g1, g2.mono fun e w' ⟨v, he, ho, hr⟩ => ⟨v, he, ho, straitref16_Net_Weight.ret_elim h2 hr⟩⟩
    · obtain ⟨R, h1, h2⟩ := hh
      obtain ⟨g1, g2⟩ := straitref06_List.calls h1 w hw
      exact ⟨g1, g2.mono fun e w' ⟨v, he, ho, hr⟩ => ⟨v, he, ho, straitref06_List.ret_elim h2 hr⟩⟩
    · exact hh.elim
  qmono := fun hh _ => hh.elim
  qval := fun hh => hh.elim
  qcall := fun hh => hh.elim
noncomputable def straitref18_Rows.code : Code := (Tryz.f30.body).getD .skip
def straitref18_Rows.ann : Ann := (.two .auto (.two .auto (.two (.two .auto (.two (.loop 0 [1, 3, 4] [(2, [3])] (.two .auto (.two (.two (.two .auto (.two (.two .auto (.two (.loop 1 [1, 3, 4, 5, 6] [(4, [1, 3, 4, 5])] .auto) .auto)) .auto)) .auto) .auto))) .auto)) .auto)))
noncomputable def straitref18_Rows.c1 : Code := sub straitref18_Rows.code [1, 1, 0, 1, 0, 0, 1, 0, 0, 1, 0, 1, 0, 0]
def straitref18_Rows.a1 : Ann := .auto
def straitref18_Rows.keep1 : List Nat := [1, 3, 4, 5, 6]
def straitref18_Rows.outs1 : List (Nat × List Nat) := [(4, [1, 3, 4, 5])]
noncomputable def straitref18_Rows.c0 : Code := sub straitref18_Rows.code [1, 1, 0, 1, 0, 0]
def straitref18_Rows.a0 : Ann := (.two .auto (.two (.two (.two .auto (.two (.two .auto (.two (.loop 1 [1, 3, 4, 5, 6] [(4, [1, 3, 4, 5])] .auto) .auto)) .auto)) .auto) .auto))
def straitref18_Rows.keep0 : List Nat := [1, 3, 4]
def straitref18_Rows.outs0 : List (Nat × List Nat) := [(2, [3])]
set_option maxRecDepth 100000 in
theorem straitref18_Rows.L1 : LoopOK straitref18_Rows.ctx 32 straitref18_Rows.c1 1 straitref18_Rows.keep1 straitref18_Rows.outs1 := by
  refine loop_ok (n := straitref18_Rows.a1) straitref18_Rows.ok (by kernel_rfl) (loops_ok (l := []) (by kernel_rfl) ?_) straitref18_Rows.r1 ?_ ?_ (fun vs h K hh => hh)
  · exact trivial
  · intro K vs h hh
    unfold straitref18_Rows.r1 at hh
    split at hh
    · exact hh
    · exact hh
  · intro K m vs h hh
    unfold straitref18_Rows.r1 at hh
    split at hh
    · exact cast (by kernel_rfl) hh
    · exact hh.elim
set_option maxRecDepth 100000 in
theorem straitref18_Rows.L0 : LoopOK straitref18_Rows.ctx 32 straitref18_Rows.c0 0 straitref18_Rows.keep0 straitref18_Rows.outs0 := by
  refine loop_ok (n := straitref18_Rows.a0) straitref18_Rows.ok (by kernel_rfl) (loops_ok (l := [(straitref18_Rows.c1, none, 1, straitref18_Rows.keep1, straitref18_Rows.outs1)]) (by kernel_rfl) ?_) straitref18_Rows.r0 ?_ ?_ (fun vs h K hh => hh)
  · exact ⟨straitref18_Rows.L1, trivial⟩
  · intro K vs h hh
    unfold straitref18_Rows.r0 at hh
    split at hh
    · exact hh
    · exact hh
  · intro K m vs h hh
    unfold straitref18_Rows.r0 at hh
    split at hh
    · exact cast (by kernel_rfl) hh
    · exact hh.elim
set_option maxRecDepth 100000 in
theorem straitref18_Rows.eq (a1 : Int) (a2 : Option Addr) (a2l : Nat) (a2c : Nat) (h : Heap) (K : ByteArray → Heap → Prop) : evF straitref18_Rows.ctx Tryz.f30 straitref18_Rows.ann [(.agg #[(.int .i64 a1), (.slice a2 a2l a2c)])] h (straitref18_Rows.ret K) = straitref18_Rows a1 a2 a2l a2c h K := by kernel_rfl
set_option maxRecDepth 100000 in
theorem straitref18_Rows.calls {a1 : Int} {a2 : Option Addr} {a2l : Nat} {a2c : Nat} {h : Heap} {K : ByteArray → Heap → Prop} (hh : straitref18_Rows a1 a2 a2l a2c h K) (w : World) (hw : w.heap = h) :
    (callFunc 30 #[(.agg #[(.int .i64 a1), (.slice a2 a2l a2c)])]).run Tryz.prog w = .ok (.enter 30 #[(.agg #[(.int .i64 a1), (.slice a2 a2l a2c)])]) w ∧ Calls Tryz.prog 30 #[(.agg #[(.int .i64 a1), (.slice a2 a2l a2c)])] w fun e w' => ∃ v, e = .returned v ∧ Out w w' ∧ straitref18_Rows.ret K v w'.heap := by
  rw [← straitref18_Rows.eq] at hh
  exact fn_calls (args := [(.agg #[(.int .i64 a1), (.slice a2 a2l a2c)])]) (c := straitref18_Rows.code) straitref18_Rows.ok Tryz.func30 (by kernel_rfl) (by kernel_rfl) (by kernel_rfl) (by kernel_rfl) (loops_ok (l := [(straitref18_Rows.c0, none, 0, straitref18_Rows.keep0, straitref18_Rows.outs0)]) (by kernel_rfl) ⟨straitref18_Rows.L0, trivial⟩) hh w hw
end

/-! ### strait/straitlaw18.GprintTells: function 7 -/
section
variable [DKc]
def straitlaw18_GprintTells (a1 : Int) (a2 : Option Addr) (a2l : Nat) (a2c : Nat) (h : Heap) (K : Bool → Heap → Prop) : Prop :=
  ((iteB (decide ((a2l : Int) > (100 : Int))) (callP1 (straitlaw18_awake h) fun x3 h4 => K x3 h4) ((callP3 (net_New (IntKind.i64.wrap a1) a2 a2l a2c h) fun x5 x6 x7 h8 => ((iteB (x6 != (0 : Int)) (callP1 (gprint_Print none h8) fun x9 h10 => iteB (x9.toList == (⟨#[]⟩ : ByteArray).toList) (callP1 (gprint_Dot none h10) fun x11 h12 => iteB (x11.toList == (⟨#[]⟩ : ByteArray).toList) (callP1 (gprint_Rows none h12) fun x13 h14 => iteB (x13.toList == (⟨#[]⟩ : ByteArray).toList) (callP1 (straitlaw18_awake h14) fun x15 h16 => K x15 h16) (K false h14)) (K false h12)) (K false h10)) ((callP6 (straitref16_New (IntKind.i64.wrap a1) a2 a2l a2c h8) fun x19 x20 x20l x20c x21 x22 h23 => newP h23 (.cells #[(.int .i64 0), (.slice none 0 0)] 43) fun a24 h25 => stC h25 a24 (.int .i64 x19) fun h26 => stC h26 (a24.add 1) (.slice x20 x20l x20c) fun h27 => (∃ (x28 : Int), cell h27 a24 = some (.int .i64 x28) ∧ ∃ (x29 : Option Addr) (x29l : Nat) (x29c : Nat), cell h27 (a24.add 1) = some (.slice x29 x29l x29c) ∧ callP1 (gprint_Print x5 h27) fun x30 h31 => (∃ (x32 : Int), cell h31 a24 = some (.int .i64 x32) ∧ ∃ (x33 : Option Addr) (x33l : Nat) (x33c : Nat), cell h31 (a24.add 1) = some (.slice x33 x33l x33c) ∧ ((.agg #[(.int .i64 x32), (.slice x33 x33l x33c)]) : Value) = (.agg #[(.int .i64 x28), (.slice x29 x29l x29c)])) ∧ callP1 (straitref18_Print x28 x29 x29l x29c h31) fun x34 h35 => iteB (x30.toList == x34.toList) (∃ (x36 : Int), cell h35 a24 = some (.int .i64 x36) ∧ ∃ (x37 : Option Addr) (x37l : Nat) (x37c : Nat), cell h35 (a24.add 1) = some (.slice x37 x37l x37c) ∧ callP1 (gprint_Dot x5 h35) fun x38 h39 => (∃ (x40 : Int), cell h39 a24 = some (.int .i64 x40) ∧ ∃ (x41 : Option Addr) (x41l : Nat) (x41c : Nat), cell h39 (a24.add 1) = some (.slice x41 x41l x41c) ∧ ((.agg #[(.int .i64 x40), (.slice x41 x41l x41c)]) : Value) = (.agg #[(.int .i64 x36), (.slice x37 x37l x37c)])) ∧ callP1 (straitref18_Dot x36 x37 x37l x37c h39) fun x42 h43 => iteB (x38.toList == x42.toList) (∃ (x44 : Int), cell h43 a24 = some (.int .i64 x44) ∧ ∃ (x45 : Option Addr) (x45l : Nat) (x45c : Nat), cell h43 (a24.add 1) = some (.slice x45 x45l x45c) ∧ callP1 (gprint_Rows x5 h43) fun x46 h47 => (∃ (x48 : Int), cell h47 a24 = some (.int .i64 x48) ∧ ∃ (x49 : Option Addr) (x49l : Nat) (x49c : Nat), cell h47 (a24.add 1) = some (.slice x49 x49l x49c) ∧ ((.agg #[(.int .i64 x48), (.slice x49 x49l x49c)]) : Value) = (.agg #[(.int .i64 x44), (.slice x45 x45l x45c)])) ∧ callP1 (straitref18_Rows x44 x45 x45l x45c h47) fun x50 h51 => iteB (x46.toList == x50.toList) (callP1 (straitlaw18_awake h51) fun x52 h53 => K x52 h53) (K false h51)) (True ∧ K false h43)) (True ∧ True ∧ K false h35))))))))))
def straitlaw18_GprintTells.ret (K : Bool → Heap → Prop) (v : Value) (h : Heap) : Prop := match v with
  | (.bool r56) => K r56 h
  | _ => False
theorem straitlaw18_GprintTells.ret_elim {K : Bool → Heap → Prop} {K' : Value → Heap → Prop} {v : Value} {h : Heap} (hk : ∀ r56 h, K r56 h → K' (.bool r56) h) (hh : straitlaw18_GprintTells.ret K v h) : K' v h := by
  unfold straitlaw18_GprintTells.ret at hh
  split at hh
  · exact hk _ _ hh
  · exact hh.elim
def straitlaw18_GprintTells.call (f : FuncId) (vs : List Value) (h : Heap) (K : Value → Heap → Prop) : Prop := match f, vs with
  | 19, [] => callP1 (straitlaw18_awake h) fun r19 h' => K (.bool r19) h'
  | 23, [(.int .i64 a1), (.slice a2 a2l a2c)] => callP3 (net_New a1 a2 a2l a2c h) fun r37 r38 r39 h' => K (.tuple #[(.pointer r37), (.int .i64 r38), (.int .i64 r39)]) h'
  | 24, [(.pointer a1)] => callP1 (gprint_Print a1 h) fun r10 h' => K (.string r10) h'
  | 25, [(.pointer a1)] => callP1 (gprint_Dot a1 h) fun r20 h' => K (.string r20) h'
  | 26, [(.pointer a1)] => callP1 (gprint_Rows a1 h) fun r10 h' => K (.string r10) h'
  | 27, [(.int .i64 a1), (.slice a2 a2l a2c)] => callP6 (straitref16_New a1 a2 a2l a2c h) fun r52 r53 r53l r53c r54 r55 h' => K (.agg #[(.int .i64 r52), (.slice r53 r53l r53c), (.int .i64 r54), (.int .i64 r55)]) h'
  | 28, [(.agg ⟨[(.int .i64 a1), (.slice a2 a2l a2c)]⟩)] => callP1 (straitref18_Print a1 a2 a2l a2c h) fun r13 h' => K (.string r13) h'
  | 29, [(.agg ⟨[(.int .i64 a1), (.slice a2 a2l a2c)]⟩)] => callP1 (straitref18_Dot a1 a2 a2l a2c h) fun r11 h' => K (.string r11) h'
  | 30, [(.agg ⟨[(.int .i64 a1), (.slice a2 a2l a2c)]⟩)] => callP1 (straitref18_Rows a1 a2 a2l a2c h) fun r8 h' => K (.string r8) h'
  | _, _ => False
noncomputable def straitlaw18_GprintTells.ctx : Ctx := { P := Tryz.prog, call := straitlaw18_GprintTells.call, qcall := fun _ _ _ _ => False, quiet := fun f => Nat.beq f 1000138 || Nat.beq f 2000157, loop := fun _ _ _ _ => False }
theorem straitlaw18_GprintTells.ok : straitlaw18_GprintTells.ctx.OK where
  mixed := by kernel_rfl
  mono := by
    intro f args h K K' hh hk
    change straitlaw18_GprintTells.call f args h K at hh
    change straitlaw18_GprintTells.call f args h K'
    unfold straitlaw18_GprintTells.call at hh ⊢
    split at hh
    · obtain ⟨R, h1, h2⟩ := hh
      exact ⟨R, h1, fun _ x hr => hk _ _ (h2 _ x hr)⟩
    · obtain ⟨R, h1, h2⟩ := hh
      exact ⟨R, h1, fun _ _ _ x hr => hk _ _ (h2 _ _ _ x hr)⟩
    · obtain ⟨R, h1, h2⟩ := hh
      exact ⟨R, h1, fun _ x hr => hk _ _ (h2 _ x hr)⟩
    · obtain ⟨R, h1, h2⟩ := hh
      exact ⟨R, h1, fun _ x hr => hk _ _ (h2 _ x hr)⟩
    · obtain ⟨R, h1, h2⟩ := hh
      exact ⟨R, h1, fun _ x hr => hk _ _ (h2 _ x hr)⟩
    · obtain ⟨R, h1, h2⟩ := hh
      exact ⟨R, h1, fun _ _ _ _ _ _ x hr => hk _ _ (h2 _ _ _ _ _ _ x hr)⟩
    · obtain ⟨R, h1, h2⟩ := hh
      exact ⟨R, h1, fun _ x hr => hk _ _ (h2 _ x hr)⟩
    · obtain ⟨R, h1, h2⟩ := hh
      exact ⟨R, h1, fun _ x hr => hk _ _ (h2 _ x hr)⟩
    · obtain ⟨R, h1, h2⟩ := hh
      exact ⟨R, h1, fun _ x hr => hk _ _ (h2 _ x hr)⟩
    · exact hh.elim
  call := by
    intro f args h K hh w hw
    change straitlaw18_GprintTells.call f args h K at hh
    unfold straitlaw18_GprintTells.call at hh
    split at hh
    · obtain ⟨R, h1, h2⟩ := hh
      obtain ⟨g1, g2⟩ := straitlaw18_awake.calls h1 w hw
      exact ⟨g1, g2.mono fun e w' ⟨v, he, ho, hr⟩ => ⟨v, he, ho, straitlaw18_awake.ret_elim h2 hr⟩⟩
    · obtain ⟨R, h1, h2⟩ := hh
      obtain ⟨g1, g2⟩ := net_New.calls h1 w hw
      exact ⟨g1, g2.mono fun e w' ⟨v, he, ho, hr⟩ => ⟨v, he, ho, net_New.ret_elim h2 hr⟩⟩
    · obtain ⟨R, h1, h2⟩ := hh
      obtain ⟨g1, g2⟩ := gprint_Print.calls h1 w hw
      exact ⟨g1, g2.mono fun e w' ⟨v, he, ho, hr⟩ => ⟨v, he, ho, gprint_Print.ret_elim h2 hr⟩⟩
    · obtain ⟨R, h1, h2⟩ := hh
      obtain ⟨g1, g2⟩ := gprint_Dot.calls h1 w hw
      exact ⟨g1, g2.mono fun e w' ⟨v, he, ho, hr⟩ => ⟨v, he, ho, gprint_Dot.ret_elim h2 hr⟩⟩
    · obtain ⟨R, h1, h2⟩ := hh
      obtain ⟨g1, g2⟩ := gprint_Rows.calls h1 w hw
      exact ⟨g1, g2.mono fun e w' ⟨v, he, ho, hr⟩ => ⟨v, he, ho, gprint_Rows.ret_elim h2 hr⟩⟩
    · obtain ⟨R, h1, h2⟩ := hh
      obtain ⟨g1, g2⟩ := straitref16_New.calls h1 w hw
      exact ⟨g1, g2.mono fun e w' ⟨v, he, ho, hr⟩ => ⟨v, he, ho, straitref16_New.ret_elim h2 hr⟩⟩
    · obtain ⟨R, h1, h2⟩ := hh
      obtain ⟨g1, g2⟩ := straitref18_Print.calls h1 w hw
      exact ⟨g1, g2.mono fun e w' ⟨v, he, ho, hr⟩ => ⟨v, he, ho, straitref18_Print.ret_elim h2 hr⟩⟩
    · obtain ⟨R, h1, h2⟩ := hh
      obtain ⟨g1, g2⟩ := straitref18_Dot.calls h1 w hw
      exact ⟨g1, g2.mono fun e w' ⟨v, he, ho, hr⟩ => ⟨v, he, ho, straitref18_Dot.ret_elim h2 hr⟩⟩
    · obtain ⟨R, h1, h2⟩ := hh
      obtain ⟨g1, g2⟩ := straitref18_Rows.calls h1 w hw
      exact ⟨g1, g2.mono fun e w' ⟨v, he, ho, hr⟩ => ⟨v, he, ho, straitref18_Rows.ret_elim h2 hr⟩⟩
    · exact hh.elim
  qmono := fun hh _ => hh.elim
  qval := fun hh => hh.elim
  qcall := fun hh => hh.elim
noncomputable def straitlaw18_GprintTells.code : Code := (Tryz.f7.body).getD .skip
def straitlaw18_GprintTells.ann : Ann := (.two .auto (.two .auto (.two .auto (.two .auto (.two .auto (.two (.reg [0, 1, 0, 7, 15, 31, 63, 127, 63, 511, 1023, 2047, 4095, 8191, 16383, 8191, 65535, 131071, 262143, 524287, 1048575, 2097151, 4194303] (.take 0 (.early 2 (.alt 1 (.alt 3 (.take 4 (.take 5 (.take 6 (.early 8 (.alt 7 (.alt 9 (.take 10 (.take 11 (.take 12 (.take 13 (.early 15 (.alt 14 (.alt 16 (.take 17 (.take 18 (.take 19 (.alt 20 (.take 21 (.take 22 .done)) .noalt)))) .noalt) .noalt)))))) .noalt) .noalt))))) .noalt) .noalt)))) .auto))))))
set_option maxRecDepth 100000 in
theorem straitlaw18_GprintTells.eq (a1 : Int) (a2 : Option Addr) (a2l : Nat) (a2c : Nat) (h : Heap) (K : Bool → Heap → Prop) : evF straitlaw18_GprintTells.ctx Tryz.f7 straitlaw18_GprintTells.ann [(.int .u8 a1), (.slice a2 a2l a2c)] h (straitlaw18_GprintTells.ret K) = straitlaw18_GprintTells a1 a2 a2l a2c h K := by kernel_rfl
set_option maxRecDepth 100000 in
theorem straitlaw18_GprintTells.calls {a1 : Int} {a2 : Option Addr} {a2l : Nat} {a2c : Nat} {h : Heap} {K : Bool → Heap → Prop} (hh : straitlaw18_GprintTells a1 a2 a2l a2c h K) (w : World) (hw : w.heap = h) :
    (callFunc 7 #[(.int .u8 a1), (.slice a2 a2l a2c)]).run Tryz.prog w = .ok (.enter 7 #[(.int .u8 a1), (.slice a2 a2l a2c)]) w ∧ Calls Tryz.prog 7 #[(.int .u8 a1), (.slice a2 a2l a2c)] w fun e w' => ∃ v, e = .returned v ∧ Out w w' ∧ straitlaw18_GprintTells.ret K v w'.heap := by
  rw [← straitlaw18_GprintTells.eq] at hh
  exact fn_calls (args := [(.int .u8 a1), (.slice a2 a2l a2c)]) (c := straitlaw18_GprintTells.code) straitlaw18_GprintTells.ok Tryz.func7 (by kernel_rfl) (by kernel_rfl) (by kernel_rfl) (by kernel_rfl) (loops_ok (l := []) (by kernel_rfl) trivial) hh w hw
end

/-! ### strait/fbit.Of: function 20 -/
def fbit_Of (a1 : Int) (h : Heap) (K : Nat → Heap → Prop) : Prop :=
  K a1.toNat h
def fbit_Of.ret (K : Nat → Heap → Prop) (v : Value) (h : Heap) : Prop := match v with
  | (.float .f64 r2) => K r2 h
  | _ => False
theorem fbit_Of.ret_elim {K : Nat → Heap → Prop} {K' : Value → Heap → Prop} {v : Value} {h : Heap} (hk : ∀ r2 h, K r2 h → K' (.float .f64 r2) h) (hh : fbit_Of.ret K v h) : K' v h := by
  unfold fbit_Of.ret at hh
  split at hh
  · exact hk _ _ hh
  · exact hh.elim
def fbit_Of.qcall (f : FuncId) (vs : List Value) (h : Heap) (K : Value → Prop) : Prop := match f, vs with
  | 43, [(.int .u64 a1)] => K (.float .f64 a1.toNat)
  | _, _ => False
noncomputable def fbit_Of.ctx : Ctx := { P := Tryz.prog, call := fun _ _ _ _ => False, qcall := fbit_Of.qcall, quiet := fun f => Nat.beq f 43 || Nat.beq f 1000138 || Nat.beq f 2000157, loop := fun _ _ _ _ => False }
theorem fbit_Of.ok [DKc] : fbit_Of.ctx.OK where
  mixed := by kernel_rfl
  mono := fun hh _ => hh.elim
  call := fun hh => hh.elim
  qmono := by
    intro f args h K K' hh hk
    change fbit_Of.qcall f args h K at hh
    change fbit_Of.qcall f args h K'
    unfold fbit_Of.qcall at hh ⊢
    split at hh
    · exact hk _ hh
    · exact hh.elim
  qval := by
    intro f args h K hh
    change fbit_Of.qcall f args h K at hh
    suffices H : ∃ v, K v ∧ fbit_Of.qcall f args h (· = v) from H
    unfold fbit_Of.qcall at hh ⊢
    split at hh
    · exact ⟨_, hh, rfl⟩
    · exact hh.elim
  qcall := by
    intro f args h v hh w hw
    change fbit_Of.qcall f args h (· = v) at hh
    unfold fbit_Of.qcall at hh
    split at hh
    · subst hh; exact .inr (ext_run Tryz.func43 (by kernel_rfl) (by kernel_rfl) (by kernel_rfl) (e := Extern.MathFloatBits.float64frombits) (by kernel_rfl) (by rfl))
    · exact hh.elim
noncomputable def fbit_Of.code : Code := (Tryz.f20.body).getD .skip
def fbit_Of.ann : Ann := .auto
set_option maxRecDepth 100000 in
theorem fbit_Of.eq (a1 : Int) (h : Heap) (K : Nat → Heap → Prop) : evF fbit_Of.ctx Tryz.f20 fbit_Of.ann [(.int .u64 a1)] h (fbit_Of.ret K) = fbit_Of a1 h K := by kernel_rfl
set_option maxRecDepth 100000 in
theorem fbit_Of.calls [DKc] {a1 : Int} {h : Heap} {K : Nat → Heap → Prop} (hh : fbit_Of a1 h K) (w : World) (hw : w.heap = h) :
    (callFunc 20 #[(.int .u64 a1)]).run Tryz.prog w = .ok (.enter 20 #[(.int .u64 a1)]) w ∧ Calls Tryz.prog 20 #[(.int .u64 a1)] w fun e w' => ∃ v, e = .returned v ∧ Out w w' ∧ fbit_Of.ret K v w'.heap := by
  rw [← fbit_Of.eq] at hh
  exact fn_calls (args := [(.int .u64 a1)]) (c := fbit_Of.code) fbit_Of.ok Tryz.func20 (by kernel_rfl) (by kernel_rfl) (by kernel_rfl) (by kernel_rfl) (loops_ok (l := []) (by kernel_rfl) trivial) hh w hw

/-! ### strait/straitref02.Kind: function 143 -/
def straitref02_Kind (a1 : Int) (h : Heap) (K : Int → Heap → Prop) : Prop :=
  (0 ≤ (52 : Int) ∧ (let j8 := (fun (y5 : Int) (y6 : Int) => (iteB (y5 == (2047 : Int)) (K 1 h) ((iteB (y5 == (0 : Int)) ((iteB (y6 == (0 : Int)) (K 2 h) (((iteB (y5 == (0 : Int)) (K 3 h) (K 4 h)))))) ((((iteB (y5 == (0 : Int)) (K 3 h) (K 4 h)))))))));
  iteB ((bits .and .u64 (a1.fdiv (2 ^ 52)) 2047) == (2047 : Int)) ((iteB ((bits .and .u64 a1 4503599627370495) != (0 : Int)) (K 0 h) ((j8 (bits .and .u64 (a1.fdiv (2 ^ 52)) 2047) (bits .and .u64 a1 4503599627370495))))) (((j8 (bits .and .u64 (a1.fdiv (2 ^ 52)) 2047) (bits .and .u64 a1 4503599627370495))))))
def straitref02_Kind.ret (K : Int → Heap → Prop) (v : Value) (h : Heap) : Prop := match v with
  | (.int .i64 r9) => K r9 h
  | _ => False
theorem straitref02_Kind.ret_elim {K : Int → Heap → Prop} {K' : Value → Heap → Prop} {v : Value} {h : Heap} (hk : ∀ r9 h, K r9 h → K' (.int .i64 r9) h) (hh : straitref02_Kind.ret K v h) : K' v h := by
  unfold straitref02_Kind.ret at hh
  split at hh
  · exact hk _ _ hh
  · exact hh.elim
noncomputable def straitref02_Kind.ctx : Ctx := { P := Tryz.prog, call := fun _ _ _ _ => False, qcall := fun _ _ _ _ => False, quiet := fun f => Nat.beq f 1000138 || Nat.beq f 2000157, loop := fun _ _ _ _ => False }
theorem straitref02_Kind.ok [DKc] : straitref02_Kind.ctx.OK where
  mixed := by kernel_rfl
  mono := fun hh _ => hh.elim
  call := fun hh => hh.elim
  qmono := fun hh _ => hh.elim
  qval := fun hh => hh.elim
  qcall := fun hh => hh.elim
noncomputable def straitref02_Kind.code : Code := (Tryz.f143.body).getD .skip
def straitref02_Kind.ann : Ann := .auto
set_option maxRecDepth 100000 in
theorem straitref02_Kind.eq (a1 : Int) (h : Heap) (K : Int → Heap → Prop) : evF straitref02_Kind.ctx Tryz.f143 straitref02_Kind.ann [(.int .u64 a1)] h (straitref02_Kind.ret K) = straitref02_Kind a1 h K := by kernel_rfl
set_option maxRecDepth 100000 in
theorem straitref02_Kind.calls [DKc] {a1 : Int} {h : Heap} {K : Int → Heap → Prop} (hh : straitref02_Kind a1 h K) (w : World) (hw : w.heap = h) :
    (callFunc 143 #[(.int .u64 a1)]).run Tryz.prog w = .ok (.enter 143 #[(.int .u64 a1)]) w ∧ Calls Tryz.prog 143 #[(.int .u64 a1)] w fun e w' => ∃ v, e = .returned v ∧ Out w w' ∧ straitref02_Kind.ret K v w'.heap := by
  rw [← straitref02_Kind.eq] at hh
  exact fn_calls (args := [(.int .u64 a1)]) (c := straitref02_Kind.code) straitref02_Kind.ok Tryz.func143 (by kernel_rfl) (by kernel_rfl) (by kernel_rfl) (by kernel_rfl) (loops_ok (l := []) (by kernel_rfl) trivial) hh w hw

/-! ### strait/straitref02.Parts: function 144 -/
def straitref02_Parts.b0 (K3 : Int → Int → Heap → Prop) (cont : Addr → Int → Int → Heap → Prop) (c2_1001 : Addr) (v3_1002 : Int) (v4_1003 : Int) (h1004 : Heap) : Prop :=
  (2 : Int) ≠ 0 ∧ (iteB ((v4_1003.tmod 2) == (0 : Int)) (((2 : Int) ≠ 0 ∧ ((cont c2_1001 (IntKind.i64.wrap (v3_1002 + 1)) (IntKind.u64.wrap (v4_1003.tdiv 2)) h1004)))) (K3 v3_1002 v4_1003 h1004))
def straitref02_Parts.l0 (K3 : Int → Int → Heap → Prop) : Nat → Addr → Int → Int → Heap → Prop
  | 0, _, _, _, _ => False
  | m + 1, c2_1001, v3_1002, v4_1003, h => straitref02_Parts.b0 K3 (straitref02_Parts.l0 K3 m) c2_1001 v3_1002 v4_1003 h
def straitref02_Parts (a1 : Int) (h : Heap) (K : Int → Int → Bool → Heap → Prop) : Prop :=
  newP h (.cells #[(.int .u64 0), (.int .i64 0), (.bool false)] 206) fun a2 h3 => (0 ≤ (52 : Int) ∧ bindV (IntKind.i64.wrap (bits .and .u64 (a1.fdiv (2 ^ 52)) 2047)) fun n4 => (let j33 := (fun (y21 : Int) (y22 : Int) => (∃ m26, straitref02_Parts.l0 (fun z23 z24 h25 => ((stC h25 a2 (.int .u64 z24) fun h27 => stC h27 (a2.add 1) (.int .i64 z23) fun h28 => stC h28 (a2.add 2) (.bool true) fun h29 => (∃ (x30 : Int), cell h29 a2 = some (.int .u64 x30) ∧ ∃ (x31 : Int), cell h29 (a2.add 1) = some (.int .i64 x31) ∧ ∃ (x32 : Bool), cell h29 (a2.add 2) = some (.bool x32) ∧ K x30 x31 x32 h29)))) m26 a2 (IntKind.i64.wrap (y21 - 1075)) y22 h3));
  qcallP1 h3 (straitref02_Kind a1 h3) fun x5 => (let j20 := (fun (y6 : Int) (y7 : Bool) => iteB y7 (stC h3 a2 (.int .u64 0) fun h8 => stC h8 (a2.add 1) (.int .i64 0) fun h9 => stC h9 (a2.add 2) (.bool false) fun h10 => (∃ (x11 : Int), cell h10 a2 = some (.int .u64 x11) ∧ ∃ (x12 : Int), cell h10 (a2.add 1) = some (.int .i64 x12) ∧ ∃ (x13 : Bool), cell h10 (a2.add 2) = some (.bool x13) ∧ K x11 x12 x13 h10)) ((iteB (x5 == (2 : Int)) (stC h3 a2 (.int .u64 0) fun h14 => stC h14 (a2.add 1) (.int .i64 0) fun h15 => stC h15 (a2.add 2) (.bool true) fun h16 => (∃ (x17 : Int), cell h16 a2 = some (.int .u64 x17) ∧ ∃ (x18 : Int), cell h16 (a2.add 1) = some (.int .i64 x18) ∧ ∃ (x19 : Bool), cell h16 (a2.add 2) = some (.bool x19) ∧ K x17 x18 x19 h16)) ((iteB (x5 == (3 : Int)) (((j33 1 y6))) (((j33 n4 (IntKind.u64.wrap (y6 + 4503599627370496))))))))));
  (iteB (x5 == (0 : Int)) ((j20 (bits .and .u64 a1 4503599627370495) (x5 == (0 : Int)))) ((j20 (bits .and .u64 a1 4503599627370495) (x5 == (1 : Int))))))))
def straitref02_Parts.ret (K : Int → Int → Bool → Heap → Prop) (v : Value) (h : Heap) : Prop := match v with
  | (.agg ⟨[(.int .u64 r34), (.int .i64 r35), (.bool r36)]⟩) => K r34 r35 r36 h
  | _ => False
theorem straitref02_Parts.ret_elim {K : Int → Int → Bool → Heap → Prop} {K' : Value → Heap → Prop} {v : Value} {h : Heap} (hk : ∀ r34 r35 r36 h, K r34 r35 r36 h → K' (.agg #[(.int .u64 r34), (.int .i64 r35), (.bool r36)]) h) (hh : straitref02_Parts.ret K v h) : K' v h := by
  unfold straitref02_Parts.ret at hh
  split at hh
  · exact hk _ _ _ _ hh
  · exact hh.elim
def straitref02_Parts.qcall (f : FuncId) (vs : List Value) (h : Heap) (K : Value → Prop) : Prop := match f, vs with
  | 143, [(.int .u64 a1)] => qcallP1 h (straitref02_Kind a1 h) fun r9 => K (.int .i64 r9)
  | _, _ => False
def straitref02_Parts.r0 (K : Nat → List Value → Heap → Prop) (m : Nat) (vs : List Value) (h : Heap) : Prop := match vs with
  | [(.pointer (some c2_1001)), (.int .i64 v3_1002), (.int .u64 v4_1003)] => straitref02_Parts.l0 (fun z37 z38 h' => K 3 [(.pointer (some c2_1001)), (.int .i64 z37), (.int .u64 z38)] h') m c2_1001 v3_1002 v4_1003 h
  | _ => False
def straitref02_Parts.loop (i : Nat) (vs : List Value) (h : Heap) (K : Nat → List Value → Heap → Prop) : Prop := match i with
  | 0 => ∃ m, straitref02_Parts.r0 K m vs h
  | _ => False
noncomputable def straitref02_Parts.ctx : Ctx := { P := Tryz.prog, call := fun _ _ _ _ => False, qcall := straitref02_Parts.qcall, quiet := fun f => Nat.beq f 143 || Nat.beq f 1000138 || Nat.beq f 2000157, loop := straitref02_Parts.loop }
theorem straitref02_Parts.ok [DKc] : straitref02_Parts.ctx.OK where
  mixed := by kernel_rfl
  mono := fun hh _ => hh.elim
  call := fun hh => hh.elim
  qmono := by
    intro f args h K K' hh hk
    change straitref02_Parts.qcall f args h K at hh
    change straitref02_Parts.qcall f args h K'
    unfold straitref02_Parts.qcall at hh ⊢
    split at hh
    · obtain ⟨x0, h1, h2⟩ := hh
      exact ⟨x0, h1, hk _ h2⟩
    · exact hh.elim
  qval := by
    intro f args h K hh
    change straitref02_Parts.qcall f args h K at hh
    suffices H : ∃ v, K v ∧ straitref02_Parts.qcall f args h (· = v) from H
    unfold straitref02_Parts.qcall at hh ⊢
    split at hh
    · obtain ⟨x0, h1, h2⟩ := hh
      exact ⟨_, h2, x0, h1, rfl⟩
    · exact hh.elim
  qcall := by
    intro f args h v hh w hw
    change straitref02_Parts.qcall f args h (· = v) at hh
    unfold straitref02_Parts.qcall at hh
    split at hh
    · obtain ⟨x0, h1, h2⟩ := hh
      obtain ⟨g1, g2⟩ := straitref02_Kind.calls h1 w hw
      refine .inl ⟨g1, g2.mono fun e w' ⟨u, he, ho, hr⟩ => ?_⟩
      have hq := straitref02_Kind.ret_elim (K' := fun u h' => u = v ∧ h' = h) (fun _ h' hr => by obtain ⟨rfl, rfl⟩ := hr; exact ⟨h2, rfl⟩) hr
      exact ⟨hq.1 ▸ he, ho, hq.2⟩
    · exact hh.elim
noncomputable def straitref02_Parts.code : Code := (Tryz.f144.body).getD .skip
def straitref02_Parts.ann : Ann := (.two .auto (.two .auto (.two .auto (.two .auto (.two (.two (.loop 0 [2, 3, 4] [(3, [2, 3, 4])] .auto) .auto) .auto)))))
noncomputable def straitref02_Parts.c0 : Code := sub straitref02_Parts.code [1, 1, 1, 1, 0, 0, 0]
def straitref02_Parts.a0 : Ann := .auto
def straitref02_Parts.keep0 : List Nat := [2, 3, 4]
def straitref02_Parts.outs0 : List (Nat × List Nat) := [(3, [2, 3, 4])]
set_option maxRecDepth 100000 in
theorem straitref02_Parts.L0 [DKc] : LoopOK straitref02_Parts.ctx 36 straitref02_Parts.c0 0 straitref02_Parts.keep0 straitref02_Parts.outs0 := by
  refine loop_ok (n := straitref02_Parts.a0) straitref02_Parts.ok (by kernel_rfl) (loops_ok (l := []) (by kernel_rfl) ?_) straitref02_Parts.r0 ?_ ?_ (fun vs h K hh => hh)
  · exact trivial
  · intro K vs h hh
    unfold straitref02_Parts.r0 at hh
    split at hh
    · exact hh
    · exact hh
  · intro K m vs h hh
    unfold straitref02_Parts.r0 at hh
    split at hh
    · exact cast (by kernel_rfl) hh
    · exact hh.elim
set_option maxRecDepth 100000 in
theorem straitref02_Parts.eq (a1 : Int) (h : Heap) (K : Int → Int → Bool → Heap → Prop) : evF straitref02_Parts.ctx Tryz.f144 straitref02_Parts.ann [(.int .u64 a1)] h (straitref02_Parts.ret K) = straitref02_Parts a1 h K := by kernel_rfl
set_option maxRecDepth 100000 in
theorem straitref02_Parts.calls [DKc] {a1 : Int} {h : Heap} {K : Int → Int → Bool → Heap → Prop} (hh : straitref02_Parts a1 h K) (w : World) (hw : w.heap = h) :
    (callFunc 144 #[(.int .u64 a1)]).run Tryz.prog w = .ok (.enter 144 #[(.int .u64 a1)]) w ∧ Calls Tryz.prog 144 #[(.int .u64 a1)] w fun e w' => ∃ v, e = .returned v ∧ Out w w' ∧ straitref02_Parts.ret K v w'.heap := by
  rw [← straitref02_Parts.eq] at hh
  exact fn_calls (args := [(.int .u64 a1)]) (c := straitref02_Parts.code) straitref02_Parts.ok Tryz.func144 (by kernel_rfl) (by kernel_rfl) (by kernel_rfl) (by kernel_rfl) (loops_ok (l := [(straitref02_Parts.c0, none, 0, straitref02_Parts.keep0, straitref02_Parts.outs0)]) (by kernel_rfl) ⟨straitref02_Parts.L0, trivial⟩) hh w hw

/-! ### strait/straitref02.Neg: function 145 -/
def straitref02_Neg (a1 : Int) (h : Heap) (K : Bool → Heap → Prop) : Prop :=
  (qcallP1 h (straitref02_Kind a1 h) fun x2 => iteB (x2 != (0 : Int)) (0 ≤ (63 : Int) ∧ (K ((a1.fdiv (2 ^ 63)) == (1 : Int)) h)) (K false h))
def straitref02_Neg.ret (K : Bool → Heap → Prop) (v : Value) (h : Heap) : Prop := match v with
  | (.bool r4) => K r4 h
  | _ => False
theorem straitref02_Neg.ret_elim {K : Bool → Heap → Prop} {K' : Value → Heap → Prop} {v : Value} {h : Heap} (hk : ∀ r4 h, K r4 h → K' (.bool r4) h) (hh : straitref02_Neg.ret K v h) : K' v h := by
  unfold straitref02_Neg.ret at hh
  split at hh
  · exact hk _ _ hh
  · exact hh.elim
def straitref02_Neg.qcall (f : FuncId) (vs : List Value) (h : Heap) (K : Value → Prop) : Prop := match f, vs with
  | 143, [(.int .u64 a1)] => qcallP1 h (straitref02_Kind a1 h) fun r9 => K (.int .i64 r9)
  | _, _ => False
noncomputable def straitref02_Neg.ctx : Ctx := { P := Tryz.prog, call := fun _ _ _ _ => False, qcall := straitref02_Neg.qcall, quiet := fun f => Nat.beq f 143 || Nat.beq f 1000138 || Nat.beq f 2000157, loop := fun _ _ _ _ => False }
theorem straitref02_Neg.ok [DKc] : straitref02_Neg.ctx.OK where
  mixed := by kernel_rfl
  mono := fun hh _ => hh.elim
  call := fun hh => hh.elim
  qmono := by
    intro f args h K K' hh hk
    change straitref02_Neg.qcall f args h K at hh
    change straitref02_Neg.qcall f args h K'
    unfold straitref02_Neg.qcall at hh ⊢
    split at hh
    · obtain ⟨x0, h1, h2⟩ := hh
      exact ⟨x0, h1, hk _ h2⟩
    · exact hh.elim
  qval := by
    intro f args h K hh
    change straitref02_Neg.qcall f args h K at hh
    suffices H : ∃ v, K v ∧ straitref02_Neg.qcall f args h (· = v) from H
    unfold straitref02_Neg.qcall at hh ⊢
    split at hh
    · obtain ⟨x0, h1, h2⟩ := hh
      exact ⟨_, h2, x0, h1, rfl⟩
    · exact hh.elim
  qcall := by
    intro f args h v hh w hw
    change straitref02_Neg.qcall f args h (· = v) at hh
    unfold straitref02_Neg.qcall at hh
    split at hh
    · obtain ⟨x0, h1, h2⟩ := hh
      obtain ⟨g1, g2⟩ := straitref02_Kind.calls h1 w hw
      refine .inl ⟨g1, g2.mono fun e w' ⟨u, he, ho, hr⟩ => ?_⟩
      have hq := straitref02_Kind.ret_elim (K' := fun u h' => u = v ∧ h' = h) (fun _ h' hr => by obtain ⟨rfl, rfl⟩ := hr; exact ⟨h2, rfl⟩) hr
      exact ⟨hq.1 ▸ he, ho, hq.2⟩
    · exact hh.elim
noncomputable def straitref02_Neg.code : Code := (Tryz.f145.body).getD .skip
def straitref02_Neg.ann : Ann := .auto
set_option maxRecDepth 100000 in
theorem straitref02_Neg.eq (a1 : Int) (h : Heap) (K : Bool → Heap → Prop) : evF straitref02_Neg.ctx Tryz.f145 straitref02_Neg.ann [(.int .u64 a1)] h (straitref02_Neg.ret K) = straitref02_Neg a1 h K := by kernel_rfl
set_option maxRecDepth 100000 in
theorem straitref02_Neg.calls [DKc] {a1 : Int} {h : Heap} {K : Bool → Heap → Prop} (hh : straitref02_Neg a1 h K) (w : World) (hw : w.heap = h) :
    (callFunc 145 #[(.int .u64 a1)]).run Tryz.prog w = .ok (.enter 145 #[(.int .u64 a1)]) w ∧ Calls Tryz.prog 145 #[(.int .u64 a1)] w fun e w' => ∃ v, e = .returned v ∧ Out w w' ∧ straitref02_Neg.ret K v w'.heap := by
  rw [← straitref02_Neg.eq] at hh
  exact fn_calls (args := [(.int .u64 a1)]) (c := straitref02_Neg.code) straitref02_Neg.ok Tryz.func145 (by kernel_rfl) (by kernel_rfl) (by kernel_rfl) (by kernel_rfl) (loops_ok (l := []) (by kernel_rfl) trivial) hh w hw

end Go.Proofs.YtokemibmanjpmaaGreatDoor
