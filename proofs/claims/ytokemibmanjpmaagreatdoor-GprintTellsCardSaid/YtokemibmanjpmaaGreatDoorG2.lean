/- WRITTEN BY A PROGRAM OF THIS SESSION (gen.py): what each function asks of memory, and that the model's run comes to it. -/
import Derived.Test.YtokemibmanjpmaaGreatDoorProg
import Derived.Test.YtokemibmanjpmaaGreatDoorFw8
import Derived.Test.YtokemibmanjpmaaGreatDoorG1
namespace Go.Proofs.YtokemibmanjpmaaGreatDoor
open Go.Hp
set_option linter.unusedVariables false
set_option linter.unusedSimpArgs false
set_option linter.unusedSectionVars false

/-! ### slices.Clone[[]strait/api.Edge,strait/api.Edge]: function 42 -/
def slices_Clone_Lapi_Edge_api_Edge (a1 : Option Addr) (a1l : Nat) (a1c : Nat) (h : Heap) (K : (Option Addr) → Nat → Nat → Heap → Prop) : Prop :=
  ((iteB a1.isNone (K none 0 0 h) ((newP h (.cells #[] 27) fun a2 h3 => ∃ n8, cellsAt h3 a1 (a1l * 3) n8 ∧ appP 27 3 24 [(.int .i64 0), (.int .i64 0), (.int .i64 0)] (some a2) 0 0 a1l n8 h3 fun q4 l5 c6 h7 => K q4 l5 c6 h7))))
def slices_Clone_Lapi_Edge_api_Edge.ret (K : (Option Addr) → Nat → Nat → Heap → Prop) (v : Value) (h : Heap) : Prop := match v with
  | (.slice r9 r9l r9c) => K r9 r9l r9c h
  | _ => False
theorem slices_Clone_Lapi_Edge_api_Edge.ret_elim {K : (Option Addr) → Nat → Nat → Heap → Prop} {K' : Value → Heap → Prop} {v : Value} {h : Heap} (hk : ∀ r9 r9l r9c h, K r9 r9l r9c h → K' (.slice r9 r9l r9c) h) (hh : slices_Clone_Lapi_Edge_api_Edge.ret K v h) : K' v h := by
  unfold slices_Clone_Lapi_Edge_api_Edge.ret at hh
  split at hh
  · exact hk _ _ _ _ hh
  · exact hh.elim
noncomputable def slices_Clone_Lapi_Edge_api_Edge.ctx : Ctx := { P := Tryz.prog, call := fun _ _ _ _ => False, qcall := fun _ _ _ _ => False, quiet := fun f => Nat.beq f 1000138 || Nat.beq f 2000157, loop := fun _ _ _ _ => False }
theorem slices_Clone_Lapi_Edge_api_Edge.ok [DKc] : slices_Clone_Lapi_Edge_api_Edge.ctx.OK where
  mixed := by kernel_rfl
  mono := fun hh _ => hh.elim
  call := fun hh => hh.elim
  qmono := fun hh _ => hh.elim
  qval := fun hh => hh.elim
  qcall := fun hh => hh.elim
noncomputable def slices_Clone_Lapi_Edge_api_Edge.code : Code := (Tryz.f42.body).getD .skip
def slices_Clone_Lapi_Edge_api_Edge.ann : Ann := .auto
set_option maxRecDepth 100000 in
theorem slices_Clone_Lapi_Edge_api_Edge.eq (a1 : Option Addr) (a1l : Nat) (a1c : Nat) (h : Heap) (K : (Option Addr) → Nat → Nat → Heap → Prop) : evF slices_Clone_Lapi_Edge_api_Edge.ctx Tryz.f42 slices_Clone_Lapi_Edge_api_Edge.ann [(.slice a1 a1l a1c)] h (slices_Clone_Lapi_Edge_api_Edge.ret K) = slices_Clone_Lapi_Edge_api_Edge a1 a1l a1c h K := by kernel_rfl
set_option maxRecDepth 100000 in
theorem slices_Clone_Lapi_Edge_api_Edge.calls [DKc] {a1 : Option Addr} {a1l : Nat} {a1c : Nat} {h : Heap} {K : (Option Addr) → Nat → Nat → Heap → Prop} (hh : slices_Clone_Lapi_Edge_api_Edge a1 a1l a1c h K) (w : World) (hw : w.heap = h) :
    (callFunc 42 #[(.slice a1 a1l a1c)]).run Tryz.prog w = .ok (.enter 42 #[(.slice a1 a1l a1c)]) w ∧ Calls Tryz.prog 42 #[(.slice a1 a1l a1c)] w fun e w' => ∃ v, e = .returned v ∧ Out w w' ∧ slices_Clone_Lapi_Edge_api_Edge.ret K v w'.heap := by
  rw [← slices_Clone_Lapi_Edge_api_Edge.eq] at hh
  exact fn_calls (args := [(.slice a1 a1l a1c)]) (c := slices_Clone_Lapi_Edge_api_Edge.code) slices_Clone_Lapi_Edge_api_Edge.ok Tryz.func42 (by kernel_rfl) (by kernel_rfl) (by kernel_rfl) (by kernel_rfl) (loops_ok (l := []) (by kernel_rfl) trivial) hh w hw

/-! ### (*strait/net.Net).Edges: function 18 -/
def net_Net_Edges (a1 : Option Addr) (h : Heap) (K : (Option Addr) → Nat → Nat → Heap → Prop) : Prop :=
  ((iteB a1.isNone (K none 0 0 h) ((chkP a1 fun a2 => ∃ (x3 : Option Addr) (x3l : Nat) (x3c : Nat), cell h (a2.add 2) = some (.slice x3 x3l x3c) ∧ callP3 (slices_Clone_Lapi_Edge_api_Edge x3 x3l x3c h) fun x4 x4l x4c h5 => K x4 x4l x4c h5))))
def net_Net_Edges.ret (K : (Option Addr) → Nat → Nat → Heap → Prop) (v : Value) (h : Heap) : Prop := match v with
  | (.slice r6 r6l r6c) => K r6 r6l r6c h
  | _ => False
theorem net_Net_Edges.ret_elim {K : (Option Addr) → Nat → Nat → Heap → Prop} {K' : Value → Heap → Prop} {v : Value} {h : Heap} (hk : ∀ r6 r6l r6c h, K r6 r6l r6c h → K' (.slice r6 r6l r6c) h) (hh : net_Net_Edges.ret K v h) : K' v h := by
  unfold net_Net_Edges.ret at hh
  split at hh
  · exact hk _ _ _ _ hh
  · exact hh.elim
def net_Net_Edges.call (f : FuncId) (vs : List Value) (h : Heap) (K : Value → Heap → Prop) : Prop := match f, vs with
  | 42, [(.slice a1 a1l a1c)] => callP3 (slices_Clone_Lapi_Edge_api_Edge a1 a1l a1c h) fun r9 r9l r9c h' => K (.slice r9 r9l r9c) h'
  | _, _ => False
noncomputable def net_Net_Edges.ctx : Ctx := { P := Tryz.prog, call := net_Net_Edges.call, qcall := fun _ _ _ _ => False, quiet := fun f => Nat.beq f 1000138 || Nat.beq f 2000157, loop := fun _ _ _ _ => False }
theorem net_Net_Edges.ok [DKc] : net_Net_Edges.ctx.OK where
  mixed := by kernel_rfl
  mono := by
    intro f args h K K' hh hk
    change net_Net_Edges.call f args h K at hh
    change net_Net_Edges.call f args h K'
    unfold net_Net_Edges.call at hh ⊢
    split at hh
    · obtain ⟨R, h1, h2⟩ := hh
      exact ⟨R, h1, fun _ _ _ x hr => hk _ _ (h2 _ _ _ x hr)⟩
    · exact hh.elim
  call := by
    intro f args h K hh w hw
    change net_Net_Edges.call f args h K at hh
    unfold net_Net_Edges.call at hh
    split at hh
    · obtain ⟨R, h1, h2⟩ := hh
      obtain ⟨g1, g2⟩ := slices_Clone_Lapi_Edge_api_Edge.calls h1 w hw
      exact ⟨g1, g2.mono fun e w' ⟨v, he, ho, hr⟩ => ⟨v, he, ho, slices_Clone_Lapi_Edge_api_Edge.ret_elim h2 hr⟩⟩
    · exact hh.elim
  qmono := fun hh _ => hh.elim
  qval := fun hh => hh.elim
  qcall := fun hh => hh.elim
noncomputable def net_Net_Edges.code : Code := (Tryz.f18.body).getD .skip
def net_Net_Edges.ann : Ann := .auto
set_option maxRecDepth 100000 in
theorem net_Net_Edges.eq (a1 : Option Addr) (h : Heap) (K : (Option Addr) → Nat → Nat → Heap → Prop) : evF net_Net_Edges.ctx Tryz.f18 net_Net_Edges.ann [(.pointer a1)] h (net_Net_Edges.ret K) = net_Net_Edges a1 h K := by kernel_rfl
set_option maxRecDepth 100000 in
theorem net_Net_Edges.calls [DKc] {a1 : Option Addr} {h : Heap} {K : (Option Addr) → Nat → Nat → Heap → Prop} (hh : net_Net_Edges a1 h K) (w : World) (hw : w.heap = h) :
    (callFunc 18 #[(.pointer a1)]).run Tryz.prog w = .ok (.enter 18 #[(.pointer a1)]) w ∧ Calls Tryz.prog 18 #[(.pointer a1)] w fun e w' => ∃ v, e = .returned v ∧ Out w w' ∧ net_Net_Edges.ret K v w'.heap := by
  rw [← net_Net_Edges.eq] at hh
  exact fn_calls (args := [(.pointer a1)]) (c := net_Net_Edges.code) net_Net_Edges.ok Tryz.func18 (by kernel_rfl) (by kernel_rfl) (by kernel_rfl) (by kernel_rfl) (loops_ok (l := []) (by kernel_rfl) trivial) hh w hw

/-! ### strait/edge.pieces: function 93 -/
def edge_pieces (a1 : Int) (a2 : Int) (a3 : Int) (h : Heap) (K : Int → Heap → Prop) : Prop :=
  newP h (.cells #[(.int .i64 a1), (.int .i64 a2), (.int .i64 a3)] 27) fun a4 h5 => (∃ (x6 : Int), cell h5 (a4.add 2) = some (.int .i64 x6) ∧ (2147483648 : Int) ≠ 0 ∧ bindV (IntKind.i64.wrap ((IntKind.i64.wrap (x6 - 1)).tdiv 2147483648)) fun n7 => bindV (if (IntKind.i64.wrap (n7 + 1)) > 1 then (IntKind.i64.wrap (n7 + 1)) else 1) fun n8 => K n8 h5)
def edge_pieces.ret (K : Int → Heap → Prop) (v : Value) (h : Heap) : Prop := match v with
  | (.int .i64 r9) => K r9 h
  | _ => False
theorem edge_pieces.ret_elim {K : Int → Heap → Prop} {K' : Value → Heap → Prop} {v : Value} {h : Heap} (hk : ∀ r9 h, K r9 h → K' (.int .i64 r9) h) (hh : edge_pieces.ret K v h) : K' v h := by
  unfold edge_pieces.ret at hh
  split at hh
  · exact hk _ _ hh
  · exact hh.elim
noncomputable def edge_pieces.ctx : Ctx := { P := Tryz.prog, call := fun _ _ _ _ => False, qcall := fun _ _ _ _ => False, quiet := fun f => Nat.beq f 1000138 || Nat.beq f 2000157, loop := fun _ _ _ _ => False }
theorem edge_pieces.ok [DKc] : edge_pieces.ctx.OK where
  mixed := by kernel_rfl
  mono := fun hh _ => hh.elim
  call := fun hh => hh.elim
  qmono := fun hh _ => hh.elim
  qval := fun hh => hh.elim
  qcall := fun hh => hh.elim
noncomputable def edge_pieces.code : Code := (Tryz.f93.body).getD .skip
def edge_pieces.ann : Ann := .auto
set_option maxRecDepth 100000 in
theorem edge_pieces.eq (a1 : Int) (a2 : Int) (a3 : Int) (h : Heap) (K : Int → Heap → Prop) : evF edge_pieces.ctx Tryz.f93 edge_pieces.ann [(.agg #[(.int .i64 a1), (.int .i64 a2), (.int .i64 a3)])] h (edge_pieces.ret K) = edge_pieces a1 a2 a3 h K := by kernel_rfl
set_option maxRecDepth 100000 in
theorem edge_pieces.calls [DKc] {a1 : Int} {a2 : Int} {a3 : Int} {h : Heap} {K : Int → Heap → Prop} (hh : edge_pieces a1 a2 a3 h K) (w : World) (hw : w.heap = h) :
    (callFunc 93 #[(.agg #[(.int .i64 a1), (.int .i64 a2), (.int .i64 a3)])]).run Tryz.prog w = .ok (.enter 93 #[(.agg #[(.int .i64 a1), (.int .i64 a2), (.int .i64 a3)])]) w ∧ Calls Tryz.prog 93 #[(.agg #[(.int .i64 a1), (.int .i64 a2), (.int .i64 a3)])] w fun e w' => ∃ v, e = .returned v ∧ Out w w' ∧ edge_pieces.ret K v w'.heap := by
  rw [← edge_pieces.eq] at hh
  exact fn_calls (args := [(.agg #[(.int .i64 a1), (.int .i64 a2), (.int .i64 a3)])]) (c := edge_pieces.code) edge_pieces.ok Tryz.func93 (by kernel_rfl) (by kernel_rfl) (by kernel_rfl) (by kernel_rfl) (loops_ok (l := []) (by kernel_rfl) trivial) hh w hw

/-! ### (*strait/num.Acc).Put: function 92 -/
def num_Acc_Put (a1 : Option Addr) (a2 : Int) (h : Heap) (K : Bool → Heap → Prop) : Prop :=
  (iteB a1.isNone (K false h) (chkP a1 fun a3 => ∃ (x4 : Bool), cell h (a3.add 1) = some (.bool x4) ∧ (iteB x4 (K false h) ((chkP a1 fun a22 => ∃ (x23 : Int), cell h a22 = some (.int .i64 x23) ∧ qcallP2 h (num_Add x23 a2 h) fun x24 x25 => (chkP a1 fun a26 => stC h a26 (.int .i64 x24) fun h27 => chkP a1 fun a28 => stC h27 (a28.add 1) (.bool (!x25)) fun h29 => K x25 h29))))))
def num_Acc_Put.ret (K : Bool → Heap → Prop) (v : Value) (h : Heap) : Prop := match v with
  | (.bool r30) => K r30 h
  | _ => False
theorem num_Acc_Put.ret_elim {K : Bool → Heap → Prop} {K' : Value → Heap → Prop} {v : Value} {h : Heap} (hk : ∀ r30 h, K r30 h → K' (.bool r30) h) (hh : num_Acc_Put.ret K v h) : K' v h := by
  unfold num_Acc_Put.ret at hh
  split at hh
  · exact hk _ _ hh
  · exact hh.elim
def num_Acc_Put.qcall (f : FuncId) (vs : List Value) (h : Heap) (K : Value → Prop) : Prop := match f, vs with
  | 85, [(.int .i64 a1), (.int .i64 a2)] => qcallP2 h (num_Add a1 a2 h) fun r5 r6 => K (.tuple #[(.int .i64 r5), (.bool r6)])
  | _, _ => False
noncomputable def num_Acc_Put.ctx : Ctx := { P := Tryz.prog, call := fun _ _ _ _ => False, qcall := num_Acc_Put.qcall, quiet := fun f => Nat.beq f 85 || Nat.beq f 1000138 || Nat.beq f 2000157, loop := fun _ _ _ _ => False }
theorem num_Acc_Put.ok [DKc] : num_Acc_Put.ctx.OK where
  mixed := by kernel_rfl
  mono := fun hh _ => hh.elim
  call := fun hh => hh.elim
  qmono := by
    intro f args h K K' hh hk
    change num_Acc_Put.qcall f args h K at hh
    change num_Acc_Put.qcall f args h K'
    unfold num_Acc_Put.qcall at hh ⊢
    split at hh
    · obtain ⟨x0, x1, h1, h2⟩ := hh
      exact ⟨x0, x1, h1, hk _ h2⟩
    · exact hh.elim
  qval := by
    intro f args h K hh
    change num_Acc_Put.qcall f args h K at hh
    suffices H : ∃ v, K v ∧ num_Acc_Put.qcall f args h (· = v) from H
    unfold num_Acc_Put.qcall at hh ⊢
    split at hh
    · obtain ⟨x0, x1, h1, h2⟩ := hh
      exact ⟨_, h2, x0, x1, h1, rfl⟩
    · exact hh.elim
  qcall := by
    intro f args h v hh w hw
    change num_Acc_Put.qcall f args h (· = v) at hh
    unfold num_Acc_Put.qcall at hh
    split at hh
    · obtain ⟨x0, x1, h1, h2⟩ := hh
      obtain ⟨g1, g2⟩ := num_Add.calls h1 w hw
      refine .inl ⟨g1, g2.mono fun e w' ⟨u, he, ho, hr⟩ => ?_⟩
      have hq := num_Add.ret_elim (K' := fun u h' => u = v ∧ h' = h) (fun _ _ h' hr => by obtain ⟨rfl, rfl, rfl⟩ := hr; exact ⟨h2, rfl⟩) hr
      exact ⟨hq.1 ▸ he, ho, hq.2⟩
    · exact hh.elim
noncomputable def num_Acc_Put.code : Code := (Tryz.f92.body).getD .skip
def num_Acc_Put.ann : Ann := .auto
set_option maxRecDepth 100000 in
theorem num_Acc_Put.eq (a1 : Option Addr) (a2 : Int) (h : Heap) (K : Bool → Heap → Prop) : evF num_Acc_Put.ctx Tryz.f92 num_Acc_Put.ann [(.pointer a1), (.int .i64 a2)] h (num_Acc_Put.ret K) = num_Acc_Put a1 a2 h K := by kernel_rfl
set_option maxRecDepth 100000 in
theorem num_Acc_Put.calls [DKc] {a1 : Option Addr} {a2 : Int} {h : Heap} {K : Bool → Heap → Prop} (hh : num_Acc_Put a1 a2 h K) (w : World) (hw : w.heap = h) :
    (callFunc 92 #[(.pointer a1), (.int .i64 a2)]).run Tryz.prog w = .ok (.enter 92 #[(.pointer a1), (.int .i64 a2)]) w ∧ Calls Tryz.prog 92 #[(.pointer a1), (.int .i64 a2)] w fun e w' => ∃ v, e = .returned v ∧ Out w w' ∧ num_Acc_Put.ret K v w'.heap := by
  rw [← num_Acc_Put.eq] at hh
  exact fn_calls (args := [(.pointer a1), (.int .i64 a2)]) (c := num_Acc_Put.code) num_Acc_Put.ok Tryz.func92 (by kernel_rfl) (by kernel_rfl) (by kernel_rfl) (by kernel_rfl) (loops_ok (l := []) (by kernel_rfl) trivial) hh w hw

/-! ### (*strait/num.Acc).Value: function 94 -/
def num_Acc_Value (a1 : Option Addr) (h : Heap) (K : Int → Bool → Heap → Prop) : Prop :=
  (iteB a1.isNone (K 0 false h) (chkP a1 fun a2 => ∃ (x3 : Bool), cell h (a2.add 1) = some (.bool x3) ∧ (iteB x3 (K 0 false h) ((chkP a1 fun a9 => ∃ (x10 : Int), cell h a9 = some (.int .i64 x10) ∧ K x10 true h)))))
def num_Acc_Value.ret (K : Int → Bool → Heap → Prop) (v : Value) (h : Heap) : Prop := match v with
  | (.tuple ⟨[(.int .i64 r11), (.bool r12)]⟩) => K r11 r12 h
  | _ => False
theorem num_Acc_Value.ret_elim {K : Int → Bool → Heap → Prop} {K' : Value → Heap → Prop} {v : Value} {h : Heap} (hk : ∀ r11 r12 h, K r11 r12 h → K' (.tuple #[(.int .i64 r11), (.bool r12)]) h) (hh : num_Acc_Value.ret K v h) : K' v h := by
  unfold num_Acc_Value.ret at hh
  split at hh
  · exact hk _ _ _ hh
  · exact hh.elim
noncomputable def num_Acc_Value.ctx : Ctx := { P := Tryz.prog, call := fun _ _ _ _ => False, qcall := fun _ _ _ _ => False, quiet := fun f => Nat.beq f 1000138 || Nat.beq f 2000157, loop := fun _ _ _ _ => False }
theorem num_Acc_Value.ok [DKc] : num_Acc_Value.ctx.OK where
  mixed := by kernel_rfl
  mono := fun hh _ => hh.elim
  call := fun hh => hh.elim
  qmono := fun hh _ => hh.elim
  qval := fun hh => hh.elim
  qcall := fun hh => hh.elim
noncomputable def num_Acc_Value.code : Code := (Tryz.f94.body).getD .skip
def num_Acc_Value.ann : Ann := .auto
set_option maxRecDepth 100000 in
theorem num_Acc_Value.eq (a1 : Option Addr) (h : Heap) (K : Int → Bool → Heap → Prop) : evF num_Acc_Value.ctx Tryz.f94 num_Acc_Value.ann [(.pointer a1)] h (num_Acc_Value.ret K) = num_Acc_Value a1 h K := by kernel_rfl
set_option maxRecDepth 100000 in
theorem num_Acc_Value.calls [DKc] {a1 : Option Addr} {h : Heap} {K : Int → Bool → Heap → Prop} (hh : num_Acc_Value a1 h K) (w : World) (hw : w.heap = h) :
    (callFunc 94 #[(.pointer a1)]).run Tryz.prog w = .ok (.enter 94 #[(.pointer a1)]) w ∧ Calls Tryz.prog 94 #[(.pointer a1)] w fun e w' => ∃ v, e = .returned v ∧ Out w w' ∧ num_Acc_Value.ret K v w'.heap := by
  rw [← num_Acc_Value.eq] at hh
  exact fn_calls (args := [(.pointer a1)]) (c := num_Acc_Value.code) num_Acc_Value.ok Tryz.func94 (by kernel_rfl) (by kernel_rfl) (by kernel_rfl) (by kernel_rfl) (loops_ok (l := []) (by kernel_rfl) trivial) hh w hw

/-! ### strait/edge.Split: function 53 -/
def edge_Split.b2 (K6 : (Option Addr) → Nat → Nat → Heap → Prop) (cont : (Option Addr) → Nat → Nat → Addr → (Option Addr) → Nat → Nat → Int → Int → Int → Int → Heap → Prop) (v9_3001 : Option Addr) (v9_3001l : Nat) (v9_3001c : Nat) (c11_3002 : Addr) (c35_3003 : Option Addr) (c35_3004 : Nat) (c35_3005 : Nat) (c36_3006 : Int) (c37_3007 : Int) (c43_3008 : Int) (v44_3009 : Int) (h3010 : Heap) : Prop :=
  (iteB (decide (v44_3009 < c43_3008)) ((∃ (x3011 : Int), cell h3010 c11_3002 = some (.int .i64 x3011) ∧ ∃ (x3012 : Int), cell h3010 (c11_3002.add 1) = some (.int .i64 x3012) ∧ newP h3010 (.cells #[(.int .i64 x3011), (.int .i64 x3012), (.int .i64 2147483648)] 27) fun a3013 h3014 => ∃ n3019, cellsAt h3014 (some a3013) (1 * 3) n3019 ∧ appP 27 3 24 [(.int .i64 0), (.int .i64 0), (.int .i64 0)] v9_3001 v9_3001l v9_3001c 1 n3019 h3014 fun q3015 l3016 c3017 h3018 => (∃ (x3020 : Int), cell h3018 (c11_3002.add 2) = some (.int .i64 x3020) ∧ stC h3018 (c11_3002.add 2) (.int .i64 (IntKind.i64.wrap (x3020 - 2147483648))) fun h3021 => ((cont q3015 l3016 c3017 c11_3002 c35_3003 c35_3004 c35_3005 c36_3006 c37_3007 c43_3008 (IntKind.i64.wrap (v44_3009 + 1)) h3021))))) (K6 v9_3001 v9_3001l v9_3001c h3010))
def edge_Split.l2 (K6 : (Option Addr) → Nat → Nat → Heap → Prop) : Nat → (Option Addr) → Nat → Nat → Addr → (Option Addr) → Nat → Nat → Int → Int → Int → Int → Heap → Prop
  | 0, _, _, _, _, _, _, _, _, _, _, _, _ => False
  | m + 1, v9_3001, v9_3001l, v9_3001c, c11_3002, c35_3003, c35_3004, c35_3005, c36_3006, c37_3007, c43_3008, v44_3009, h => edge_Split.b2 K6 (edge_Split.l2 K6 m) v9_3001 v9_3001l v9_3001c c11_3002 c35_3003 c35_3004 c35_3005 c36_3006 c37_3007 c43_3008 v44_3009 h
def edge_Split.b1 (K4 : (Option Addr) → Nat → Nat → Heap → Prop) (cont : (Option Addr) → Nat → Nat → (Option Addr) → Nat → Nat → Int → Int → Heap → Prop) (v9_2001 : Option Addr) (v9_2001l : Nat) (v9_2001c : Nat) (c35_2002 : Option Addr) (c35_2003 : Nat) (c35_2004 : Nat) (c36_2005 : Int) (v37_2006 : Int) (h2007 : Heap) : Prop :=
  (iteB (decide (v37_2006 < c36_2005)) ((chkP c35_2002 fun a2008 => (0 ≤ v37_2006 ∧ v37_2006 < (c35_2003 : Int)) ∧ ∃ (x2009 : Int), cell h2007 (a2008.add (v37_2006.toNat * 3)) = some (.int .i64 x2009) ∧ ∃ (x2010 : Int), cell h2007 ((a2008.add (v37_2006.toNat * 3)).add 1) = some (.int .i64 x2010) ∧ ∃ (x2011 : Int), cell h2007 ((a2008.add (v37_2006.toNat * 3)).add 2) = some (.int .i64 x2011) ∧ newP h2007 (.cells #[(.int .i64 0), (.int .i64 0), (.int .i64 0)] 27) fun a2012 h2013 => stC h2013 a2012 (.int .i64 x2009) fun h2014 => stC h2014 (a2012.add 1) (.int .i64 x2010) fun h2015 => stC h2015 (a2012.add 2) (.int .i64 x2011) fun h2016 => (∃ (x2017 : Int), cell h2016 a2012 = some (.int .i64 x2017) ∧ ∃ (x2018 : Int), cell h2016 (a2012.add 1) = some (.int .i64 x2018) ∧ ∃ (x2019 : Int), cell h2016 (a2012.add 2) = some (.int .i64 x2019) ∧ callP1 (edge_pieces x2017 x2018 x2019 h2016) fun x2020 h2021 => (∃ m2024, edge_Split.l2 (fun z2022 z2022l z2022c h2023 => ((∃ (x2025 : Int), cell h2023 a2012 = some (.int .i64 x2025) ∧ ∃ (x2026 : Int), cell h2023 (a2012.add 1) = some (.int .i64 x2026) ∧ ∃ (x2027 : Int), cell h2023 (a2012.add 2) = some (.int .i64 x2027) ∧ newP h2023 (.cells #[(.int .i64 x2025), (.int .i64 x2026), (.int .i64 x2027)] 27) fun a2028 h2029 => ∃ n2034, cellsAt h2029 (some a2028) (1 * 3) n2034 ∧ appP 27 3 24 [(.int .i64 0), (.int .i64 0), (.int .i64 0)] z2022 z2022l z2022c 1 n2034 h2029 fun q2030 l2031 c2032 h2033 => ((cont q2030 l2031 c2032 c35_2002 c35_2003 c35_2004 c36_2005 (IntKind.i64.wrap (v37_2006 + 1)) h2033))))) m2024 v9_2001 v9_2001l v9_2001c a2012 c35_2002 c35_2003 c35_2004 c36_2005 v37_2006 (IntKind.i64.wrap (x2020 - 1)) 0 h2021)))) (K4 v9_2001 v9_2001l v9_2001c h2007))
def edge_Split.l1 (K4 : (Option Addr) → Nat → Nat → Heap → Prop) : Nat → (Option Addr) → Nat → Nat → (Option Addr) → Nat → Nat → Int → Int → Heap → Prop
  | 0, _, _, _, _, _, _, _, _, _ => False
  | m + 1, v9_2001, v9_2001l, v9_2001c, c35_2002, c35_2003, c35_2004, c36_2005, v37_2006, h => edge_Split.b1 K4 (edge_Split.l1 K4 m) v9_2001 v9_2001l v9_2001c c35_2002 c35_2003 c35_2004 c36_2005 v37_2006 h
def edge_Split.b0 (K0 : (Option Addr) → Nat → Nat → Bool → Heap → Prop) (K2 : Heap → Prop) (cont : (Option Addr) → Nat → Nat → Addr → (Option Addr) → Nat → Nat → Int → Int → Heap → Prop) (c0_1001 : Option Addr) (c0_1002 : Nat) (c0_1003 : Nat) (c4_1004 : Addr) (c12_1005 : Option Addr) (c12_1006 : Nat) (c12_1007 : Nat) (c13_1008 : Int) (v14_1009 : Int) (h1010 : Heap) : Prop :=
  (iteB (decide (v14_1009 < c13_1008)) ((chkP c12_1005 fun a1011 => (0 ≤ v14_1009 ∧ v14_1009 < (c12_1006 : Int)) ∧ ∃ (x1012 : Int), cell h1010 (a1011.add (v14_1009.toNat * 3)) = some (.int .i64 x1012) ∧ ∃ (x1013 : Int), cell h1010 ((a1011.add (v14_1009.toNat * 3)).add 1) = some (.int .i64 x1013) ∧ ∃ (x1014 : Int), cell h1010 ((a1011.add (v14_1009.toNat * 3)).add 2) = some (.int .i64 x1014) ∧ newP h1010 (.cells #[(.int .i64 0), (.int .i64 0), (.int .i64 0)] 27) fun a1015 h1016 => stC h1016 a1015 (.int .i64 x1012) fun h1017 => stC h1017 (a1015.add 1) (.int .i64 x1013) fun h1018 => stC h1018 (a1015.add 2) (.int .i64 x1014) fun h1019 => (∃ (x1020 : Int), cell h1019 (a1015.add 2) = some (.int .i64 x1020) ∧ (iteB (decide (x1020 < (0 : Int))) (K0 none 0 0 false h1019) ((∃ (x1021 : Int), cell h1019 a1015 = some (.int .i64 x1021) ∧ ∃ (x1022 : Int), cell h1019 (a1015.add 1) = some (.int .i64 x1022) ∧ ∃ (x1023 : Int), cell h1019 (a1015.add 2) = some (.int .i64 x1023) ∧ callP1 (edge_pieces x1021 x1022 x1023 h1019) fun x1024 h1025 => callP1 (num_Acc_Put (some c4_1004) x1024 h1025) fun x1026 h1027 => ((cont c0_1001 c0_1002 c0_1003 c4_1004 c12_1005 c12_1006 c12_1007 c13_1008 (IntKind.i64.wrap (v14_1009 + 1)) h1027)))))))) (K2 h1010))
def edge_Split.l0 (K0 : (Option Addr) → Nat → Nat → Bool → Heap → Prop) (K2 : Heap → Prop) : Nat → (Option Addr) → Nat → Nat → Addr → (Option Addr) → Nat → Nat → Int → Int → Heap → Prop
  | 0, _, _, _, _, _, _, _, _, _, _ => False
  | m + 1, c0_1001, c0_1002, c0_1003, c4_1004, c12_1005, c12_1006, c12_1007, c13_1008, v14_1009, h => edge_Split.b0 K0 K2 (edge_Split.l0 K0 K2 m) c0_1001 c0_1002 c0_1003 c4_1004 c12_1005 c12_1006 c12_1007 c13_1008 v14_1009 h
def edge_Split (a1 : Option Addr) (a1l : Nat) (a1c : Nat) (h : Heap) (K : (Option Addr) → Nat → Nat → Bool → Heap → Prop) : Prop :=
  (newP h (.cells #[(.int .i64 0), (.bool false)] 153) fun a2 h3 => ((∃ m8, edge_Split.l0 (fun z4 z4l z4c z5 h6 => K z4 z4l z4c z5 h6) (fun h7 => ((qcallP2 h7 (num_Acc_Value (some a2) h7) fun x9 x10 => (iteB (!x10) (K none 0 0 false h7) ((iteB (decide (x9 > (1048576 : Int))) (K none 0 0 false h7) ((((∃ m20, edge_Split.l1 (fun z18 z18l z18c h19 => (K z18 z18l z18c true h19)) m20 none 0 0 a1 a1l a1c (a1l : Int) 0 h7)))))))))) m8 a1 a1l a1c a2 a1 a1l a1c (a1l : Int) 0 h3)))
def edge_Split.ret (K : (Option Addr) → Nat → Nat → Bool → Heap → Prop) (v : Value) (h : Heap) : Prop := match v with
  | (.tuple ⟨[(.slice r21 r21l r21c), (.bool r22)]⟩) => K r21 r21l r21c r22 h
  | _ => False
theorem edge_Split.ret_elim {K : (Option Addr) → Nat → Nat → Bool → Heap → Prop} {K' : Value → Heap → Prop} {v : Value} {h : Heap} (hk : ∀ r21 r21l r21c r22 h, K r21 r21l r21c r22 h → K' (.tuple #[(.slice r21 r21l r21c), (.bool r22)]) h) (hh : edge_Split.ret K v h) : K' v h := by
  unfold edge_Split.ret at hh
  split at hh
  · exact hk _ _ _ _ _ hh
  · exact hh.elim
def edge_Split.call (f : FuncId) (vs : List Value) (h : Heap) (K : Value → Heap → Prop) : Prop := match f, vs with
  | 92, [(.pointer a1), (.int .i64 a2)] => callP1 (num_Acc_Put a1 a2 h) fun r30 h' => K (.bool r30) h'
  | 93, [(.agg ⟨[(.int .i64 a1), (.int .i64 a2), (.int .i64 a3)]⟩)] => callP1 (edge_pieces a1 a2 a3 h) fun r9 h' => K (.int .i64 r9) h'
  | _, _ => False
def edge_Split.qcall (f : FuncId) (vs : List Value) (h : Heap) (K : Value → Prop) : Prop := match f, vs with
  | 94, [(.pointer a1)] => qcallP2 h (num_Acc_Value a1 h) fun r11 r12 => K (.tuple #[(.int .i64 r11), (.bool r12)])
  | _, _ => False
def edge_Split.r0 (K : Nat → List Value → Heap → Prop) (m : Nat) (vs : List Value) (h : Heap) : Prop := match vs with
  | [(.slice c0_1001 c0_1002 c0_1003), (.pointer (some c4_1004)), (.slice c12_1005 c12_1006 c12_1007), (.int .i64 c13_1008), (.int .i64 v14_1009)] => edge_Split.l0 (fun z23 z23l z23c z24 h' => K 0 [(.slice z23 z23l z23c), (.bool z24)] h') (fun h' => K 2 [(.slice c0_1001 c0_1002 c0_1003), (.pointer (some c4_1004))] h') m c0_1001 c0_1002 c0_1003 c4_1004 c12_1005 c12_1006 c12_1007 c13_1008 v14_1009 h
  | _ => False
def edge_Split.r1 (K : Nat → List Value → Heap → Prop) (m : Nat) (vs : List Value) (h : Heap) : Prop := match vs with
  | [(.slice v9_2001 v9_2001l v9_2001c), (.slice c35_2002 c35_2003 c35_2004), (.int .i64 c36_2005), (.int .i64 v37_2006)] => edge_Split.l1 (fun z25 z25l z25c h' => K 4 [(.slice z25 z25l z25c)] h') m v9_2001 v9_2001l v9_2001c c35_2002 c35_2003 c35_2004 c36_2005 v37_2006 h
  | _ => False
def edge_Split.r2 (K : Nat → List Value → Heap → Prop) (m : Nat) (vs : List Value) (h : Heap) : Prop := match vs with
  | [(.slice v9_3001 v9_3001l v9_3001c), (.pointer (some c11_3002)), (.slice c35_3003 c35_3004 c35_3005), (.int .i64 c36_3006), (.int .i64 c37_3007), (.int .i64 c43_3008), (.int .i64 v44_3009)] => edge_Split.l2 (fun z26 z26l z26c h' => K 6 [(.slice z26 z26l z26c), (.pointer (some c11_3002)), (.slice c35_3003 c35_3004 c35_3005), (.int .i64 c36_3006), (.int .i64 c37_3007)] h') m v9_3001 v9_3001l v9_3001c c11_3002 c35_3003 c35_3004 c35_3005 c36_3006 c37_3007 c43_3008 v44_3009 h
  | _ => False
def edge_Split.loop (i : Nat) (vs : List Value) (h : Heap) (K : Nat → List Value → Heap → Prop) : Prop := match i with
  | 0 => ∃ m, edge_Split.r0 K m vs h
  | 1 => ∃ m, edge_Split.r1 K m vs h
  | 2 => ∃ m, edge_Split.r2 K m vs h
  | _ => False
noncomputable def edge_Split.ctx : Ctx := { P := Tryz.prog, call := edge_Split.call, qcall := edge_Split.qcall, quiet := fun f => Nat.beq f 94 || Nat.beq f 1000138 || Nat.beq f 2000157, loop := edge_Split.loop }
theorem edge_Split.ok [DKc] : edge_Split.ctx.OK where
  mixed := by kernel_rfl
  mono := by
    intro f args h K K' hh hk
    change edge_Split.call f args h K at hh
    change edge_Split.call f args h K'
    unfold edge_Split.call at hh ⊢
    split at hh
    · obtain ⟨R, h1, h2⟩ := hh
      exact ⟨R, h1, fun _ x hr => hk _ _ (h2 _ x hr)⟩
    · obtain ⟨R, h1, h2⟩ := hh
      exact ⟨R, h1, fun _ x hr => hk _ _ (h2 _ x hr)⟩
    · exact hh.elim
  call := by
    intro f args h K hh w hw
    change edge_Split.call f args h K at hh
    unfold edge_Split.call at hh
    split at hh
    · obtain ⟨R, h1, h2⟩ := hh
      obtain ⟨g1, g2⟩ := num_Acc_Put.calls h1 w hw
      exact ⟨g1, g2.mono fun e w' ⟨v, he, ho, hr⟩ => ⟨v, he, ho, num_Acc_Put.ret_elim h2 hr⟩⟩
    · obtain ⟨R, h1, h2⟩ := hh
      obtain ⟨g1, g2⟩ := edge_pieces.calls h1 w hw
      exact ⟨g1, g2.mono fun e w' ⟨v, he, ho, hr⟩ => ⟨v, he, ho, edge_pieces.ret_elim h2 hr⟩⟩
    · exact hh.elim
  qmono := by
    intro f args h K K' hh hk
    change edge_Split.qcall f args h K at hh
    change edge_Split.qcall f args h K'
    unfold edge_Split.qcall at hh ⊢
    split at hh
    · obtain ⟨x0, x1, h1, h2⟩ := hh
      exact ⟨x0, x1, h1, hk _ h2⟩
    · exact hh.elim
  qval := by
    intro f args h K hh
    change edge_Split.qcall f args h K at hh
    suffices H : ∃ v, K v ∧ edge_Split.qcall f args h (· = v) from H
    unfold edge_Split.qcall at hh ⊢
    split at hh
    · obtain ⟨x0, x1, h1, h2⟩ := hh
      exact ⟨_, h2, x0, x1, h1, rfl⟩
    · exact hh.elim
  qcall := by
    intro f args h v hh w hw
    change edge_Split.qcall f args h (· = v) at hh
    unfold edge_Split.qcall at hh
    split at hh
    · obtain ⟨x0, x1, h1, h2⟩ := hh
      obtain ⟨g1, g2⟩ := num_Acc_Value.calls h1 w hw
      refine .inl ⟨g1, g2.mono fun e w' ⟨u, he, ho, hr⟩ => ?_⟩
      have hq := num_Acc_Value.ret_elim (K' := fun u h' => u = v ∧ h' = h) (fun _ _ h' hr => by obtain ⟨rfl, rfl, rfl⟩ := hr; exact ⟨h2, rfl⟩) hr
      exact ⟨hq.1 ▸ he, ho, hq.2⟩
    · exact hh.elim
noncomputable def edge_Split.code : Code := (Tryz.f53.body).getD .skip
def edge_Split.ann : Ann := (.two .auto (.two .auto (.two (.two .auto (.two (.loop 0 [0, 4, 12, 13, 14] [(2, [0, 4]), (0, [2, 3])] .auto) .auto)) (.two .auto (.two .auto (.two (.two .auto (.two (.loop 1 [9, 35, 36, 37] [(4, [9])] (.two .auto (.two .auto (.two (.two (.two .auto (.two (.two .auto (.two (.loop 2 [9, 11, 35, 36, 37, 43, 44] [(6, [9, 11, 35, 36, 37])] .auto) .auto)) .auto)) .auto) .auto)))) .auto)) .auto))))))
noncomputable def edge_Split.c2 : Code := sub edge_Split.code [1, 1, 1, 1, 1, 0, 1, 0, 0, 1, 1, 0, 0, 1, 0, 1, 0, 0]
def edge_Split.a2 : Ann := .auto
def edge_Split.keep2 : List Nat := [9, 11, 35, 36, 37, 43, 44]
def edge_Split.outs2 : List (Nat × List Nat) := [(6, [9, 11, 35, 36, 37])]
noncomputable def edge_Split.c1 : Code := sub edge_Split.code [1, 1, 1, 1, 1, 0, 1, 0, 0]
def edge_Split.a1 : Ann := (.two .auto (.two .auto (.two (.two (.two .auto (.two (.two .auto (.two (.loop 2 [9, 11, 35, 36, 37, 43, 44] [(6, [9, 11, 35, 36, 37])] .auto) .auto)) .auto)) .auto) .auto)))
def edge_Split.keep1 : List Nat := [9, 35, 36, 37]
def edge_Split.outs1 : List (Nat × List Nat) := [(4, [9])]
noncomputable def edge_Split.c0 : Code := sub edge_Split.code [1, 1, 0, 1, 0, 0]
def edge_Split.a0 : Ann := .auto
def edge_Split.keep0 : List Nat := [0, 4, 12, 13, 14]
def edge_Split.outs0 : List (Nat × List Nat) := [(2, [0, 4]), (0, [2, 3])]
set_option maxRecDepth 100000 in
theorem edge_Split.L0 [DKc] : LoopOK edge_Split.ctx 65 edge_Split.c0 0 edge_Split.keep0 edge_Split.outs0 := by
  refine loop_ok (n := edge_Split.a0) edge_Split.ok (by kernel_rfl) (loops_ok (l := []) (by kernel_rfl) ?_) edge_Split.r0 ?_ ?_ (fun vs h K hh => hh)
  · exact trivial
  · intro K vs h hh
    unfold edge_Split.r0 at hh
    split at hh
    · exact hh
    · exact hh
  · intro K m vs h hh
    unfold edge_Split.r0 at hh
    split at hh
    · exact cast (by kernel_rfl) hh
    · exact hh.elim
set_option maxRecDepth 100000 in
theorem edge_Split.L2 [DKc] : LoopOK edge_Split.ctx 65 edge_Split.c2 2 edge_Split.keep2 edge_Split.outs2 := by
  refine loop_ok (n := edge_Split.a2) edge_Split.ok (by kernel_rfl) (loops_ok (l := []) (by kernel_rfl) ?_) edge_Split.r2 ?_ ?_ (fun vs h K hh => hh)
  · exact trivial
  · intro K vs h hh
    unfold edge_Split.r2 at hh
    split at hh
    · exact hh
    · exact hh
  · intro K m vs h hh
    unfold edge_Split.r2 at hh
    split at hh
    · exact cast (by kernel_rfl) hh
    · exact hh.elim
set_option maxRecDepth 100000 in
theorem edge_Split.L1 [DKc] : LoopOK edge_Split.ctx 65 edge_Split.c1 1 edge_Split.keep1 edge_Split.outs1 := by
  refine loop_ok (n := edge_Split.a1) edge_Split.ok (by kernel_rfl) (loops_ok (l := [(edge_Split.c2, none, 2, edge_Split.keep2, edge_Split.outs2)]) (by kernel_rfl) ?_) edge_Split.r1 ?_ ?_ (fun vs h K hh => hh)
  · exact ⟨edge_Split.L2, trivial⟩
  · intro K vs h hh
    unfold edge_Split.r1 at hh
    split at hh
    · exact hh
    · exact hh
  · intro K m vs h hh
    unfold edge_Split.r1 at hh
    split at hh
    · exact cast (by kernel_rfl) hh
    · exact hh.elim
set_option maxRecDepth 100000 in
theorem edge_Split.eq (a1 : Option Addr) (a1l : Nat) (a1c : Nat) (h : Heap) (K : (Option Addr) → Nat → Nat → Bool → Heap → Prop) : evF edge_Split.ctx Tryz.f53 edge_Split.ann [(.slice a1 a1l a1c)] h (edge_Split.ret K) = edge_Split a1 a1l a1c h K := by kernel_rfl
set_option maxRecDepth 100000 in
theorem edge_Split.calls [DKc] {a1 : Option Addr} {a1l : Nat} {a1c : Nat} {h : Heap} {K : (Option Addr) → Nat → Nat → Bool → Heap → Prop} (hh : edge_Split a1 a1l a1c h K) (w : World) (hw : w.heap = h) :
    (callFunc 53 #[(.slice a1 a1l a1c)]).run Tryz.prog w = .ok (.enter 53 #[(.slice a1 a1l a1c)]) w ∧ Calls Tryz.prog 53 #[(.slice a1 a1l a1c)] w fun e w' => ∃ v, e = .returned v ∧ Out w w' ∧ edge_Split.ret K v w'.heap := by
  rw [← edge_Split.eq] at hh
  exact fn_calls (args := [(.slice a1 a1l a1c)]) (c := edge_Split.code) edge_Split.ok Tryz.func53 (by kernel_rfl) (by kernel_rfl) (by kernel_rfl) (by kernel_rfl) (loops_ok (l := [(edge_Split.c0, none, 0, edge_Split.keep0, edge_Split.outs0), (edge_Split.c1, none, 1, edge_Split.keep1, edge_Split.outs1)]) (by kernel_rfl) ⟨edge_Split.L0, edge_Split.L1, trivial⟩) hh w hw

/-! ### (*strait/net.Net).N: function 16 -/
def net_Net_N (a1 : Option Addr) (h : Heap) (K : Int → Heap → Prop) : Prop :=
  ((iteB a1.isNone (K 0 h) ((chkP a1 fun a2 => ∃ (x3 : Option Addr) (x3l : Nat) (x3c : Nat), cell h a2 = some (.slice x3 x3l x3c) ∧ (K (x3l : Int) h)))))
def net_Net_N.ret (K : Int → Heap → Prop) (v : Value) (h : Heap) : Prop := match v with
  | (.int .i64 r4) => K r4 h
  | _ => False
theorem net_Net_N.ret_elim {K : Int → Heap → Prop} {K' : Value → Heap → Prop} {v : Value} {h : Heap} (hk : ∀ r4 h, K r4 h → K' (.int .i64 r4) h) (hh : net_Net_N.ret K v h) : K' v h := by
  unfold net_Net_N.ret at hh
  split at hh
  · exact hk _ _ hh
  · exact hh.elim
noncomputable def net_Net_N.ctx : Ctx := { P := Tryz.prog, call := fun _ _ _ _ => False, qcall := fun _ _ _ _ => False, quiet := fun f => Nat.beq f 1000138 || Nat.beq f 2000157, loop := fun _ _ _ _ => False }
theorem net_Net_N.ok [DKc] : net_Net_N.ctx.OK where
  mixed := by kernel_rfl
  mono := fun hh _ => hh.elim
  call := fun hh => hh.elim
  qmono := fun hh _ => hh.elim
  qval := fun hh => hh.elim
  qcall := fun hh => hh.elim
noncomputable def net_Net_N.code : Code := (Tryz.f16.body).getD .skip
def net_Net_N.ann : Ann := .auto
set_option maxRecDepth 100000 in
theorem net_Net_N.eq (a1 : Option Addr) (h : Heap) (K : Int → Heap → Prop) : evF net_Net_N.ctx Tryz.f16 net_Net_N.ann [(.pointer a1)] h (net_Net_N.ret K) = net_Net_N a1 h K := by kernel_rfl
set_option maxRecDepth 100000 in
theorem net_Net_N.calls [DKc] {a1 : Option Addr} {h : Heap} {K : Int → Heap → Prop} (hh : net_Net_N a1 h K) (w : World) (hw : w.heap = h) :
    (callFunc 16 #[(.pointer a1)]).run Tryz.prog w = .ok (.enter 16 #[(.pointer a1)]) w ∧ Calls Tryz.prog 16 #[(.pointer a1)] w fun e w' => ∃ v, e = .returned v ∧ Out w w' ∧ net_Net_N.ret K v w'.heap := by
  rw [← net_Net_N.eq] at hh
  exact fn_calls (args := [(.pointer a1)]) (c := net_Net_N.code) net_Net_N.ok Tryz.func16 (by kernel_rfl) (by kernel_rfl) (by kernel_rfl) (by kernel_rfl) (loops_ok (l := []) (by kernel_rfl) trivial) hh w hw

/-! ### strait/gprint.Print: function 24 -/
section
variable [DKc]
def gprint_Print (a1 : Option Addr) (h : Heap) (K : ByteArray → Heap → Prop) : Prop :=
  ((iteB a1.isNone ((K (⟨#[]⟩ : ByteArray) h)) ((callP3 (net_Net_Edges a1 h) fun x2 x2l x2c h3 => callP4 (edge_Split x2 x2l x2c h3) fun x4 x4l x4c x5 h6 => (qcallP1 h6 (net_Net_N a1 h6) fun x7 => callP1 (gprint_text x7 x4 x4l x4c h6) fun x8 h9 => K x8 h9)))))
def gprint_Print.ret (K : ByteArray → Heap → Prop) (v : Value) (h : Heap) : Prop := match v with
  | (.string r10) => K r10 h
  | _ => False
theorem gprint_Print.ret_elim {K : ByteArray → Heap → Prop} {K' : Value → Heap → Prop} {v : Value} {h : Heap} (hk : ∀ r10 h, K r10 h → K' (.string r10) h) (hh : gprint_Print.ret K v h) : K' v h := by
  unfold gprint_Print.ret at hh
  split at hh
  · exact hk _ _ hh
  · exact hh.elim
def gprint_Print.call (f : FuncId) (vs : List Value) (h : Heap) (K : Value → Heap → Prop) : Prop := match f, vs with
  | 18, [(.pointer a1)] => callP3 (net_Net_Edges a1 h) fun r6 r6l r6c h' => K (.slice r6 r6l r6c) h'
  | 45, [(.int .i64 a1), (.slice a2 a2l a2c)] => callP1 (gprint_text a1 a2 a2l a2c h) fun r17 h' => K (.string r17) h'
  | 53, [(.slice a1 a1l a1c)] => callP4 (edge_Split a1 a1l a1c h) fun r21 r21l r21c r22 h' => K (.tuple #[(.slice r21 r21l r21c), (.bool r22)]) h'
  | _, _ => False
def gprint_Print.qcall (f : FuncId) (vs : List Value) (h : Heap) (K : Value → Prop) : Prop := match f, vs with
  | 16, [(.pointer a1)] => qcallP1 h (net_Net_N a1 h) fun r4 => K (.int .i64 r4)
  | _, _ => False
noncomputable def gprint_Print.ctx : Ctx := { P := Tryz.prog, call := gprint_Print.call, qcall := gprint_Print.qcall, quiet := fun f => Nat.beq f 16 || Nat.beq f 1000138 || Nat.beq f 2000157, loop := fun _ _ _ _ => False }
theorem gprint_Print.ok : gprint_Print.ctx.OK where
  mixed := by kernel_rfl
  mono := by
    intro f args h K K' hh hk
    change gprint_Print.call f args h K at hh
    change gprint_Print.call f args h K'
    unfold gprint_Print.call at hh ⊢
    split at hh
    · obtain ⟨R, h1, h2⟩ := hh
      exact ⟨R, h1, fun _ _ _ x hr => hk _ _ (h2 _ _ _ x hr)⟩
    · obtain ⟨R, h1, h2⟩ := hh
      exact ⟨R, h1, fun _ x hr => hk _ _ (h2 _ x hr)⟩
    · obtain ⟨R, h1, h2⟩ := hh
      exact ⟨R, h1, fun _ _ _ _ x hr => hk _ _ (h2 _ _ _ _ x hr)⟩
    · exact hh.elim
  call := by
    intro f args h K hh w hw
    change gprint_Print.call f args h K at hh
    unfold gprint_Print.call at hh
    split at hh
    · obtain ⟨R, h1, h2⟩ := hh
      obtain ⟨g1, g2⟩ := net_Net_Edges.calls h1 w hw
      exact ⟨g1, g2.mono fun e w' ⟨v, he, ho, hr⟩ => ⟨v, he, ho, net_Net_Edges.ret_elim h2 hr⟩⟩
    · obtain ⟨R, h1, h2⟩ := hh
      obtain ⟨g1, g2⟩ := gprint_text.calls h1 w hw
      exact ⟨g1, g2.mono fun e w' ⟨v, he, ho, hr⟩ => ⟨v, he, ho, gprint_text.ret_elim h2 hr⟩⟩
    · obtain ⟨R, h1, h2⟩ := hh
      obtain ⟨g1, g2⟩ := edge_Split.calls h1 w hw
      exact ⟨g1, g2.mono fun e w' ⟨v, he, ho, hr⟩ => ⟨v, he, ho, edge_Split.ret_elim h2 hr⟩⟩
    · exact hh.elim
  qmono := by
    intro f args h K K' hh hk
    change gprint_Print.qcall f args h K at hh
    change gprint_Print.qcall f args h K'
    unfold gprint_Print.qcall at hh ⊢
    split at hh
    · obtain ⟨x0, h1, h2⟩ := hh
      exact ⟨x0, h1, hk _ h2⟩
    · exact hh.elim
  qval := by
    intro f args h K hh
    change gprint_Print.qcall f args h K at hh
    suffices H : ∃ v, K v ∧ gprint_Print.qcall f args h (· = v) from H
    unfold gprint_Print.qcall at hh ⊢
    split at hh
    · obtain ⟨x0, h1, h2⟩ := hh
      exact ⟨_, h2, x0, h1, rfl⟩
    · exact hh.elim
  qcall := by
    intro f args h v hh w hw
    change gprint_Print.qcall f args h (· = v) at hh
    unfold gprint_Print.qcall at hh
    split at hh
    · obtain ⟨x0, h1, h2⟩ := hh
      obtain ⟨g1, g2⟩ := net_Net_N.calls h1 w hw
      refine .inl ⟨g1, g2.mono fun e w' ⟨u, he, ho, hr⟩ => ?_⟩
      have hq := net_Net_N.ret_elim (K' := fun u h' => u = v ∧ h' = h) (fun _ h' hr => by obtain ⟨rfl, rfl⟩ := hr; exact ⟨h2, rfl⟩) hr
      exact ⟨hq.1 ▸ he, ho, hq.2⟩
    · exact hh.elim
noncomputable def gprint_Print.code : Code := (Tryz.f24.body).getD .skip
def gprint_Print.ann : Ann := .auto
set_option maxRecDepth 100000 in
theorem gprint_Print.eq (a1 : Option Addr) (h : Heap) (K : ByteArray → Heap → Prop) : evF gprint_Print.ctx Tryz.f24 gprint_Print.ann [(.pointer a1)] h (gprint_Print.ret K) = gprint_Print a1 h K := by kernel_rfl
set_option maxRecDepth 100000 in
theorem gprint_Print.calls {a1 : Option Addr} {h : Heap} {K : ByteArray → Heap → Prop} (hh : gprint_Print a1 h K) (w : World) (hw : w.heap = h) :
    (callFunc 24 #[(.pointer a1)]).run Tryz.prog w = .ok (.enter 24 #[(.pointer a1)]) w ∧ Calls Tryz.prog 24 #[(.pointer a1)] w fun e w' => ∃ v, e = .returned v ∧ Out w w' ∧ gprint_Print.ret K v w'.heap := by
  rw [← gprint_Print.eq] at hh
  exact fn_calls (args := [(.pointer a1)]) (c := gprint_Print.code) gprint_Print.ok Tryz.func24 (by kernel_rfl) (by kernel_rfl) (by kernel_rfl) (by kernel_rfl) (loops_ok (l := []) (by kernel_rfl) trivial) hh w hw
end

/-! ### strait/straitlaw18.awake: function 19 -/
section
variable [DKc]
def straitlaw18_awake (h : Heap) (K : Bool → Heap → Prop) : Prop :=
  (newP h (.cells #[(.int .i64 0), (.int .i64 1), (.int .i64 5)] 27) fun a1 h2 => callP3 (net_New 2 (some a1) 1 1 h2) fun x3 x4 x5 h6 => (newP h6 (.cells #[(.int .i64 1), (.int .i64 0), (.int .i64 0)] 27) fun a7 h8 => newP h8 (.cells #[(.float .f64 4613937818241073152)] 53) fun a9 h10 => callP3 (gprint_Floats 2 (some a7) 1 1 (some a9) 1 1 h10) fun x11 x12 x13 h14 => (iteB (x4 == (0 : Int)) (callP1 (gprint_Print x3 h14) fun x15 h16 => iteB (x15.toList == (⟨#[103, 114, 97, 112, 104, 32, 50, 32, 49, 10, 48, 32, 49, 32, 53, 10]⟩ : ByteArray).toList) (iteB (x12 == (0 : Int)) ((K (x11.toList == (⟨#[103, 114, 97, 112, 104, 32, 50, 32, 49, 10, 49, 32, 48, 32, 51, 10]⟩ : ByteArray).toList) h16)) (K false h16)) (K false h16)) (K false h14))))
def straitlaw18_awake.ret (K : Bool → Heap → Prop) (v : Value) (h : Heap) : Prop := match v with
  | (.bool r19) => K r19 h
  | _ => False
theorem straitlaw18_awake.ret_elim {K : Bool → Heap → Prop} {K' : Value → Heap → Prop} {v : Value} {h : Heap} (hk : ∀ r19 h, K r19 h → K' (.bool r19) h) (hh : straitlaw18_awake.ret K v h) : K' v h := by
  unfold straitlaw18_awake.ret at hh
  split at hh
  · exact hk _ _ hh
  · exact hh.elim
def straitlaw18_awake.call (f : FuncId) (vs : List Value) (h : Heap) (K : Value → Heap → Prop) : Prop := match f, vs with
  | 21, [(.int .i64 a1), (.slice a2 a2l a2c), (.slice a3 a3l a3c)] => callP3 (gprint_Floats a1 a2 a2l a2c a3 a3l a3c h) fun r20 r21 r22 h' => K (.tuple #[(.string r20), (.int .i64 r21), (.int .i64 r22)]) h'
  | 23, [(.int .i64 a1), (.slice a2 a2l a2c)] => callP3 (net_New a1 a2 a2l a2c h) fun r37 r38 r39 h' => K (.tuple #[(.pointer r37), (.int .i64 r38), (.int .i64 r39)]) h'
  | 24, [(.pointer a1)] => callP1 (gprint_Print a1 h) fun r10 h' => K (.string r10) h'
  | _, _ => False
noncomputable def straitlaw18_awake.ctx : Ctx := { P := Tryz.prog, call := straitlaw18_awake.call, qcall := fun _ _ _ _ => False, quiet := fun f => Nat.beq f 1000138 || Nat.beq f 2000157, loop := fun _ _ _ _ => False }
theorem straitlaw18_awake.ok : straitlaw18_awake.ctx.OK where
  mixed := by kernel_rfl
  mono := by
    intro f args h K K' hh hk
    change straitlaw18_awake.call f args h K at hh
    change straitlaw18_awake.call f args h K'
    unfold straitlaw18_awake.call at hh ⊢
    split at hh
    · obtain ⟨R, h1, h2⟩ := hh
      exact ⟨R, h1, fun _ _ _ x hr => hk _ _ (h2 _ _ _ x hr)⟩
    · obtain ⟨R, h1, h2⟩ := hh
      exact ⟨R, h1, fun _ _ _ x hr => hk _ _ (h2 _ _ _ x hr)⟩
    · obtain ⟨R, h1, h2⟩ := hh
      exact ⟨R, h1, fun _ x hr => hk _ _ (h2 _ x hr)⟩
    · exact hh.elim
  call := by
    intro f args h K hh w hw
    change straitlaw18_awake.call f args h K at hh
    unfold straitlaw18_awake.call at hh
    split at hh
    · obtain ⟨R, h1, h2⟩ := hh
      obtain ⟨g1, g2⟩ := gprint_Floats.calls h1 w hw
      exact ⟨g1, g2.mono fun e w' ⟨v, he, ho, hr⟩ => ⟨v, he, ho, gprint_Floats.ret_elim h2 hr⟩⟩
    · obtain ⟨R, h1, h2⟩ := hh
      obtain ⟨g1, g2⟩ := net_New.calls h1 w hw
      exact ⟨g1, g2.mono fun e w' ⟨v, he, ho, hr⟩ => ⟨v, he, ho, net_New.ret_elim h2 hr⟩⟩
    · obtain ⟨R, h1, h2⟩ := hh
      obtain ⟨g1, g2⟩ := gprint_Print.calls h1 w hw
      exact ⟨g1, g2.mono fun e w' ⟨v, he, ho, hr⟩ => ⟨v, he, ho, gprint_Print.ret_elim h2 hr⟩⟩
    · exact hh.elim
  qmono := fun hh _ => hh.elim
  qval := fun hh => hh.elim
  qcall := fun hh => hh.elim
noncomputable def straitlaw18_awake.code : Code := (Tryz.f19.body).getD .skip
def straitlaw18_awake.ann : Ann := .auto
set_option maxRecDepth 100000 in
theorem straitlaw18_awake.eq (h : Heap) (K : Bool → Heap → Prop) : evF straitlaw18_awake.ctx Tryz.f19 straitlaw18_awake.ann [] h (straitlaw18_awake.ret K) = straitlaw18_awake h K := by kernel_rfl
set_option maxRecDepth 100000 in
theorem straitlaw18_awake.calls {h : Heap} {K : Bool → Heap → Prop} (hh : straitlaw18_awake h K) (w : World) (hw : w.heap = h) :
    (callFunc 19 #[]).run Tryz.prog w = .ok (.enter 19 #[]) w ∧ Calls Tryz.prog 19 #[] w fun e w' => ∃ v, e = .returned v ∧ Out w w' ∧ straitlaw18_awake.ret K v w'.heap := by
  rw [← straitlaw18_awake.eq] at hh
  exact fn_calls (args := []) (c := straitlaw18_awake.code) straitlaw18_awake.ok Tryz.func19 (by kernel_rfl) (by kernel_rfl) (by kernel_rfl) (by kernel_rfl) (loops_ok (l := []) (by kernel_rfl) trivial) hh w hw
end

/-! ### slices.Clone[[]int,int]: function 99 -/
def slices_Clone_Lint_int (a1 : Option Addr) (a1l : Nat) (a1c : Nat) (h : Heap) (K : (Option Addr) → Nat → Nat → Heap → Prop) : Prop :=
  ((iteB a1.isNone (K none 0 0 h) ((newP h (.cells #[] 3) fun a2 h3 => ∃ n8, cellsAt h3 a1 (a1l * 1) n8 ∧ appP 3 1 8 [(.int .i64 0)] (some a2) 0 0 a1l n8 h3 fun q4 l5 c6 h7 => K q4 l5 c6 h7))))
def slices_Clone_Lint_int.ret (K : (Option Addr) → Nat → Nat → Heap → Prop) (v : Value) (h : Heap) : Prop := match v with
  | (.slice r9 r9l r9c) => K r9 r9l r9c h
  | _ => False
theorem slices_Clone_Lint_int.ret_elim {K : (Option Addr) → Nat → Nat → Heap → Prop} {K' : Value → Heap → Prop} {v : Value} {h : Heap} (hk : ∀ r9 r9l r9c h, K r9 r9l r9c h → K' (.slice r9 r9l r9c) h) (hh : slices_Clone_Lint_int.ret K v h) : K' v h := by
  unfold slices_Clone_Lint_int.ret at hh
  split at hh
  · exact hk _ _ _ _ hh
  · exact hh.elim
noncomputable def slices_Clone_Lint_int.ctx : Ctx := { P := Tryz.prog, call := fun _ _ _ _ => False, qcall := fun _ _ _ _ => False, quiet := fun f => Nat.beq f 1000138 || Nat.beq f 2000157, loop := fun _ _ _ _ => False }
theorem slices_Clone_Lint_int.ok [DKc] : slices_Clone_Lint_int.ctx.OK where
  mixed := by kernel_rfl
  mono := fun hh _ => hh.elim
  call := fun hh => hh.elim
  qmono := fun hh _ => hh.elim
  qval := fun hh => hh.elim
  qcall := fun hh => hh.elim
noncomputable def slices_Clone_Lint_int.code : Code := (Tryz.f99.body).getD .skip
def slices_Clone_Lint_int.ann : Ann := .auto
set_option maxRecDepth 100000 in
theorem slices_Clone_Lint_int.eq (a1 : Option Addr) (a1l : Nat) (a1c : Nat) (h : Heap) (K : (Option Addr) → Nat → Nat → Heap → Prop) : evF slices_Clone_Lint_int.ctx Tryz.f99 slices_Clone_Lint_int.ann [(.slice a1 a1l a1c)] h (slices_Clone_Lint_int.ret K) = slices_Clone_Lint_int a1 a1l a1c h K := by kernel_rfl
set_option maxRecDepth 100000 in
theorem slices_Clone_Lint_int.calls [DKc] {a1 : Option Addr} {a1l : Nat} {a1c : Nat} {h : Heap} {K : (Option Addr) → Nat → Nat → Heap → Prop} (hh : slices_Clone_Lint_int a1 a1l a1c h K) (w : World) (hw : w.heap = h) :
    (callFunc 99 #[(.slice a1 a1l a1c)]).run Tryz.prog w = .ok (.enter 99 #[(.slice a1 a1l a1c)]) w ∧ Calls Tryz.prog 99 #[(.slice a1 a1l a1c)] w fun e w' => ∃ v, e = .returned v ∧ Out w w' ∧ slices_Clone_Lint_int.ret K v w'.heap := by
  rw [← slices_Clone_Lint_int.eq] at hh
  exact fn_calls (args := [(.slice a1 a1l a1c)]) (c := slices_Clone_Lint_int.code) slices_Clone_Lint_int.ok Tryz.func99 (by kernel_rfl) (by kernel_rfl) (by kernel_rfl) (by kernel_rfl) (loops_ok (l := []) (by kernel_rfl) trivial) hh w hw

/-! ### (*strait/net.Net).Near: function 57 -/
def net_Net_Near (a1 : Option Addr) (a2 : Int) (h : Heap) (K : (Option Addr) → Nat → Nat → Heap → Prop) : Prop :=
  (let j11 : Prop := (chkP a1 fun a5 => ∃ (x6 : Option Addr) (x6l : Nat) (x6c : Nat), cell h a5 = some (.slice x6 x6l x6c) ∧ chkP x6 fun a7 => (0 ≤ a2 ∧ a2 < (x6l : Int)) ∧ ∃ (x8 : Option Addr) (x8l : Nat) (x8c : Nat), cell h (a7.add (a2.toNat * 1)) = some (.slice x8 x8l x8c) ∧ callP3 (slices_Clone_Lint_int x8 x8l x8c h) fun x9 x9l x9c h10 => K x9 x9l x9c h10);
  iteB (decide (a2 < (0 : Int))) (K none 0 0 h) (qcallP1 h (net_Net_N a1 h) fun x3 => (iteB (decide (a2 ≥ x3)) (K none 0 0 h) ((j11)))))
def net_Net_Near.ret (K : (Option Addr) → Nat → Nat → Heap → Prop) (v : Value) (h : Heap) : Prop := match v with
  | (.slice r12 r12l r12c) => K r12 r12l r12c h
  | _ => False
theorem net_Net_Near.ret_elim {K : (Option Addr) → Nat → Nat → Heap → Prop} {K' : Value → Heap → Prop} {v : Value} {h : Heap} (hk : ∀ r12 r12l r12c h, K r12 r12l r12c h → K' (.slice r12 r12l r12c) h) (hh : net_Net_Near.ret K v h) : K' v h := by
  unfold net_Net_Near.ret at hh
  split at hh
  · exact hk _ _ _ _ hh
  · exact hh.elim
def net_Net_Near.call (f : FuncId) (vs : List Value) (h : Heap) (K : Value → Heap → Prop) : Prop := match f, vs with
  | 99, [(.slice a1 a1l a1c)] => callP3 (slices_Clone_Lint_int a1 a1l a1c h) fun r9 r9l r9c h' => K (.slice r9 r9l r9c) h'
  | _, _ => False
def net_Net_Near.qcall (f : FuncId) (vs : List Value) (h : Heap) (K : Value → Prop) : Prop := match f, vs with
  | 16, [(.pointer a1)] => qcallP1 h (net_Net_N a1 h) fun r4 => K (.int .i64 r4)
  | _, _ => False
noncomputable def net_Net_Near.ctx : Ctx := { P := Tryz.prog, call := net_Net_Near.call, qcall := net_Net_Near.qcall, quiet := fun f => Nat.beq f 16 || Nat.beq f 1000138 || Nat.beq f 2000157, loop := fun _ _ _ _ => False }
theorem net_Net_Near.ok [DKc] : net_Net_Near.ctx.OK where
  mixed := by kernel_rfl
  mono := by
    intro f args h K K' hh hk
    change net_Net_Near.call f args h K at hh
    change net_Net_Near.call f args h K'
    unfold net_Net_Near.call at hh ⊢
    split at hh
    · obtain ⟨R, h1, h2⟩ := hh
      exact ⟨R, h1, fun _ _ _ x hr => hk _ _ (h2 _ _ _ x hr)⟩
    · exact hh.elim
  call := by
    intro f args h K hh w hw
    change net_Net_Near.call f args h K at hh
    unfold net_Net_Near.call at hh
    split at hh
    · obtain ⟨R, h1, h2⟩ := hh
      obtain ⟨g1, g2⟩ := slices_Clone_Lint_int.calls h1 w hw
      exact ⟨g1, g2.mono fun e w' ⟨v, he, ho, hr⟩ => ⟨v, he, ho, slices_Clone_Lint_int.ret_elim h2 hr⟩⟩
    · exact hh.elim
  qmono := by
    intro f args h K K' hh hk
    change net_Net_Near.qcall f args h K at hh
    change net_Net_Near.qcall f args h K'
    unfold net_Net_Near.qcall at hh ⊢
    split at hh
    · obtain ⟨x0, h1, h2⟩ := hh
      exact ⟨x0, h1, hk _ h2⟩
    · exact hh.elim
  qval := by
    intro f args h K hh
    change net_Net_Near.qcall f args h K at hh
    suffices H : ∃ v, K v ∧ net_Net_Near.qcall f args h (· = v) from H
    unfold net_Net_Near.qcall at hh ⊢
    split at hh
    · obtain ⟨x0, h1, h2⟩ := hh
      exact ⟨_, h2, x0, h1, rfl⟩
    · exact hh.elim
  qcall := by
    intro f args h v hh w hw
    change net_Net_Near.qcall f args h (· = v) at hh
    unfold net_Net_Near.qcall at hh
    split at hh
    · obtain ⟨x0, h1, h2⟩ := hh
      obtain ⟨g1, g2⟩ := net_Net_N.calls h1 w hw
      refine .inl ⟨g1, g2.mono fun e w' ⟨u, he, ho, hr⟩ => ?_⟩
      have hq := net_Net_N.ret_elim (K' := fun u h' => u = v ∧ h' = h) (fun _ h' hr => by obtain ⟨rfl, rfl⟩ := hr; exact ⟨h2, rfl⟩) hr
      exact ⟨hq.1 ▸ he, ho, hq.2⟩
    · exact hh.elim
noncomputable def net_Net_Near.code : Code := (Tryz.f57.body).getD .skip
def net_Net_Near.ann : Ann := .auto
set_option maxRecDepth 100000 in
theorem net_Net_Near.eq (a1 : Option Addr) (a2 : Int) (h : Heap) (K : (Option Addr) → Nat → Nat → Heap → Prop) : evF net_Net_Near.ctx Tryz.f57 net_Net_Near.ann [(.pointer a1), (.int .i64 a2)] h (net_Net_Near.ret K) = net_Net_Near a1 a2 h K := by kernel_rfl
set_option maxRecDepth 100000 in
theorem net_Net_Near.calls [DKc] {a1 : Option Addr} {a2 : Int} {h : Heap} {K : (Option Addr) → Nat → Nat → Heap → Prop} (hh : net_Net_Near a1 a2 h K) (w : World) (hw : w.heap = h) :
    (callFunc 57 #[(.pointer a1), (.int .i64 a2)]).run Tryz.prog w = .ok (.enter 57 #[(.pointer a1), (.int .i64 a2)]) w ∧ Calls Tryz.prog 57 #[(.pointer a1), (.int .i64 a2)] w fun e w' => ∃ v, e = .returned v ∧ Out w w' ∧ net_Net_Near.ret K v w'.heap := by
  rw [← net_Net_Near.eq] at hh
  exact fn_calls (args := [(.pointer a1), (.int .i64 a2)]) (c := net_Net_Near.code) net_Net_Near.ok Tryz.func57 (by kernel_rfl) (by kernel_rfl) (by kernel_rfl) (by kernel_rfl) (loops_ok (l := []) (by kernel_rfl) trivial) hh w hw

/-! ### strait/gprint.Dot$1: function 55 -/
section
variable [DKc]
def gprint_Dot_c1 (a1 : Int) (h : Heap) (K : ByteArray → Heap → Prop) : Prop :=
  (callP1 (dec_Print a1 h) fun x2 h3 => K x2 h3)
def gprint_Dot_c1.ret (K : ByteArray → Heap → Prop) (v : Value) (h : Heap) : Prop := match v with
  | (.string r4) => K r4 h
  | _ => False
theorem gprint_Dot_c1.ret_elim {K : ByteArray → Heap → Prop} {K' : Value → Heap → Prop} {v : Value} {h : Heap} (hk : ∀ r4 h, K r4 h → K' (.string r4) h) (hh : gprint_Dot_c1.ret K v h) : K' v h := by
  unfold gprint_Dot_c1.ret at hh
  split at hh
  · exact hk _ _ hh
  · exact hh.elim
def gprint_Dot_c1.call (f : FuncId) (vs : List Value) (h : Heap) (K : Value → Heap → Prop) : Prop := match f, vs with
  | 56, [(.int .i64 a1)] => callP1 (dec_Print a1 h) fun r4 h' => K (.string r4) h'
  | _, _ => False
noncomputable def gprint_Dot_c1.ctx : Ctx := { P := Tryz.prog, call := gprint_Dot_c1.call, qcall := fun _ _ _ _ => False, quiet := fun f => Nat.beq f 1000138 || Nat.beq f 2000157, loop := fun _ _ _ _ => False }
theorem gprint_Dot_c1.ok : gprint_Dot_c1.ctx.OK where
  mixed := by kernel_rfl
  mono := by
    intro f args h K K' hh hk
    change gprint_Dot_c1.call f args h K at hh
    change gprint_Dot_c1.call f args h K'
    unfold gprint_Dot_c1.call at hh ⊢
    split at hh
    · obtain ⟨R, h1, h2⟩ := hh
      exact ⟨R, h1, fun _ x hr => hk _ _ (h2 _ x hr)⟩
    · exact hh.elim
  call := by
    intro f args h K hh w hw
    change gprint_Dot_c1.call f args h K at hh
    unfold gprint_Dot_c1.call at hh
    split at hh
    · obtain ⟨R, h1, h2⟩ := hh
      obtain ⟨g1, g2⟩ := dec_Print.calls h1 w hw
      exact ⟨g1, g2.mono fun e w' ⟨v, he, ho, hr⟩ => ⟨v, he, ho, dec_Print.ret_elim h2 hr⟩⟩
    · exact hh.elim
  qmono := fun hh _ => hh.elim
  qval := fun hh => hh.elim
  qcall := fun hh => hh.elim
noncomputable def gprint_Dot_c1.code : Code := (Tryz.f55.body).getD .skip
def gprint_Dot_c1.ann : Ann := .auto
set_option maxRecDepth 100000 in
theorem gprint_Dot_c1.eq (a1 : Int) (h : Heap) (K : ByteArray → Heap → Prop) : evF gprint_Dot_c1.ctx Tryz.f55 gprint_Dot_c1.ann [(.int .i64 a1)] h (gprint_Dot_c1.ret K) = gprint_Dot_c1 a1 h K := by kernel_rfl
set_option maxRecDepth 100000 in
theorem gprint_Dot_c1.calls {a1 : Int} {h : Heap} {K : ByteArray → Heap → Prop} (hh : gprint_Dot_c1 a1 h K) (w : World) (hw : w.heap = h) :
    (callFunc 55 #[(.int .i64 a1)]).run Tryz.prog w = .ok (.enter 55 #[(.int .i64 a1)]) w ∧ Calls Tryz.prog 55 #[(.int .i64 a1)] w fun e w' => ∃ v, e = .returned v ∧ Out w w' ∧ gprint_Dot_c1.ret K v w'.heap := by
  rw [← gprint_Dot_c1.eq] at hh
  exact fn_calls (args := [(.int .i64 a1)]) (c := gprint_Dot_c1.code) gprint_Dot_c1.ok Tryz.func55 (by kernel_rfl) (by kernel_rfl) (by kernel_rfl) (by kernel_rfl) (loops_ok (l := []) (by kernel_rfl) trivial) hh w hw
end

/-! ### strait/gprint.Dot: function 25 -/
section
variable [DKc]
def gprint_Dot.b1 (K4 : Heap → Prop) (cont : (Option Addr) → Addr → (Option Addr) → Nat → Nat → Int → Int → Heap → Prop) (c3_2001 : Option Addr) (c4_2002 : Addr) (c36_2003 : Option Addr) (c36_2004 : Nat) (c36_2005 : Nat) (c37_2006 : Int) (v38_2007 : Int) (h2008 : Heap) : Prop :=
  (iteB (decide (v38_2007 < c37_2006)) ((chkP c36_2003 fun a2009 => (0 ≤ v38_2007 ∧ v38_2007 < (c36_2004 : Int)) ∧ ∃ (x2010 : Int), cell h2008 (a2009.add (v38_2007.toNat * 3)) = some (.int .i64 x2010) ∧ ∃ (x2011 : Int), cell h2008 ((a2009.add (v38_2007.toNat * 3)).add 1) = some (.int .i64 x2011) ∧ ∃ (x2012 : Int), cell h2008 ((a2009.add (v38_2007.toNat * 3)).add 2) = some (.int .i64 x2012) ∧ newP h2008 (.cells #[(.int .i64 0), (.int .i64 0), (.int .i64 0)] 27) fun a2013 h2014 => stC h2014 a2013 (.int .i64 x2010) fun h2015 => stC h2015 (a2013.add 1) (.int .i64 x2011) fun h2016 => stC h2016 (a2013.add 2) (.int .i64 x2012) fun h2017 => (∃ (x2018 : Int), cell h2017 a2013 = some (.int .i64 x2018) ∧ ∃ (x2019 : Int), cell h2017 (a2013.add 1) = some (.int .i64 x2019) ∧ ∃ (x2020 : Int), cell h2017 (a2013.add 2) = some (.int .i64 x2020) ∧ callP1 (gprint_Dot_c1 x2018 h2017) fun x2021 h2022 => (∃ (x2023 : Int), cell h2022 (a2013.add 2) = some (.int .i64 x2023) ∧ ((.int .i64 x2023) : Value) = (.int .i64 x2020)) ∧ (∃ (x2024 : Int), cell h2022 (a2013.add 1) = some (.int .i64 x2024) ∧ ((.int .i64 x2024) : Value) = (.int .i64 x2019)) ∧ callP1 (gprint_Dot_c1 x2019 h2022) fun x2025 h2026 => (∃ (x2027 : Int), cell h2026 (a2013.add 2) = some (.int .i64 x2027) ∧ ((.int .i64 x2027) : Value) = (.int .i64 x2020)) ∧ callP1 (dec_Print x2020 h2026) fun x2028 h2029 => newP h2029 (.cells #[(.string x2021), (.string (⟨#[32, 45, 45, 32]⟩ : ByteArray)), (.string x2025), (.string (⟨#[32, 91]⟩ : ByteArray)), (.string x2028), (.string (⟨#[93, 59]⟩ : ByteArray))] 9) fun a2030 h2031 => callP0 (gprint_lines_c1 (some a2030) 6 6 c4_2002 h2031) fun h2032 => ((cont c3_2001 c4_2002 c36_2003 c36_2004 c36_2005 c37_2006 (IntKind.i64.wrap (v38_2007 + 1)) h2032))))) (K4 h2008))
def gprint_Dot.l1 (K4 : Heap → Prop) : Nat → (Option Addr) → Addr → (Option Addr) → Nat → Nat → Int → Int → Heap → Prop
  | 0, _, _, _, _, _, _, _, _ => False
  | m + 1, c3_2001, c4_2002, c36_2003, c36_2004, c36_2005, c37_2006, v38_2007, h => gprint_Dot.b1 K4 (gprint_Dot.l1 K4 m) c3_2001 c4_2002 c36_2003 c36_2004 c36_2005 c37_2006 v38_2007 h
def gprint_Dot.b0 (K2 : Heap → Prop) (cont : (Option Addr) → (Option Addr) → Addr → Int → Int → Heap → Prop) (c0_1001 : Option Addr) (c3_1002 : Option Addr) (c4_1003 : Addr) (c19_1004 : Int) (v20_1005 : Int) (h1006 : Heap) : Prop :=
  (iteB (decide (v20_1005 < c19_1004)) (((callP3 (net_Net_Near c0_1001 v20_1005 h1006) fun x1007 x1007l x1007c h1008 => (iteB ((x1007l : Int) == (0 : Int)) (callP1 (gprint_Dot_c1 v20_1005 h1008) fun x1009 h1010 => newP h1010 (.cells #[(.string x1009), (.string (⟨#[59]⟩ : ByteArray))] 9) fun a1011 h1012 => callP0 (gprint_lines_c1 (some a1011) 2 2 c4_1003 h1012) fun h1013 => ((cont c0_1001 c3_1002 c4_1003 c19_1004 (IntKind.i64.wrap (v20_1005 + 1)) h1013))) (((cont c0_1001 c3_1002 c4_1003 c19_1004 (IntKind.i64.wrap (v20_1005 + 1)) h1008))))))) (K2 h1006))
def gprint_Dot.l0 (K2 : Heap → Prop) : Nat → (Option Addr) → (Option Addr) → Addr → Int → Int → Heap → Prop
  | 0, _, _, _, _, _, _ => False
  | m + 1, c0_1001, c3_1002, c4_1003, c19_1004, v20_1005, h => gprint_Dot.b0 K2 (gprint_Dot.l0 K2 m) c0_1001 c3_1002 c4_1003 c19_1004 v20_1005 h
def gprint_Dot (a1 : Option Addr) (h : Heap) (K : ByteArray → Heap → Prop) : Prop :=
  ((iteB a1.isNone ((K (⟨#[]⟩ : ByteArray) h)) ((callP2 (gprint_lines h) fun x2 x3 h4 => ((newP h4 (.cells #[(.string (⟨#[103, 114, 97, 112, 104, 32, 123]⟩ : ByteArray))] 9) fun a5 h6 => callP0 (gprint_lines_c1 (some a5) 1 1 x3 h6) fun h7 => (qcallP1 h7 (net_Net_N a1 h7) fun x8 => (∃ m10, gprint_Dot.l0 (fun h9 => ((callP3 (net_Net_Edges a1 h9) fun x11 x11l x11c h12 => (∃ m14, gprint_Dot.l1 (fun h13 => ((newP h13 (.cells #[(.string (⟨#[125]⟩ : ByteArray))] 9) fun a15 h16 => callP0 (gprint_lines_c1 (some a15) 1 1 x3 h16) fun h17 => (callP1 (strings_Builder_String x2 h17) fun x18 h19 => K x18 h19)))) m14 x2 x3 x11 x11l x11c (x11l : Int) 0 h12)))) m10 a1 x2 x3 x8 0 h7))))))))
def gprint_Dot.ret (K : ByteArray → Heap → Prop) (v : Value) (h : Heap) : Prop := match v with
  | (.string r20) => K r20 h
  | _ => False
theorem gprint_Dot.ret_elim {K : ByteArray → Heap → Prop} {K' : Value → Heap → Prop} {v : Value} {h : Heap} (hk : ∀ r20 h, K r20 h → K' (.string r20) h) (hh : gprint_Dot.ret K v h) : K' v h := by
  unfold gprint_Dot.ret at hh
  split at hh
  · exact hk _ _ hh
  · exact hh.elim
def gprint_Dot.call (f : FuncId) (vs : List Value) (h : Heap) (K : Value → Heap → Prop) : Prop := match f, vs with
  | 18, [(.pointer a1)] => callP3 (net_Net_Edges a1 h) fun r6 r6l r6c h' => K (.slice r6 r6l r6c) h'
  | 54, [] => callP2 (gprint_lines h) fun r3 r4 h' => K (.tuple #[(.pointer r3), (.func (.func 95) #[] #[(.pointer (some r4))])]) h'
  | 55, [(.int .i64 a1)] => callP1 (gprint_Dot_c1 a1 h) fun r4 h' => K (.string r4) h'
  | 56, [(.int .i64 a1)] => callP1 (dec_Print a1 h) fun r4 h' => K (.string r4) h'
  | 57, [(.pointer a1), (.int .i64 a2)] => callP3 (net_Net_Near a1 a2 h) fun r12 r12l r12c h' => K (.slice r12 r12l r12c) h'
  | 58, [(.pointer a1)] => callP1 (strings_Builder_String a1 h) fun r2 h' => K (.string r2) h'
  | 95, [(.slice a1 a1l a1c), (.pointer (some a2))] => callP0 (gprint_lines_c1 a1 a1l a1c a2 h) fun h' => K (.tuple #[]) h'
  | _, _ => False
def gprint_Dot.qcall (f : FuncId) (vs : List Value) (h : Heap) (K : Value → Prop) : Prop := match f, vs with
  | 16, [(.pointer a1)] => qcallP1 h (net_Net_N a1 h) fun r4 => K (.int .i64 r4)
  | _, _ => False
def gprint_Dot.r0 (K : Nat → List Value → Heap → Prop) (m : Nat) (vs : List Value) (h : Heap) : Prop := match vs with
  | [(.pointer c0_1001), (.pointer c3_1002), (.func (.func 95) ⟨[]⟩ ⟨[(.pointer (some c4_1003))]⟩), (.func (.func 55) ⟨[]⟩ ⟨[]⟩), (.int .i64 c19_1004), (.int .i64 v20_1005)] => gprint_Dot.l0 (fun h' => K 2 [(.pointer c0_1001), (.pointer c3_1002), (.func (.func 95) #[] #[(.pointer (some c4_1003))]), (.func (.func 55) #[] #[])] h') m c0_1001 c3_1002 c4_1003 c19_1004 v20_1005 h
  | _ => False
def gprint_Dot.r1 (K : Nat → List Value → Heap → Prop) (m : Nat) (vs : List Value) (h : Heap) : Prop := match vs with
  | [(.pointer c3_2001), (.func (.func 95) ⟨[]⟩ ⟨[(.pointer (some c4_2002))]⟩), (.func (.func 55) ⟨[]⟩ ⟨[]⟩), (.slice c36_2003 c36_2004 c36_2005), (.int .i64 c37_2006), (.int .i64 v38_2007)] => gprint_Dot.l1 (fun h' => K 4 [(.pointer c3_2001), (.func (.func 95) #[] #[(.pointer (some c4_2002))])] h') m c3_2001 c4_2002 c36_2003 c36_2004 c36_2005 c37_2006 v38_2007 h
  | _ => False
def gprint_Dot.loop (i : Nat) (vs : List Value) (h : Heap) (K : Nat → List Value → Heap → Prop) : Prop := match i with
  | 0 => ∃ m, gprint_Dot.r0 K m vs h
  | 1 => ∃ m, gprint_Dot.r1 K m vs h
  | _ => False
noncomputable def gprint_Dot.ctx : Ctx := { P := Tryz.prog, call := gprint_Dot.call, qcall := gprint_Dot.qcall, quiet := fun f => Nat.beq f 16 || Nat.beq f 1000138 || Nat.beq f 2000157, loop := gprint_Dot.loop }
theorem gprint_Dot.ok : gprint_Dot.ctx.OK where
  mixed := by kernel_rfl
  mono := by
    intro f args h K K' hh hk
    change gprint_Dot.call f args h K at hh
    change gprint_Dot.call f args h K'
    unfold gprint_Dot.call at hh ⊢
    split at hh
    · obtain ⟨R, h1, h2⟩ := hh
      exact ⟨R, h1, fun _ _ _ x hr => hk _ _ (h2 _ _ _ x hr)⟩
    · obtain ⟨R, h1, h2⟩ := hh
      exact ⟨R, h1, fun _ _ x hr => hk _ _ (h2 _ _ x hr)⟩
    · obtain ⟨R, h1, h2⟩ := hh
      exact ⟨R, h1, fun _ x hr => hk _ _ (h2 _ x hr)⟩
    · obtain ⟨R, h1, h2⟩ := hh
      exact ⟨R, h1, fun _ x hr => hk _ _ (h2 _ x hr)⟩
    · obtain ⟨R, h1, h2⟩ := hh
      exact ⟨R, h1, fun _ _ _ x hr => hk _ _ (h2 _ _ _ x hr)⟩
    · obtain ⟨R, h1, h2⟩ := hh
      exact ⟨R, h1, fun _ x hr => hk _ _ (h2 _ x hr)⟩
    · obtain ⟨R, h1, h2⟩ := hh
      exact ⟨R, h1, fun x hr => hk _ _ (h2 x hr)⟩
    · exact hh.elim
  call := by
    intro f args h K hh w hw
    change gprint_Dot.call f args h K at hh
    unfold gprint_Dot.call at hh
    split at hh
    · obtain ⟨R, h1, h2⟩ := hh
      obtain ⟨g1, g2⟩ := net_Net_Edges.calls h1 w hw
      exact ⟨g1, g2.mono fun e w' ⟨v, he, ho, hr⟩ => ⟨v, he, ho, net_Net_Edges.ret_elim h2 hr⟩⟩
    · obtain ⟨R, h1, h2⟩ := hh
      obtain ⟨g1, g2⟩ := gprint_lines.calls h1 w hw
      exact ⟨g1, g2.mono fun e w' ⟨v, he, ho, hr⟩ => ⟨v, he, ho, gprint_lines.ret_elim h2 hr⟩⟩
    · obtain ⟨R, h1, h2⟩ := hh
      obtain ⟨g1, g2⟩ := gprint_Dot_c1.calls h1 w hw
      exact ⟨g1, g2.mono fun e w' ⟨v, he, ho, hr⟩ => ⟨v, he, ho, gprint_Dot_c1.ret_elim h2 hr⟩⟩
    · obtain ⟨R, h1, h2⟩ := hh
      obtain ⟨g1, g2⟩ := dec_Print.calls h1 w hw
      exact ⟨g1, g2.mono fun e w' ⟨v, he, ho, hr⟩ => ⟨v, he, ho, dec_Print.ret_elim h2 hr⟩⟩
    · obtain ⟨R, h1, h2⟩ := hh
      obtain ⟨g1, g2⟩ := net_Net_Near.calls h1 w hw
      exact ⟨g1, g2.mono fun e w' ⟨v, he, ho, hr⟩ => ⟨v, he, ho, net_Net_Near.ret_elim h2 hr⟩⟩
    · obtain ⟨R, h1, h2⟩ := hh
      obtain ⟨g1, g2⟩ := strings_Builder_String.calls h1 w hw
      exact ⟨g1, g2.mono fun e w' ⟨v, he, ho, hr⟩ => ⟨v, he, ho, strings_Builder_String.ret_elim h2 hr⟩⟩
    · obtain ⟨R, h1, h2⟩ := hh
      obtain ⟨g1, g2⟩ := gprint_lines_c1.calls h1 w hw
      exact ⟨g1, g2.mono fun e w' ⟨v, he, ho, hr⟩ => ⟨v, he, ho, gprint_lines_c1.ret_elim h2 hr⟩⟩
    · exact hh.elim
  qmono := by
    intro f args h K K' hh hk
    change gprint_Dot.qcall f args h K at hh
    change gprint_Dot.qcall f args h K'
    unfold gprint_Dot.qcall at hh ⊢
    split at hh
    · obtain ⟨x0, h1, h2⟩ := hh
      exact ⟨x0, h1, hk _ h2⟩
    · exact hh.elim
  qval := by
    intro f args h K hh
    change gprint_Dot.qcall f args h K at hh
    suffices H : ∃ v, K v ∧ gprint_Dot.qcall f args h (· = v) from H
    unfold gprint_Dot.qcall at hh ⊢
    split at hh
    · obtain ⟨x0, h1, h2⟩ := hh
      exact ⟨_, h2, x0, h1, rfl⟩
    · exact hh.elim
  qcall := by
    intro f args h v hh w hw
    change gprint_Dot.qcall f args h (· = v) at hh
    unfold gprint_Dot.qcall at hh
    split at hh
    · obtain ⟨x0, h1, h2⟩ := hh
      obtain ⟨g1, g2⟩ := net_Net_N.calls h1 w hw
      refine .inl ⟨g1, g2.mono fun e w' ⟨u, he, ho, hr⟩ => ?_⟩
      have hq := net_Net_N.ret_elim (K' := fun u h' => u = v ∧ h' = h) (fun _ h' hr => by obtain ⟨rfl, rfl⟩ := hr; exact ⟨h2, rfl⟩) hr
      exact ⟨hq.1 ▸ he, ho, hq.2⟩
    · exact hh.elim
noncomputable def gprint_Dot.code : Code := (Tryz.f25.body).getD .skip
def gprint_Dot.ann : Ann := (.two .auto (.two .auto (.two .auto (.two .auto (.two .auto (.two (.two .auto (.two (.loop 0 [0, 3, 4, 5, 19, 20] [(2, [0, 3, 4, 5])] .auto) .auto)) (.two (.two .auto (.two (.loop 1 [3, 4, 5, 36, 37, 38] [(4, [3, 4])] (.two .auto (.two .auto (.two (.two (.two .auto (.reg [0, 0, 0, 4, 14, 0, 0, 64, 254, 0, 512, 2046, 4094, 8191] (.take 0 (.take 1 (.take 2 (.take 3 (.take 5 (.take 6 (.take 9 (.early 7 (.early 10 (.alt 4 (.alt 8 (.alt 11 (.alt 12 (.alt 13 .done .noalt) .noalt) .noalt) .noalt) .noalt)))))))))))) .auto) .auto)))) .auto)) .auto)))))))
noncomputable def gprint_Dot.c1 : Code := sub gprint_Dot.code [1, 1, 1, 1, 1, 1, 0, 1, 0, 0]
def gprint_Dot.a1 : Ann := (.two .auto (.two .auto (.two (.two (.two .auto (.reg [0, 0, 0, 4, 14, 0, 0, 64, 254, 0, 512, 2046, 4094, 8191] (.take 0 (.take 1 (.take 2 (.take 3 (.take 5 (.take 6 (.take 9 (.early 7 (.early 10 (.alt 4 (.alt 8 (.alt 11 (.alt 12 (.alt 13 .done .noalt) .noalt) .noalt) .noalt) .noalt)))))))))))) .auto) .auto)))
def gprint_Dot.keep1 : List Nat := [3, 4, 5, 36, 37, 38]
def gprint_Dot.outs1 : List (Nat × List Nat) := [(4, [3, 4])]
noncomputable def gprint_Dot.c0 : Code := sub gprint_Dot.code [1, 1, 1, 1, 1, 0, 1, 0, 0]
def gprint_Dot.a0 : Ann := .auto
def gprint_Dot.keep0 : List Nat := [0, 3, 4, 5, 19, 20]
def gprint_Dot.outs0 : List (Nat × List Nat) := [(2, [0, 3, 4, 5])]
set_option maxRecDepth 100000 in
theorem gprint_Dot.L0 : LoopOK gprint_Dot.ctx 62 gprint_Dot.c0 0 gprint_Dot.keep0 gprint_Dot.outs0 := by
  refine loop_ok (n := gprint_Dot.a0) gprint_Dot.ok (by kernel_rfl) (loops_ok (l := []) (by kernel_rfl) ?_) gprint_Dot.r0 ?_ ?_ (fun vs h K hh => hh)
  · exact trivial
  · intro K vs h hh
    unfold gprint_Dot.r0 at hh
    split at hh
    · exact hh
    · exact hh
  · intro K m vs h hh
    unfold gprint_Dot.r0 at hh
    split at hh
    · exact cast (by kernel_rfl) hh
    · exact hh.elim
set_option maxRecDepth 100000 in
theorem gprint_Dot.L1 : LoopOK gprint_Dot.ctx 62 gprint_Dot.c1 1 gprint_Dot.keep1 gprint_Dot.outs1 := by
  refine loop_ok (n := gprint_Dot.a1) gprint_Dot.ok (by kernel_rfl) (loops_ok (l := []) (by kernel_rfl) ?_) gprint_Dot.r1 ?_ ?_ (fun vs h K hh => hh)
  · exact trivial
  · intro K vs h hh
    unfold gprint_Dot.r1 at hh
    split at hh
    · exact hh
    · exact hh
  · intro K m vs h hh
    unfold gprint_Dot.r1 at hh
    split at hh
    · exact cast (by kernel_rfl) hh
    · exact hh.elim
set_option maxRecDepth 100000 in
theorem gprint_Dot.eq (a1 : Option Addr) (h : Heap) (K : ByteArray → Heap → Prop) : evF gprint_Dot.ctx Tryz.f25 gprint_Dot.ann [(.pointer a1)] h (gprint_Dot.ret K) = gprint_Dot a1 h K := by kernel_rfl
set_option maxRecDepth 100000 in
theorem gprint_Dot.calls {a1 : Option Addr} {h : Heap} {K : ByteArray → Heap → Prop} (hh : gprint_Dot a1 h K) (w : World) (hw : w.heap = h) :
    (callFunc 25 #[(.pointer a1)]).run Tryz.prog w = .ok (.enter 25 #[(.pointer a1)]) w ∧ Calls Tryz.prog 25 #[(.pointer a1)] w fun e w' => ∃ v, e = .returned v ∧ Out w w' ∧ gprint_Dot.ret K v w'.heap := by
  rw [← gprint_Dot.eq] at hh
  exact fn_calls (args := [(.pointer a1)]) (c := gprint_Dot.code) gprint_Dot.ok Tryz.func25 (by kernel_rfl) (by kernel_rfl) (by kernel_rfl) (by kernel_rfl) (loops_ok (l := [(gprint_Dot.c0, none, 0, gprint_Dot.keep0, gprint_Dot.outs0), (gprint_Dot.c1, none, 1, gprint_Dot.keep1, gprint_Dot.outs1)]) (by kernel_rfl) ⟨gprint_Dot.L0, gprint_Dot.L1, trivial⟩) hh w hw
end

/-! ### (*strait/net.Net).Weight$1: function 101 -/
def net_Net_Weight_c1 (a1 : Int) (a2 : Int) (a3 : Int) (a4 : Int) (a5 : Int) (a6 : Int) (h : Heap) (K : Int → Heap → Prop) : Prop :=
  newP h (.cells #[(.int .i64 a1), (.int .i64 a2), (.int .i64 a3)] 27) fun a7 h8 => newP h8 (.cells #[(.int .i64 a4), (.int .i64 a5), (.int .i64 a6)] 27) fun a9 h10 => (∃ (x11 : Int), cell h10 a7 = some (.int .i64 x11) ∧ ∃ (x12 : Int), cell h10 a9 = some (.int .i64 x12) ∧ qcallP1 h10 (cmp_Compare_int x11 x12 h10) fun x13 => ∃ (x14 : Int), cell h10 (a7.add 1) = some (.int .i64 x14) ∧ ∃ (x15 : Int), cell h10 (a9.add 1) = some (.int .i64 x15) ∧ qcallP1 h10 (cmp_Compare_int x14 x15 h10) fun x16 => newP h10 (.cells #[(.int .i64 x13), (.int .i64 x16)] 3) fun a17 h18 => qcallP1 h18 (cmp_Or_int (some a17) 2 2 h18) fun x19 => K x19 h18)
def net_Net_Weight_c1.ret (K : Int → Heap → Prop) (v : Value) (h : Heap) : Prop := match v with
  | (.int .i64 r20) => K r20 h
  | _ => False
theorem net_Net_Weight_c1.ret_elim {K : Int → Heap → Prop} {K' : Value → Heap → Prop} {v : Value} {h : Heap} (hk : ∀ r20 h, K r20 h → K' (.int .i64 r20) h) (hh : net_Net_Weight_c1.ret K v h) : K' v h := by
  unfold net_Net_Weight_c1.ret at hh
  split at hh
  · exact hk _ _ hh
  · exact hh.elim
def net_Net_Weight_c1.qcall (f : FuncId) (vs : List Value) (h : Heap) (K : Value → Prop) : Prop := match f, vs with
  | 102, [(.slice a1 a1l a1c)] => qcallP1 h (cmp_Or_int a1 a1l a1c h) fun r6 => K (.int .i64 r6)
  | 103, [(.int .i64 a1), (.int .i64 a2)] => qcallP1 h (cmp_Compare_int a1 a2 h) fun r5 => K (.int .i64 r5)
  | _, _ => False
noncomputable def net_Net_Weight_c1.ctx : Ctx := { P := Tryz.prog, call := fun _ _ _ _ => False, qcall := net_Net_Weight_c1.qcall, quiet := fun f => Nat.beq f 102 || Nat.beq f 103 || Nat.beq f 1000138 || Nat.beq f 2000157, loop := fun _ _ _ _ => False }
theorem net_Net_Weight_c1.ok [DKc] : net_Net_Weight_c1.ctx.OK where
  mixed := by kernel_rfl
  mono := fun hh _ => hh.elim
  call := fun hh => hh.elim
  qmono := by
    intro f args h K K' hh hk
    change net_Net_Weight_c1.qcall f args h K at hh
    change net_Net_Weight_c1.qcall f args h K'
    unfold net_Net_Weight_c1.qcall at hh ⊢
    split at hh
    · obtain ⟨x0, h1, h2⟩ := hh
      exact ⟨x0, h1, hk _ h2⟩
    · obtain ⟨x0, h1, h2⟩ := hh
      exact ⟨x0, h1, hk _ h2⟩
    · exact hh.elim
  qval := by
    intro f args h K hh
    change net_Net_Weight_c1.qcall f args h K at hh
    suffices H : ∃ v, K v ∧ net_Net_Weight_c1.qcall f args h (· = v) from H
    unfold net_Net_Weight_c1.qcall at hh ⊢
    split at hh
    · obtain ⟨x0, h1, h2⟩ := hh
      exact ⟨_, h2, x0, h1, rfl⟩
    · obtain ⟨x0, h1, h2⟩ := hh
      exact ⟨_, h2, x0, h1, rfl⟩
    · exact hh.elim
  qcall := by
    intro f args h v hh w hw
    change net_Net_Weight_c1.qcall f args h (· = v) at hh
    unfold net_Net_Weight_c1.qcall at hh
    split at hh
    · obtain ⟨x0, h1, h2⟩ := hh
      obtain ⟨g1, g2⟩ := cmp_Or_int.calls h1 w hw
      refine .inl ⟨g1, g2.mono fun e w' ⟨u, he, ho, hr⟩ => ?_⟩
      have hq := cmp_Or_int.ret_elim (K' := fun u h' => u = v ∧ h' = h) (fun _ h' hr => by obtain ⟨rfl, rfl⟩ := hr; exact ⟨h2, rfl⟩) hr
      exact ⟨hq.1 ▸ he, ho, hq.2⟩
    · obtain ⟨x0, h1, h2⟩ := hh
      obtain ⟨g1, g2⟩ := cmp_Compare_int.calls h1 w hw
      refine .inl ⟨g1, g2.mono fun e w' ⟨u, he, ho, hr⟩ => ?_⟩
      have hq := cmp_Compare_int.ret_elim (K' := fun u h' => u = v ∧ h' = h) (fun _ h' hr => by obtain ⟨rfl, rfl⟩ := hr; exact ⟨h2, rfl⟩) hr
      exact ⟨hq.1 ▸ he, ho, hq.2⟩
    · exact hh.elim
noncomputable def net_Net_Weight_c1.code : Code := (Tryz.f101.body).getD .skip
def net_Net_Weight_c1.ann : Ann := (.two .auto (.two (.reg [0, 1, 0, 4, 15, 0, 32, 0, 128, 511, 1023, 2047, 4095] (.take 0 (.take 1 (.take 2 (.take 3 (.take 4 (.take 5 (.take 6 (.take 7 (.take 8 (.take 9 (.alt 10 (.take 11 (.take 12 .done)) .noalt)))))))))))) .auto))
set_option maxRecDepth 100000 in
theorem net_Net_Weight_c1.eq (a1 : Int) (a2 : Int) (a3 : Int) (a4 : Int) (a5 : Int) (a6 : Int) (h : Heap) (K : Int → Heap → Prop) : evF net_Net_Weight_c1.ctx Tryz.f101 net_Net_Weight_c1.ann [(.agg #[(.int .i64 a1), (.int .i64 a2), (.int .i64 a3)]), (.agg #[(.int .i64 a4), (.int .i64 a5), (.int .i64 a6)])] h (net_Net_Weight_c1.ret K) = net_Net_Weight_c1 a1 a2 a3 a4 a5 a6 h K := by kernel_rfl
set_option maxRecDepth 100000 in
theorem net_Net_Weight_c1.calls [DKc] {a1 : Int} {a2 : Int} {a3 : Int} {a4 : Int} {a5 : Int} {a6 : Int} {h : Heap} {K : Int → Heap → Prop} (hh : net_Net_Weight_c1 a1 a2 a3 a4 a5 a6 h K) (w : World) (hw : w.heap = h) :
    (callFunc 101 #[(.agg #[(.int .i64 a1), (.int .i64 a2), (.int .i64 a3)]), (.agg #[(.int .i64 a4), (.int .i64 a5), (.int .i64 a6)])]).run Tryz.prog w = .ok (.enter 101 #[(.agg #[(.int .i64 a1), (.int .i64 a2), (.int .i64 a3)]), (.agg #[(.int .i64 a4), (.int .i64 a5), (.int .i64 a6)])]) w ∧ Calls Tryz.prog 101 #[(.agg #[(.int .i64 a1), (.int .i64 a2), (.int .i64 a3)]), (.agg #[(.int .i64 a4), (.int .i64 a5), (.int .i64 a6)])] w fun e w' => ∃ v, e = .returned v ∧ Out w w' ∧ net_Net_Weight_c1.ret K v w'.heap := by
  rw [← net_Net_Weight_c1.eq] at hh
  exact fn_calls (args := [(.agg #[(.int .i64 a1), (.int .i64 a2), (.int .i64 a3)]), (.agg #[(.int .i64 a4), (.int .i64 a5), (.int .i64 a6)])]) (c := net_Net_Weight_c1.code) net_Net_Weight_c1.ok Tryz.func101 (by kernel_rfl) (by kernel_rfl) (by kernel_rfl) (by kernel_rfl) (loops_ok (l := []) (by kernel_rfl) trivial) hh w hw

/-! ### slices.BinarySearchFunc[[]strait/api.Edge,strait/api.Edge,strait/api.Edge]: function 100 -/
def slices_BinarySearchFunc_Lapi_Edge_api_Edge_api_Edge_net_Net_Weight_c1.b0 (K2 : Int → Heap → Prop) (cont : (Option Addr) → Nat → Nat → Addr → Int → Int → Int → Heap → Prop) (c0_1001 : Option Addr) (c0_1002 : Nat) (c0_1003 : Nat) (c4_1004 : Addr) (c8_1005 : Int) (v9_1006 : Int) (v10_1007 : Int) (h1008 : Heap) : Prop :=
  (iteB (decide (v9_1006 < v10_1007)) ((bindV (IntKind.u64.wrap (IntKind.i64.wrap (v9_1006 + v10_1007))) fun n1009 => 0 ≤ (1 : Int) ∧ (chkP c0_1001 fun a1010 => (0 ≤ (IntKind.i64.wrap (n1009.fdiv (2 ^ 1))) ∧ (IntKind.i64.wrap (n1009.fdiv (2 ^ 1))) < (c0_1002 : Int)) ∧ ∃ (x1011 : Int), cell h1008 (a1010.add ((IntKind.i64.wrap (n1009.fdiv (2 ^ 1))).toNat * 3)) = some (.int .i64 x1011) ∧ ∃ (x1012 : Int), cell h1008 ((a1010.add ((IntKind.i64.wrap (n1009.fdiv (2 ^ 1))).toNat * 3)).add 1) = some (.int .i64 x1012) ∧ ∃ (x1013 : Int), cell h1008 ((a1010.add ((IntKind.i64.wrap (n1009.fdiv (2 ^ 1))).toNat * 3)).add 2) = some (.int .i64 x1013) ∧ ∃ (x1014 : Int), cell h1008 c4_1004 = some (.int .i64 x1014) ∧ ∃ (x1015 : Int), cell h1008 (c4_1004.add 1) = some (.int .i64 x1015) ∧ ∃ (x1016 : Int), cell h1008 (c4_1004.add 2) = some (.int .i64 x1016) ∧ callP1 (net_Net_Weight_c1 x1011 x1012 x1013 x1014 x1015 x1016 h1008) fun x1017 h1018 => (iteB (decide (x1017 < (0 : Int))) (bindV (IntKind.i64.wrap ((IntKind.i64.wrap (n1009.fdiv (2 ^ 1))) + 1)) fun n1019 => cont c0_1001 c0_1002 c0_1003 c4_1004 c8_1005 n1019 v10_1007 h1018) ((cont c0_1001 c0_1002 c0_1003 c4_1004 c8_1005 v9_1006 (IntKind.i64.wrap (n1009.fdiv (2 ^ 1))) h1018)))))) (K2 v9_1006 h1008))
def slices_BinarySearchFunc_Lapi_Edge_api_Edge_api_Edge_net_Net_Weight_c1.l0 (K2 : Int → Heap → Prop) : Nat → (Option Addr) → Nat → Nat → Addr → Int → Int → Int → Heap → Prop
  | 0, _, _, _, _, _, _, _, _ => False
  | m + 1, c0_1001, c0_1002, c0_1003, c4_1004, c8_1005, v9_1006, v10_1007, h => slices_BinarySearchFunc_Lapi_Edge_api_Edge_api_Edge_net_Net_Weight_c1.b0 K2 (slices_BinarySearchFunc_Lapi_Edge_api_Edge_api_Edge_net_Net_Weight_c1.l0 K2 m) c0_1001 c0_1002 c0_1003 c4_1004 c8_1005 v9_1006 v10_1007 h
def slices_BinarySearchFunc_Lapi_Edge_api_Edge_api_Edge_net_Net_Weight_c1 (a1 : Option Addr) (a1l : Nat) (a1c : Nat) (a2 : Int) (a3 : Int) (a4 : Int) (h : Heap) (K : Int → Bool → Heap → Prop) : Prop :=
  newP h (.cells #[(.int .i64 a2), (.int .i64 a3), (.int .i64 a4)] 27) fun a5 h6 => (((∃ m9, slices_BinarySearchFunc_Lapi_Edge_api_Edge_api_Edge_net_Net_Weight_c1.l0 (fun z7 h8 => ((iteB (decide (z7 < (a1l : Int))) (chkP a1 fun a10 => (0 ≤ z7 ∧ z7 < (a1l : Int)) ∧ ∃ (x11 : Int), cell h8 (a10.add (z7.toNat * 3)) = some (.int .i64 x11) ∧ ∃ (x12 : Int), cell h8 ((a10.add (z7.toNat * 3)).add 1) = some (.int .i64 x12) ∧ ∃ (x13 : Int), cell h8 ((a10.add (z7.toNat * 3)).add 2) = some (.int .i64 x13) ∧ ∃ (x14 : Int), cell h8 a5 = some (.int .i64 x14) ∧ ∃ (x15 : Int), cell h8 (a5.add 1) = some (.int .i64 x15) ∧ ∃ (x16 : Int), cell h8 (a5.add 2) = some (.int .i64 x16) ∧ callP1 (net_Net_Weight_c1 x11 x12 x13 x14 x15 x16 h8) fun x17 h18 => (K z7 (x17 == (0 : Int)) h18)) (K z7 false h8)))) m9 a1 a1l a1c a5 (a1l : Int) 0 (a1l : Int) h6)))
def slices_BinarySearchFunc_Lapi_Edge_api_Edge_api_Edge_net_Net_Weight_c1.ret (K : Int → Bool → Heap → Prop) (v : Value) (h : Heap) : Prop := match v with
  | (.tuple ⟨[(.int .i64 r21), (.bool r22)]⟩) => K r21 r22 h
  | _ => False
theorem slices_BinarySearchFunc_Lapi_Edge_api_Edge_api_Edge_net_Net_Weight_c1.ret_elim {K : Int → Bool → Heap → Prop} {K' : Value → Heap → Prop} {v : Value} {h : Heap} (hk : ∀ r21 r22 h, K r21 r22 h → K' (.tuple #[(.int .i64 r21), (.bool r22)]) h) (hh : slices_BinarySearchFunc_Lapi_Edge_api_Edge_api_Edge_net_Net_Weight_c1.ret K v h) : K' v h := by
  unfold slices_BinarySearchFunc_Lapi_Edge_api_Edge_api_Edge_net_Net_Weight_c1.ret at hh
  split at hh
  · exact hk _ _ _ hh
  · exact hh.elim
def slices_BinarySearchFunc_Lapi_Edge_api_Edge_api_Edge_net_Net_Weight_c1.call (f : FuncId) (vs : List Value) (h : Heap) (K : Value → Heap → Prop) : Prop := match f, vs with
  | 101, [(.agg ⟨[(.int .i64 a1), (.int .i64 a2), (.int .i64 a3)]⟩), (.agg ⟨[(.int .i64 a4), (.int .i64 a5), (.int .i64 a6)]⟩)] => callP1 (net_Net_Weight_c1 a1 a2 a3 a4 a5 a6 h) fun r20 h' => K (.int .i64 r20) h'
  | _, _ => False
def slices_BinarySearchFunc_Lapi_Edge_api_Edge_api_Edge_net_Net_Weight_c1.r0 (K : Nat → List Value → Heap → Prop) (m : Nat) (vs : List Value) (h : Heap) : Prop := match vs with
  | [(.slice c0_1001 c0_1002 c0_1003), (.func (.func 101) ⟨[]⟩ ⟨[]⟩), (.pointer (some c4_1004)), (.int .i64 c8_1005), (.int .i64 v9_1006), (.int .i64 v10_1007)] => slices_BinarySearchFunc_Lapi_Edge_api_Edge_api_Edge_net_Net_Weight_c1.l0 (fun z23 h' => K 2 [(.slice c0_1001 c0_1002 c0_1003), (.func (.func 101) #[] #[]), (.pointer (some c4_1004)), (.int .i64 c8_1005), (.int .i64 z23)] h') m c0_1001 c0_1002 c0_1003 c4_1004 c8_1005 v9_1006 v10_1007 h
  | _ => False
def slices_BinarySearchFunc_Lapi_Edge_api_Edge_api_Edge_net_Net_Weight_c1.loop (i : Nat) (vs : List Value) (h : Heap) (K : Nat → List Value → Heap → Prop) : Prop := match i with
  | 0 => ∃ m, slices_BinarySearchFunc_Lapi_Edge_api_Edge_api_Edge_net_Net_Weight_c1.r0 K m vs h
  | _ => False
noncomputable def slices_BinarySearchFunc_Lapi_Edge_api_Edge_api_Edge_net_Net_Weight_c1.ctx : Ctx := { P := Tryz.prog, call := slices_BinarySearchFunc_Lapi_Edge_api_Edge_api_Edge_net_Net_Weight_c1.call, qcall := fun _ _ _ _ => False, quiet := fun f => Nat.beq f 1000138 || Nat.beq f 2000157, loop := slices_BinarySearchFunc_Lapi_Edge_api_Edge_api_Edge_net_Net_Weight_c1.loop }
theorem slices_BinarySearchFunc_Lapi_Edge_api_Edge_api_Edge_net_Net_Weight_c1.ok [DKc] : slices_BinarySearchFunc_Lapi_Edge_api_Edge_api_Edge_net_Net_Weight_c1.ctx.OK where
  mixed := by kernel_rfl
  mono := by
    intro f args h K K' hh hk
    change slices_BinarySearchFunc_Lapi_Edge_api_Edge_api_Edge_net_Net_Weight_c1.call f args h K at hh
    change slices_BinarySearchFunc_Lapi_Edge_api_Edge_api_Edge_net_Net_Weight_c1.call f args h K'
    unfold slices_BinarySearchFunc_Lapi_Edge_api_Edge_api_Edge_net_Net_Weight_c1.call at hh ⊢
    split at hh
    · obtain ⟨R, h1, h2⟩ := hh
      exact ⟨R, h1, fun _ x hr => hk _ _ (h2 _ x hr)⟩
    · exact hh.elim
  call := by
    intro f args h K hh w hw
    change slices_BinarySearchFunc_Lapi_Edge_api_Edge_api_Edge_net_Net_Weight_c1.call f args h K at hh
    unfold slices_BinarySearchFunc_Lapi_Edge_api_Edge_api_Edge_net_Net_Weight_c1.call at hh
    split at hh
    · obtain ⟨R, h1, h2⟩ := hh
      obtain ⟨g1, g2⟩ := net_Net_Weight_c1.calls h1 w hw
      exact ⟨g1, g2.mono fun e w' ⟨v, he, ho, hr⟩ => ⟨v, he, ho, net_Net_Weight_c1.ret_elim h2 hr⟩⟩
    · exact hh.elim
  qmono := fun hh _ => hh.elim
  qval := fun hh => hh.elim
  qcall := fun hh => hh.elim
noncomputable def slices_BinarySearchFunc_Lapi_Edge_api_Edge_api_Edge_net_Net_Weight_c1.code : Code := (Tryz.f100.body).getD .skip
def slices_BinarySearchFunc_Lapi_Edge_api_Edge_api_Edge_net_Net_Weight_c1.ann : Ann := (.two .auto (.two .auto (.two .auto (.two (.two (.loop 0 [0, 2, 4, 8, 9, 10] [(2, [0, 2, 4, 8, 9])] (.two .auto (.two (.two .auto (.two (.reg [0, 0, 0, 6, 14, 0, 63, 127] (.take 0 (.take 1 (.take 2 (.take 3 (.take 4 (.take 5 (.alt 6 (.take 7 .done) .noalt)))))))) .auto)) .auto))) .auto) (.two (.reg [0, 0, 0, 6, 14, 30, 30, 30, 222, 478, 30, 2046, 4094, 8190, 4095, 32767] (.take 0 (.take 1 (.take 2 (.take 3 (.take 4 (.take 5 (.take 6 (.take 7 (.take 8 (.take 9 (.take 10 (.alt 11 (.take 12 (.take 13 (.take 14 (.take 15 .done)))) .noalt))))))))))))) .auto)))))
noncomputable def slices_BinarySearchFunc_Lapi_Edge_api_Edge_api_Edge_net_Net_Weight_c1.c0 : Code := sub slices_BinarySearchFunc_Lapi_Edge_api_Edge_api_Edge_net_Net_Weight_c1.code [1, 1, 1, 0, 0, 0]
def slices_BinarySearchFunc_Lapi_Edge_api_Edge_api_Edge_net_Net_Weight_c1.a0 : Ann := (.two .auto (.two (.two .auto (.two (.reg [0, 0, 0, 6, 14, 0, 63, 127] (.take 0 (.take 1 (.take 2 (.take 3 (.take 4 (.take 5 (.alt 6 (.take 7 .done) .noalt)))))))) .auto)) .auto))
def slices_BinarySearchFunc_Lapi_Edge_api_Edge_api_Edge_net_Net_Weight_c1.keep0 : List Nat := [0, 2, 4, 8, 9, 10]
def slices_BinarySearchFunc_Lapi_Edge_api_Edge_api_Edge_net_Net_Weight_c1.outs0 : List (Nat × List Nat) := [(2, [0, 2, 4, 8, 9])]
set_option maxRecDepth 100000 in
theorem slices_BinarySearchFunc_Lapi_Edge_api_Edge_api_Edge_net_Net_Weight_c1.L0 [DKc] : LoopOK slices_BinarySearchFunc_Lapi_Edge_api_Edge_api_Edge_net_Net_Weight_c1.ctx 49 slices_BinarySearchFunc_Lapi_Edge_api_Edge_api_Edge_net_Net_Weight_c1.c0 0 slices_BinarySearchFunc_Lapi_Edge_api_Edge_api_Edge_net_Net_Weight_c1.keep0 slices_BinarySearchFunc_Lapi_Edge_api_Edge_api_Edge_net_Net_Weight_c1.outs0 := by
  refine loop_ok (n := slices_BinarySearchFunc_Lapi_Edge_api_Edge_api_Edge_net_Net_Weight_c1.a0) slices_BinarySearchFunc_Lapi_Edge_api_Edge_api_Edge_net_Net_Weight_c1.ok (by kernel_rfl) (loops_ok (l := []) (by kernel_rfl) ?_) slices_BinarySearchFunc_Lapi_Edge_api_Edge_api_Edge_net_Net_Weight_c1.r0 ?_ ?_ (fun vs h K hh => hh)
  · exact trivial
  · intro K vs h hh
    unfold slices_BinarySearchFunc_Lapi_Edge_api_Edge_api_Edge_net_Net_Weight_c1.r0 at hh
    split at hh
    · exact hh
    · exact hh
  · intro K m vs h hh
    unfold slices_BinarySearchFunc_Lapi_Edge_api_Edge_api_Edge_net_Net_Weight_c1.r0 at hh
    split at hh
    · exact cast (by kernel_rfl) hh
    · exact hh.elim
set_option maxRecDepth 100000 in
theorem slices_BinarySearchFunc_Lapi_Edge_api_Edge_api_Edge_net_Net_Weight_c1.eq (a1 : Option Addr) (a1l : Nat) (a1c : Nat) (a2 : Int) (a3 : Int) (a4 : Int) (h : Heap) (K : Int → Bool → Heap → Prop) : evF slices_BinarySearchFunc_Lapi_Edge_api_Edge_api_Edge_net_Net_Weight_c1.ctx Tryz.f100 slices_BinarySearchFunc_Lapi_Edge_api_Edge_api_Edge_net_Net_Weight_c1.ann [(.slice a1 a1l a1c), (.agg #[(.int .i64 a2), (.int .i64 a3), (.int .i64 a4)]), (.func (.func 101) #[] #[])] h (slices_BinarySearchFunc_Lapi_Edge_api_Edge_api_Edge_net_Net_Weight_c1.ret K) = slices_BinarySearchFunc_Lapi_Edge_api_Edge_api_Edge_net_Net_Weight_c1 a1 a1l a1c a2 a3 a4 h K := by kernel_rfl
set_option maxRecDepth 100000 in
theorem slices_BinarySearchFunc_Lapi_Edge_api_Edge_api_Edge_net_Net_Weight_c1.calls [DKc] {a1 : Option Addr} {a1l : Nat} {a1c : Nat} {a2 : Int} {a3 : Int} {a4 : Int} {h : Heap} {K : Int → Bool → Heap → Prop} (hh : slices_BinarySearchFunc_Lapi_Edge_api_Edge_api_Edge_net_Net_Weight_c1 a1 a1l a1c a2 a3 a4 h K) (w : World) (hw : w.heap = h) :
    (callFunc 100 #[(.slice a1 a1l a1c), (.agg #[(.int .i64 a2), (.int .i64 a3), (.int .i64 a4)]), (.func (.func 101) #[] #[])]).run Tryz.prog w = .ok (.enter 100 #[(.slice a1 a1l a1c), (.agg #[(.int .i64 a2), (.int .i64 a3), (.int .i64 a4)]), (.func (.func 101) #[] #[])]) w ∧ Calls Tryz.prog 100 #[(.slice a1 a1l a1c), (.agg #[(.int .i64 a2), (.int .i64 a3), (.int .i64 a4)]), (.func (.func 101) #[] #[])] w fun e w' => ∃ v, e = .returned v ∧ Out w w' ∧ slices_BinarySearchFunc_Lapi_Edge_api_Edge_api_Edge_net_Net_Weight_c1.ret K v w'.heap := by
  rw [← slices_BinarySearchFunc_Lapi_Edge_api_Edge_api_Edge_net_Net_Weight_c1.eq] at hh
  exact fn_calls (args := [(.slice a1 a1l a1c), (.agg #[(.int .i64 a2), (.int .i64 a3), (.int .i64 a4)]), (.func (.func 101) #[] #[])]) (c := slices_BinarySearchFunc_Lapi_Edge_api_Edge_api_Edge_net_Net_Weight_c1.code) slices_BinarySearchFunc_Lapi_Edge_api_Edge_api_Edge_net_Net_Weight_c1.ok Tryz.func100 (by kernel_rfl) (by kernel_rfl) (by kernel_rfl) (by kernel_rfl) (loops_ok (l := [(slices_BinarySearchFunc_Lapi_Edge_api_Edge_api_Edge_net_Net_Weight_c1.c0, none, 0, slices_BinarySearchFunc_Lapi_Edge_api_Edge_api_Edge_net_Net_Weight_c1.keep0, slices_BinarySearchFunc_Lapi_Edge_api_Edge_api_Edge_net_Net_Weight_c1.outs0)]) (by kernel_rfl) ⟨slices_BinarySearchFunc_Lapi_Edge_api_Edge_api_Edge_net_Net_Weight_c1.L0, trivial⟩) hh w hw

/-! ### (*strait/net.Net).Weight: function 59 -/
def net_Net_Weight (a1 : Option Addr) (a2 : Int) (a3 : Int) (h : Heap) (K : Int → Heap → Prop) : Prop :=
  ((iteB a1.isNone (K 0 h) ((callP3 (edge_Normal a2 a3 0 h) fun x4 x5 x6 h7 => newP h7 (.cells #[(.int .i64 0), (.int .i64 0), (.int .i64 0)] 27) fun a8 h9 => stC h9 a8 (.int .i64 x4) fun h10 => stC h10 (a8.add 1) (.int .i64 x5) fun h11 => stC h11 (a8.add 2) (.int .i64 x6) fun h12 => (chkP a1 fun a13 => ∃ (x14 : Option Addr) (x14l : Nat) (x14c : Nat), cell h12 (a13.add 2) = some (.slice x14 x14l x14c) ∧ ∃ (x15 : Int), cell h12 a8 = some (.int .i64 x15) ∧ ∃ (x16 : Int), cell h12 (a8.add 1) = some (.int .i64 x16) ∧ ∃ (x17 : Int), cell h12 (a8.add 2) = some (.int .i64 x17) ∧ callP2 (slices_BinarySearchFunc_Lapi_Edge_api_Edge_api_Edge_net_Net_Weight_c1 x14 x14l x14c x15 x16 x17 h12) fun x18 x19 h20 => ((iteB (!x19) (K 0 h20) ((chkP a1 fun a21 => ∃ (x22 : Option Addr) (x22l : Nat) (x22c : Nat), cell h20 (a21.add 2) = some (.slice x22 x22l x22c) ∧ chkP x22 fun a23 => (0 ≤ x18 ∧ x18 < (x22l : Int)) ∧ ∃ (x24 : Int), cell h20 ((a23.add (x18.toNat * 3)).add 2) = some (.int .i64 x24) ∧ K x24 h20)))))))))
def net_Net_Weight.ret (K : Int → Heap → Prop) (v : Value) (h : Heap) : Prop := match v with
  | (.int .i64 r25) => K r25 h
  | _ => False
theorem net_Net_Weight.ret_elim {K : Int → Heap → Prop} {K' : Value → Heap → Prop} {v : Value} {h : Heap} (hk : ∀ r25 h, K r25 h → K' (.int .i64 r25) h) (hh : net_Net_Weight.ret K v h) : K' v h := by
  unfold net_Net_Weight.ret at hh
  split at hh
  · exact hk _ _ hh
  · exact hh.elim
def net_Net_Weight.call (f : FuncId) (vs : List Value) (h : Heap) (K : Value → Heap → Prop) : Prop := match f, vs with
  | 84, [(.agg ⟨[(.int .i64 a1), (.int .i64 a2), (.int .i64 a3)]⟩)] => callP3 (edge_Normal a1 a2 a3 h) fun r25 r26 r27 h' => K (.agg #[(.int .i64 r25), (.int .i64 r26), (.int .i64 r27)]) h'
  | 100, [(.slice a1 a1l a1c), (.agg ⟨[(.int .i64 a2), (.int .i64 a3), (.int .i64 a4)]⟩), (.func (.func 101) ⟨[]⟩ ⟨[]⟩)] => callP2 (slices_BinarySearchFunc_Lapi_Edge_api_Edge_api_Edge_net_Net_Weight_c1 a1 a1l a1c a2 a3 a4 h) fun r21 r22 h' => K (.tuple #[(.int .i64 r21), (.bool r22)]) h'
  | _, _ => False
noncomputable def net_Net_Weight.ctx : Ctx := { P := Tryz.prog, call := net_Net_Weight.call, qcall := fun _ _ _ _ => False, quiet := fun f => Nat.beq f 1000138 || Nat.beq f 2000157, loop := fun _ _ _ _ => False }
theorem net_Net_Weight.ok [DKc] : net_Net_Weight.ctx.OK where
  mixed := by kernel_rfl
  mono := by
    intro f args h K K' hh hk
    change net_Net_Weight.call f args h K at hh
    change net_Net_Weight.call f args h K'
    unfold net_Net_Weight.call at hh ⊢
    split at hh
    · obtain ⟨R, h1, h2⟩ := hh
      exact ⟨R, h1, fun _ _ _ x hr => hk _ _ (h2 _ _ _ x hr)⟩
    · obtain ⟨R, h1, h2⟩ := hh
      exact ⟨R, h1, fun _ _ x hr => hk _ _ (h2 _ _ x hr)⟩
    · exact hh.elim
  call := by
    intro f args h K hh w hw
    change net_Net_Weight.call f args h K at hh
    unfold net_Net_Weight.call at hh
    split at hh
    · obtain ⟨R, h1, h2⟩ := hh
      obtain ⟨g1, g2⟩ := edge_Normal.calls h1 w hw
      exact ⟨g1, g2.mono fun e w' ⟨v, he, ho, hr⟩ => ⟨v, he, ho, edge_Normal.ret_elim h2 hr⟩⟩
    · obtain ⟨R, h1, h2⟩ := hh
      obtain ⟨g1, g2⟩ := slices_BinarySearchFunc_Lapi_Edge_api_Edge_api_Edge_net_Net_Weight_c1.calls h1 w hw
      exact ⟨g1, g2.mono fun e w' ⟨v, he, ho, hr⟩ => ⟨v, he, ho, slices_BinarySearchFunc_Lapi_Edge_api_Edge_api_Edge_net_Net_Weight_c1.ret_elim h2 hr⟩⟩
    · exact hh.elim
  qmono := fun hh _ => hh.elim
  qval := fun hh => hh.elim
  qcall := fun hh => hh.elim
noncomputable def net_Net_Weight.code : Code := (Tryz.f59.body).getD .skip
def net_Net_Weight.ann : Ann := (.two .auto (.two .auto (.two .auto (.two (.reg [0, 1, 3, 7, 0, 31, 63, 127, 127, 255, 1023] (.take 0 (.take 1 (.take 2 (.take 3 (.take 4 (.alt 5 (.take 6 (.take 7 (.take 8 (.take 9 (.take 10 .done))))) .noalt))))))) .auto))))
set_option maxRecDepth 100000 in
theorem net_Net_Weight.eq (a1 : Option Addr) (a2 : Int) (a3 : Int) (h : Heap) (K : Int → Heap → Prop) : evF net_Net_Weight.ctx Tryz.f59 net_Net_Weight.ann [(.pointer a1), (.int .i64 a2), (.int .i64 a3)] h (net_Net_Weight.ret K) = net_Net_Weight a1 a2 a3 h K := by kernel_rfl
set_option maxRecDepth 100000 in
theorem net_Net_Weight.calls [DKc] {a1 : Option Addr} {a2 : Int} {a3 : Int} {h : Heap} {K : Int → Heap → Prop} (hh : net_Net_Weight a1 a2 a3 h K) (w : World) (hw : w.heap = h) :
    (callFunc 59 #[(.pointer a1), (.int .i64 a2), (.int .i64 a3)]).run Tryz.prog w = .ok (.enter 59 #[(.pointer a1), (.int .i64 a2), (.int .i64 a3)]) w ∧ Calls Tryz.prog 59 #[(.pointer a1), (.int .i64 a2), (.int .i64 a3)] w fun e w' => ∃ v, e = .returned v ∧ Out w w' ∧ net_Net_Weight.ret K v w'.heap := by
  rw [← net_Net_Weight.eq] at hh
  exact fn_calls (args := [(.pointer a1), (.int .i64 a2), (.int .i64 a3)]) (c := net_Net_Weight.code) net_Net_Weight.ok Tryz.func59 (by kernel_rfl) (by kernel_rfl) (by kernel_rfl) (by kernel_rfl) (loops_ok (l := []) (by kernel_rfl) trivial) hh w hw

end Go.Proofs.YtokemibmanjpmaaGreatDoor
