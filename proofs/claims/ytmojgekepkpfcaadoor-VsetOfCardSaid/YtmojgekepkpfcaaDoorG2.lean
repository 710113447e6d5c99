/- WRITTEN BY A PROGRAM OF THIS SESSION (gen.py): what each function asks of memory, and that the model's run comes to it. -/
import Derived.Test.YtmojgekepkpfcaaDoorProg
import Derived.Test.YtmojgekepkpfcaaDoorFw8
import Derived.Test.YtmojgekepkpfcaaDoorG1
namespace Go.Proofs.YtmojgekepkpfcaaDoor
open Go.Hp
set_option linter.unusedVariables false
set_option linter.unusedSimpArgs false

/-! ### strait/straitlaw09.VsetOther: function 5 -/
def straitlaw09_VsetOther (a1 : Int) (a2 : Option Addr) (a2l : Nat) (a2c : Nat) (a3 : Int) (h : Heap) (K : Bool → Heap → Prop) : Prop :=
  ((iteB (decide ((a2l : Int) > (200 : Int))) (callP1 (straitlaw09_awake h) fun x4 h5 => K x4 h5) ((callP1 (vset_Of a1 a2 a2l a2c h) fun x6 h7 => (callP1 (vset_Set_Other x6 h7) fun x8 h9 => ((let j29 := (fun (y27 : Bool) (h28 : Heap) => iteB y27 (K false h28) ((let j59 := (fun (h38 : Heap) => iteB (decide (a3 ≥ (0 : Int))) (qcallP1 h38 (vset_Set_Room x6 h38) fun x39 => (qcallP1 h38 (vset_Set_Has x6 a3 h38) fun x47 => qcallP1 h38 (vset_Set_Has x8 a3 h38) fun x48 => iteB ((!(x47 == x48)) == (decide (a3 < x39))) (callP1 (straitlaw09_awake h38) fun x49 h50 => K x49 h50) (K false h38))) ((qcallP1 h38 (vset_Set_Has x6 a3 h38) fun x53 => qcallP1 h38 (vset_Set_Has x8 a3 h38) fun x54 => iteB ((!(x53 == x54)) == false) (callP1 (straitlaw09_awake h38) fun x55 h56 => K x55 h56) (K false h38))));
  iteB x6.isNone (K false h28) (iteB x8.isNone (K false h28) (callP1 (vset_Set_Other x8 h28) fun x30 h31 => qcallP1 h31 (vset_Same x30 x6 h31) fun x32 => iteB (!x32) (K false h31) (qcallP1 h31 (vset_Set_Len x6 h31) fun x33 => qcallP1 h31 (vset_Set_Len x8 h31) fun x34 => qcallP1 h31 (vset_Set_Room x6 h31) fun x35 => (iteB ((IntKind.i64.wrap (x33 + x34)) != x35) (K false h31) ((j59 h31)))))))));
  qcallP1 h9 (vset_Set_Room none h9) fun x10 => iteB (x10 != (0 : Int)) ((j29 true h9)) (callP1 (vset_Set_Put none a3 h9) fun x11 h12 => iteB x11 ((j29 true h12)) (callP1 (vset_Set_Drop none a3 h12) fun x13 h14 => iteB x13 ((j29 true h14)) (qcallP1 h14 (vset_Set_Has none a3 h14) fun x15 => iteB x15 ((j29 true h14)) (qcallP1 h14 (vset_Set_Len none h14) fun x16 => iteB (x16 != (0 : Int)) ((j29 true h14)) (callP3 (vset_Set_List none h14) fun x17 x17l x17c h18 => iteB ((x17l : Int) != (0 : Int)) ((j29 true h18)) (callP1 (vset_Set_Other none h18) fun x19 h20 => iteB (!x19.isNone) ((j29 true h20)) (callP1 (vset_Set_Twin none h20) fun x21 h22 => iteB (!x21.isNone) ((j29 true h22)) (qcallP1 h22 (vset_Same none none h22) fun x23 => iteB (!x23) ((j29 true h22)) (qcallP1 h22 (vset_Same x6 none h22) fun x24 => iteB x24 ((j29 true h22)) (qcallP1 h22 (vset_Same none x6 h22) fun x25 => iteB x25 ((j29 true h22)) (qcallP1 h22 (vset_Parts none 0 a3 h22) fun x26 => (j29 x26 h22)))))))))))))))))))
def straitlaw09_VsetOther.ret (K : Bool → Heap → Prop) (v : Value) (h : Heap) : Prop := match v with
  | (.bool r60) => K r60 h
  | _ => False
theorem straitlaw09_VsetOther.ret_elim {K : Bool → Heap → Prop} {K' : Value → Heap → Prop} {v : Value} {h : Heap} (hk : ∀ r60 h, K r60 h → K' (.bool r60) h) (hh : straitlaw09_VsetOther.ret K v h) : K' v h := by
  unfold straitlaw09_VsetOther.ret at hh
  split at hh
  · exact hk _ _ hh
  · exact hh.elim
def straitlaw09_VsetOther.call (f : FuncId) (vs : List Value) (h : Heap) (K : Value → Heap → Prop) : Prop := match f, vs with
  | 6, [] => callP1 (straitlaw09_awake h) fun r17 h' => K (.bool r17) h'
  | 11, [(.pointer a1), (.int .i64 a2)] => callP1 (vset_Set_Put a1 a2 h) fun r21 h' => K (.bool r21) h'
  | 13, [(.pointer a1), (.int .i64 a2)] => callP1 (vset_Set_Drop a1 a2 h) fun r21 h' => K (.bool r21) h'
  | 15, [(.pointer a1)] => callP1 (vset_Set_Twin a1 h) fun r12 h' => K (.pointer r12) h'
  | 16, [(.pointer a1)] => callP1 (vset_Set_Other a1 h) fun r10 h' => K (.pointer r10) h'
  | 18, [(.int .i64 a1), (.slice a2 a2l a2c)] => callP1 (vset_Of a1 a2 a2l a2c h) fun r7 h' => K (.pointer r7) h'
  | 26, [(.pointer a1)] => callP3 (vset_Set_List a1 h) fun r6 r6l r6c h' => K (.slice r6 r6l r6c) h'
  | _, _ => False
def straitlaw09_VsetOther.qcall (f : FuncId) (vs : List Value) (h : Heap) (K : Value → Prop) : Prop := match f, vs with
  | 14, [(.pointer a1), (.int .i64 a2)] => qcallP1 h (vset_Set_Has a1 a2 h) fun r9 => K (.bool r9)
  | 20, [(.pointer a1), (.pointer a2)] => qcallP1 h (vset_Same a1 a2 h) fun r18 => K (.bool r18)
  | 23, [(.pointer a1), (.int .i64 a2), (.int .i64 a3)] => qcallP1 h (vset_Parts a1 a2 a3 h) fun r13 => K (.bool r13)
  | 24, [(.pointer a1)] => qcallP1 h (vset_Set_Room a1 h) fun r4 => K (.int .i64 r4)
  | 25, [(.pointer a1)] => qcallP1 h (vset_Set_Len a1 h) fun r7 => K (.int .i64 r7)
  | _, _ => False
noncomputable def straitlaw09_VsetOther.ctx : Ctx := { P := Tryd.prog, call := straitlaw09_VsetOther.call, qcall := straitlaw09_VsetOther.qcall, quiet := fun f => Nat.beq f 14 || Nat.beq f 20 || Nat.beq f 23 || Nat.beq f 24 || Nat.beq f 25, loop := fun _ _ _ _ => False }
theorem straitlaw09_VsetOther.ok : straitlaw09_VsetOther.ctx.OK where
  mixed := by kernel_rfl
  mono := by
    intro f args h K K' hh hk
    change straitlaw09_VsetOther.call f args h K at hh
    change straitlaw09_VsetOther.call f args h K'
    unfold straitlaw09_VsetOther.call at hh ⊢
    split at hh
    · obtain ⟨R, h1, h2⟩ := hh
      exact ⟨R, h1, fun _ x hr => hk _ _ (h2 _ x hr)⟩
    · obtain ⟨R, h1, h2⟩ := hh
      exact ⟨R, h1, fun _ x hr => hk _ _ (h2 _ x hr)⟩
    · obtain ⟨R, h1, h2⟩ := hh
      exact ⟨R, h1, fun _ x hr => hk _ _ (h2 _ x hr)⟩
    · obtain ⟨R, h1, h2⟩ := hh
      exact ⟨R, h1, fun _ x hr => hk _ _ (h2 _ x hr)⟩
    · obtain ⟨R, h1, h2⟩ := hh
      exact ⟨R, h1, fun _ x hr => hk _ _ (h2 _ x hr)⟩
    · obtain ⟨R, h1, h2⟩ := hh
      exact ⟨R, h1, fun _ x hr => hk _ _ (h2 _ x hr)⟩
    · obtain ⟨R, h1, h2⟩ := hh
      exact ⟨R, h1, fun _ _ _ x hr => hk _ _ (h2 _ _ _ x hr)⟩
    · exact hh.elim
  call := by
    intro f args h K hh w hw
    change straitlaw09_VsetOther.call f args h K at hh
    unfold straitlaw09_VsetOther.call at hh
    split at hh
    · obtain ⟨R, h1, h2⟩ := hh
      obtain ⟨g1, g2⟩ := straitlaw09_awake.calls h1 w hw
      exact ⟨g1, g2.mono fun e w' ⟨v, he, ho, hr⟩ => ⟨v, he, ho, straitlaw09_awake.ret_elim h2 hr⟩⟩
    · obtain ⟨R, h1, h2⟩ := hh
      obtain ⟨g1, g2⟩ := vset_Set_Put.calls h1 w hw
      exact ⟨g1, g2.mono fun e w' ⟨v, he, ho, hr⟩ => ⟨v, he, ho, vset_Set_Put.ret_elim h2 hr⟩⟩
    · obtain ⟨R, h1, h2⟩ := hh
      obtain ⟨g1, g2⟩ := vset_Set_Drop.calls h1 w hw
      exact ⟨g1, g2.mono fun e w' ⟨v, he, ho, hr⟩ => ⟨v, he, ho, vset_Set_Drop.ret_elim h2 hr⟩⟩
    · obtain ⟨R, h1, h2⟩ := hh
      obtain ⟨g1, g2⟩ := vset_Set_Twin.calls h1 w hw
      exact ⟨g1, g2.mono fun e w' ⟨v, he, ho, hr⟩ => ⟨v, he, ho, vset_Set_Twin.ret_elim h2 hr⟩⟩
    · obtain ⟨R, h1, h2⟩ := hh
      obtain ⟨g1, g2⟩ := vset_Set_Other.calls h1 w hw
      exact ⟨g1, g2.mono fun e w' ⟨v, he, ho, hr⟩ => ⟨v, he, ho, vset_Set_Other.ret_elim h2 hr⟩⟩
    · obtain ⟨R, h1, h2⟩ := hh
      obtain ⟨g1, g2⟩ := vset_Of.calls h1 w hw
      exact ⟨g1, g2.mono fun e w' ⟨v, he, ho, hr⟩ => ⟨v, he, ho, vset_Of.ret_elim h2 hr⟩⟩
    · obtain ⟨R, h1, h2⟩ := hh
      obtain ⟨g1, g2⟩ := vset_Set_List.calls h1 w hw
      exact ⟨g1, g2.mono fun e w' ⟨v, he, ho, hr⟩ => ⟨v, he, ho, vset_Set_List.ret_elim h2 hr⟩⟩
    · exact hh.elim
  qmono := by
    intro f args h K K' hh hk
    change straitlaw09_VsetOther.qcall f args h K at hh
    change straitlaw09_VsetOther.qcall f args h K'
    unfold straitlaw09_VsetOther.qcall at hh ⊢
    split at hh
    · obtain ⟨x0, h1, h2⟩ := hh
      exact ⟨x0, h1, hk _ h2⟩
    · obtain ⟨x0, h1, h2⟩ := hh
      exact ⟨x0, h1, hk _ h2⟩
    · obtain ⟨x0, h1, h2⟩ := hh
      exact ⟨x0, h1, hk _ h2⟩
    · obtain ⟨x0, h1, h2⟩ := hh
      exact ⟨x0, h1, hk _ h2⟩
    · obtain ⟨x0, h1, h2⟩ := hh
      exact ⟨x0, h1, hk _ h2⟩
    · exact hh.elim
  qval := by
    intro f args h K hh
    change straitlaw09_VsetOther.qcall f args h K at hh
    suffices H : ∃ v, K v ∧ straitlaw09_VsetOther.qcall f args h (· = v) from H
    unfold straitlaw09_VsetOther.qcall at hh ⊢
    split at hh
    · obtain ⟨x0, h1, h2⟩ := hh
      exact ⟨_, h2, x0, h1, rfl⟩
    · obtain ⟨x0, h1, h2⟩ := hh
      exact ⟨_, h2, x0, h1, rfl⟩
    · obtain ⟨x0, h1, h2⟩ := hh
      exact ⟨_, h2, x0, h1, rfl⟩
    · obtain ⟨x0, h1, h2⟩ := hh
      exact ⟨_, h2, x0, h1, rfl⟩
    · obtain ⟨x0, h1, h2⟩ := hh
      exact ⟨_, h2, x0, h1, rfl⟩
    · exact hh.elim
  qcall := by
    intro f args h v hh w hw
    change straitlaw09_VsetOther.qcall f args h (· = v) at hh
    unfold straitlaw09_VsetOther.qcall at hh
    split at hh
    · obtain ⟨x0, h1, h2⟩ := hh
      obtain ⟨g1, g2⟩ := vset_Set_Has.calls h1 w hw
      refine .inl ⟨g1, g2.mono fun e w' ⟨u, he, ho, hr⟩ => ?_⟩
      have hq := vset_Set_Has.ret_elim (K' := fun u h' => u = v ∧ h' = h) (fun _ h' hr => by obtain ⟨rfl, rfl⟩ := hr; exact ⟨h2, rfl⟩) hr
      exact ⟨hq.1 ▸ he, ho, hq.2⟩
    · obtain ⟨x0, h1, h2⟩ := hh
      obtain ⟨g1, g2⟩ := vset_Same.calls h1 w hw
      refine .inl ⟨g1, g2.mono fun e w' ⟨u, he, ho, hr⟩ => ?_⟩
      have hq := vset_Same.ret_elim (K' := fun u h' => u = v ∧ h' = h) (fun _ h' hr => by obtain ⟨rfl, rfl⟩ := hr; exact ⟨h2, rfl⟩) hr
      exact ⟨hq.1 ▸ he, ho, hq.2⟩
    · obtain ⟨x0, h1, h2⟩ := hh
      obtain ⟨g1, g2⟩ := vset_Parts.calls h1 w hw
      refine .inl ⟨g1, g2.mono fun e w' ⟨u, he, ho, hr⟩ => ?_⟩
      have hq := vset_Parts.ret_elim (K' := fun u h' => u = v ∧ h' = h) (fun _ h' hr => by obtain ⟨rfl, rfl⟩ := hr; exact ⟨h2, rfl⟩) hr
      exact ⟨hq.1 ▸ he, ho, hq.2⟩
    · obtain ⟨x0, h1, h2⟩ := hh
      obtain ⟨g1, g2⟩ := vset_Set_Room.calls h1 w hw
      refine .inl ⟨g1, g2.mono fun e w' ⟨u, he, ho, hr⟩ => ?_⟩
      have hq := vset_Set_Room.ret_elim (K' := fun u h' => u = v ∧ h' = h) (fun _ h' hr => by obtain ⟨rfl, rfl⟩ := hr; exact ⟨h2, rfl⟩) hr
      exact ⟨hq.1 ▸ he, ho, hq.2⟩
    · obtain ⟨x0, h1, h2⟩ := hh
      obtain ⟨g1, g2⟩ := vset_Set_Len.calls h1 w hw
      refine .inl ⟨g1, g2.mono fun e w' ⟨u, he, ho, hr⟩ => ?_⟩
      have hq := vset_Set_Len.ret_elim (K' := fun u h' => u = v ∧ h' = h) (fun _ h' hr => by obtain ⟨rfl, rfl⟩ := hr; exact ⟨h2, rfl⟩) hr
      exact ⟨hq.1 ▸ he, ho, hq.2⟩
    · exact hh.elim
noncomputable def straitlaw09_VsetOther.code : Code := (Tryd.f5.body).getD .skip
def straitlaw09_VsetOther.ann : Ann := .auto
set_option maxRecDepth 100000 in
theorem straitlaw09_VsetOther.eq (a1 : Int) (a2 : Option Addr) (a2l : Nat) (a2c : Nat) (a3 : Int) (h : Heap) (K : Bool → Heap → Prop) : evF straitlaw09_VsetOther.ctx Tryd.f5 straitlaw09_VsetOther.ann [(.int .i64 a1), (.slice a2 a2l a2c), (.int .i64 a3)] h (straitlaw09_VsetOther.ret K) = straitlaw09_VsetOther a1 a2 a2l a2c a3 h K := by kernel_rfl
set_option maxRecDepth 100000 in
theorem straitlaw09_VsetOther.calls {a1 : Int} {a2 : Option Addr} {a2l : Nat} {a2c : Nat} {a3 : Int} {h : Heap} {K : Bool → Heap → Prop} (hh : straitlaw09_VsetOther a1 a2 a2l a2c a3 h K) (w : World) (hw : w.heap = h) :
    (callFunc 5 #[(.int .i64 a1), (.slice a2 a2l a2c), (.int .i64 a3)]).run Tryd.prog w = .ok (.enter 5 #[(.int .i64 a1), (.slice a2 a2l a2c), (.int .i64 a3)]) w ∧ Calls Tryd.prog 5 #[(.int .i64 a1), (.slice a2 a2l a2c), (.int .i64 a3)] w fun e w' => ∃ v, e = .returned v ∧ Out w w' ∧ straitlaw09_VsetOther.ret K v w'.heap := by
  rw [← straitlaw09_VsetOther.eq] at hh
  exact fn_calls (args := [(.int .i64 a1), (.slice a2 a2l a2c), (.int .i64 a3)]) (c := straitlaw09_VsetOther.code) straitlaw09_VsetOther.ok Tryd.func5 (by kernel_rfl) (by kernel_rfl) (by kernel_rfl) (by kernel_rfl) (loops_ok (l := []) (by kernel_rfl) trivial) hh w hw

end Go.Proofs.YtmojgekepkpfcaaDoor
