/- WRITTEN BY A PROGRAM OF THIS SESSION (gen.py): what each function asks of memory, and that the model's run comes to it. -/
import Derived.Test.YtnepdopakngpfaaDoorProg
import Derived.Test.YtnepdopakngpfaaDoorFw8

namespace Go.Proofs.YtnepdopakngpfaaDoor
open Go.Hp
set_option linter.unusedVariables false
set_option linter.unusedSimpArgs false
set_option linter.unusedSectionVars false

/-! ### strings.CutPrefix: function 65, by its contract -/
def strings_CutPrefix.ret (K : ByteArray → Bool → Heap → Prop) (v : Value) (h : Heap) : Prop := match v with
  | (.tuple ⟨[(.string r3), (.bool r4)]⟩) => K r3 r4 h
  | _ => False
theorem strings_CutPrefix.ret_elim {K : ByteArray → Bool → Heap → Prop} {K' : Value → Heap → Prop} {v : Value} {h : Heap} (hk : ∀ r3 r4 h, K r3 r4 h → K' (.tuple #[(.string r3), (.bool r4)]) h) (hh : strings_CutPrefix.ret K v h) : K' v h := by
  unfold strings_CutPrefix.ret at hh
  split at hh
  · exact hk _ _ _ hh
  · exact hh.elim
def strings_CutPrefix [DKc] (a1 : ByteArray) (a2 : ByteArray) (h : Heap) (K : ByteArray → Bool → Heap → Prop) : Prop := ∀ w : World, w.heap = h → (callFunc 65 #[(.string a1), (.string a2)]).run Tryd.prog w = .ok (.enter 65 #[(.string a1), (.string a2)]) w ∧ Calls Tryd.prog 65 #[(.string a1), (.string a2)] w fun e w' => ∃ v, e = .returned v ∧ Out w w' ∧ strings_CutPrefix.ret K v w'.heap
theorem strings_CutPrefix.calls [DKc] {a1 : ByteArray} {a2 : ByteArray} {h : Heap} {K : ByteArray → Bool → Heap → Prop} (hh : strings_CutPrefix a1 a2 h K) (w : World) (hw : w.heap = h) : (callFunc 65 #[(.string a1), (.string a2)]).run Tryd.prog w = .ok (.enter 65 #[(.string a1), (.string a2)]) w ∧ Calls Tryd.prog 65 #[(.string a1), (.string a2)] w fun e w' => ∃ v, e = .returned v ∧ Out w w' ∧ strings_CutPrefix.ret K v w'.heap := hh w hw

/-! ### strait/dec.formed: function 50 -/
section
variable [DKc]
def dec_formed.b0 (K0 : Bool → Heap → Prop) (K2 : Heap → Prop) (cont : ByteArray → Bool → Addr → Heap → Prop) (c3_1001 : ByteArray) (c4_1002 : Bool) (c13_1003 : Addr) (h1004 : Heap) : Prop :=
  (c13_1003.off = 0 ∧ c13_1003.spot = none) ∧ ∃ (s1005 : ByteArray) (p1006 : Nat), h1004[c13_1003.block]? = some (.stringIter s1005 p1006) ∧ (¬ p1006 < s1005.size → K2 h1004) ∧ (p1006 < s1005.size → bindV (setO h1004 c13_1003.block (.stringIter s1005 (p1006 + (Utf8.decode s1005 p1006).2))) fun h1007 => (((iteB (decide (((Utf8.decode s1005 p1006).1 : Int) < (48 : Int))) (K0 false h1007) (iteB (decide (((Utf8.decode s1005 p1006).1 : Int) > (57 : Int))) (K0 false h1007) (iteB (((Utf8.decode s1005 p1006).1 : Int) == (48 : Int)) (iteB ((p1006 : Int) == (0 : Int)) (iteB c4_1002 (K0 false h1007) ((iteB (decide ((c3_1001.size : Int) > (1 : Int))) (K0 false h1007) (cont c3_1001 c4_1002 c13_1003 h1007)))) ((cont c3_1001 c4_1002 c13_1003 h1007))) ((cont c3_1001 c4_1002 c13_1003 h1007))))))))
def dec_formed.l0 (K0 : Bool → Heap → Prop) (K2 : Heap → Prop) : Nat → ByteArray → Bool → Addr → Heap → Prop
  | 0, _, _, _, _ => False
  | m + 1, c3_1001, c4_1002, c13_1003, h => dec_formed.b0 K0 K2 (dec_formed.l0 K0 K2 m) c3_1001 c4_1002 c13_1003 h
def dec_formed (a1 : ByteArray) (h : Heap) (K : Bool → Heap → Prop) : Prop :=
  (callP2 (strings_CutPrefix a1 (⟨#[45]⟩ : ByteArray) h) fun x2 x3 h4 => (newP h4 (.stringIter x2 0) fun a5 h6 => (∃ m10, dec_formed.l0 (fun z7 h8 => K z7 h8) (fun h9 => (((K (!(x2.toList == (⟨#[]⟩ : ByteArray).toList)) h9)))) m10 x2 x3 a5 h6)))
def dec_formed.ret (K : Bool → Heap → Prop) (v : Value) (h : Heap) : Prop := match v with
  | (.bool r11) => K r11 h
  | _ => False
theorem dec_formed.ret_elim {K : Bool → Heap → Prop} {K' : Value → Heap → Prop} {v : Value} {h : Heap} (hk : ∀ r11 h, K r11 h → K' (.bool r11) h) (hh : dec_formed.ret K v h) : K' v h := by
  unfold dec_formed.ret at hh
  split at hh
  · exact hk _ _ hh
  · exact hh.elim
def dec_formed.call (f : FuncId) (vs : List Value) (h : Heap) (K : Value → Heap → Prop) : Prop := match f, vs with
  | 65, [(.string a1), (.string a2)] => callP2 (strings_CutPrefix a1 a2 h) fun r3 r4 h' => K (.tuple #[(.string r3), (.bool r4)]) h'
  | _, _ => False
def dec_formed.r0 (K : Nat → List Value → Heap → Prop) (m : Nat) (vs : List Value) (h : Heap) : Prop := match vs with
  | [(.string c3_1001), (.bool c4_1002), (.pointer (some c13_1003))] => dec_formed.l0 (fun z12 h' => K 0 [(.bool z12)] h') (fun h' => K 2 [(.string c3_1001)] h') m c3_1001 c4_1002 c13_1003 h
  | _ => False
def dec_formed.loop (i : Nat) (vs : List Value) (h : Heap) (K : Nat → List Value → Heap → Prop) : Prop := match i with
  | 0 => ∃ m, dec_formed.r0 K m vs h
  | _ => False
noncomputable def dec_formed.ctx : Ctx := { P := Tryd.prog, call := dec_formed.call, qcall := fun _ _ _ _ => False, quiet := fun f => Nat.beq f 2000073, loop := dec_formed.loop }
theorem dec_formed.ok : dec_formed.ctx.OK where
  mixed := by kernel_rfl
  mono := by
    intro f args h K K' hh hk
    change dec_formed.call f args h K at hh
    change dec_formed.call f args h K'
    unfold dec_formed.call at hh ⊢
    split at hh
    · obtain ⟨R, h1, h2⟩ := hh
      exact ⟨R, h1, fun _ _ x hr => hk _ _ (h2 _ _ x hr)⟩
    · exact hh.elim
  call := by
    intro f args h K hh w hw
    change dec_formed.call f args h K at hh
    unfold dec_formed.call at hh
    split at hh
    · obtain ⟨R, h1, h2⟩ := hh
      obtain ⟨g1, g2⟩ := strings_CutPrefix.calls h1 w hw
      exact ⟨g1, g2.mono fun e w' ⟨v, he, ho, hr⟩ => ⟨v, he, ho, strings_CutPrefix.ret_elim h2 hr⟩⟩
    · exact hh.elim
  qmono := fun hh _ => hh.elim
  qval := fun hh => hh.elim
  qcall := fun hh => hh.elim
noncomputable def dec_formed.code : Code := (Tryd.f50.body).getD .skip
def dec_formed.ann : Ann := (.two .auto (.two .auto (.two (.two .auto (.two (.loop 0 [3, 4, 13] [(2, [3]), (0, [2])] .auto) .auto)) .auto)))
noncomputable def dec_formed.c0 : Code := sub dec_formed.code [1, 1, 0, 1, 0, 0]
def dec_formed.a0 : Ann := .auto
def dec_formed.keep0 : List Nat := [3, 4, 13]
def dec_formed.outs0 : List (Nat × List Nat) := [(2, [3]), (0, [2])]
set_option maxRecDepth 100000 in
theorem dec_formed.L0 : LoopOK dec_formed.ctx 42 dec_formed.c0 0 dec_formed.keep0 dec_formed.outs0 := by
  refine loop_ok (n := dec_formed.a0) dec_formed.ok (by kernel_rfl) (loops_ok (l := []) (by kernel_rfl) ?_) dec_formed.r0 ?_ ?_ (fun vs h K hh => hh)
  · exact trivial
  · intro K vs h hh
    unfold dec_formed.r0 at hh
    split at hh
    · exact hh
    · exact hh
  · intro K m vs h hh
    unfold dec_formed.r0 at hh
    split at hh
    · exact cast (by kernel_rfl) hh
    · exact hh.elim
set_option maxRecDepth 100000 in
theorem dec_formed.eq (a1 : ByteArray) (h : Heap) (K : Bool → Heap → Prop) : evF dec_formed.ctx Tryd.f50 dec_formed.ann [(.string a1)] h (dec_formed.ret K) = dec_formed a1 h K := by kernel_rfl
set_option maxRecDepth 100000 in
theorem dec_formed.calls {a1 : ByteArray} {h : Heap} {K : Bool → Heap → Prop} (hh : dec_formed a1 h K) (w : World) (hw : w.heap = h) :
    (callFunc 50 #[(.string a1)]).run Tryd.prog w = .ok (.enter 50 #[(.string a1)]) w ∧ Calls Tryd.prog 50 #[(.string a1)] w fun e w' => ∃ v, e = .returned v ∧ Out w w' ∧ dec_formed.ret K v w'.heap := by
  rw [← dec_formed.eq] at hh
  exact fn_calls (args := [(.string a1)]) (c := dec_formed.code) dec_formed.ok Tryd.func50 (by kernel_rfl) (by kernel_rfl) (by kernel_rfl) (by kernel_rfl) (loops_ok (l := [(dec_formed.c0, none, 0, dec_formed.keep0, dec_formed.outs0)]) (by kernel_rfl) ⟨dec_formed.L0, trivial⟩) hh w hw
end

/-! ### strconv.ParseInt: function 51, by its contract -/
def strconv_ParseInt.ret (K : Int → Value → Heap → Prop) (v : Value) (h : Heap) : Prop := match v with
  | (.tuple ⟨[(.int .i64 r4), r5]⟩) => K r4 r5 h
  | _ => False
theorem strconv_ParseInt.ret_elim {K : Int → Value → Heap → Prop} {K' : Value → Heap → Prop} {v : Value} {h : Heap} (hk : ∀ r4 r5 h, K r4 r5 h → K' (.tuple #[(.int .i64 r4), r5]) h) (hh : strconv_ParseInt.ret K v h) : K' v h := by
  unfold strconv_ParseInt.ret at hh
  split at hh
  · exact hk _ _ _ hh
  · exact hh.elim
def strconv_ParseInt [DKc] (a1 : ByteArray) (a2 : Int) (a3 : Int) (h : Heap) (K : Int → Value → Heap → Prop) : Prop := ∀ w : World, w.heap = h → (callFunc 51 #[(.string a1), (.int .i64 a2), (.int .i64 a3)]).run Tryd.prog w = .ok (.enter 51 #[(.string a1), (.int .i64 a2), (.int .i64 a3)]) w ∧ Calls Tryd.prog 51 #[(.string a1), (.int .i64 a2), (.int .i64 a3)] w fun e w' => ∃ v, e = .returned v ∧ Out w w' ∧ strconv_ParseInt.ret K v w'.heap
theorem strconv_ParseInt.calls [DKc] {a1 : ByteArray} {a2 : Int} {a3 : Int} {h : Heap} {K : Int → Value → Heap → Prop} (hh : strconv_ParseInt a1 a2 a3 h K) (w : World) (hw : w.heap = h) : (callFunc 51 #[(.string a1), (.int .i64 a2), (.int .i64 a3)]).run Tryd.prog w = .ok (.enter 51 #[(.string a1), (.int .i64 a2), (.int .i64 a3)]) w ∧ Calls Tryd.prog 51 #[(.string a1), (.int .i64 a2), (.int .i64 a3)] w fun e w' => ∃ v, e = .returned v ∧ Out w w' ∧ strconv_ParseInt.ret K v w'.heap := hh w hw

/-! ### strait/dec.Parse: function 25 -/
section
variable [DKc]
def dec_Parse (a1 : ByteArray) (h : Heap) (K : Int → Int → Heap → Prop) : Prop :=
  (callP1 (dec_formed a1 h) fun x2 h3 => (iteB (!x2) (K 0 2 h3) ((callP2 (strconv_ParseInt a1 10 64 h3) fun x4 x5 h6 => (nilP x5 fun z7 => (iteB (!z7) (K 0 10 h6) (K x4 0 h6)))))))
def dec_Parse.ret (K : Int → Int → Heap → Prop) (v : Value) (h : Heap) : Prop := match v with
  | (.tuple ⟨[(.int .i64 r8), (.int .i64 r9)]⟩) => K r8 r9 h
  | _ => False
theorem dec_Parse.ret_elim {K : Int → Int → Heap → Prop} {K' : Value → Heap → Prop} {v : Value} {h : Heap} (hk : ∀ r8 r9 h, K r8 r9 h → K' (.tuple #[(.int .i64 r8), (.int .i64 r9)]) h) (hh : dec_Parse.ret K v h) : K' v h := by
  unfold dec_Parse.ret at hh
  split at hh
  · exact hk _ _ _ hh
  · exact hh.elim
def dec_Parse.call (f : FuncId) (vs : List Value) (h : Heap) (K : Value → Heap → Prop) : Prop := match f, vs with
  | 50, [(.string a1)] => callP1 (dec_formed a1 h) fun r11 h' => K (.bool r11) h'
  | 51, [(.string a1), (.int .i64 a2), (.int .i64 a3)] => callP2 (strconv_ParseInt a1 a2 a3 h) fun r4 r5 h' => K (.tuple #[(.int .i64 r4), r5]) h'
  | _, _ => False
noncomputable def dec_Parse.ctx : Ctx := { P := Tryd.prog, call := dec_Parse.call, qcall := fun _ _ _ _ => False, quiet := fun f => Nat.beq f 2000073, loop := fun _ _ _ _ => False }
theorem dec_Parse.ok : dec_Parse.ctx.OK where
  mixed := by kernel_rfl
  mono := by
    intro f args h K K' hh hk
    change dec_Parse.call f args h K at hh
    change dec_Parse.call f args h K'
    unfold dec_Parse.call at hh ⊢
    split at hh
    · obtain ⟨R, h1, h2⟩ := hh
      exact ⟨R, h1, fun _ x hr => hk _ _ (h2 _ x hr)⟩
    · obtain ⟨R, h1, h2⟩ := hh
      exact ⟨R, h1, fun _ _ x hr => hk _ _ (h2 _ _ x hr)⟩
    · exact hh.elim
  call := by
    intro f args h K hh w hw
    change dec_Parse.call f args h K at hh
    unfold dec_Parse.call at hh
    split at hh
    · obtain ⟨R, h1, h2⟩ := hh
      obtain ⟨g1, g2⟩ := dec_formed.calls h1 w hw
      exact ⟨g1, g2.mono fun e w' ⟨v, he, ho, hr⟩ => ⟨v, he, ho, dec_formed.ret_elim h2 hr⟩⟩
    · obtain ⟨R, h1, h2⟩ := hh
      obtain ⟨g1, g2⟩ := strconv_ParseInt.calls h1 w hw
      exact ⟨g1, g2.mono fun e w' ⟨v, he, ho, hr⟩ => ⟨v, he, ho, strconv_ParseInt.ret_elim h2 hr⟩⟩
    · exact hh.elim
  qmono := fun hh _ => hh.elim
  qval := fun hh => hh.elim
  qcall := fun hh => hh.elim
noncomputable def dec_Parse.code : Code := (Tryd.f25.body).getD .skip
def dec_Parse.ann : Ann := .auto
set_option maxRecDepth 100000 in
theorem dec_Parse.eq (a1 : ByteArray) (h : Heap) (K : Int → Int → Heap → Prop) : evF dec_Parse.ctx Tryd.f25 dec_Parse.ann [(.string a1)] h (dec_Parse.ret K) = dec_Parse a1 h K := by kernel_rfl
set_option maxRecDepth 100000 in
theorem dec_Parse.calls {a1 : ByteArray} {h : Heap} {K : Int → Int → Heap → Prop} (hh : dec_Parse a1 h K) (w : World) (hw : w.heap = h) :
    (callFunc 25 #[(.string a1)]).run Tryd.prog w = .ok (.enter 25 #[(.string a1)]) w ∧ Calls Tryd.prog 25 #[(.string a1)] w fun e w' => ∃ v, e = .returned v ∧ Out w w' ∧ dec_Parse.ret K v w'.heap := by
  rw [← dec_Parse.eq] at hh
  exact fn_calls (args := [(.string a1)]) (c := dec_Parse.code) dec_Parse.ok Tryd.func25 (by kernel_rfl) (by kernel_rfl) (by kernel_rfl) (by kernel_rfl) (loops_ok (l := []) (by kernel_rfl) trivial) hh w hw
end

/-! ### strait/dec.Nat: function 26 -/
section
variable [DKc]
def dec_Nat (a1 : ByteArray) (a2 : Int) (h : Heap) (K : Int → Int → Heap → Prop) : Prop :=
  (callP2 (dec_Parse a1 h) fun x3 x4 h5 => ((iteB (x4 != (0 : Int)) (K 0 x4 h5) ((iteB (decide (x3 < (0 : Int))) ((iteB (decide (x3 < (0 : Int))) (K 0 10 h5) ((K x3 0 h5)))) ((iteB (decide (x3 > a2)) (K 0 10 h5) ((K x3 0 h5)))))))))
def dec_Nat.ret (K : Int → Int → Heap → Prop) (v : Value) (h : Heap) : Prop := match v with
  | (.tuple ⟨[(.int .i64 r7), (.int .i64 r8)]⟩) => K r7 r8 h
  | _ => False
theorem dec_Nat.ret_elim {K : Int → Int → Heap → Prop} {K' : Value → Heap → Prop} {v : Value} {h : Heap} (hk : ∀ r7 r8 h, K r7 r8 h → K' (.tuple #[(.int .i64 r7), (.int .i64 r8)]) h) (hh : dec_Nat.ret K v h) : K' v h := by
  unfold dec_Nat.ret at hh
  split at hh
  · exact hk _ _ _ hh
  · exact hh.elim
def dec_Nat.call (f : FuncId) (vs : List Value) (h : Heap) (K : Value → Heap → Prop) : Prop := match f, vs with
  | 25, [(.string a1)] => callP2 (dec_Parse a1 h) fun r8 r9 h' => K (.tuple #[(.int .i64 r8), (.int .i64 r9)]) h'
  | _, _ => False
noncomputable def dec_Nat.ctx : Ctx := { P := Tryd.prog, call := dec_Nat.call, qcall := fun _ _ _ _ => False, quiet := fun f => Nat.beq f 2000073, loop := fun _ _ _ _ => False }
theorem dec_Nat.ok : dec_Nat.ctx.OK where
  mixed := by kernel_rfl
  mono := by
    intro f args h K K' hh hk
    change dec_Nat.call f args h K at hh
    change dec_Nat.call f args h K'
    unfold dec_Nat.call at hh ⊢
    split at hh
    · obtain ⟨R, h1, h2⟩ := hh
      exact ⟨R, h1, fun _ _ x hr => hk _ _ (h2 _ _ x hr)⟩
    · exact hh.elim
  call := by
    intro f args h K hh w hw
    change dec_Nat.call f args h K at hh
    unfold dec_Nat.call at hh
    split at hh
    · obtain ⟨R, h1, h2⟩ := hh
      obtain ⟨g1, g2⟩ := dec_Parse.calls h1 w hw
      exact ⟨g1, g2.mono fun e w' ⟨v, he, ho, hr⟩ => ⟨v, he, ho, dec_Parse.ret_elim h2 hr⟩⟩
    · exact hh.elim
  qmono := fun hh _ => hh.elim
  qval := fun hh => hh.elim
  qcall := fun hh => hh.elim
noncomputable def dec_Nat.code : Code := (Tryd.f26.body).getD .skip
def dec_Nat.ann : Ann := .auto
set_option maxRecDepth 100000 in
theorem dec_Nat.eq (a1 : ByteArray) (a2 : Int) (h : Heap) (K : Int → Int → Heap → Prop) : evF dec_Nat.ctx Tryd.f26 dec_Nat.ann [(.string a1), (.int .i64 a2)] h (dec_Nat.ret K) = dec_Nat a1 a2 h K := by kernel_rfl
set_option maxRecDepth 100000 in
theorem dec_Nat.calls {a1 : ByteArray} {a2 : Int} {h : Heap} {K : Int → Int → Heap → Prop} (hh : dec_Nat a1 a2 h K) (w : World) (hw : w.heap = h) :
    (callFunc 26 #[(.string a1), (.int .i64 a2)]).run Tryd.prog w = .ok (.enter 26 #[(.string a1), (.int .i64 a2)]) w ∧ Calls Tryd.prog 26 #[(.string a1), (.int .i64 a2)] w fun e w' => ∃ v, e = .returned v ∧ Out w w' ∧ dec_Nat.ret K v w'.heap := by
  rw [← dec_Nat.eq] at hh
  exact fn_calls (args := [(.string a1), (.int .i64 a2)]) (c := dec_Nat.code) dec_Nat.ok Tryd.func26 (by kernel_rfl) (by kernel_rfl) (by kernel_rfl) (by kernel_rfl) (loops_ok (l := []) (by kernel_rfl) trivial) hh w hw
end

/-! ### strings.Split: function 38, by its contract -/
def strings_Split.ret (K : (Option Addr) → Nat → Nat → Heap → Prop) (v : Value) (h : Heap) : Prop := match v with
  | (.slice r3 r3l r3c) => K r3 r3l r3c h
  | _ => False
theorem strings_Split.ret_elim {K : (Option Addr) → Nat → Nat → Heap → Prop} {K' : Value → Heap → Prop} {v : Value} {h : Heap} (hk : ∀ r3 r3l r3c h, K r3 r3l r3c h → K' (.slice r3 r3l r3c) h) (hh : strings_Split.ret K v h) : K' v h := by
  unfold strings_Split.ret at hh
  split at hh
  · exact hk _ _ _ _ hh
  · exact hh.elim
def strings_Split [DKc] (a1 : ByteArray) (a2 : ByteArray) (h : Heap) (K : (Option Addr) → Nat → Nat → Heap → Prop) : Prop := ∀ w : World, w.heap = h → (callFunc 38 #[(.string a1), (.string a2)]).run Tryd.prog w = .ok (.enter 38 #[(.string a1), (.string a2)]) w ∧ Calls Tryd.prog 38 #[(.string a1), (.string a2)] w fun e w' => ∃ v, e = .returned v ∧ Out w w' ∧ strings_Split.ret K v w'.heap
theorem strings_Split.calls [DKc] {a1 : ByteArray} {a2 : ByteArray} {h : Heap} {K : (Option Addr) → Nat → Nat → Heap → Prop} (hh : strings_Split a1 a2 h K) (w : World) (hw : w.heap = h) : (callFunc 38 #[(.string a1), (.string a2)]).run Tryd.prog w = .ok (.enter 38 #[(.string a1), (.string a2)]) w ∧ Calls Tryd.prog 38 #[(.string a1), (.string a2)] w fun e w' => ∃ v, e = .returned v ∧ Out w w' ∧ strings_Split.ret K v w'.heap := hh w hw

/-! ### strait/dec.Read: function 31 -/
section
variable [DKc]
def dec_Read.b0 (K0 : (Option Addr) → Nat → Nat → Int → Int → Heap → Prop) (K2 : (Option Addr) → Nat → Nat → Heap → Prop) (cont : (Option Addr) → Nat → Nat → (Option Addr) → Nat → Nat → Int → Int → Heap → Prop) (v5_1001 : Option Addr) (v5_1001l : Nat) (v5_1001c : Nat) (c13_1002 : Option Addr) (c13_1003 : Nat) (c13_1004 : Nat) (c14_1005 : Int) (v15_1006 : Int) (h1007 : Heap) : Prop :=
  (iteB (decide (v15_1006 < c14_1005)) ((chkP c13_1002 fun a1008 => (0 ≤ v15_1006 ∧ v15_1006 < (c13_1003 : Int)) ∧ ∃ (x1009 : ByteArray), cell h1007 (a1008.add (v15_1006.toNat * 1)) = some (.string x1009) ∧ (callP2 (dec_Parse x1009 h1007) fun x1010 x1011 h1012 => ((iteB (x1011 != (0 : Int)) (K0 none 0 0 x1011 v15_1006 h1012) ((newP h1012 (.cells #[(.int .i64 x1010)] 2) fun a1013 h1014 => ∃ n1019, cellsAt h1014 (some a1013) (1 * 1) n1019 ∧ appP 2 1 8 [(.int .i64 0)] v5_1001 v5_1001l v5_1001c 1 n1019 h1014 fun q1015 l1016 c1017 h1018 => ((cont q1015 l1016 c1017 c13_1002 c13_1003 c13_1004 c14_1005 (IntKind.i64.wrap (v15_1006 + 1)) h1018))))))))) (K2 v5_1001 v5_1001l v5_1001c h1007))
def dec_Read.l0 (K0 : (Option Addr) → Nat → Nat → Int → Int → Heap → Prop) (K2 : (Option Addr) → Nat → Nat → Heap → Prop) : Nat → (Option Addr) → Nat → Nat → (Option Addr) → Nat → Nat → Int → Int → Heap → Prop
  | 0, _, _, _, _, _, _, _, _, _ => False
  | m + 1, v5_1001, v5_1001l, v5_1001c, c13_1002, c13_1003, c13_1004, c14_1005, v15_1006, h => dec_Read.b0 K0 K2 (dec_Read.l0 K0 K2 m) v5_1001 v5_1001l v5_1001c c13_1002 c13_1003 c13_1004 c14_1005 v15_1006 h
def dec_Read (a1 : ByteArray) (h : Heap) (K : (Option Addr) → Nat → Nat → Int → Int → Heap → Prop) : Prop :=
  ((iteB (a1.toList == (⟨#[]⟩ : ByteArray).toList) (K none 0 0 0 0 h) (((callP3 (strings_Split a1 (⟨#[32]⟩ : ByteArray) h) fun x2 x2l x2c h3 => (∃ m10, dec_Read.l0 (fun z4 z4l z4c z5 z6 h7 => K z4 z4l z4c z5 z6 h7) (fun z8 z8l z8c h9 => (K z8 z8l z8c 0 0 h9)) m10 none 0 0 x2 x2l x2c (x2l : Int) 0 h3))))))
def dec_Read.ret (K : (Option Addr) → Nat → Nat → Int → Int → Heap → Prop) (v : Value) (h : Heap) : Prop := match v with
  | (.tuple ⟨[(.slice r11 r11l r11c), (.int .i64 r12), (.int .i64 r13)]⟩) => K r11 r11l r11c r12 r13 h
  | _ => False
theorem dec_Read.ret_elim {K : (Option Addr) → Nat → Nat → Int → Int → Heap → Prop} {K' : Value → Heap → Prop} {v : Value} {h : Heap} (hk : ∀ r11 r11l r11c r12 r13 h, K r11 r11l r11c r12 r13 h → K' (.tuple #[(.slice r11 r11l r11c), (.int .i64 r12), (.int .i64 r13)]) h) (hh : dec_Read.ret K v h) : K' v h := by
  unfold dec_Read.ret at hh
  split at hh
  · exact hk _ _ _ _ _ _ hh
  · exact hh.elim
def dec_Read.call (f : FuncId) (vs : List Value) (h : Heap) (K : Value → Heap → Prop) : Prop := match f, vs with
  | 25, [(.string a1)] => callP2 (dec_Parse a1 h) fun r8 r9 h' => K (.tuple #[(.int .i64 r8), (.int .i64 r9)]) h'
  | 38, [(.string a1), (.string a2)] => callP3 (strings_Split a1 a2 h) fun r3 r3l r3c h' => K (.slice r3 r3l r3c) h'
  | _, _ => False
def dec_Read.r0 (K : Nat → List Value → Heap → Prop) (m : Nat) (vs : List Value) (h : Heap) : Prop := match vs with
  | [(.slice v5_1001 v5_1001l v5_1001c), (.slice c13_1002 c13_1003 c13_1004), (.int .i64 c14_1005), (.int .i64 v15_1006)] => dec_Read.l0 (fun z14 z14l z14c z15 z16 h' => K 0 [(.slice z14 z14l z14c), (.int .i64 z15), (.int .i64 z16)] h') (fun z17 z17l z17c h' => K 2 [(.slice z17 z17l z17c)] h') m v5_1001 v5_1001l v5_1001c c13_1002 c13_1003 c13_1004 c14_1005 v15_1006 h
  | _ => False
def dec_Read.loop (i : Nat) (vs : List Value) (h : Heap) (K : Nat → List Value → Heap → Prop) : Prop := match i with
  | 0 => ∃ m, dec_Read.r0 K m vs h
  | _ => False
noncomputable def dec_Read.ctx : Ctx := { P := Tryd.prog, call := dec_Read.call, qcall := fun _ _ _ _ => False, quiet := fun f => Nat.beq f 2000073, loop := dec_Read.loop }
theorem dec_Read.ok : dec_Read.ctx.OK where
  mixed := by kernel_rfl
  mono := by
    intro f args h K K' hh hk
    change dec_Read.call f args h K at hh
    change dec_Read.call f args h K'
    unfold dec_Read.call at hh ⊢
    split at hh
    · obtain ⟨R, h1, h2⟩ := hh
      exact ⟨R, h1, fun _ _ x hr => hk _ _ (h2 _ _ x hr)⟩
    · obtain ⟨R, h1, h2⟩ := hh
      exact ⟨R, h1, fun _ _ _ x hr => hk _ _ (h2 _ _ _ x hr)⟩
    · exact hh.elim
  call := by
    intro f args h K hh w hw
    change dec_Read.call f args h K at hh
    unfold dec_Read.call at hh
    split at hh
    · obtain ⟨R, h1, h2⟩ := hh
      obtain ⟨g1, g2⟩ := dec_Parse.calls h1 w hw
      exact ⟨g1, g2.mono fun e w' ⟨v, he, ho, hr⟩ => ⟨v, he, ho, dec_Parse.ret_elim h2 hr⟩⟩
    · obtain ⟨R, h1, h2⟩ := hh
      obtain ⟨g1, g2⟩ := strings_Split.calls h1 w hw
      exact ⟨g1, g2.mono fun e w' ⟨v, he, ho, hr⟩ => ⟨v, he, ho, strings_Split.ret_elim h2 hr⟩⟩
    · exact hh.elim
  qmono := fun hh _ => hh.elim
  qval := fun hh => hh.elim
  qcall := fun hh => hh.elim
noncomputable def dec_Read.code : Code := (Tryd.f31.body).getD .skip
def dec_Read.ann : Ann := (.two .auto (.two .auto (.two .auto (.two (.two .auto (.two (.loop 0 [5, 13, 14, 15] [(2, [5]), (0, [2, 3, 4])] .auto) .auto)) .auto))))
noncomputable def dec_Read.c0 : Code := sub dec_Read.code [1, 1, 1, 0, 1, 0, 0]
def dec_Read.a0 : Ann := .auto
def dec_Read.keep0 : List Nat := [5, 13, 14, 15]
def dec_Read.outs0 : List (Nat × List Nat) := [(2, [5]), (0, [2, 3, 4])]
set_option maxRecDepth 100000 in
theorem dec_Read.L0 : LoopOK dec_Read.ctx 35 dec_Read.c0 0 dec_Read.keep0 dec_Read.outs0 := by
  refine loop_ok (n := dec_Read.a0) dec_Read.ok (by kernel_rfl) (loops_ok (l := []) (by kernel_rfl) ?_) dec_Read.r0 ?_ ?_ (fun vs h K hh => hh)
  · exact trivial
  · intro K vs h hh
    unfold dec_Read.r0 at hh
    split at hh
    · exact hh
    · exact hh
  · intro K m vs h hh
    unfold dec_Read.r0 at hh
    split at hh
    · exact cast (by kernel_rfl) hh
    · exact hh.elim
set_option maxRecDepth 100000 in
theorem dec_Read.eq (a1 : ByteArray) (h : Heap) (K : (Option Addr) → Nat → Nat → Int → Int → Heap → Prop) : evF dec_Read.ctx Tryd.f31 dec_Read.ann [(.string a1)] h (dec_Read.ret K) = dec_Read a1 h K := by kernel_rfl
set_option maxRecDepth 100000 in
theorem dec_Read.calls {a1 : ByteArray} {h : Heap} {K : (Option Addr) → Nat → Nat → Int → Int → Heap → Prop} (hh : dec_Read a1 h K) (w : World) (hw : w.heap = h) :
    (callFunc 31 #[(.string a1)]).run Tryd.prog w = .ok (.enter 31 #[(.string a1)]) w ∧ Calls Tryd.prog 31 #[(.string a1)] w fun e w' => ∃ v, e = .returned v ∧ Out w w' ∧ dec_Read.ret K v w'.heap := by
  rw [← dec_Read.eq] at hh
  exact fn_calls (args := [(.string a1)]) (c := dec_Read.code) dec_Read.ok Tryd.func31 (by kernel_rfl) (by kernel_rfl) (by kernel_rfl) (by kernel_rfl) (loops_ok (l := [(dec_Read.c0, none, 0, dec_Read.keep0, dec_Read.outs0)]) (by kernel_rfl) ⟨dec_Read.L0, trivial⟩) hh w hw
end

/-! ### strconv.FormatInt: function 53, by its contract -/
def strconv_FormatInt.ret (K : ByteArray → Heap → Prop) (v : Value) (h : Heap) : Prop := match v with
  | (.string r3) => K r3 h
  | _ => False
theorem strconv_FormatInt.ret_elim {K : ByteArray → Heap → Prop} {K' : Value → Heap → Prop} {v : Value} {h : Heap} (hk : ∀ r3 h, K r3 h → K' (.string r3) h) (hh : strconv_FormatInt.ret K v h) : K' v h := by
  unfold strconv_FormatInt.ret at hh
  split at hh
  · exact hk _ _ hh
  · exact hh.elim
def strconv_FormatInt [DKc] (a1 : Int) (a2 : Int) (h : Heap) (K : ByteArray → Heap → Prop) : Prop := ∀ w : World, w.heap = h → (callFunc 53 #[(.int .i64 a1), (.int .i64 a2)]).run Tryd.prog w = .ok (.enter 53 #[(.int .i64 a1), (.int .i64 a2)]) w ∧ Calls Tryd.prog 53 #[(.int .i64 a1), (.int .i64 a2)] w fun e w' => ∃ v, e = .returned v ∧ Out w w' ∧ strconv_FormatInt.ret K v w'.heap
theorem strconv_FormatInt.calls [DKc] {a1 : Int} {a2 : Int} {h : Heap} {K : ByteArray → Heap → Prop} (hh : strconv_FormatInt a1 a2 h K) (w : World) (hw : w.heap = h) : (callFunc 53 #[(.int .i64 a1), (.int .i64 a2)]).run Tryd.prog w = .ok (.enter 53 #[(.int .i64 a1), (.int .i64 a2)]) w ∧ Calls Tryd.prog 53 #[(.int .i64 a1), (.int .i64 a2)] w fun e w' => ∃ v, e = .returned v ∧ Out w w' ∧ strconv_FormatInt.ret K v w'.heap := hh w hw

/-! ### strait/dec.Print: function 29 -/
section
variable [DKc]
def dec_Print (a1 : Int) (h : Heap) (K : ByteArray → Heap → Prop) : Prop :=
  (callP1 (strconv_FormatInt a1 10 h) fun x2 h3 => K x2 h3)
def dec_Print.ret (K : ByteArray → Heap → Prop) (v : Value) (h : Heap) : Prop := match v with
  | (.string r4) => K r4 h
  | _ => False
theorem dec_Print.ret_elim {K : ByteArray → Heap → Prop} {K' : Value → Heap → Prop} {v : Value} {h : Heap} (hk : ∀ r4 h, K r4 h → K' (.string r4) h) (hh : dec_Print.ret K v h) : K' v h := by
  unfold dec_Print.ret at hh
  split at hh
  · exact hk _ _ hh
  · exact hh.elim
def dec_Print.call (f : FuncId) (vs : List Value) (h : Heap) (K : Value → Heap → Prop) : Prop := match f, vs with
  | 53, [(.int .i64 a1), (.int .i64 a2)] => callP1 (strconv_FormatInt a1 a2 h) fun r3 h' => K (.string r3) h'
  | _, _ => False
noncomputable def dec_Print.ctx : Ctx := { P := Tryd.prog, call := dec_Print.call, qcall := fun _ _ _ _ => False, quiet := fun f => Nat.beq f 2000073, loop := fun _ _ _ _ => False }
theorem dec_Print.ok : dec_Print.ctx.OK where
  mixed := by kernel_rfl
  mono := by
    intro f args h K K' hh hk
    change dec_Print.call f args h K at hh
    change dec_Print.call f args h K'
    unfold dec_Print.call at hh ⊢
    split at hh
    · obtain ⟨R, h1, h2⟩ := hh
      exact ⟨R, h1, fun _ x hr => hk _ _ (h2 _ x hr)⟩
    · exact hh.elim
  call := by
    intro f args h K hh w hw
    change dec_Print.call f args h K at hh
    unfold dec_Print.call at hh
    split at hh
    · obtain ⟨R, h1, h2⟩ := hh
      obtain ⟨g1, g2⟩ := strconv_FormatInt.calls h1 w hw
      exact ⟨g1, g2.mono fun e w' ⟨v, he, ho, hr⟩ => ⟨v, he, ho, strconv_FormatInt.ret_elim h2 hr⟩⟩
    · exact hh.elim
  qmono := fun hh _ => hh.elim
  qval := fun hh => hh.elim
  qcall := fun hh => hh.elim
noncomputable def dec_Print.code : Code := (Tryd.f29.body).getD .skip
def dec_Print.ann : Ann := .auto
set_option maxRecDepth 100000 in
theorem dec_Print.eq (a1 : Int) (h : Heap) (K : ByteArray → Heap → Prop) : evF dec_Print.ctx Tryd.f29 dec_Print.ann [(.int .i64 a1)] h (dec_Print.ret K) = dec_Print a1 h K := by kernel_rfl
set_option maxRecDepth 100000 in
theorem dec_Print.calls {a1 : Int} {h : Heap} {K : ByteArray → Heap → Prop} (hh : dec_Print a1 h K) (w : World) (hw : w.heap = h) :
    (callFunc 29 #[(.int .i64 a1)]).run Tryd.prog w = .ok (.enter 29 #[(.int .i64 a1)]) w ∧ Calls Tryd.prog 29 #[(.int .i64 a1)] w fun e w' => ∃ v, e = .returned v ∧ Out w w' ∧ dec_Print.ret K v w'.heap := by
  rw [← dec_Print.eq] at hh
  exact fn_calls (args := [(.int .i64 a1)]) (c := dec_Print.code) dec_Print.ok Tryd.func29 (by kernel_rfl) (by kernel_rfl) (by kernel_rfl) (by kernel_rfl) (loops_ok (l := []) (by kernel_rfl) trivial) hh w hw
end

/-! ### strait/straitlaw06.awake: function 24 -/
section
variable [DKc]
def straitlaw06_awake (h : Heap) (K : Bool → Heap → Prop) : Prop :=
  (callP2 (dec_Parse (⟨#[45, 52, 48]⟩ : ByteArray) h) fun x1 x2 h3 => (callP2 (dec_Nat (⟨#[57]⟩ : ByteArray) 8 h3) fun x4 x5 h6 => (callP5 (dec_Read (⟨#[49, 32, 50]⟩ : ByteArray) h6) fun x7 x7l x7c x8 x9 h10 => (iteB (x1 == ((-40) : Int)) (iteB (x2 == (0 : Int)) (iteB (x5 == (10 : Int)) (iteB (x8 == (0 : Int)) (iteB ((x7l : Int) == (2 : Int)) (callP1 (dec_Print 7 h10) fun x11 h12 => (K (x11.toList == (⟨#[55]⟩ : ByteArray).toList) h12)) (K false h10)) (K false h10)) (K false h10)) (K false h10)) (K false h10)))))
def straitlaw06_awake.ret (K : Bool → Heap → Prop) (v : Value) (h : Heap) : Prop := match v with
  | (.bool r15) => K r15 h
  | _ => False
theorem straitlaw06_awake.ret_elim {K : Bool → Heap → Prop} {K' : Value → Heap → Prop} {v : Value} {h : Heap} (hk : ∀ r15 h, K r15 h → K' (.bool r15) h) (hh : straitlaw06_awake.ret K v h) : K' v h := by
  unfold straitlaw06_awake.ret at hh
  split at hh
  · exact hk _ _ hh
  · exact hh.elim
def straitlaw06_awake.call (f : FuncId) (vs : List Value) (h : Heap) (K : Value → Heap → Prop) : Prop := match f, vs with
  | 25, [(.string a1)] => callP2 (dec_Parse a1 h) fun r8 r9 h' => K (.tuple #[(.int .i64 r8), (.int .i64 r9)]) h'
  | 26, [(.string a1), (.int .i64 a2)] => callP2 (dec_Nat a1 a2 h) fun r7 r8 h' => K (.tuple #[(.int .i64 r7), (.int .i64 r8)]) h'
  | 29, [(.int .i64 a1)] => callP1 (dec_Print a1 h) fun r4 h' => K (.string r4) h'
  | 31, [(.string a1)] => callP5 (dec_Read a1 h) fun r11 r11l r11c r12 r13 h' => K (.tuple #[(.slice r11 r11l r11c), (.int .i64 r12), (.int .i64 r13)]) h'
  | _, _ => False
noncomputable def straitlaw06_awake.ctx : Ctx := { P := Tryd.prog, call := straitlaw06_awake.call, qcall := fun _ _ _ _ => False, quiet := fun f => Nat.beq f 2000073, loop := fun _ _ _ _ => False }
theorem straitlaw06_awake.ok : straitlaw06_awake.ctx.OK where
  mixed := by kernel_rfl
  mono := by
    intro f args h K K' hh hk
    change straitlaw06_awake.call f args h K at hh
    change straitlaw06_awake.call f args h K'
    unfold straitlaw06_awake.call at hh ⊢
    split at hh
    · obtain ⟨R, h1, h2⟩ := hh
      exact ⟨R, h1, fun _ _ x hr => hk _ _ (h2 _ _ x hr)⟩
    · obtain ⟨R, h1, h2⟩ := hh
      exact ⟨R, h1, fun _ _ x hr => hk _ _ (h2 _ _ x hr)⟩
    · obtain ⟨R, h1, h2⟩ := hh
      exact ⟨R, h1, fun _ x hr => hk _ _ (h2 _ x hr)⟩
    · obtain ⟨R, h1, h2⟩ := hh
      exact ⟨R, h1, fun _ _ _ _ _ x hr => hk _ _ (h2 _ _ _ _ _ x hr)⟩
    · exact hh.elim
  call := by
    intro f args h K hh w hw
    change straitlaw06_awake.call f args h K at hh
    unfold straitlaw06_awake.call at hh
    split at hh
    · obtain ⟨R, h1, h2⟩ := hh
      obtain ⟨g1, g2⟩ := dec_Parse.calls h1 w hw
      exact ⟨g1, g2.mono fun e w' ⟨v, he, ho, hr⟩ => ⟨v, he, ho, dec_Parse.ret_elim h2 hr⟩⟩
    · obtain ⟨R, h1, h2⟩ := hh
      obtain ⟨g1, g2⟩ := dec_Nat.calls h1 w hw
      exact ⟨g1, g2.mono fun e w' ⟨v, he, ho, hr⟩ => ⟨v, he, ho, dec_Nat.ret_elim h2 hr⟩⟩
    · obtain ⟨R, h1, h2⟩ := hh
      obtain ⟨g1, g2⟩ := dec_Print.calls h1 w hw
      exact ⟨g1, g2.mono fun e w' ⟨v, he, ho, hr⟩ => ⟨v, he, ho, dec_Print.ret_elim h2 hr⟩⟩
    · obtain ⟨R, h1, h2⟩ := hh
      obtain ⟨g1, g2⟩ := dec_Read.calls h1 w hw
      exact ⟨g1, g2.mono fun e w' ⟨v, he, ho, hr⟩ => ⟨v, he, ho, dec_Read.ret_elim h2 hr⟩⟩
    · exact hh.elim
  qmono := fun hh _ => hh.elim
  qval := fun hh => hh.elim
  qcall := fun hh => hh.elim
noncomputable def straitlaw06_awake.code : Code := (Tryd.f24.body).getD .skip
def straitlaw06_awake.ann : Ann := .auto
set_option maxRecDepth 100000 in
theorem straitlaw06_awake.eq (h : Heap) (K : Bool → Heap → Prop) : evF straitlaw06_awake.ctx Tryd.f24 straitlaw06_awake.ann [] h (straitlaw06_awake.ret K) = straitlaw06_awake h K := by kernel_rfl
set_option maxRecDepth 100000 in
theorem straitlaw06_awake.calls {h : Heap} {K : Bool → Heap → Prop} (hh : straitlaw06_awake h K) (w : World) (hw : w.heap = h) :
    (callFunc 24 #[]).run Tryd.prog w = .ok (.enter 24 #[]) w ∧ Calls Tryd.prog 24 #[] w fun e w' => ∃ v, e = .returned v ∧ Out w w' ∧ straitlaw06_awake.ret K v w'.heap := by
  rw [← straitlaw06_awake.eq] at hh
  exact fn_calls (args := []) (c := straitlaw06_awake.code) straitlaw06_awake.ok Tryd.func24 (by kernel_rfl) (by kernel_rfl) (by kernel_rfl) (by kernel_rfl) (loops_ok (l := []) (by kernel_rfl) trivial) hh w hw
end

/-! ### strait/straitref06.form: function 52 -/
def straitref06_form.b0 (K0 : Bool → Heap → Prop) (K2 : Heap → Prop) (cont : ByteArray → Int → Heap → Prop) (c0_1001 : ByteArray) (v3_1002 : Int) (h1003 : Heap) : Prop :=
  (iteB (decide (v3_1002 < (c0_1001.size : Int))) ((0 ≤ v3_1002 ∧ ∃ b1004 : UInt8, c0_1001[v3_1002.toNat]? = some b1004 ∧ iteB (decide ((b1004.toNat : Int) < (48 : Int))) (K0 false h1003) (0 ≤ v3_1002 ∧ ∃ b1005 : UInt8, c0_1001[v3_1002.toNat]? = some b1005 ∧ (iteB (decide ((b1005.toNat : Int) > (57 : Int))) (K0 false h1003) (((cont c0_1001 (IntKind.i64.wrap (v3_1002 + 1)) h1003))))))) (K2 h1003))
def straitref06_form.l0 (K0 : Bool → Heap → Prop) (K2 : Heap → Prop) : Nat → ByteArray → Int → Heap → Prop
  | 0, _, _, _ => False
  | m + 1, c0_1001, v3_1002, h => straitref06_form.b0 K0 K2 (straitref06_form.l0 K0 K2 m) c0_1001 v3_1002 h
def straitref06_form (a1 : ByteArray) (h : Heap) (K : Bool → Heap → Prop) : Prop :=
  (let j11 := (fun (y4 : ByteArray) => (∃ m8, straitref06_form.l0 (fun z5 h6 => K z5 h6) (fun h7 => ((iteB (decide ((y4.size : Int) > (0 : Int))) (iteB (y4.toList == (⟨#[48]⟩ : ByteArray).toList) (K true h7) (0 ≤ (0 : Int) ∧ ∃ b9 : UInt8, y4[(0 : Int).toNat]? = some b9 ∧ (K ((b9.toNat : Int) != (48 : Int)) h7))) (K false h7)))) m8 y4 0 h));
  iteB (decide ((a1.size : Int) > (0 : Int))) (0 ≤ (0 : Int) ∧ ∃ b2 : UInt8, a1[(0 : Int).toNat]? = some b2 ∧ (iteB ((b2.toNat : Int) == (45 : Int)) ((0 ≤ (1 : Int) ∧ (1 : Int) ≤ (a1.size : Int)) ∧ ((iteB ((a1.extract (1 : Int).toNat a1.size).toList == (⟨#[48]⟩ : ByteArray).toList) (K false h) ((j11 (a1.extract (1 : Int).toNat a1.size)))))) ((j11 a1)))) (((j11 a1))))
def straitref06_form.ret (K : Bool → Heap → Prop) (v : Value) (h : Heap) : Prop := match v with
  | (.bool r12) => K r12 h
  | _ => False
theorem straitref06_form.ret_elim {K : Bool → Heap → Prop} {K' : Value → Heap → Prop} {v : Value} {h : Heap} (hk : ∀ r12 h, K r12 h → K' (.bool r12) h) (hh : straitref06_form.ret K v h) : K' v h := by
  unfold straitref06_form.ret at hh
  split at hh
  · exact hk _ _ hh
  · exact hh.elim
def straitref06_form.r0 (K : Nat → List Value → Heap → Prop) (m : Nat) (vs : List Value) (h : Heap) : Prop := match vs with
  | [(.string c0_1001), (.int .i64 v3_1002)] => straitref06_form.l0 (fun z13 h' => K 0 [(.bool z13)] h') (fun h' => K 2 [(.string c0_1001)] h') m c0_1001 v3_1002 h
  | _ => False
def straitref06_form.loop (i : Nat) (vs : List Value) (h : Heap) (K : Nat → List Value → Heap → Prop) : Prop := match i with
  | 0 => ∃ m, straitref06_form.r0 K m vs h
  | _ => False
noncomputable def straitref06_form.ctx : Ctx := { P := Tryd.prog, call := fun _ _ _ _ => False, qcall := fun _ _ _ _ => False, quiet := fun f => Nat.beq f 2000073, loop := straitref06_form.loop }
theorem straitref06_form.ok [DKc] : straitref06_form.ctx.OK where
  mixed := by kernel_rfl
  mono := fun hh _ => hh.elim
  call := fun hh => hh.elim
  qmono := fun hh _ => hh.elim
  qval := fun hh => hh.elim
  qcall := fun hh => hh.elim
noncomputable def straitref06_form.code : Code := (Tryd.f52.body).getD .skip
def straitref06_form.ann : Ann := (.two .auto (.two .auto (.two (.two .auto (.two (.loop 0 [0, 3] [(2, [0]), (0, [2])] .auto) .auto)) .auto)))
noncomputable def straitref06_form.c0 : Code := sub straitref06_form.code [1, 1, 0, 1, 0, 0]
def straitref06_form.a0 : Ann := .auto
def straitref06_form.keep0 : List Nat := [0, 3]
def straitref06_form.outs0 : List (Nat × List Nat) := [(2, [0]), (0, [2])]
set_option maxRecDepth 100000 in
theorem straitref06_form.L0 [DKc] : LoopOK straitref06_form.ctx 44 straitref06_form.c0 0 straitref06_form.keep0 straitref06_form.outs0 := by
  refine loop_ok (n := straitref06_form.a0) straitref06_form.ok (by kernel_rfl) (loops_ok (l := []) (by kernel_rfl) ?_) straitref06_form.r0 ?_ ?_ (fun vs h K hh => hh)
  · exact trivial
  · intro K vs h hh
    unfold straitref06_form.r0 at hh
    split at hh
    · exact hh
    · exact hh
  · intro K m vs h hh
    unfold straitref06_form.r0 at hh
    split at hh
    · exact cast (by kernel_rfl) hh
    · exact hh.elim
set_option maxRecDepth 100000 in
theorem straitref06_form.eq (a1 : ByteArray) (h : Heap) (K : Bool → Heap → Prop) : evF straitref06_form.ctx Tryd.f52 straitref06_form.ann [(.string a1)] h (straitref06_form.ret K) = straitref06_form a1 h K := by kernel_rfl
set_option maxRecDepth 100000 in
theorem straitref06_form.calls [DKc] {a1 : ByteArray} {h : Heap} {K : Bool → Heap → Prop} (hh : straitref06_form a1 h K) (w : World) (hw : w.heap = h) :
    (callFunc 52 #[(.string a1)]).run Tryd.prog w = .ok (.enter 52 #[(.string a1)]) w ∧ Calls Tryd.prog 52 #[(.string a1)] w fun e w' => ∃ v, e = .returned v ∧ Out w w' ∧ straitref06_form.ret K v w'.heap := by
  rw [← straitref06_form.eq] at hh
  exact fn_calls (args := [(.string a1)]) (c := straitref06_form.code) straitref06_form.ok Tryd.func52 (by kernel_rfl) (by kernel_rfl) (by kernel_rfl) (by kernel_rfl) (loops_ok (l := [(straitref06_form.c0, none, 0, straitref06_form.keep0, straitref06_form.outs0)]) (by kernel_rfl) ⟨straitref06_form.L0, trivial⟩) hh w hw

/-! ### strait/straitref06.digits: function 54, by its contract -/
def straitref06_digits_rec.ret (K : ByteArray → Heap → Prop) (v : Value) (h : Heap) : Prop := match v with
  | (.string r2) => K r2 h
  | _ => False
theorem straitref06_digits_rec.ret_elim {K : ByteArray → Heap → Prop} {K' : Value → Heap → Prop} {v : Value} {h : Heap} (hk : ∀ r2 h, K r2 h → K' (.string r2) h) (hh : straitref06_digits_rec.ret K v h) : K' v h := by
  unfold straitref06_digits_rec.ret at hh
  split at hh
  · exact hk _ _ hh
  · exact hh.elim
def straitref06_digits_rec [DKc] (a1 : Int) (h : Heap) (K : ByteArray → Heap → Prop) : Prop := ∀ w : World, w.heap = h → (callFunc 54 #[(.int .u64 a1)]).run Tryd.prog w = .ok (.enter 54 #[(.int .u64 a1)]) w ∧ Calls Tryd.prog 54 #[(.int .u64 a1)] w fun e w' => ∃ v, e = .returned v ∧ Out w w' ∧ straitref06_digits_rec.ret K v w'.heap
theorem straitref06_digits_rec.calls [DKc] {a1 : Int} {h : Heap} {K : ByteArray → Heap → Prop} (hh : straitref06_digits_rec a1 h K) (w : World) (hw : w.heap = h) : (callFunc 54 #[(.int .u64 a1)]).run Tryd.prog w = .ok (.enter 54 #[(.int .u64 a1)]) w ∧ Calls Tryd.prog 54 #[(.int .u64 a1)] w fun e w' => ∃ v, e = .returned v ∧ Out w w' ∧ straitref06_digits_rec.ret K v w'.heap := hh w hw

/-! ### strait/straitref06.digits: function 54 -/
section
variable [DKc]
def straitref06_digits (a1 : Int) (h : Heap) (K : ByteArray → Heap → Prop) : Prop :=
  ((iteB (decide (a1 < (10 : Int))) (bindV (IntKind.u8.wrap (IntKind.u64.wrap (48 + a1))) fun n2 => newP h (.cells #[(.int .u8 n2)] 5) fun a3 h4 => ∃ l5 : List UInt8, bytesAt h4 (some a3) 1 l5 ∧ (K (⟨l5.toArray⟩ : ByteArray) h4)) (((10 : Int) ≠ 0 ∧ (10 : Int) ≠ 0 ∧ bindV (IntKind.u8.wrap (IntKind.u64.wrap (48 + (a1.tmod 10)))) fun n6 => (callP1 (straitref06_digits_rec (IntKind.u64.wrap (a1.tdiv 10)) h) fun x7 h8 => newP h8 (.cells #[(.int .u8 n6)] 5) fun a9 h10 => ∃ l11 : List UInt8, bytesAt h10 (some a9) 1 l11 ∧ (((x7.size + (⟨l11.toArray⟩ : ByteArray).size : Nat) : Int) ≤ 9223372036854775807) ∧ (K (x7 ++ (⟨l11.toArray⟩ : ByteArray)) h10)) ∧ (newP h (.cells #[(.int .u8 n6)] 5) fun a12 h13 => ∃ l14 : List UInt8, bytesAt h13 (some a12) 1 l14 ∧ callP1 (straitref06_digits_rec (IntKind.u64.wrap (a1.tdiv 10)) h13) fun x15 h16 => (∃ l17 : List UInt8, bytesAt h16 (some a12) 1 l17 ∧ ((.string (⟨l17.toArray⟩ : ByteArray)) : Value) = (.string (⟨l14.toArray⟩ : ByteArray))) ∧ (((x15.size + (⟨l14.toArray⟩ : ByteArray).size : Nat) : Int) ≤ 9223372036854775807) ∧ (K (x15 ++ (⟨l14.toArray⟩ : ByteArray)) h16))))))
def straitref06_digits.ret (K : ByteArray → Heap → Prop) (v : Value) (h : Heap) : Prop := match v with
  | (.string r20) => K r20 h
  | _ => False
theorem straitref06_digits.ret_elim {K : ByteArray → Heap → Prop} {K' : Value → Heap → Prop} {v : Value} {h : Heap} (hk : ∀ r20 h, K r20 h → K' (.string r20) h) (hh : straitref06_digits.ret K v h) : K' v h := by
  unfold straitref06_digits.ret at hh
  split at hh
  · exact hk _ _ hh
  · exact hh.elim
def straitref06_digits.call (f : FuncId) (vs : List Value) (h : Heap) (K : Value → Heap → Prop) : Prop := match f, vs with
  | 54, [(.int .u64 a1)] => callP1 (straitref06_digits_rec a1 h) fun r2 h' => K (.string r2) h'
  | _, _ => False
noncomputable def straitref06_digits.ctx : Ctx := { P := Tryd.prog, call := straitref06_digits.call, qcall := fun _ _ _ _ => False, quiet := fun f => Nat.beq f 2000073, loop := fun _ _ _ _ => False }
theorem straitref06_digits.ok : straitref06_digits.ctx.OK where
  mixed := by kernel_rfl
  mono := by
    intro f args h K K' hh hk
    change straitref06_digits.call f args h K at hh
    change straitref06_digits.call f args h K'
    unfold straitref06_digits.call at hh ⊢
    split at hh
    · obtain ⟨R, h1, h2⟩ := hh
      exact ⟨R, h1, fun _ x hr => hk _ _ (h2 _ x hr)⟩
    · exact hh.elim
  call := by
    intro f args h K hh w hw
    change straitref06_digits.call f args h K at hh
    unfold straitref06_digits.call at hh
    split at hh
    · obtain ⟨R, h1, h2⟩ := hh
      obtain ⟨g1, g2⟩ := straitref06_digits_rec.calls h1 w hw
      exact ⟨g1, g2.mono fun e w' ⟨v, he, ho, hr⟩ => ⟨v, he, ho, straitref06_digits_rec.ret_elim h2 hr⟩⟩
    · exact hh.elim
  qmono := fun hh _ => hh.elim
  qval := fun hh => hh.elim
  qcall := fun hh => hh.elim
noncomputable def straitref06_digits.code : Code := (Tryd.f54.body).getD .skip
def straitref06_digits.ann : Ann := (.two .auto (.two .auto (.two (.reg [0, 1, 3, 0, 8, 24, 56, 120, 248, 511, 1023] (.take 0 (.take 1 (.take 3 (.take 4 (.take 5 (.take 6 (.alt 2 (.alt 7 (.take 8 (.take 9 (.take 10 .done))) .noalt) (.alt 7 (.early 8 (.alt 2 (.take 9 (.take 10 .done)) .noalt)) .noalt))))))))) .auto)))
set_option maxRecDepth 100000 in
theorem straitref06_digits.eq (a1 : Int) (h : Heap) (K : ByteArray → Heap → Prop) : evF straitref06_digits.ctx Tryd.f54 straitref06_digits.ann [(.int .u64 a1)] h (straitref06_digits.ret K) = straitref06_digits a1 h K := by kernel_rfl
set_option maxRecDepth 100000 in
theorem straitref06_digits.calls {a1 : Int} {h : Heap} {K : ByteArray → Heap → Prop} (hh : straitref06_digits a1 h K) (w : World) (hw : w.heap = h) :
    (callFunc 54 #[(.int .u64 a1)]).run Tryd.prog w = .ok (.enter 54 #[(.int .u64 a1)]) w ∧ Calls Tryd.prog 54 #[(.int .u64 a1)] w fun e w' => ∃ v, e = .returned v ∧ Out w w' ∧ straitref06_digits.ret K v w'.heap := by
  rw [← straitref06_digits.eq] at hh
  exact fn_calls (args := [(.int .u64 a1)]) (c := straitref06_digits.code) straitref06_digits.ok Tryd.func54 (by kernel_rfl) (by kernel_rfl) (by kernel_rfl) (by kernel_rfl) (loops_ok (l := []) (by kernel_rfl) trivial) hh w hw
end

/-! ### strait/straitref06.Print: function 30 -/
section
variable [DKc]
def straitref06_Print (a1 : Int) (h : Heap) (K : ByteArray → Heap → Prop) : Prop :=
  ((iteB (decide (a1 < (0 : Int))) (bindV (IntKind.i64.wrap (0 - (IntKind.i64.wrap (a1 + 1)))) fun n2 => bindV (IntKind.u64.wrap ((IntKind.u64.wrap n2) + 1)) fun n3 => callP1 (straitref06_digits n3 h) fun x4 h5 => ((((⟨#[45]⟩ : ByteArray).size + x4.size : Nat) : Int) ≤ 9223372036854775807) ∧ (K ((⟨#[45]⟩ : ByteArray) ++ x4) h5)) ((callP1 (straitref06_digits (IntKind.u64.wrap a1) h) fun x6 h7 => K x6 h7))))
def straitref06_Print.ret (K : ByteArray → Heap → Prop) (v : Value) (h : Heap) : Prop := match v with
  | (.string r8) => K r8 h
  | _ => False
theorem straitref06_Print.ret_elim {K : ByteArray → Heap → Prop} {K' : Value → Heap → Prop} {v : Value} {h : Heap} (hk : ∀ r8 h, K r8 h → K' (.string r8) h) (hh : straitref06_Print.ret K v h) : K' v h := by
  unfold straitref06_Print.ret at hh
  split at hh
  · exact hk _ _ hh
  · exact hh.elim
def straitref06_Print.call (f : FuncId) (vs : List Value) (h : Heap) (K : Value → Heap → Prop) : Prop := match f, vs with
  | 54, [(.int .u64 a1)] => callP1 (straitref06_digits a1 h) fun r20 h' => K (.string r20) h'
  | _, _ => False
noncomputable def straitref06_Print.ctx : Ctx := { P := Tryd.prog, call := straitref06_Print.call, qcall := fun _ _ _ _ => False, quiet := fun f => Nat.beq f 2000073, loop := fun _ _ _ _ => False }
theorem straitref06_Print.ok : straitref06_Print.ctx.OK where
  mixed := by kernel_rfl
  mono := by
    intro f args h K K' hh hk
    change straitref06_Print.call f args h K at hh
    change straitref06_Print.call f args h K'
    unfold straitref06_Print.call at hh ⊢
    split at hh
    · obtain ⟨R, h1, h2⟩ := hh
      exact ⟨R, h1, fun _ x hr => hk _ _ (h2 _ x hr)⟩
    · exact hh.elim
  call := by
    intro f args h K hh w hw
    change straitref06_Print.call f args h K at hh
    unfold straitref06_Print.call at hh
    split at hh
    · obtain ⟨R, h1, h2⟩ := hh
      obtain ⟨g1, g2⟩ := straitref06_digits.calls h1 w hw
      exact ⟨g1, g2.mono fun e w' ⟨v, he, ho, hr⟩ => ⟨v, he, ho, straitref06_digits.ret_elim h2 hr⟩⟩
    · exact hh.elim
  qmono := fun hh _ => hh.elim
  qval := fun hh => hh.elim
  qcall := fun hh => hh.elim
noncomputable def straitref06_Print.code : Code := (Tryd.f30.body).getD .skip
def straitref06_Print.ann : Ann := .auto
set_option maxRecDepth 100000 in
theorem straitref06_Print.eq (a1 : Int) (h : Heap) (K : ByteArray → Heap → Prop) : evF straitref06_Print.ctx Tryd.f30 straitref06_Print.ann [(.int .i64 a1)] h (straitref06_Print.ret K) = straitref06_Print a1 h K := by kernel_rfl
set_option maxRecDepth 100000 in
theorem straitref06_Print.calls {a1 : Int} {h : Heap} {K : ByteArray → Heap → Prop} (hh : straitref06_Print a1 h K) (w : World) (hw : w.heap = h) :
    (callFunc 30 #[(.int .i64 a1)]).run Tryd.prog w = .ok (.enter 30 #[(.int .i64 a1)]) w ∧ Calls Tryd.prog 30 #[(.int .i64 a1)] w fun e w' => ∃ v, e = .returned v ∧ Out w w' ∧ straitref06_Print.ret K v w'.heap := by
  rw [← straitref06_Print.eq] at hh
  exact fn_calls (args := [(.int .i64 a1)]) (c := straitref06_Print.code) straitref06_Print.ok Tryd.func30 (by kernel_rfl) (by kernel_rfl) (by kernel_rfl) (by kernel_rfl) (loops_ok (l := []) (by kernel_rfl) trivial) hh w hw
end

/-! ### strait/straitref06.Parse: function 27 -/
section
variable [DKc]
def straitref06_Parse.b0 (K2 : Int → Heap → Prop) (cont : ByteArray → Addr → Int → Bool → Int → Heap → Prop) (c0_1001 : ByteArray) (c2_1002 : Addr) (v3_1003 : Int) (c4_1004 : Bool) (v5_1005 : Int) (h1006 : Heap) : Prop :=
  (iteB (decide (v5_1005 < (c0_1001.size : Int))) ((0 ≤ v5_1005 ∧ ∃ b1007 : UInt8, c0_1001[v5_1005.toNat]? = some b1007 ∧ (iteB ((b1007.toNat : Int) != (45 : Int)) (0 ≤ v5_1005 ∧ ∃ b1008 : UInt8, c0_1001[v5_1005.toNat]? = some b1008 ∧ bindV (IntKind.i64.wrap (IntKind.u8.wrap ((b1008.toNat : Int) - 48))) fun n1009 => ((iteB c4_1004 ((bindV (IntKind.i64.wrap ((IntKind.i64.wrap (10 * v3_1003)) + (IntKind.i64.wrap (0 - n1009)))) fun n1012 => ((cont c0_1001 c2_1002 n1012 c4_1004 (IntKind.i64.wrap (v5_1005 + 1)) h1006)))) ((bindV (IntKind.i64.wrap ((IntKind.i64.wrap (10 * v3_1003)) + n1009)) fun n1013 => ((cont c0_1001 c2_1002 n1013 c4_1004 (IntKind.i64.wrap (v5_1005 + 1)) h1006))))))) (((cont c0_1001 c2_1002 v3_1003 c4_1004 (IntKind.i64.wrap (v5_1005 + 1)) h1006)))))) (K2 v3_1003 h1006))
def straitref06_Parse.l0 (K2 : Int → Heap → Prop) : Nat → ByteArray → Addr → Int → Bool → Int → Heap → Prop
  | 0, _, _, _, _, _, _ => False
  | m + 1, c0_1001, c2_1002, v3_1003, c4_1004, v5_1005, h => straitref06_Parse.b0 K2 (straitref06_Parse.l0 K2 m) c0_1001 c2_1002 v3_1003 c4_1004 v5_1005 h
def straitref06_Parse (a1 : ByteArray) (h : Heap) (K : Int → Int → Heap → Prop) : Prop :=
  newP h (.cells #[(.int .i64 0), (.int .i64 0)] 49) fun a2 h3 => (qcallP1 h3 (straitref06_form a1 h3) fun x4 => (iteB (!x4) (stC h3 a2 (.int .i64 0) fun h5 => stC h5 (a2.add 1) (.int .i64 2) fun h6 => (∃ (x7 : Int), cell h6 a2 = some (.int .i64 x7) ∧ ∃ (x8 : Int), cell h6 (a2.add 1) = some (.int .i64 x8) ∧ K x7 x8 h6)) (((0 ≤ (0 : Int) ∧ ∃ b9 : UInt8, a1[(0 : Int).toNat]? = some b9 ∧ ((∃ m12, straitref06_Parse.l0 (fun z10 h11 => ((iteB (decide ((a1.size : Int) > (20 : Int))) ((stC h11 a2 (.int .i64 0) fun h21 => stC h21 (a2.add 1) (.int .i64 10) fun h22 => (∃ (x23 : Int), cell h22 a2 = some (.int .i64 x23) ∧ ∃ (x24 : Int), cell h22 (a2.add 1) = some (.int .i64 x24) ∧ K x23 x24 h22))) (callP1 (straitref06_Print z10 h11) fun x13 h14 => (iteB (!(x13.toList == a1.toList)) (stC h14 a2 (.int .i64 0) fun h25 => stC h25 (a2.add 1) (.int .i64 10) fun h26 => (∃ (x27 : Int), cell h26 a2 = some (.int .i64 x27) ∧ ∃ (x28 : Int), cell h26 (a2.add 1) = some (.int .i64 x28) ∧ K x27 x28 h26)) ((stC h14 a2 (.int .i64 z10) fun h38 => stC h38 (a2.add 1) (.int .i64 0) fun h39 => (∃ (x40 : Int), cell h39 a2 = some (.int .i64 x40) ∧ ∃ (x41 : Int), cell h39 (a2.add 1) = some (.int .i64 x41) ∧ K x40 x41 h39)))))))) m12 a1 a2 0 ((b9.toNat : Int) == (45 : Int)) 0 h3)))))))
def straitref06_Parse.ret (K : Int → Int → Heap → Prop) (v : Value) (h : Heap) : Prop := match v with
  | (.agg ⟨[(.int .i64 r42), (.int .i64 r43)]⟩) => K r42 r43 h
  | _ => False
theorem straitref06_Parse.ret_elim {K : Int → Int → Heap → Prop} {K' : Value → Heap → Prop} {v : Value} {h : Heap} (hk : ∀ r42 r43 h, K r42 r43 h → K' (.agg #[(.int .i64 r42), (.int .i64 r43)]) h) (hh : straitref06_Parse.ret K v h) : K' v h := by
  unfold straitref06_Parse.ret at hh
  split at hh
  · exact hk _ _ _ hh
  · exact hh.elim
def straitref06_Parse.call (f : FuncId) (vs : List Value) (h : Heap) (K : Value → Heap → Prop) : Prop := match f, vs with
  | 30, [(.int .i64 a1)] => callP1 (straitref06_Print a1 h) fun r8 h' => K (.string r8) h'
  | _, _ => False
def straitref06_Parse.qcall (f : FuncId) (vs : List Value) (h : Heap) (K : Value → Prop) : Prop := match f, vs with
  | 52, [(.string a1)] => qcallP1 h (straitref06_form a1 h) fun r12 => K (.bool r12)
  | _, _ => False
def straitref06_Parse.r0 (K : Nat → List Value → Heap → Prop) (m : Nat) (vs : List Value) (h : Heap) : Prop := match vs with
  | [(.string c0_1001), (.pointer (some c2_1002)), (.int .i64 v3_1003), (.bool c4_1004), (.int .i64 v5_1005)] => straitref06_Parse.l0 (fun z44 h' => K 2 [(.string c0_1001), (.pointer (some c2_1002)), (.int .i64 z44)] h') m c0_1001 c2_1002 v3_1003 c4_1004 v5_1005 h
  | _ => False
def straitref06_Parse.loop (i : Nat) (vs : List Value) (h : Heap) (K : Nat → List Value → Heap → Prop) : Prop := match i with
  | 0 => ∃ m, straitref06_Parse.r0 K m vs h
  | _ => False
noncomputable def straitref06_Parse.ctx : Ctx := { P := Tryd.prog, call := straitref06_Parse.call, qcall := straitref06_Parse.qcall, quiet := fun f => Nat.beq f 52 || Nat.beq f 2000073, loop := straitref06_Parse.loop }
theorem straitref06_Parse.ok : straitref06_Parse.ctx.OK where
  mixed := by kernel_rfl
  mono := by
    intro f args h K K' hh hk
    change straitref06_Parse.call f args h K at hh
    change straitref06_Parse.call f args h K'
    unfold straitref06_Parse.call at hh ⊢
    split at hh
    · obtain ⟨R, h1, h2⟩ := hh
      exact ⟨R, h1, fun _ x hr => hk _ _ (h2 _ x hr)⟩
    · exact hh.elim
  call := by
    intro f args h K hh w hw
    change straitref06_Parse.call f args h K at hh
    unfold straitref06_Parse.call at hh
    split at hh
    · obtain ⟨R, h1, h2⟩ := hh
      obtain ⟨g1, g2⟩ := straitref06_Print.calls h1 w hw
      exact ⟨g1, g2.mono fun e w' ⟨v, he, ho, hr⟩ => ⟨v, he, ho, straitref06_Print.ret_elim h2 hr⟩⟩
    · exact hh.elim
  qmono := by
    intro f args h K K' hh hk
    change straitref06_Parse.qcall f args h K at hh
    change straitref06_Parse.qcall f args h K'
    unfold straitref06_Parse.qcall at hh ⊢
    split at hh
    · obtain ⟨x0, h1, h2⟩ := hh
      exact ⟨x0, h1, hk _ h2⟩
    · exact hh.elim
  qval := by
    intro f args h K hh
    change straitref06_Parse.qcall f args h K at hh
    suffices H : ∃ v, K v ∧ straitref06_Parse.qcall f args h (· = v) from H
    unfold straitref06_Parse.qcall at hh ⊢
    split at hh
    · obtain ⟨x0, h1, h2⟩ := hh
      exact ⟨_, h2, x0, h1, rfl⟩
    · exact hh.elim
  qcall := by
    intro f args h v hh w hw
    change straitref06_Parse.qcall f args h (· = v) at hh
    unfold straitref06_Parse.qcall at hh
    split at hh
    · obtain ⟨x0, h1, h2⟩ := hh
      obtain ⟨g1, g2⟩ := straitref06_form.calls h1 w hw
      refine .inl ⟨g1, g2.mono fun e w' ⟨u, he, ho, hr⟩ => ?_⟩
      have hq := straitref06_form.ret_elim (K' := fun u h' => u = v ∧ h' = h) (fun _ h' hr => by obtain ⟨rfl, rfl⟩ := hr; exact ⟨h2, rfl⟩) hr
      exact ⟨hq.1 ▸ he, ho, hq.2⟩
    · exact hh.elim
noncomputable def straitref06_Parse.code : Code := (Tryd.f27.body).getD .skip
def straitref06_Parse.ann : Ann := (.two .auto (.two .auto (.two .auto (.two .auto (.two (.two .auto (.two (.loop 0 [0, 2, 3, 4, 5] [(2, [0, 2, 3])] .auto) .auto)) .auto)))))
noncomputable def straitref06_Parse.c0 : Code := sub straitref06_Parse.code [1, 1, 1, 1, 0, 1, 0, 0]
def straitref06_Parse.a0 : Ann := .auto
def straitref06_Parse.keep0 : List Nat := [0, 2, 3, 4, 5]
def straitref06_Parse.outs0 : List (Nat × List Nat) := [(2, [0, 2, 3])]
set_option maxRecDepth 100000 in
theorem straitref06_Parse.L0 : LoopOK straitref06_Parse.ctx 48 straitref06_Parse.c0 0 straitref06_Parse.keep0 straitref06_Parse.outs0 := by
  refine loop_ok (n := straitref06_Parse.a0) straitref06_Parse.ok (by kernel_rfl) (loops_ok (l := []) (by kernel_rfl) ?_) straitref06_Parse.r0 ?_ ?_ (fun vs h K hh => hh)
  · exact trivial
  · intro K vs h hh
    unfold straitref06_Parse.r0 at hh
    split at hh
    · exact hh
    · exact hh
  · intro K m vs h hh
    unfold straitref06_Parse.r0 at hh
    split at hh
    · exact cast (by kernel_rfl) hh
    · exact hh.elim
set_option maxRecDepth 100000 in
theorem straitref06_Parse.eq (a1 : ByteArray) (h : Heap) (K : Int → Int → Heap → Prop) : evF straitref06_Parse.ctx Tryd.f27 straitref06_Parse.ann [(.string a1)] h (straitref06_Parse.ret K) = straitref06_Parse a1 h K := by kernel_rfl
set_option maxRecDepth 100000 in
theorem straitref06_Parse.calls {a1 : ByteArray} {h : Heap} {K : Int → Int → Heap → Prop} (hh : straitref06_Parse a1 h K) (w : World) (hw : w.heap = h) :
    (callFunc 27 #[(.string a1)]).run Tryd.prog w = .ok (.enter 27 #[(.string a1)]) w ∧ Calls Tryd.prog 27 #[(.string a1)] w fun e w' => ∃ v, e = .returned v ∧ Out w w' ∧ straitref06_Parse.ret K v w'.heap := by
  rw [← straitref06_Parse.eq] at hh
  exact fn_calls (args := [(.string a1)]) (c := straitref06_Parse.code) straitref06_Parse.ok Tryd.func27 (by kernel_rfl) (by kernel_rfl) (by kernel_rfl) (by kernel_rfl) (loops_ok (l := [(straitref06_Parse.c0, none, 0, straitref06_Parse.keep0, straitref06_Parse.outs0)]) (by kernel_rfl) ⟨straitref06_Parse.L0, trivial⟩) hh w hw
end

/-! ### strait/straitref06.Nat: function 28 -/
section
variable [DKc]
def straitref06_Nat (a1 : ByteArray) (a2 : Int) (h : Heap) (K : Int → Int → Heap → Prop) : Prop :=
  newP h (.cells #[(.int .i64 0), (.int .i64 0)] 49) fun a3 h4 => (callP2 (straitref06_Parse a1 h4) fun x5 x6 h7 => newP h7 (.cells #[(.int .i64 0), (.int .i64 0)] 49) fun a8 h9 => stC h9 a8 (.int .i64 x5) fun h10 => stC h10 (a8.add 1) (.int .i64 x6) fun h11 => (let j20 := (fun (y15 : Bool) => iteB y15 (stC h11 a3 (.int .i64 0) fun h16 => stC h16 (a3.add 1) (.int .i64 10) fun h17 => (∃ (x18 : Int), cell h17 a3 = some (.int .i64 x18) ∧ ∃ (x19 : Int), cell h17 (a3.add 1) = some (.int .i64 x19) ∧ K x18 x19 h17)) ((∃ (x21 : Int), cell h11 a8 = some (.int .i64 x21) ∧ ∃ (x22 : Int), cell h11 (a8.add 1) = some (.int .i64 x22) ∧ stC h11 a3 (.int .i64 x21) fun h23 => stC h23 (a3.add 1) (.int .i64 x22) fun h24 => (∃ (x25 : Int), cell h24 a3 = some (.int .i64 x25) ∧ ∃ (x26 : Int), cell h24 (a3.add 1) = some (.int .i64 x26) ∧ K x25 x26 h24))));
  ∃ (x12 : Int), cell h11 (a8.add 1) = some (.int .i64 x12) ∧ iteB (x12 == (0 : Int)) (∃ (x13 : Int), cell h11 a8 = some (.int .i64 x13) ∧ iteB (decide (x13 < (0 : Int))) ((j20 true)) (∃ (x14 : Int), cell h11 a8 = some (.int .i64 x14) ∧ (j20 (decide (x14 > a2))))) ((j20 false))))
def straitref06_Nat.ret (K : Int → Int → Heap → Prop) (v : Value) (h : Heap) : Prop := match v with
  | (.agg ⟨[(.int .i64 r27), (.int .i64 r28)]⟩) => K r27 r28 h
  | _ => False
theorem straitref06_Nat.ret_elim {K : Int → Int → Heap → Prop} {K' : Value → Heap → Prop} {v : Value} {h : Heap} (hk : ∀ r27 r28 h, K r27 r28 h → K' (.agg #[(.int .i64 r27), (.int .i64 r28)]) h) (hh : straitref06_Nat.ret K v h) : K' v h := by
  unfold straitref06_Nat.ret at hh
  split at hh
  · exact hk _ _ _ hh
  · exact hh.elim
def straitref06_Nat.call (f : FuncId) (vs : List Value) (h : Heap) (K : Value → Heap → Prop) : Prop := match f, vs with
  | 27, [(.string a1)] => callP2 (straitref06_Parse a1 h) fun r42 r43 h' => K (.agg #[(.int .i64 r42), (.int .i64 r43)]) h'
  | _, _ => False
noncomputable def straitref06_Nat.ctx : Ctx := { P := Tryd.prog, call := straitref06_Nat.call, qcall := fun _ _ _ _ => False, quiet := fun f => Nat.beq f 2000073, loop := fun _ _ _ _ => False }
theorem straitref06_Nat.ok : straitref06_Nat.ctx.OK where
  mixed := by kernel_rfl
  mono := by
    intro f args h K K' hh hk
    change straitref06_Nat.call f args h K at hh
    change straitref06_Nat.call f args h K'
    unfold straitref06_Nat.call at hh ⊢
    split at hh
    · obtain ⟨R, h1, h2⟩ := hh
      exact ⟨R, h1, fun _ _ x hr => hk _ _ (h2 _ _ x hr)⟩
    · exact hh.elim
  call := by
    intro f args h K hh w hw
    change straitref06_Nat.call f args h K at hh
    unfold straitref06_Nat.call at hh
    split at hh
    · obtain ⟨R, h1, h2⟩ := hh
      obtain ⟨g1, g2⟩ := straitref06_Parse.calls h1 w hw
      exact ⟨g1, g2.mono fun e w' ⟨v, he, ho, hr⟩ => ⟨v, he, ho, straitref06_Parse.ret_elim h2 hr⟩⟩
    · exact hh.elim
  qmono := fun hh _ => hh.elim
  qval := fun hh => hh.elim
  qcall := fun hh => hh.elim
noncomputable def straitref06_Nat.code : Code := (Tryd.f28.body).getD .skip
def straitref06_Nat.ann : Ann := .auto
set_option maxRecDepth 100000 in
theorem straitref06_Nat.eq (a1 : ByteArray) (a2 : Int) (h : Heap) (K : Int → Int → Heap → Prop) : evF straitref06_Nat.ctx Tryd.f28 straitref06_Nat.ann [(.string a1), (.int .i64 a2)] h (straitref06_Nat.ret K) = straitref06_Nat a1 a2 h K := by kernel_rfl
set_option maxRecDepth 100000 in
theorem straitref06_Nat.calls {a1 : ByteArray} {a2 : Int} {h : Heap} {K : Int → Int → Heap → Prop} (hh : straitref06_Nat a1 a2 h K) (w : World) (hw : w.heap = h) :
    (callFunc 28 #[(.string a1), (.int .i64 a2)]).run Tryd.prog w = .ok (.enter 28 #[(.string a1), (.int .i64 a2)]) w ∧ Calls Tryd.prog 28 #[(.string a1), (.int .i64 a2)] w fun e w' => ∃ v, e = .returned v ∧ Out w w' ∧ straitref06_Nat.ret K v w'.heap := by
  rw [← straitref06_Nat.eq] at hh
  exact fn_calls (args := [(.string a1), (.int .i64 a2)]) (c := straitref06_Nat.code) straitref06_Nat.ok Tryd.func28 (by kernel_rfl) (by kernel_rfl) (by kernel_rfl) (by kernel_rfl) (loops_ok (l := []) (by kernel_rfl) trivial) hh w hw
end

/-! ### strait/straitlaw06.DecTells: function 6 -/
section
variable [DKc]
def straitlaw06_DecTells (a1 : ByteArray) (a2 : Int) (a3 : Int) (h : Heap) (K : Bool → Heap → Prop) : Prop :=
  ((iteB (decide ((a1.size : Int) > (300 : Int))) (callP1 (straitlaw06_awake h) fun x4 h5 => K x4 h5) ((callP2 (dec_Parse a1 h) fun x6 x7 h8 => (callP2 (dec_Nat a1 a3 h8) fun x9 x10 h11 => (callP2 (straitref06_Parse a1 h11) fun x12 x13 h14 => iteB (eqAll [(x12 == x6), (x13 == x7)]) (callP2 (straitref06_Nat a1 a3 h14) fun x15 x16 h17 => iteB (eqAll [(x15 == x9), (x16 == x10)]) (callP1 (dec_Print a2 h17) fun x18 h19 => callP1 (straitref06_Print a2 h19) fun x20 h21 => iteB (x18.toList == x20.toList) (callP1 (straitlaw06_awake h21) fun x22 h23 => K x22 h23) (K false h21)) (K false h17)) (K false h14)))))))
def straitlaw06_DecTells.ret (K : Bool → Heap → Prop) (v : Value) (h : Heap) : Prop := match v with
  | (.bool r26) => K r26 h
  | _ => False
theorem straitlaw06_DecTells.ret_elim {K : Bool → Heap → Prop} {K' : Value → Heap → Prop} {v : Value} {h : Heap} (hk : ∀ r26 h, K r26 h → K' (.bool r26) h) (hh : straitlaw06_DecTells.ret K v h) : K' v h := by
  unfold straitlaw06_DecTells.ret at hh
  split at hh
  · exact hk _ _ hh
  · exact hh.elim
def straitlaw06_DecTells.call (f : FuncId) (vs : List Value) (h : Heap) (K : Value → Heap → Prop) : Prop := match f, vs with
  | 24, [] => callP1 (straitlaw06_awake h) fun r15 h' => K (.bool r15) h'
  | 25, [(.string a1)] => callP2 (dec_Parse a1 h) fun r8 r9 h' => K (.tuple #[(.int .i64 r8), (.int .i64 r9)]) h'
  | 26, [(.string a1), (.int .i64 a2)] => callP2 (dec_Nat a1 a2 h) fun r7 r8 h' => K (.tuple #[(.int .i64 r7), (.int .i64 r8)]) h'
  | 27, [(.string a1)] => callP2 (straitref06_Parse a1 h) fun r42 r43 h' => K (.agg #[(.int .i64 r42), (.int .i64 r43)]) h'
  | 28, [(.string a1), (.int .i64 a2)] => callP2 (straitref06_Nat a1 a2 h) fun r27 r28 h' => K (.agg #[(.int .i64 r27), (.int .i64 r28)]) h'
  | 29, [(.int .i64 a1)] => callP1 (dec_Print a1 h) fun r4 h' => K (.string r4) h'
  | 30, [(.int .i64 a1)] => callP1 (straitref06_Print a1 h) fun r8 h' => K (.string r8) h'
  | _, _ => False
noncomputable def straitlaw06_DecTells.ctx : Ctx := { P := Tryd.prog, call := straitlaw06_DecTells.call, qcall := fun _ _ _ _ => False, quiet := fun f => Nat.beq f 2000073, loop := fun _ _ _ _ => False }
theorem straitlaw06_DecTells.ok : straitlaw06_DecTells.ctx.OK where
  mixed := by kernel_rfl
  mono := by
    intro f args h K K' hh hk
    change straitlaw06_DecTells.call f args h K at hh
    change straitlaw06_DecTells.call f args h K'
    unfold straitlaw06_DecTells.call at hh ⊢
    split at hh
    · obtain ⟨R, h1, h2⟩ := hh
      exact ⟨R, h1, fun _ x hr => hk _ _ (h2 _ x hr)⟩
    · obtain ⟨R, h1, h2⟩ := hh
      exact ⟨R, h1, fun _ _ x hr => hk _ _ (h2 _ _ x hr)⟩
    · obtain ⟨R, h1, h2⟩ := hh
      exact ⟨R, h1, fun _ _ x hr => hk _ _ (h2 _ _ x hr)⟩
    · obtain ⟨R, h1, h2⟩ := hh
      exact ⟨R, h1, fun _ _ x hr => hk _ _ (h2 _ _ x hr)⟩
    · obtain ⟨R, h1, h2⟩ := hh
      exact ⟨R, h1, fun _ _ x hr => hk _ _ (h2 _ _ x hr)⟩
    · obtain ⟨R, h1, h2⟩ := hh
      exact ⟨R, h1, fun _ x hr => hk _ _ (h2 _ x hr)⟩
    · obtain ⟨R, h1, h2⟩ := hh
      exact ⟨R, h1, fun _ x hr => hk _ _ (h2 _ x hr)⟩
    · exact hh.elim
  call := by
    intro f args h K hh w hw
    change straitlaw06_DecTells.call f args h K at hh
    unfold straitlaw06_DecTells.call at hh
    split at hh
    · obtain ⟨R, h1, h2⟩ := hh
      obtain ⟨g1, g2⟩ := straitlaw06_awake.calls h1 w hw
      exact ⟨g1, g2.mono fun e w' ⟨v, he, ho, hr⟩ => ⟨v, he, ho, straitlaw06_awake.ret_elim h2 hr⟩⟩
    · obtain ⟨R, h1, h2⟩ := hh
      obtain ⟨g1, g2⟩ := dec_Parse.calls h1 w hw
      exact ⟨g1, g2.mono fun e w' ⟨v, he, ho, hr⟩ => ⟨v, he, ho, dec_Parse.ret_elim h2 hr⟩⟩
    · obtain ⟨R, h1, h2⟩ := hh
      obtain ⟨g1, g2⟩ := dec_Nat.calls h1 w hw
      exact ⟨g1, g2.mono fun e w' ⟨v, he, ho, hr⟩ => ⟨v, he, ho, dec_Nat.ret_elim h2 hr⟩⟩
    · obtain ⟨R, h1, h2⟩ := hh
      obtain ⟨g1, g2⟩ := straitref06_Parse.calls h1 w hw
      exact ⟨g1, g2.mono fun e w' ⟨v, he, ho, hr⟩ => ⟨v, he, ho, straitref06_Parse.ret_elim h2 hr⟩⟩
    · obtain ⟨R, h1, h2⟩ := hh
      obtain ⟨g1, g2⟩ := straitref06_Nat.calls h1 w hw
      exact ⟨g1, g2.mono fun e w' ⟨v, he, ho, hr⟩ => ⟨v, he, ho, straitref06_Nat.ret_elim h2 hr⟩⟩
    · obtain ⟨R, h1, h2⟩ := hh
      obtain ⟨g1, g2⟩ := dec_Print.calls h1 w hw
      exact ⟨g1, g2.mono fun e w' ⟨v, he, ho, hr⟩ => ⟨v, he, ho, dec_Print.ret_elim h2 hr⟩⟩
    · obtain ⟨R, h1, h2⟩ := hh
      obtain ⟨g1, g2⟩ := straitref06_Print.calls h1 w hw
      exact ⟨g1, g2.mono fun e w' ⟨v, he, ho, hr⟩ => ⟨v, he, ho, straitref06_Print.ret_elim h2 hr⟩⟩
    · exact hh.elim
  qmono := fun hh _ => hh.elim
  qval := fun hh => hh.elim
  qcall := fun hh => hh.elim
noncomputable def straitlaw06_DecTells.code : Code := (Tryd.f6.body).getD .skip
def straitlaw06_DecTells.ann : Ann := .auto
set_option maxRecDepth 100000 in
theorem straitlaw06_DecTells.eq (a1 : ByteArray) (a2 : Int) (a3 : Int) (h : Heap) (K : Bool → Heap → Prop) : evF straitlaw06_DecTells.ctx Tryd.f6 straitlaw06_DecTells.ann [(.string a1), (.int .i64 a2), (.int .i64 a3)] h (straitlaw06_DecTells.ret K) = straitlaw06_DecTells a1 a2 a3 h K := by kernel_rfl
set_option maxRecDepth 100000 in
theorem straitlaw06_DecTells.calls {a1 : ByteArray} {a2 : Int} {a3 : Int} {h : Heap} {K : Bool → Heap → Prop} (hh : straitlaw06_DecTells a1 a2 a3 h K) (w : World) (hw : w.heap = h) :
    (callFunc 6 #[(.string a1), (.int .i64 a2), (.int .i64 a3)]).run Tryd.prog w = .ok (.enter 6 #[(.string a1), (.int .i64 a2), (.int .i64 a3)]) w ∧ Calls Tryd.prog 6 #[(.string a1), (.int .i64 a2), (.int .i64 a3)] w fun e w' => ∃ v, e = .returned v ∧ Out w w' ∧ straitlaw06_DecTells.ret K v w'.heap := by
  rw [← straitlaw06_DecTells.eq] at hh
  exact fn_calls (args := [(.string a1), (.int .i64 a2), (.int .i64 a3)]) (c := straitlaw06_DecTells.code) straitlaw06_DecTells.ok Tryd.func6 (by kernel_rfl) (by kernel_rfl) (by kernel_rfl) (by kernel_rfl) (loops_ok (l := []) (by kernel_rfl) trivial) hh w hw
end

/-! ### strait/straitref06.Read: function 32 -/
section
variable [DKc]
def straitref06_Read.b0 (K0 : Heap → Prop) (K2 : (Option Addr) → Nat → Nat → Heap → Prop) (cont : ByteArray → Addr → (Option Addr) → Nat → Nat → Int → Int → Heap → Prop) (c0_1001 : ByteArray) (c2_1002 : Addr) (v3_1003 : Option Addr) (v3_1003l : Nat) (v3_1003c : Nat) (v4_1004 : Int) (v5_1005 : Int) (h1006 : Heap) : Prop :=
  let j1034 : Prop := (let j1030 := (fun (y1009 : Bool) => iteB y1009 ((0 ≤ v5_1005 ∧ v5_1005 ≤ (c0_1001.size : Int)) ∧ (0 ≤ v4_1004 ∧ v4_1004 ≤ (v5_1005.toNat : Int)) ∧ callP2 (straitref06_Parse (c0_1001.extract v4_1004.toNat v5_1005.toNat) h1006) fun x1010 x1011 h1012 => newP h1012 (.cells #[(.int .i64 0), (.int .i64 0)] 49) fun a1013 h1014 => stC h1014 a1013 (.int .i64 x1010) fun h1015 => stC h1015 (a1013.add 1) (.int .i64 x1011) fun h1016 => (∃ (x1017 : Int), cell h1016 (a1013.add 1) = some (.int .i64 x1017) ∧ (iteB (x1017 != (0 : Int)) (∃ (x1018 : Int), cell h1016 (a1013.add 1) = some (.int .i64 x1018) ∧ stC h1016 c2_1002 (.slice none 0 0) fun h1019 => stC h1019 (c2_1002.add 1) (.int .i64 x1018) fun h1020 => stC h1020 (c2_1002.add 2) (.int .i64 (v3_1003l : Int)) fun h1021 => K0 h1021) ((∃ (x1022 : Int), cell h1016 a1013 = some (.int .i64 x1022) ∧ newP h1016 (.cells #[(.int .i64 x1022)] 2) fun a1023 h1024 => ∃ n1029, cellsAt h1024 (some a1023) (1 * 1) n1029 ∧ appP 2 1 8 [(.int .i64 0)] v3_1003 v3_1003l v3_1003c 1 n1029 h1024 fun q1025 l1026 c1027 h1028 => (((cont c0_1001 c2_1002 q1025 l1026 c1027 (IntKind.i64.wrap (v5_1005 + 1)) (IntKind.i64.wrap (v5_1005 + 1)) h1028)))))))) (((cont c0_1001 c2_1002 v3_1003 v3_1003l v3_1003c v4_1004 (IntKind.i64.wrap (v5_1005 + 1)) h1006))));
  iteB (v5_1005 == (c0_1001.size : Int)) ((j1030 true)) (0 ≤ v5_1005 ∧ ∃ b1008 : UInt8, c0_1001[v5_1005.toNat]? = some b1008 ∧ (j1030 ((b1008.toNat : Int) == (32 : Int)))));
  iteB (decide (v5_1005 ≤ (c0_1001.size : Int))) ((iteB (decide ((c0_1001.size : Int) > (0 : Int))) ((j1034)) (K2 v3_1003 v3_1003l v3_1003c h1006))) (K2 v3_1003 v3_1003l v3_1003c h1006)
def straitref06_Read.l0 (K0 : Heap → Prop) (K2 : (Option Addr) → Nat → Nat → Heap → Prop) : Nat → ByteArray → Addr → (Option Addr) → Nat → Nat → Int → Int → Heap → Prop
  | 0, _, _, _, _, _, _, _, _ => False
  | m + 1, c0_1001, c2_1002, v3_1003, v3_1003l, v3_1003c, v4_1004, v5_1005, h => straitref06_Read.b0 K0 K2 (straitref06_Read.l0 K0 K2 m) c0_1001 c2_1002 v3_1003 v3_1003l v3_1003c v4_1004 v5_1005 h
def straitref06_Read (a1 : ByteArray) (h : Heap) (K : (Option Addr) → Nat → Nat → Int → Int → Heap → Prop) : Prop :=
  newP h (.cells #[(.slice none 0 0), (.int .i64 0), (.int .i64 0)] 58) fun a2 h3 => ((((∃ m10, straitref06_Read.l0 (fun h4 => ∃ (x5 : Option Addr) (x5l : Nat) (x5c : Nat), cell h4 a2 = some (.slice x5 x5l x5c) ∧ ∃ (x6 : Int), cell h4 (a2.add 1) = some (.int .i64 x6) ∧ ∃ (x7 : Int), cell h4 (a2.add 2) = some (.int .i64 x7) ∧ K x5 x5l x5c x6 x7 h4) (fun z8 z8l z8c h9 => ((stC h9 a2 (.slice z8 z8l z8c) fun h11 => stC h11 (a2.add 1) (.int .i64 0) fun h12 => stC h12 (a2.add 2) (.int .i64 0) fun h13 => (∃ (x14 : Option Addr) (x14l : Nat) (x14c : Nat), cell h13 a2 = some (.slice x14 x14l x14c) ∧ ∃ (x15 : Int), cell h13 (a2.add 1) = some (.int .i64 x15) ∧ ∃ (x16 : Int), cell h13 (a2.add 2) = some (.int .i64 x16) ∧ K x14 x14l x14c x15 x16 h13)))) m10 a1 a2 none 0 0 0 0 h3))))
def straitref06_Read.ret (K : (Option Addr) → Nat → Nat → Int → Int → Heap → Prop) (v : Value) (h : Heap) : Prop := match v with
  | (.agg ⟨[(.slice r17 r17l r17c), (.int .i64 r18), (.int .i64 r19)]⟩) => K r17 r17l r17c r18 r19 h
  | _ => False
theorem straitref06_Read.ret_elim {K : (Option Addr) → Nat → Nat → Int → Int → Heap → Prop} {K' : Value → Heap → Prop} {v : Value} {h : Heap} (hk : ∀ r17 r17l r17c r18 r19 h, K r17 r17l r17c r18 r19 h → K' (.agg #[(.slice r17 r17l r17c), (.int .i64 r18), (.int .i64 r19)]) h) (hh : straitref06_Read.ret K v h) : K' v h := by
  unfold straitref06_Read.ret at hh
  split at hh
  · exact hk _ _ _ _ _ _ hh
  · exact hh.elim
def straitref06_Read.call (f : FuncId) (vs : List Value) (h : Heap) (K : Value → Heap → Prop) : Prop := match f, vs with
  | 27, [(.string a1)] => callP2 (straitref06_Parse a1 h) fun r42 r43 h' => K (.agg #[(.int .i64 r42), (.int .i64 r43)]) h'
  | _, _ => False
def straitref06_Read.r0 (K : Nat → List Value → Heap → Prop) (m : Nat) (vs : List Value) (h : Heap) : Prop := match vs with
  | [(.string c0_1001), (.pointer (some c2_1002)), (.slice v3_1003 v3_1003l v3_1003c), (.int .i64 v4_1004), (.int .i64 v5_1005)] => straitref06_Read.l0 (fun h' => K 0 [(.pointer (some c2_1002))] h') (fun z20 z20l z20c h' => K 2 [(.pointer (some c2_1002)), (.slice z20 z20l z20c)] h') m c0_1001 c2_1002 v3_1003 v3_1003l v3_1003c v4_1004 v5_1005 h
  | _ => False
def straitref06_Read.loop (i : Nat) (vs : List Value) (h : Heap) (K : Nat → List Value → Heap → Prop) : Prop := match i with
  | 0 => ∃ m, straitref06_Read.r0 K m vs h
  | _ => False
noncomputable def straitref06_Read.ctx : Ctx := { P := Tryd.prog, call := straitref06_Read.call, qcall := fun _ _ _ _ => False, quiet := fun f => Nat.beq f 2000073, loop := straitref06_Read.loop }
theorem straitref06_Read.ok : straitref06_Read.ctx.OK where
  mixed := by kernel_rfl
  mono := by
    intro f args h K K' hh hk
    change straitref06_Read.call f args h K at hh
    change straitref06_Read.call f args h K'
    unfold straitref06_Read.call at hh ⊢
    split at hh
    · obtain ⟨R, h1, h2⟩ := hh
      exact ⟨R, h1, fun _ _ x hr => hk _ _ (h2 _ _ x hr)⟩
    · exact hh.elim
  call := by
    intro f args h K hh w hw
    change straitref06_Read.call f args h K at hh
    unfold straitref06_Read.call at hh
    split at hh
    · obtain ⟨R, h1, h2⟩ := hh
      obtain ⟨g1, g2⟩ := straitref06_Parse.calls h1 w hw
      exact ⟨g1, g2.mono fun e w' ⟨v, he, ho, hr⟩ => ⟨v, he, ho, straitref06_Parse.ret_elim h2 hr⟩⟩
    · exact hh.elim
  qmono := fun hh _ => hh.elim
  qval := fun hh => hh.elim
  qcall := fun hh => hh.elim
noncomputable def straitref06_Read.code : Code := (Tryd.f32.body).getD .skip
def straitref06_Read.ann : Ann := (.two .auto (.two .auto (.two .auto (.two (.two .auto (.two (.loop 0 [0, 2, 3, 4, 5] [(2, [2, 3]), (0, [2])] .auto) .auto)) .auto))))
noncomputable def straitref06_Read.c0 : Code := sub straitref06_Read.code [1, 1, 1, 0, 1, 0, 0]
def straitref06_Read.a0 : Ann := .auto
def straitref06_Read.keep0 : List Nat := [0, 2, 3, 4, 5]
def straitref06_Read.outs0 : List (Nat × List Nat) := [(2, [2, 3]), (0, [2])]
set_option maxRecDepth 100000 in
theorem straitref06_Read.L0 : LoopOK straitref06_Read.ctx 50 straitref06_Read.c0 0 straitref06_Read.keep0 straitref06_Read.outs0 := by
  refine loop_ok (n := straitref06_Read.a0) straitref06_Read.ok (by kernel_rfl) (loops_ok (l := []) (by kernel_rfl) ?_) straitref06_Read.r0 ?_ ?_ (fun vs h K hh => hh)
  · exact trivial
  · intro K vs h hh
    unfold straitref06_Read.r0 at hh
    split at hh
    · exact hh
    · exact hh
  · intro K m vs h hh
    unfold straitref06_Read.r0 at hh
    split at hh
    · exact cast (by kernel_rfl) hh
    · exact hh.elim
set_option maxRecDepth 100000 in
theorem straitref06_Read.eq (a1 : ByteArray) (h : Heap) (K : (Option Addr) → Nat → Nat → Int → Int → Heap → Prop) : evF straitref06_Read.ctx Tryd.f32 straitref06_Read.ann [(.string a1)] h (straitref06_Read.ret K) = straitref06_Read a1 h K := by kernel_rfl
set_option maxRecDepth 100000 in
theorem straitref06_Read.calls {a1 : ByteArray} {h : Heap} {K : (Option Addr) → Nat → Nat → Int → Int → Heap → Prop} (hh : straitref06_Read a1 h K) (w : World) (hw : w.heap = h) :
    (callFunc 32 #[(.string a1)]).run Tryd.prog w = .ok (.enter 32 #[(.string a1)]) w ∧ Calls Tryd.prog 32 #[(.string a1)] w fun e w' => ∃ v, e = .returned v ∧ Out w w' ∧ straitref06_Read.ret K v w'.heap := by
  rw [← straitref06_Read.eq] at hh
  exact fn_calls (args := [(.string a1)]) (c := straitref06_Read.code) straitref06_Read.ok Tryd.func32 (by kernel_rfl) (by kernel_rfl) (by kernel_rfl) (by kernel_rfl) (loops_ok (l := [(straitref06_Read.c0, none, 0, straitref06_Read.keep0, straitref06_Read.outs0)]) (by kernel_rfl) ⟨straitref06_Read.L0, trivial⟩) hh w hw
end

/-! ### strait/straitref04.Same: function 33 -/
def straitref04_Same.b0 (K0 : Bool → Heap → Prop) (K2 : Heap → Prop) (cont : (Option Addr) → Nat → Nat → (Option Addr) → Nat → Nat → Int → Heap → Prop) (c0_1001 : Option Addr) (c0_1002 : Nat) (c0_1003 : Nat) (c1_1004 : Option Addr) (c1_1005 : Nat) (c1_1006 : Nat) (v5_1007 : Int) (h1008 : Heap) : Prop :=
  (iteB (decide (v5_1007 < (c0_1002 : Int))) ((chkP c0_1001 fun a1009 => (0 ≤ v5_1007 ∧ v5_1007 < (c0_1002 : Int)) ∧ ∃ (x1010 : Int), cell h1008 (a1009.add (v5_1007.toNat * 1)) = some (.int .i64 x1010) ∧ chkP c1_1004 fun a1011 => (0 ≤ v5_1007 ∧ v5_1007 < (c1_1005 : Int)) ∧ ∃ (x1012 : Int), cell h1008 (a1011.add (v5_1007.toNat * 1)) = some (.int .i64 x1012) ∧ (iteB (x1010 != x1012) (K0 false h1008) (((cont c0_1001 c0_1002 c0_1003 c1_1004 c1_1005 c1_1006 (IntKind.i64.wrap (v5_1007 + 1)) h1008)))))) (K2 h1008))
def straitref04_Same.l0 (K0 : Bool → Heap → Prop) (K2 : Heap → Prop) : Nat → (Option Addr) → Nat → Nat → (Option Addr) → Nat → Nat → Int → Heap → Prop
  | 0, _, _, _, _, _, _, _, _ => False
  | m + 1, c0_1001, c0_1002, c0_1003, c1_1004, c1_1005, c1_1006, v5_1007, h => straitref04_Same.b0 K0 K2 (straitref04_Same.l0 K0 K2 m) c0_1001 c0_1002 c0_1003 c1_1004 c1_1005 c1_1006 v5_1007 h
def straitref04_Same (a1 : Option Addr) (a1l : Nat) (a1c : Nat) (a2 : Option Addr) (a2l : Nat) (a2c : Nat) (h : Heap) (K : Bool → Heap → Prop) : Prop :=
  ((iteB ((a1l : Int) != (a2l : Int)) (K false h) (((∃ m6, straitref04_Same.l0 (fun z3 h4 => K z3 h4) (fun h5 => (K true h5)) m6 a1 a1l a1c a2 a2l a2c 0 h)))))
def straitref04_Same.ret (K : Bool → Heap → Prop) (v : Value) (h : Heap) : Prop := match v with
  | (.bool r7) => K r7 h
  | _ => False
theorem straitref04_Same.ret_elim {K : Bool → Heap → Prop} {K' : Value → Heap → Prop} {v : Value} {h : Heap} (hk : ∀ r7 h, K r7 h → K' (.bool r7) h) (hh : straitref04_Same.ret K v h) : K' v h := by
  unfold straitref04_Same.ret at hh
  split at hh
  · exact hk _ _ hh
  · exact hh.elim
def straitref04_Same.r0 (K : Nat → List Value → Heap → Prop) (m : Nat) (vs : List Value) (h : Heap) : Prop := match vs with
  | [(.slice c0_1001 c0_1002 c0_1003), (.slice c1_1004 c1_1005 c1_1006), (.int .i64 v5_1007)] => straitref04_Same.l0 (fun z8 h' => K 0 [(.bool z8)] h') (fun h' => K 2 [] h') m c0_1001 c0_1002 c0_1003 c1_1004 c1_1005 c1_1006 v5_1007 h
  | _ => False
def straitref04_Same.loop (i : Nat) (vs : List Value) (h : Heap) (K : Nat → List Value → Heap → Prop) : Prop := match i with
  | 0 => ∃ m, straitref04_Same.r0 K m vs h
  | _ => False
noncomputable def straitref04_Same.ctx : Ctx := { P := Tryd.prog, call := fun _ _ _ _ => False, qcall := fun _ _ _ _ => False, quiet := fun f => Nat.beq f 2000073, loop := straitref04_Same.loop }
theorem straitref04_Same.ok [DKc] : straitref04_Same.ctx.OK where
  mixed := by kernel_rfl
  mono := fun hh _ => hh.elim
  call := fun hh => hh.elim
  qmono := fun hh _ => hh.elim
  qval := fun hh => hh.elim
  qcall := fun hh => hh.elim
noncomputable def straitref04_Same.code : Code := (Tryd.f33.body).getD .skip
def straitref04_Same.ann : Ann := (.two .auto (.two .auto (.two (.two .auto (.two (.loop 0 [0, 1, 5] [(2, []), (0, [4])] (.two .auto (.two (.two (.two (.reg [0, 0, 3, 7, 0, 0, 48, 112, 255] (.take 0 (.take 1 (.take 2 (.take 3 (.take 4 (.take 5 (.take 6 (.take 7 (.take 8 .done)))))))))) .auto) .auto) .auto))) .auto)) .auto)))
noncomputable def straitref04_Same.c0 : Code := sub straitref04_Same.code [1, 1, 0, 1, 0, 0]
def straitref04_Same.a0 : Ann := (.two .auto (.two (.two (.two (.reg [0, 0, 3, 7, 0, 0, 48, 112, 255] (.take 0 (.take 1 (.take 2 (.take 3 (.take 4 (.take 5 (.take 6 (.take 7 (.take 8 .done)))))))))) .auto) .auto) .auto))
def straitref04_Same.keep0 : List Nat := [0, 1, 5]
def straitref04_Same.outs0 : List (Nat × List Nat) := [(2, []), (0, [4])]
set_option maxRecDepth 100000 in
theorem straitref04_Same.L0 [DKc] : LoopOK straitref04_Same.ctx 26 straitref04_Same.c0 0 straitref04_Same.keep0 straitref04_Same.outs0 := by
  refine loop_ok (n := straitref04_Same.a0) straitref04_Same.ok (by kernel_rfl) (loops_ok (l := []) (by kernel_rfl) ?_) straitref04_Same.r0 ?_ ?_ (fun vs h K hh => hh)
  · exact trivial
  · intro K vs h hh
    unfold straitref04_Same.r0 at hh
    split at hh
    · exact hh
    · exact hh
  · intro K m vs h hh
    unfold straitref04_Same.r0 at hh
    split at hh
    · exact cast (by kernel_rfl) hh
    · exact hh.elim
set_option maxRecDepth 100000 in
theorem straitref04_Same.eq (a1 : Option Addr) (a1l : Nat) (a1c : Nat) (a2 : Option Addr) (a2l : Nat) (a2c : Nat) (h : Heap) (K : Bool → Heap → Prop) : evF straitref04_Same.ctx Tryd.f33 straitref04_Same.ann [(.slice a1 a1l a1c), (.slice a2 a2l a2c)] h (straitref04_Same.ret K) = straitref04_Same a1 a1l a1c a2 a2l a2c h K := by kernel_rfl
set_option maxRecDepth 100000 in
theorem straitref04_Same.calls [DKc] {a1 : Option Addr} {a1l : Nat} {a1c : Nat} {a2 : Option Addr} {a2l : Nat} {a2c : Nat} {h : Heap} {K : Bool → Heap → Prop} (hh : straitref04_Same a1 a1l a1c a2 a2l a2c h K) (w : World) (hw : w.heap = h) :
    (callFunc 33 #[(.slice a1 a1l a1c), (.slice a2 a2l a2c)]).run Tryd.prog w = .ok (.enter 33 #[(.slice a1 a1l a1c), (.slice a2 a2l a2c)]) w ∧ Calls Tryd.prog 33 #[(.slice a1 a1l a1c), (.slice a2 a2l a2c)] w fun e w' => ∃ v, e = .returned v ∧ Out w w' ∧ straitref04_Same.ret K v w'.heap := by
  rw [← straitref04_Same.eq] at hh
  exact fn_calls (args := [(.slice a1 a1l a1c), (.slice a2 a2l a2c)]) (c := straitref04_Same.code) straitref04_Same.ok Tryd.func33 (by kernel_rfl) (by kernel_rfl) (by kernel_rfl) (by kernel_rfl) (loops_ok (l := [(straitref04_Same.c0, none, 0, straitref04_Same.keep0, straitref04_Same.outs0)]) (by kernel_rfl) ⟨straitref04_Same.L0, trivial⟩) hh w hw

/-! ### (*strings.Builder).WriteByte: function 48, by its contract -/
def strings_Builder_WriteByte.ret (K : Value → Heap → Prop) (v : Value) (h : Heap) : Prop := K v h
theorem strings_Builder_WriteByte.ret_elim {K : Value → Heap → Prop} {K' : Value → Heap → Prop} {v : Value} {h : Heap} (hk : ∀ x h, K x h → K' x h) (hh : strings_Builder_WriteByte.ret K v h) : K' v h := hk _ _ hh
def strings_Builder_WriteByte [DKc] (a1 : Option Addr) (a2 : Int) (h : Heap) (K : Value → Heap → Prop) : Prop := ∀ w : World, w.heap = h → (callFunc 48 #[(.pointer a1), (.int .u8 a2)]).run Tryd.prog w = .ok (.enter 48 #[(.pointer a1), (.int .u8 a2)]) w ∧ Calls Tryd.prog 48 #[(.pointer a1), (.int .u8 a2)] w fun e w' => ∃ v, e = .returned v ∧ Out w w' ∧ strings_Builder_WriteByte.ret K v w'.heap
theorem strings_Builder_WriteByte.calls [DKc] {a1 : Option Addr} {a2 : Int} {h : Heap} {K : Value → Heap → Prop} (hh : strings_Builder_WriteByte a1 a2 h K) (w : World) (hw : w.heap = h) : (callFunc 48 #[(.pointer a1), (.int .u8 a2)]).run Tryd.prog w = .ok (.enter 48 #[(.pointer a1), (.int .u8 a2)]) w ∧ Calls Tryd.prog 48 #[(.pointer a1), (.int .u8 a2)] w fun e w' => ∃ v, e = .returned v ∧ Out w w' ∧ strings_Builder_WriteByte.ret K v w'.heap := hh w hw

/-! ### (*strings.Builder).WriteString: function 47, by its contract -/
def strings_Builder_WriteString.ret (K : Int → Value → Heap → Prop) (v : Value) (h : Heap) : Prop := match v with
  | (.tuple ⟨[(.int .i64 r3), r4]⟩) => K r3 r4 h
  | _ => False
theorem strings_Builder_WriteString.ret_elim {K : Int → Value → Heap → Prop} {K' : Value → Heap → Prop} {v : Value} {h : Heap} (hk : ∀ r3 r4 h, K r3 r4 h → K' (.tuple #[(.int .i64 r3), r4]) h) (hh : strings_Builder_WriteString.ret K v h) : K' v h := by
  unfold strings_Builder_WriteString.ret at hh
  split at hh
  · exact hk _ _ _ hh
  · exact hh.elim
def strings_Builder_WriteString [DKc] (a1 : Option Addr) (a2 : ByteArray) (h : Heap) (K : Int → Value → Heap → Prop) : Prop := ∀ w : World, w.heap = h → (callFunc 47 #[(.pointer a1), (.string a2)]).run Tryd.prog w = .ok (.enter 47 #[(.pointer a1), (.string a2)]) w ∧ Calls Tryd.prog 47 #[(.pointer a1), (.string a2)] w fun e w' => ∃ v, e = .returned v ∧ Out w w' ∧ strings_Builder_WriteString.ret K v w'.heap
theorem strings_Builder_WriteString.calls [DKc] {a1 : Option Addr} {a2 : ByteArray} {h : Heap} {K : Int → Value → Heap → Prop} (hh : strings_Builder_WriteString a1 a2 h K) (w : World) (hw : w.heap = h) : (callFunc 47 #[(.pointer a1), (.string a2)]).run Tryd.prog w = .ok (.enter 47 #[(.pointer a1), (.string a2)]) w ∧ Calls Tryd.prog 47 #[(.pointer a1), (.string a2)] w fun e w' => ∃ v, e = .returned v ∧ Out w w' ∧ strings_Builder_WriteString.ret K v w'.heap := hh w hw

/-! ### (*strings.Builder).String: function 49, by its contract -/
def strings_Builder_String.ret (K : ByteArray → Heap → Prop) (v : Value) (h : Heap) : Prop := match v with
  | (.string r2) => K r2 h
  | _ => False
theorem strings_Builder_String.ret_elim {K : ByteArray → Heap → Prop} {K' : Value → Heap → Prop} {v : Value} {h : Heap} (hk : ∀ r2 h, K r2 h → K' (.string r2) h) (hh : strings_Builder_String.ret K v h) : K' v h := by
  unfold strings_Builder_String.ret at hh
  split at hh
  · exact hk _ _ hh
  · exact hh.elim
def strings_Builder_String [DKc] (a1 : Option Addr) (h : Heap) (K : ByteArray → Heap → Prop) : Prop := ∀ w : World, w.heap = h → (callFunc 49 #[(.pointer a1)]).run Tryd.prog w = .ok (.enter 49 #[(.pointer a1)]) w ∧ Calls Tryd.prog 49 #[(.pointer a1)] w fun e w' => ∃ v, e = .returned v ∧ Out w w' ∧ strings_Builder_String.ret K v w'.heap
theorem strings_Builder_String.calls [DKc] {a1 : Option Addr} {h : Heap} {K : ByteArray → Heap → Prop} (hh : strings_Builder_String a1 h K) (w : World) (hw : w.heap = h) : (callFunc 49 #[(.pointer a1)]).run Tryd.prog w = .ok (.enter 49 #[(.pointer a1)]) w ∧ Calls Tryd.prog 49 #[(.pointer a1)] w fun e w' => ∃ v, e = .returned v ∧ Out w w' ∧ strings_Builder_String.ret K v w'.heap := hh w hw

/-! ### strait/dec.List: function 34 -/
section
variable [DKc]
def dec_List.b0 (K2 : Heap → Prop) (cont : Addr → (Option Addr) → Nat → Nat → Int → Int → Heap → Prop) (c3_1001 : Addr) (c6_1002 : Option Addr) (c6_1003 : Nat) (c6_1004 : Nat) (c7_1005 : Int) (v8_1006 : Int) (h1007 : Heap) : Prop :=
  (iteB (decide (v8_1006 < c7_1005)) ((chkP c6_1002 fun a1008 => (0 ≤ v8_1006 ∧ v8_1006 < (c6_1003 : Int)) ∧ ∃ (x1009 : Int), cell h1007 (a1008.add (v8_1006.toNat * 1)) = some (.int .i64 x1009) ∧ ((iteB (decide (v8_1006 > (0 : Int))) (callP1 (strings_Builder_WriteByte (some c3_1001) 32 h1007) fun x1010 h1011 => (callP1 (dec_Print x1009 h1011) fun x1018 h1019 => callP2 (strings_Builder_WriteString (some c3_1001) x1018 h1019) fun x1020 x1021 h1022 => ((cont c3_1001 c6_1002 c6_1003 c6_1004 c7_1005 (IntKind.i64.wrap (v8_1006 + 1)) h1022)))) ((callP1 (dec_Print x1009 h1007) fun x1023 h1024 => callP2 (strings_Builder_WriteString (some c3_1001) x1023 h1024) fun x1025 x1026 h1027 => ((cont c3_1001 c6_1002 c6_1003 c6_1004 c7_1005 (IntKind.i64.wrap (v8_1006 + 1)) h1027)))))))) (K2 h1007))
def dec_List.l0 (K2 : Heap → Prop) : Nat → Addr → (Option Addr) → Nat → Nat → Int → Int → Heap → Prop
  | 0, _, _, _, _, _, _, _ => False
  | m + 1, c3_1001, c6_1002, c6_1003, c6_1004, c7_1005, v8_1006, h => dec_List.b0 K2 (dec_List.l0 K2 m) c3_1001 c6_1002 c6_1003 c6_1004 c7_1005 v8_1006 h
def dec_List (a1 : Option Addr) (a1l : Nat) (a1c : Nat) (h : Heap) (K : ByteArray → Heap → Prop) : Prop :=
  (newP h (.cells #[(.pointer none), (.slice none 0 0)] 75) fun a2 h3 => ((∃ m5, dec_List.l0 (fun h4 => ((callP1 (strings_Builder_String (some a2) h4) fun x6 h7 => K x6 h7))) m5 a2 a1 a1l a1c (a1l : Int) 0 h3)))
def dec_List.ret (K : ByteArray → Heap → Prop) (v : Value) (h : Heap) : Prop := match v with
  | (.string r8) => K r8 h
  | _ => False
theorem dec_List.ret_elim {K : ByteArray → Heap → Prop} {K' : Value → Heap → Prop} {v : Value} {h : Heap} (hk : ∀ r8 h, K r8 h → K' (.string r8) h) (hh : dec_List.ret K v h) : K' v h := by
  unfold dec_List.ret at hh
  split at hh
  · exact hk _ _ hh
  · exact hh.elim
def dec_List.call (f : FuncId) (vs : List Value) (h : Heap) (K : Value → Heap → Prop) : Prop := match f, vs with
  | 29, [(.int .i64 a1)] => callP1 (dec_Print a1 h) fun r4 h' => K (.string r4) h'
  | 47, [(.pointer a1), (.string a2)] => callP2 (strings_Builder_WriteString a1 a2 h) fun r3 r4 h' => K (.tuple #[(.int .i64 r3), r4]) h'
  | 48, [(.pointer a1), (.int .u8 a2)] => callP1 (strings_Builder_WriteByte a1 a2 h) fun r3 h' => K r3 h'
  | 49, [(.pointer a1)] => callP1 (strings_Builder_String a1 h) fun r2 h' => K (.string r2) h'
  | _, _ => False
def dec_List.r0 (K : Nat → List Value → Heap → Prop) (m : Nat) (vs : List Value) (h : Heap) : Prop := match vs with
  | [(.pointer (some c3_1001)), (.slice c6_1002 c6_1003 c6_1004), (.int .i64 c7_1005), (.int .i64 v8_1006)] => dec_List.l0 (fun h' => K 2 [(.pointer (some c3_1001))] h') m c3_1001 c6_1002 c6_1003 c6_1004 c7_1005 v8_1006 h
  | _ => False
def dec_List.loop (i : Nat) (vs : List Value) (h : Heap) (K : Nat → List Value → Heap → Prop) : Prop := match i with
  | 0 => ∃ m, dec_List.r0 K m vs h
  | _ => False
noncomputable def dec_List.ctx : Ctx := { P := Tryd.prog, call := dec_List.call, qcall := fun _ _ _ _ => False, quiet := fun f => Nat.beq f 2000073, loop := dec_List.loop }
theorem dec_List.ok : dec_List.ctx.OK where
  mixed := by kernel_rfl
  mono := by
    intro f args h K K' hh hk
    change dec_List.call f args h K at hh
    change dec_List.call f args h K'
    unfold dec_List.call at hh ⊢
    split at hh
    · obtain ⟨R, h1, h2⟩ := hh
      exact ⟨R, h1, fun _ x hr => hk _ _ (h2 _ x hr)⟩
    · obtain ⟨R, h1, h2⟩ := hh
      exact ⟨R, h1, fun _ _ x hr => hk _ _ (h2 _ _ x hr)⟩
    · obtain ⟨R, h1, h2⟩ := hh
      exact ⟨R, h1, fun _ x hr => hk _ _ (h2 _ x hr)⟩
    · obtain ⟨R, h1, h2⟩ := hh
      exact ⟨R, h1, fun _ x hr => hk _ _ (h2 _ x hr)⟩
    · exact hh.elim
  call := by
    intro f args h K hh w hw
    change dec_List.call f args h K at hh
    unfold dec_List.call at hh
    split at hh
    · obtain ⟨R, h1, h2⟩ := hh
      obtain ⟨g1, g2⟩ := dec_Print.calls h1 w hw
      exact ⟨g1, g2.mono fun e w' ⟨v, he, ho, hr⟩ => ⟨v, he, ho, dec_Print.ret_elim h2 hr⟩⟩
    · obtain ⟨R, h1, h2⟩ := hh
      obtain ⟨g1, g2⟩ := strings_Builder_WriteString.calls h1 w hw
      exact ⟨g1, g2.mono fun e w' ⟨v, he, ho, hr⟩ => ⟨v, he, ho, strings_Builder_WriteString.ret_elim h2 hr⟩⟩
    · obtain ⟨R, h1, h2⟩ := hh
      obtain ⟨g1, g2⟩ := strings_Builder_WriteByte.calls h1 w hw
      exact ⟨g1, g2.mono fun e w' ⟨v, he, ho, hr⟩ => ⟨v, he, ho, strings_Builder_WriteByte.ret_elim h2 hr⟩⟩
    · obtain ⟨R, h1, h2⟩ := hh
      obtain ⟨g1, g2⟩ := strings_Builder_String.calls h1 w hw
      exact ⟨g1, g2.mono fun e w' ⟨v, he, ho, hr⟩ => ⟨v, he, ho, strings_Builder_String.ret_elim h2 hr⟩⟩
    · exact hh.elim
  qmono := fun hh _ => hh.elim
  qval := fun hh => hh.elim
  qcall := fun hh => hh.elim
noncomputable def dec_List.code : Code := (Tryd.f34.body).getD .skip
def dec_List.ann : Ann := (.two .auto (.two .auto (.two (.two .auto (.two (.loop 0 [3, 6, 7, 8] [(2, [3])] .auto) .auto)) .auto)))
noncomputable def dec_List.c0 : Code := sub dec_List.code [1, 1, 0, 1, 0, 0]
def dec_List.a0 : Ann := .auto
def dec_List.keep0 : List Nat := [3, 6, 7, 8]
def dec_List.outs0 : List (Nat × List Nat) := [(2, [3])]
set_option maxRecDepth 100000 in
theorem dec_List.L0 : LoopOK dec_List.ctx 21 dec_List.c0 0 dec_List.keep0 dec_List.outs0 := by
  refine loop_ok (n := dec_List.a0) dec_List.ok (by kernel_rfl) (loops_ok (l := []) (by kernel_rfl) ?_) dec_List.r0 ?_ ?_ (fun vs h K hh => hh)
  · exact trivial
  · intro K vs h hh
    unfold dec_List.r0 at hh
    split at hh
    · exact hh
    · exact hh
  · intro K m vs h hh
    unfold dec_List.r0 at hh
    split at hh
    · exact cast (by kernel_rfl) hh
    · exact hh.elim
set_option maxRecDepth 100000 in
theorem dec_List.eq (a1 : Option Addr) (a1l : Nat) (a1c : Nat) (h : Heap) (K : ByteArray → Heap → Prop) : evF dec_List.ctx Tryd.f34 dec_List.ann [(.slice a1 a1l a1c)] h (dec_List.ret K) = dec_List a1 a1l a1c h K := by kernel_rfl
set_option maxRecDepth 100000 in
theorem dec_List.calls {a1 : Option Addr} {a1l : Nat} {a1c : Nat} {h : Heap} {K : ByteArray → Heap → Prop} (hh : dec_List a1 a1l a1c h K) (w : World) (hw : w.heap = h) :
    (callFunc 34 #[(.slice a1 a1l a1c)]).run Tryd.prog w = .ok (.enter 34 #[(.slice a1 a1l a1c)]) w ∧ Calls Tryd.prog 34 #[(.slice a1 a1l a1c)] w fun e w' => ∃ v, e = .returned v ∧ Out w w' ∧ dec_List.ret K v w'.heap := by
  rw [← dec_List.eq] at hh
  exact fn_calls (args := [(.slice a1 a1l a1c)]) (c := dec_List.code) dec_List.ok Tryd.func34 (by kernel_rfl) (by kernel_rfl) (by kernel_rfl) (by kernel_rfl) (loops_ok (l := [(dec_List.c0, none, 0, dec_List.keep0, dec_List.outs0)]) (by kernel_rfl) ⟨dec_List.L0, trivial⟩) hh w hw
end

end Go.Proofs.YtnepdopakngpfaaDoor
