/- WRITTEN BY A PROGRAM OF THIS SESSION (gen.py): what each function asks of memory, and that the model's run comes to it. -/
import Derived.Test.YthcbigbgfekmdaaProg
import Derived.Test.YthcbigbgfekmdaaFw8

namespace Go.Proofs.Ythcbigbgfekmdaa
open Go.Hp
set_option linter.unusedVariables false
set_option linter.unusedSimpArgs false

/-! ### strait/bucket.empty: function 18 -/
def bucket_empty (h : Heap) (K : Int → Int → Int → Heap → Prop) : Prop :=
  newP h (.cells #[(.int .i64 0), (.int .i64 0), (.int .i64 0)] 46) fun a1 h2 => (stC h2 a1 (.int .i64 (-1)) fun h3 => stC h3 (a1.add 1) (.int .i64 (-1)) fun h4 => stC h4 (a1.add 2) (.int .i64 (-1)) fun h5 => (∃ (x6 : Int), cell h5 a1 = some (.int .i64 x6) ∧ ∃ (x7 : Int), cell h5 (a1.add 1) = some (.int .i64 x7) ∧ ∃ (x8 : Int), cell h5 (a1.add 2) = some (.int .i64 x8) ∧ K x6 x7 x8 h5))
def bucket_empty.ret (K : Int → Int → Int → Heap → Prop) (v : Value) (h : Heap) : Prop := match v with
  | (.agg ⟨[(.int .i64 r9), (.int .i64 r10), (.int .i64 r11)]⟩) => K r9 r10 r11 h
  | _ => False
theorem bucket_empty.ret_elim {K : Int → Int → Int → Heap → Prop} {K' : Value → Heap → Prop} {v : Value} {h : Heap} (hk : ∀ r9 r10 r11 h, K r9 r10 r11 h → K' (.agg #[(.int .i64 r9), (.int .i64 r10), (.int .i64 r11)]) h) (hh : bucket_empty.ret K v h) : K' v h := by
  unfold bucket_empty.ret at hh
  split at hh
  · exact hk _ _ _ _ hh
  · exact hh.elim
noncomputable def bucket_empty.ctx : Ctx := { P := Try.prog, call := fun _ _ _ _ => False, qcall := fun _ _ _ _ => False, quiet := fun f => false, loop := fun _ _ _ _ => False }
theorem bucket_empty.ok : bucket_empty.ctx.OK where
  mixed := by kernel_rfl
  mono := fun hh _ => hh.elim
  call := fun hh => hh.elim
  qmono := fun hh _ => hh.elim
  qval := fun hh => hh.elim
  qcall := fun hh => hh.elim
noncomputable def bucket_empty.code : Code := (Try.f18.body).getD .skip
def bucket_empty.ann : Ann := .auto
set_option maxRecDepth 100000 in
theorem bucket_empty.eq (h : Heap) (K : Int → Int → Int → Heap → Prop) : evF bucket_empty.ctx Try.f18 bucket_empty.ann [] h (bucket_empty.ret K) = bucket_empty h K := by kernel_rfl
set_option maxRecDepth 100000 in
theorem bucket_empty.calls {h : Heap} {K : Int → Int → Int → Heap → Prop} (hh : bucket_empty h K) (w : World) (hw : w.heap = h) :
    (callFunc 18 #[]).run Try.prog w = .ok (.enter 18 #[]) w ∧ Calls Try.prog 18 #[] w fun e w' => ∃ v, e = .returned v ∧ Out w w' ∧ bucket_empty.ret K v w'.heap := by
  rw [← bucket_empty.eq] at hh
  exact fn_calls (args := []) (c := bucket_empty.code) bucket_empty.ok Try.func18 (by kernel_rfl) (by kernel_rfl) (by kernel_rfl) (by kernel_rfl) (loops_ok (l := []) (by kernel_rfl) trivial) hh w hw

/-! ### strait/bucket.New: function 6 -/
def bucket_New.b1 (K4 : Heap → Prop) (cont : Addr → Int → Int → Heap → Prop) (c3_2001 : Addr) (c35_2002 : Int) (v36_2003 : Int) (h2004 : Heap) : Prop :=
  (iteB (decide (v36_2003 < c35_2002)) (((∃ (x2005 : Option Addr) (x2005l : Nat) (x2005c : Nat), cell h2004 (c3_2001.add 1) = some (.slice x2005 x2005l x2005c) ∧ chkP x2005 fun a2006 => (0 ≤ v36_2003 ∧ v36_2003 < (x2005l : Int)) ∧ stC h2004 (a2006.add (v36_2003.toNat * 1)) (.int .i64 (-1)) fun h2007 => ((cont c3_2001 c35_2002 (IntKind.i64.wrap (v36_2003 + 1)) h2007))))) (K4 h2004))
def bucket_New.l1 (K4 : Heap → Prop) : Nat → Addr → Int → Int → Heap → Prop
  | 0, _, _, _, _ => False
  | m + 1, c3_2001, c35_2002, v36_2003, h => bucket_New.b1 K4 (bucket_New.l1 K4 m) c3_2001 c35_2002 v36_2003 h
def bucket_New.b0 (K2 : Heap → Prop) (cont : Int → Addr → Int → Int → Heap → Prop) (c0_1001 : Int) (c3_1002 : Addr) (c21_1003 : Int) (v22_1004 : Int) (h1005 : Heap) : Prop :=
  (iteB (decide (v22_1004 < c21_1003)) (((∃ (x1006 : Option Addr) (x1006l : Nat) (x1006c : Nat), cell h1005 c3_1002 = some (.slice x1006 x1006l x1006c) ∧ callP3 (bucket_empty h1005) fun x1007 x1008 x1009 h1010 => (∃ (x1011 : Option Addr) (x1011l : Nat) (x1011c : Nat), cell h1010 c3_1002 = some (.slice x1011 x1011l x1011c) ∧ ((.slice x1011 x1011l x1011c) : Value) = (.slice x1006 x1006l x1006c)) ∧ chkP x1006 fun a1012 => (0 ≤ v22_1004 ∧ v22_1004 < (x1006l : Int)) ∧ stC h1010 (a1012.add (v22_1004.toNat * 3)) (.int .i64 x1007) fun h1013 => stC h1013 ((a1012.add (v22_1004.toNat * 3)).add 1) (.int .i64 x1008) fun h1014 => stC h1014 ((a1012.add (v22_1004.toNat * 3)).add 2) (.int .i64 x1009) fun h1015 => ((cont c0_1001 c3_1002 c21_1003 (IntKind.i64.wrap (v22_1004 + 1)) h1015))))) (K2 h1005))
def bucket_New.l0 (K2 : Heap → Prop) : Nat → Int → Addr → Int → Int → Heap → Prop
  | 0, _, _, _, _, _ => False
  | m + 1, c0_1001, c3_1002, c21_1003, v22_1004, h => bucket_New.b0 K2 (bucket_New.l0 K2 m) c0_1001 c3_1002 c21_1003 v22_1004 h
def bucket_New (a1 : Int) (h : Heap) (K : (Option Addr) → Heap → Prop) : Prop :=
  (bindV (if 4096 < (if 0 > a1 then 0 else a1) then 4096 else (if 0 > a1 then 0 else a1)) fun n2 => (let j54 := (fun (y47 : Addr) (h48 : Heap) => (∃ m50, bucket_New.l0 (fun h49 => ((bindV (IntKind.i64.wrap ((IntKind.i64.wrap (2 * n2)) + 1)) fun n51 => (∃ m53, bucket_New.l1 (fun h52 => (((K (some y47) h52)))) m53 y47 n51 0 h49)))) m50 n2 y47 n2 0 h48));
  bindV (IntKind.i64.wrap ((IntKind.i64.wrap (2 * n2)) + 1)) fun n3 => bindV (IntKind.i64.wrap ((IntKind.i64.wrap (2 * n2)) + 1)) fun n4 => ((0 ≤ n2 ∧ n2 ≤ n2 ∧ n2 * (24 : Nat) ≤ 2 ^ 47 ∧ n2 ≤ 2 ^ 47) ∧ newP h (.cells (zeroRow [(.int .i64 0), (.int .i64 0), (.int .i64 0)] n2.toNat).toArray 46) fun a5 h6 => ((0 ≤ n3 ∧ n3 ≤ n3 ∧ n3 * (8 : Nat) ≤ 2 ^ 47 ∧ n3 ≤ 2 ^ 47) ∧ newP h6 (.cells (zeroRow [(.int .i64 0)] n3.toNat).toArray 3) fun a7 h8 => (0 ≤ n4 ∧ n4 ≤ n4 ∧ n4 * (8 : Nat) ≤ 2 ^ 47 ∧ n4 ≤ 2 ^ 47) ∧ newP h8 (.cells (zeroRow [(.int .i64 0)] n4.toNat).toArray 3) fun a9 h10 => newP h10 (.cells #[(.slice (some a5) n2.toNat n2.toNat), (.slice (some a7) n3.toNat n3.toNat), (.slice (some a9) n4.toNat n4.toNat), (.int .i64 0), (.int .i64 0)] 44) fun a11 h12 => (j54 a11 h12)) ∧ ((0 ≤ n4 ∧ n4 ≤ n4 ∧ n4 * (8 : Nat) ≤ 2 ^ 47 ∧ n4 ≤ 2 ^ 47) ∧ newP h6 (.cells (zeroRow [(.int .i64 0)] n4.toNat).toArray 3) fun a13 h14 => (0 ≤ n3 ∧ n3 ≤ n3 ∧ n3 * (8 : Nat) ≤ 2 ^ 47 ∧ n3 ≤ 2 ^ 47) ∧ newP h14 (.cells (zeroRow [(.int .i64 0)] n3.toNat).toArray 3) fun a15 h16 => newP h16 (.cells #[(.slice (some a5) n2.toNat n2.toNat), (.slice (some a15) n3.toNat n3.toNat), (.slice (some a13) n4.toNat n4.toNat), (.int .i64 0), (.int .i64 0)] 44) fun a17 h18 => (j54 a17 h18))) ∧ (((0 ≤ n3 ∧ n3 ≤ n3 ∧ n3 * (8 : Nat) ≤ 2 ^ 47 ∧ n3 ≤ 2 ^ 47) ∧ newP h (.cells (zeroRow [(.int .i64 0)] n3.toNat).toArray 3) fun a19 h20 => ((0 ≤ n2 ∧ n2 ≤ n2 ∧ n2 * (24 : Nat) ≤ 2 ^ 47 ∧ n2 ≤ 2 ^ 47) ∧ newP h20 (.cells (zeroRow [(.int .i64 0), (.int .i64 0), (.int .i64 0)] n2.toNat).toArray 46) fun a21 h22 => (0 ≤ n4 ∧ n4 ≤ n4 ∧ n4 * (8 : Nat) ≤ 2 ^ 47 ∧ n4 ≤ 2 ^ 47) ∧ newP h22 (.cells (zeroRow [(.int .i64 0)] n4.toNat).toArray 3) fun a23 h24 => newP h24 (.cells #[(.slice (some a21) n2.toNat n2.toNat), (.slice (some a19) n3.toNat n3.toNat), (.slice (some a23) n4.toNat n4.toNat), (.int .i64 0), (.int .i64 0)] 44) fun a25 h26 => (j54 a25 h26)) ∧ ((0 ≤ n4 ∧ n4 ≤ n4 ∧ n4 * (8 : Nat) ≤ 2 ^ 47 ∧ n4 ≤ 2 ^ 47) ∧ newP h20 (.cells (zeroRow [(.int .i64 0)] n4.toNat).toArray 3) fun a27 h28 => (0 ≤ n2 ∧ n2 ≤ n2 ∧ n2 * (24 : Nat) ≤ 2 ^ 47 ∧ n2 ≤ 2 ^ 47) ∧ newP h28 (.cells (zeroRow [(.int .i64 0), (.int .i64 0), (.int .i64 0)] n2.toNat).toArray 46) fun a29 h30 => newP h30 (.cells #[(.slice (some a29) n2.toNat n2.toNat), (.slice (some a19) n3.toNat n3.toNat), (.slice (some a27) n4.toNat n4.toNat), (.int .i64 0), (.int .i64 0)] 44) fun a31 h32 => (j54 a31 h32))) ∧ ((0 ≤ n4 ∧ n4 ≤ n4 ∧ n4 * (8 : Nat) ≤ 2 ^ 47 ∧ n4 ≤ 2 ^ 47) ∧ newP h (.cells (zeroRow [(.int .i64 0)] n4.toNat).toArray 3) fun a33 h34 => ((0 ≤ n2 ∧ n2 ≤ n2 ∧ n2 * (24 : Nat) ≤ 2 ^ 47 ∧ n2 ≤ 2 ^ 47) ∧ newP h34 (.cells (zeroRow [(.int .i64 0), (.int .i64 0), (.int .i64 0)] n2.toNat).toArray 46) fun a35 h36 => (0 ≤ n3 ∧ n3 ≤ n3 ∧ n3 * (8 : Nat) ≤ 2 ^ 47 ∧ n3 ≤ 2 ^ 47) ∧ newP h36 (.cells (zeroRow [(.int .i64 0)] n3.toNat).toArray 3) fun a37 h38 => newP h38 (.cells #[(.slice (some a35) n2.toNat n2.toNat), (.slice (some a37) n3.toNat n3.toNat), (.slice (some a33) n4.toNat n4.toNat), (.int .i64 0), (.int .i64 0)] 44) fun a39 h40 => (j54 a39 h40)) ∧ ((0 ≤ n3 ∧ n3 ≤ n3 ∧ n3 * (8 : Nat) ≤ 2 ^ 47 ∧ n3 ≤ 2 ^ 47) ∧ newP h34 (.cells (zeroRow [(.int .i64 0)] n3.toNat).toArray 3) fun a41 h42 => (0 ≤ n2 ∧ n2 ≤ n2 ∧ n2 * (24 : Nat) ≤ 2 ^ 47 ∧ n2 ≤ 2 ^ 47) ∧ newP h42 (.cells (zeroRow [(.int .i64 0), (.int .i64 0), (.int .i64 0)] n2.toNat).toArray 46) fun a43 h44 => newP h44 (.cells #[(.slice (some a43) n2.toNat n2.toNat), (.slice (some a41) n3.toNat n3.toNat), (.slice (some a33) n4.toNat n4.toNat), (.int .i64 0), (.int .i64 0)] 44) fun a45 h46 => (j54 a45 h46))))))
def bucket_New.ret (K : (Option Addr) → Heap → Prop) (v : Value) (h : Heap) : Prop := match v with
  | (.pointer r55) => K r55 h
  | _ => False
theorem bucket_New.ret_elim {K : (Option Addr) → Heap → Prop} {K' : Value → Heap → Prop} {v : Value} {h : Heap} (hk : ∀ r55 h, K r55 h → K' (.pointer r55) h) (hh : bucket_New.ret K v h) : K' v h := by
  unfold bucket_New.ret at hh
  split at hh
  · exact hk _ _ hh
  · exact hh.elim
def bucket_New.call (f : FuncId) (vs : List Value) (h : Heap) (K : Value → Heap → Prop) : Prop := match f, vs with
  | 18, [] => callP3 (bucket_empty h) fun r9 r10 r11 h' => K (.agg #[(.int .i64 r9), (.int .i64 r10), (.int .i64 r11)]) h'
  | _, _ => False
def bucket_New.r0 (K : Nat → List Value → Heap → Prop) (m : Nat) (vs : List Value) (h : Heap) : Prop := match vs with
  | [(.int .i64 c0_1001), (.pointer (some c3_1002)), (.int .i64 c21_1003), (.int .i64 v22_1004)] => bucket_New.l0 (fun h' => K 2 [(.int .i64 c0_1001), (.pointer (some c3_1002))] h') m c0_1001 c3_1002 c21_1003 v22_1004 h
  | _ => False
def bucket_New.r1 (K : Nat → List Value → Heap → Prop) (m : Nat) (vs : List Value) (h : Heap) : Prop := match vs with
  | [(.pointer (some c3_2001)), (.int .i64 c35_2002), (.int .i64 v36_2003)] => bucket_New.l1 (fun h' => K 4 [(.pointer (some c3_2001))] h') m c3_2001 c35_2002 v36_2003 h
  | _ => False
def bucket_New.loop (i : Nat) (vs : List Value) (h : Heap) (K : Nat → List Value → Heap → Prop) : Prop := match i with
  | 0 => ∃ m, bucket_New.r0 K m vs h
  | 1 => ∃ m, bucket_New.r1 K m vs h
  | _ => False
noncomputable def bucket_New.ctx : Ctx := { P := Try.prog, call := bucket_New.call, qcall := fun _ _ _ _ => False, quiet := fun f => false, loop := bucket_New.loop }
theorem bucket_New.ok : bucket_New.ctx.OK where
  mixed := by kernel_rfl
  mono := by
    intro f args h K K' hh hk
    change bucket_New.call f args h K at hh
    change bucket_New.call f args h K'
    unfold bucket_New.call at hh ⊢
    split at hh
    · obtain ⟨R, h1, h2⟩ := hh
      exact ⟨R, h1, fun _ _ _ x hr => hk _ _ (h2 _ _ _ x hr)⟩
    · exact hh.elim
  call := by
    intro f args h K hh w hw
    change bucket_New.call f args h K at hh
    unfold bucket_New.call at hh
    split at hh
    · obtain ⟨R, h1, h2⟩ := hh
      obtain ⟨g1, g2⟩ := bucket_empty.calls h1 w hw
      exact ⟨g1, g2.mono fun e w' ⟨v, he, ho, hr⟩ => ⟨v, he, ho, bucket_empty.ret_elim h2 hr⟩⟩
    · exact hh.elim
  qmono := fun hh _ => hh.elim
  qval := fun hh => hh.elim
  qcall := fun hh => hh.elim
noncomputable def bucket_New.code : Code := (Try.f6.body).getD .skip
def bucket_New.ann : Ann := (.two .auto (.two .auto (.two (.reg [0, 1, 0, 4, 12, 28, 0, 64, 192, 448, 1023, 2047, 4095] (.take 0 (.take 2 (.take 3 (.take 4 (.take 6 (.take 7 (.take 8 (.alt 1 (.alt 5 (.alt 9 (.take 10 (.alt 11 (.take 12 .done) .noalt)) .noalt) (.alt 9 (.alt 5 (.take 10 (.alt 11 (.take 12 .done) .noalt)) .noalt) .noalt)) (.alt 5 (.alt 1 (.alt 9 (.take 10 (.alt 11 (.take 12 .done) .noalt)) .noalt) (.alt 9 (.alt 1 (.take 10 (.alt 11 (.take 12 .done) .noalt)) .noalt) .noalt)) (.alt 9 (.alt 1 (.alt 5 (.take 10 (.alt 11 (.take 12 .done) .noalt)) .noalt) (.alt 5 (.alt 1 (.take 10 (.alt 11 (.take 12 .done) .noalt)) .noalt) .noalt)) .noalt))))))))))) (.two (.two .auto (.two (.loop 0 [0, 3, 21, 22] [(2, [0, 3])] (.two .auto (.two .auto (.two (.two (.two .auto (.reg [0, 1, 3, 7, 0, 0, 63, 127] (.take 0 (.take 1 (.take 2 (.take 4 (.early 3 (.alt 5 (.take 6 (.alt 7 .done .noalt)) .noalt)))))))) .auto) .auto)))) .auto)) (.two (.two .auto (.two (.loop 1 [3, 35, 36] [(4, [3])] .auto) .auto)) .auto)))))
noncomputable def bucket_New.c1 : Code := sub bucket_New.code [1, 1, 1, 1, 0, 1, 0, 0]
def bucket_New.a1 : Ann := .auto
def bucket_New.keep1 : List Nat := [3, 35, 36]
def bucket_New.outs1 : List (Nat × List Nat) := [(4, [3])]
noncomputable def bucket_New.c0 : Code := sub bucket_New.code [1, 1, 1, 0, 1, 0, 0]
def bucket_New.a0 : Ann := (.two .auto (.two .auto (.two (.two (.two .auto (.reg [0, 1, 3, 7, 0, 0, 63, 127] (.take 0 (.take 1 (.take 2 (.take 4 (.early 3 (.alt 5 (.take 6 (.alt 7 .done .noalt)) .noalt)))))))) .auto) .auto)))
def bucket_New.keep0 : List Nat := [0, 3, 21, 22]
def bucket_New.outs0 : List (Nat × List Nat) := [(2, [0, 3])]
set_option maxRecDepth 100000 in
theorem bucket_New.L0 : LoopOK bucket_New.ctx 47 bucket_New.c0 0 bucket_New.keep0 bucket_New.outs0 := by
  refine loop_ok (n := bucket_New.a0) bucket_New.ok (by kernel_rfl) (loops_ok (l := []) (by kernel_rfl) ?_) bucket_New.r0 ?_ ?_ (fun vs h K hh => hh)
  · exact trivial
  · intro K vs h hh
    unfold bucket_New.r0 at hh
    split at hh
    · exact hh
    · exact hh
  · intro K m vs h hh
    unfold bucket_New.r0 at hh
    split at hh
    · exact cast (by kernel_rfl) hh
    · exact hh.elim
set_option maxRecDepth 100000 in
theorem bucket_New.L1 : LoopOK bucket_New.ctx 47 bucket_New.c1 1 bucket_New.keep1 bucket_New.outs1 := by
  refine loop_ok (n := bucket_New.a1) bucket_New.ok (by kernel_rfl) (loops_ok (l := []) (by kernel_rfl) ?_) bucket_New.r1 ?_ ?_ (fun vs h K hh => hh)
  · exact trivial
  · intro K vs h hh
    unfold bucket_New.r1 at hh
    split at hh
    · exact hh
    · exact hh
  · intro K m vs h hh
    unfold bucket_New.r1 at hh
    split at hh
    · exact cast (by kernel_rfl) hh
    · exact hh.elim
set_option maxRecDepth 100000 in
theorem bucket_New.eq (a1 : Int) (h : Heap) (K : (Option Addr) → Heap → Prop) : evF bucket_New.ctx Try.f6 bucket_New.ann [(.int .i64 a1)] h (bucket_New.ret K) = bucket_New a1 h K := by kernel_rfl
set_option maxRecDepth 100000 in
theorem bucket_New.calls {a1 : Int} {h : Heap} {K : (Option Addr) → Heap → Prop} (hh : bucket_New a1 h K) (w : World) (hw : w.heap = h) :
    (callFunc 6 #[(.int .i64 a1)]).run Try.prog w = .ok (.enter 6 #[(.int .i64 a1)]) w ∧ Calls Try.prog 6 #[(.int .i64 a1)] w fun e w' => ∃ v, e = .returned v ∧ Out w w' ∧ bucket_New.ret K v w'.heap := by
  rw [← bucket_New.eq] at hh
  exact fn_calls (args := [(.int .i64 a1)]) (c := bucket_New.code) bucket_New.ok Try.func6 (by kernel_rfl) (by kernel_rfl) (by kernel_rfl) (by kernel_rfl) (loops_ok (l := [(bucket_New.c0, none, 0, bucket_New.keep0, bucket_New.outs0), (bucket_New.c1, none, 1, bucket_New.keep1, bucket_New.outs1)]) (by kernel_rfl) ⟨bucket_New.L0, bucket_New.L1, trivial⟩) hh w hw

/-! ### (*strait/bucket.Row).right: function 20 -/
def bucket_Row_right (a1 : Option Addr) (a2 : Int) (h : Heap) (K : Bool → Heap → Prop) : Prop :=
  (iteB (!a1.isNone) (iteB (decide (a2 ≥ (0 : Int))) (chkP a1 fun a3 => ∃ (x4 : Option Addr) (x4l : Nat) (x4c : Nat), cell h (a3.add 1) = some (.slice x4 x4l x4c) ∧ (K (decide (a2 < (x4l : Int))) h)) (K false h)) (K false h))
def bucket_Row_right.ret (K : Bool → Heap → Prop) (v : Value) (h : Heap) : Prop := match v with
  | (.bool r6) => K r6 h
  | _ => False
theorem bucket_Row_right.ret_elim {K : Bool → Heap → Prop} {K' : Value → Heap → Prop} {v : Value} {h : Heap} (hk : ∀ r6 h, K r6 h → K' (.bool r6) h) (hh : bucket_Row_right.ret K v h) : K' v h := by
  unfold bucket_Row_right.ret at hh
  split at hh
  · exact hk _ _ hh
  · exact hh.elim
noncomputable def bucket_Row_right.ctx : Ctx := { P := Try.prog, call := fun _ _ _ _ => False, qcall := fun _ _ _ _ => False, quiet := fun f => false, loop := fun _ _ _ _ => False }
theorem bucket_Row_right.ok : bucket_Row_right.ctx.OK where
  mixed := by kernel_rfl
  mono := fun hh _ => hh.elim
  call := fun hh => hh.elim
  qmono := fun hh _ => hh.elim
  qval := fun hh => hh.elim
  qcall := fun hh => hh.elim
noncomputable def bucket_Row_right.code : Code := (Try.f20.body).getD .skip
def bucket_Row_right.ann : Ann := .auto
set_option maxRecDepth 100000 in
theorem bucket_Row_right.eq (a1 : Option Addr) (a2 : Int) (h : Heap) (K : Bool → Heap → Prop) : evF bucket_Row_right.ctx Try.f20 bucket_Row_right.ann [(.pointer a1), (.int .i64 a2)] h (bucket_Row_right.ret K) = bucket_Row_right a1 a2 h K := by kernel_rfl
set_option maxRecDepth 100000 in
theorem bucket_Row_right.calls {a1 : Option Addr} {a2 : Int} {h : Heap} {K : Bool → Heap → Prop} (hh : bucket_Row_right a1 a2 h K) (w : World) (hw : w.heap = h) :
    (callFunc 20 #[(.pointer a1), (.int .i64 a2)]).run Try.prog w = .ok (.enter 20 #[(.pointer a1), (.int .i64 a2)]) w ∧ Calls Try.prog 20 #[(.pointer a1), (.int .i64 a2)] w fun e w' => ∃ v, e = .returned v ∧ Out w w' ∧ bucket_Row_right.ret K v w'.heap := by
  rw [← bucket_Row_right.eq] at hh
  exact fn_calls (args := [(.pointer a1), (.int .i64 a2)]) (c := bucket_Row_right.code) bucket_Row_right.ok Try.func20 (by kernel_rfl) (by kernel_rfl) (by kernel_rfl) (by kernel_rfl) (loops_ok (l := []) (by kernel_rfl) trivial) hh w hw

/-! ### (*strait/bucket.Row).seated: function 21 -/
def bucket_Row_seated (a1 : Option Addr) (a2 : Int) (h : Heap) (K : Bool → Heap → Prop) : Prop :=
  (iteB (!a1.isNone) (iteB (decide (a2 ≥ (0 : Int))) (chkP a1 fun a3 => ∃ (x4 : Option Addr) (x4l : Nat) (x4c : Nat), cell h a3 = some (.slice x4 x4l x4c) ∧ iteB (decide (a2 < (x4l : Int))) (chkP a1 fun a5 => ∃ (x6 : Option Addr) (x6l : Nat) (x6c : Nat), cell h a5 = some (.slice x6 x6l x6c) ∧ chkP x6 fun a7 => (0 ≤ a2 ∧ a2 < (x6l : Int)) ∧ ∃ (x8 : Int), cell h (a7.add (a2.toNat * 3)) = some (.int .i64 x8) ∧ ∃ (x9 : Int), cell h ((a7.add (a2.toNat * 3)).add 1) = some (.int .i64 x9) ∧ ∃ (x10 : Int), cell h ((a7.add (a2.toNat * 3)).add 2) = some (.int .i64 x10) ∧ callP3 (bucket_empty h) fun x11 x12 x13 h14 => (∃ (x15 : Int), cell h14 (a7.add (a2.toNat * 3)) = some (.int .i64 x15) ∧ ∃ (x16 : Int), cell h14 ((a7.add (a2.toNat * 3)).add 1) = some (.int .i64 x16) ∧ ∃ (x17 : Int), cell h14 ((a7.add (a2.toNat * 3)).add 2) = some (.int .i64 x17) ∧ ((.agg #[(.int .i64 x15), (.int .i64 x16), (.int .i64 x17)]) : Value) = (.agg #[(.int .i64 x8), (.int .i64 x9), (.int .i64 x10)])) ∧ (∃ (x18 : Option Addr) (x18l : Nat) (x18c : Nat), cell h14 a5 = some (.slice x18 x18l x18c) ∧ ((.slice x18 x18l x18c) : Value) = (.slice x6 x6l x6c)) ∧ (K (!(eqAll [(x8 == x11), (x9 == x12), (x10 == x13)])) h14)) (True ∧ True ∧ K false h)) (True ∧ True ∧ K false h)) (True ∧ True ∧ K false h))
def bucket_Row_seated.ret (K : Bool → Heap → Prop) (v : Value) (h : Heap) : Prop := match v with
  | (.bool r21) => K r21 h
  | _ => False
theorem bucket_Row_seated.ret_elim {K : Bool → Heap → Prop} {K' : Value → Heap → Prop} {v : Value} {h : Heap} (hk : ∀ r21 h, K r21 h → K' (.bool r21) h) (hh : bucket_Row_seated.ret K v h) : K' v h := by
  unfold bucket_Row_seated.ret at hh
  split at hh
  · exact hk _ _ hh
  · exact hh.elim
def bucket_Row_seated.call (f : FuncId) (vs : List Value) (h : Heap) (K : Value → Heap → Prop) : Prop := match f, vs with
  | 18, [] => callP3 (bucket_empty h) fun r9 r10 r11 h' => K (.agg #[(.int .i64 r9), (.int .i64 r10), (.int .i64 r11)]) h'
  | _, _ => False
noncomputable def bucket_Row_seated.ctx : Ctx := { P := Try.prog, call := bucket_Row_seated.call, qcall := fun _ _ _ _ => False, quiet := fun f => false, loop := fun _ _ _ _ => False }
theorem bucket_Row_seated.ok : bucket_Row_seated.ctx.OK where
  mixed := by kernel_rfl
  mono := by
    intro f args h K K' hh hk
    change bucket_Row_seated.call f args h K at hh
    change bucket_Row_seated.call f args h K'
    unfold bucket_Row_seated.call at hh ⊢
    split at hh
    · obtain ⟨R, h1, h2⟩ := hh
      exact ⟨R, h1, fun _ _ _ x hr => hk _ _ (h2 _ _ _ x hr)⟩
    · exact hh.elim
  call := by
    intro f args h K hh w hw
    change bucket_Row_seated.call f args h K at hh
    unfold bucket_Row_seated.call at hh
    split at hh
    · obtain ⟨R, h1, h2⟩ := hh
      obtain ⟨g1, g2⟩ := bucket_empty.calls h1 w hw
      exact ⟨g1, g2.mono fun e w' ⟨v, he, ho, hr⟩ => ⟨v, he, ho, bucket_empty.ret_elim h2 hr⟩⟩
    · exact hh.elim
  qmono := fun hh _ => hh.elim
  qval := fun hh => hh.elim
  qcall := fun hh => hh.elim
noncomputable def bucket_Row_seated.code : Code := (Try.f21.body).getD .skip
def bucket_Row_seated.ann : Ann := (.two .auto (.two (.reg [0, 1, 3, 7, 15, 31, 63, 127, 127, 383, 895, 1919, 3967, 8191, 16383, 32767, 65535, 131071, 262143, 524287, 65535, 2097151, 4194303, 65535, 16777215, 33554431, 67108863] (.take 0 (.take 1 (.take 2 (.take 3 (.take 4 (.take 5 (.take 6 (.take 7 (.take 8 (.take 9 (.take 10 (.take 11 (.take 12 (.take 13 (.take 14 (.take 15 (.take 16 (.take 17 (.take 18 (.take 20 (.early 19 (.take 21 (.early 22 (.alt 23 (.take 24 (.take 25 (.take 26 .done))) .noalt))))))))))))))))))))))))) .auto))
set_option maxRecDepth 100000 in
theorem bucket_Row_seated.eq (a1 : Option Addr) (a2 : Int) (h : Heap) (K : Bool → Heap → Prop) : evF bucket_Row_seated.ctx Try.f21 bucket_Row_seated.ann [(.pointer a1), (.int .i64 a2)] h (bucket_Row_seated.ret K) = bucket_Row_seated a1 a2 h K := by kernel_rfl
set_option maxRecDepth 100000 in
theorem bucket_Row_seated.calls {a1 : Option Addr} {a2 : Int} {h : Heap} {K : Bool → Heap → Prop} (hh : bucket_Row_seated a1 a2 h K) (w : World) (hw : w.heap = h) :
    (callFunc 21 #[(.pointer a1), (.int .i64 a2)]).run Try.prog w = .ok (.enter 21 #[(.pointer a1), (.int .i64 a2)]) w ∧ Calls Try.prog 21 #[(.pointer a1), (.int .i64 a2)] w fun e w' => ∃ v, e = .returned v ∧ Out w w' ∧ bucket_Row_seated.ret K v w'.heap := by
  rw [← bucket_Row_seated.eq] at hh
  exact fn_calls (args := [(.pointer a1), (.int .i64 a2)]) (c := bucket_Row_seated.code) bucket_Row_seated.ok Try.func21 (by kernel_rfl) (by kernel_rfl) (by kernel_rfl) (by kernel_rfl) (loops_ok (l := []) (by kernel_rfl) trivial) hh w hw

/-! ### (*strait/bucket.Row).Drop: function 10 -/
def bucket_Row_Drop (a1 : Option Addr) (a2 : Int) (h : Heap) (K : Bool → Heap → Prop) : Prop :=
  (callP1 (bucket_Row_seated a1 a2 h) fun x3 h4 => (iteB (!x3) (K false h4) ((chkP a1 fun a5 => ∃ (x6 : Option Addr) (x6l : Nat) (x6c : Nat), cell h4 a5 = some (.slice x6 x6l x6c) ∧ chkP x6 fun a7 => (0 ≤ a2 ∧ a2 < (x6l : Int)) ∧ ∃ (x8 : Int), cell h4 (a7.add (a2.toNat * 3)) = some (.int .i64 x8) ∧ ∃ (x9 : Int), cell h4 ((a7.add (a2.toNat * 3)).add 1) = some (.int .i64 x9) ∧ ∃ (x10 : Int), cell h4 ((a7.add (a2.toNat * 3)).add 2) = some (.int .i64 x10) ∧ newP h4 (.cells #[(.int .i64 0), (.int .i64 0), (.int .i64 0)] 46) fun a11 h12 => stC h12 a11 (.int .i64 x8) fun h13 => stC h13 (a11.add 1) (.int .i64 x9) fun h14 => stC h14 (a11.add 2) (.int .i64 x10) fun h15 => (let j61 := (fun (h29 : Heap) => let j60 := (fun (h37 : Heap) => chkP a1 fun a38 => ∃ (x39 : Option Addr) (x39l : Nat) (x39c : Nat), cell h37 a38 = some (.slice x39 x39l x39c) ∧ callP3 (bucket_empty h37) fun x40 x41 x42 h43 => (∃ (x44 : Option Addr) (x44l : Nat) (x44c : Nat), cell h43 a38 = some (.slice x44 x44l x44c) ∧ ((.slice x44 x44l x44c) : Value) = (.slice x39 x39l x39c)) ∧ chkP x39 fun a45 => (0 ≤ a2 ∧ a2 < (x39l : Int)) ∧ stC h43 (a45.add (a2.toNat * 3)) (.int .i64 x40) fun h46 => stC h46 ((a45.add (a2.toNat * 3)).add 1) (.int .i64 x41) fun h47 => stC h47 ((a45.add (a2.toNat * 3)).add 2) (.int .i64 x42) fun h48 => (chkP a1 fun a49 => ∃ (x50 : Option Addr) (x50l : Nat) (x50c : Nat), cell h48 (a49.add 2) = some (.slice x50 x50l x50c) ∧ ∃ (x51 : Int), cell h48 a11 = some (.int .i64 x51) ∧ chkP x50 fun a52 => (0 ≤ x51 ∧ x51 < (x50l : Int)) ∧ ∃ (x53 : Int), cell h48 (a52.add (x51.toNat * 1)) = some (.int .i64 x53) ∧ chkP x50 fun a54 => (0 ≤ x51 ∧ x51 < (x50l : Int)) ∧ stC h48 (a54.add (x51.toNat * 1)) (.int .i64 (IntKind.i64.wrap (x53 - 1))) fun h55 => (chkP a1 fun a56 => ∃ (x57 : Int), cell h55 (a56.add 4) = some (.int .i64 x57) ∧ chkP a1 fun a58 => stC h55 (a58.add 4) (.int .i64 (IntKind.i64.wrap (x57 - 1))) fun h59 => K true h59)));
  ∃ (x30 : Int), cell h29 (a11.add 2) = some (.int .i64 x30) ∧ (iteB (x30 != ((-1) : Int)) (chkP a1 fun a31 => ∃ (x32 : Option Addr) (x32l : Nat) (x32c : Nat), cell h29 a31 = some (.slice x32 x32l x32c) ∧ ∃ (x33 : Int), cell h29 (a11.add 2) = some (.int .i64 x33) ∧ ∃ (x34 : Int), cell h29 (a11.add 1) = some (.int .i64 x34) ∧ chkP x32 fun a35 => (0 ≤ x33 ∧ x33 < (x32l : Int)) ∧ stC h29 ((a35.add (x33.toNat * 3)).add 1) (.int .i64 x34) fun h36 => (j60 h36)) ((j60 h29))));
  ∃ (x16 : Int), cell h15 (a11.add 1) = some (.int .i64 x16) ∧ (iteB (x16 == ((-1) : Int)) (chkP a1 fun a17 => ∃ (x18 : Option Addr) (x18l : Nat) (x18c : Nat), cell h15 (a17.add 1) = some (.slice x18 x18l x18c) ∧ ∃ (x19 : Int), cell h15 a11 = some (.int .i64 x19) ∧ ∃ (x20 : Int), cell h15 (a11.add 2) = some (.int .i64 x20) ∧ chkP x18 fun a21 => (0 ≤ x19 ∧ x19 < (x18l : Int)) ∧ stC h15 (a21.add (x19.toNat * 1)) (.int .i64 x20) fun h22 => (j61 h22)) (chkP a1 fun a23 => ∃ (x24 : Option Addr) (x24l : Nat) (x24c : Nat), cell h15 a23 = some (.slice x24 x24l x24c) ∧ ∃ (x25 : Int), cell h15 (a11.add 1) = some (.int .i64 x25) ∧ ∃ (x26 : Int), cell h15 (a11.add 2) = some (.int .i64 x26) ∧ chkP x24 fun a27 => (0 ≤ x25 ∧ x25 < (x24l : Int)) ∧ stC h15 ((a27.add (x25.toNat * 3)).add 2) (.int .i64 x26) fun h28 => (j61 h28))))))))
def bucket_Row_Drop.ret (K : Bool → Heap → Prop) (v : Value) (h : Heap) : Prop := match v with
  | (.bool r62) => K r62 h
  | _ => False
theorem bucket_Row_Drop.ret_elim {K : Bool → Heap → Prop} {K' : Value → Heap → Prop} {v : Value} {h : Heap} (hk : ∀ r62 h, K r62 h → K' (.bool r62) h) (hh : bucket_Row_Drop.ret K v h) : K' v h := by
  unfold bucket_Row_Drop.ret at hh
  split at hh
  · exact hk _ _ hh
  · exact hh.elim
def bucket_Row_Drop.call (f : FuncId) (vs : List Value) (h : Heap) (K : Value → Heap → Prop) : Prop := match f, vs with
  | 18, [] => callP3 (bucket_empty h) fun r9 r10 r11 h' => K (.agg #[(.int .i64 r9), (.int .i64 r10), (.int .i64 r11)]) h'
  | 21, [(.pointer a1), (.int .i64 a2)] => callP1 (bucket_Row_seated a1 a2 h) fun r21 h' => K (.bool r21) h'
  | _, _ => False
noncomputable def bucket_Row_Drop.ctx : Ctx := { P := Try.prog, call := bucket_Row_Drop.call, qcall := fun _ _ _ _ => False, quiet := fun f => false, loop := fun _ _ _ _ => False }
theorem bucket_Row_Drop.ok : bucket_Row_Drop.ctx.OK where
  mixed := by kernel_rfl
  mono := by
    intro f args h K K' hh hk
    change bucket_Row_Drop.call f args h K at hh
    change bucket_Row_Drop.call f args h K'
    unfold bucket_Row_Drop.call at hh ⊢
    split at hh
    · obtain ⟨R, h1, h2⟩ := hh
      exact ⟨R, h1, fun _ _ _ x hr => hk _ _ (h2 _ _ _ x hr)⟩
    · obtain ⟨R, h1, h2⟩ := hh
      exact ⟨R, h1, fun _ x hr => hk _ _ (h2 _ x hr)⟩
    · exact hh.elim
  call := by
    intro f args h K hh w hw
    change bucket_Row_Drop.call f args h K at hh
    unfold bucket_Row_Drop.call at hh
    split at hh
    · obtain ⟨R, h1, h2⟩ := hh
      obtain ⟨g1, g2⟩ := bucket_empty.calls h1 w hw
      exact ⟨g1, g2.mono fun e w' ⟨v, he, ho, hr⟩ => ⟨v, he, ho, bucket_empty.ret_elim h2 hr⟩⟩
    · obtain ⟨R, h1, h2⟩ := hh
      obtain ⟨g1, g2⟩ := bucket_Row_seated.calls h1 w hw
      exact ⟨g1, g2.mono fun e w' ⟨v, he, ho, hr⟩ => ⟨v, he, ho, bucket_Row_seated.ret_elim h2 hr⟩⟩
    · exact hh.elim
  qmono := fun hh _ => hh.elim
  qval := fun hh => hh.elim
  qcall := fun hh => hh.elim
noncomputable def bucket_Row_Drop.code : Code := (Try.f10.body).getD .skip
def bucket_Row_Drop.ann : Ann := (.two .auto (.two .auto (.two .auto (.two (.two .auto (.two (.reg [0, 1, 3, 7, 0, 16, 0, 64, 255, 511] (.take 0 (.take 1 (.take 2 (.take 3 (.take 4 (.take 5 (.take 6 (.take 7 (.take 8 (.alt 9 .done .noalt))))))))))) (.reg [0, 1, 3, 7, 0, 16, 0, 64, 255, 511, 1023] (.take 0 (.take 1 (.take 2 (.take 3 (.take 4 (.take 5 (.take 6 (.take 7 (.take 8 (.take 9 (.alt 10 .done .noalt)))))))))))))) (.two (.two .auto (.two (.reg [0, 1, 3, 7, 0, 16, 0, 64, 255, 511, 1023] (.take 0 (.take 1 (.take 2 (.take 3 (.take 4 (.take 5 (.take 6 (.take 7 (.take 8 (.take 9 (.alt 10 .done .noalt)))))))))))) .auto)) (.two (.reg [0, 1, 3, 7, 0, 0, 63, 127] (.take 0 (.take 1 (.take 2 (.take 4 (.early 3 (.alt 5 (.take 6 (.alt 7 .done .noalt)) .noalt))))))) (.two (.reg [0, 1, 3, 7, 0, 16, 63, 127, 255, 511, 1023] (.take 0 (.take 1 (.take 2 (.take 3 (.take 4 (.take 5 (.take 6 (.take 7 (.take 8 (.take 9 (.alt 10 .done .noalt)))))))))))) .auto)))))))
set_option maxRecDepth 100000 in
theorem bucket_Row_Drop.eq (a1 : Option Addr) (a2 : Int) (h : Heap) (K : Bool → Heap → Prop) : evF bucket_Row_Drop.ctx Try.f10 bucket_Row_Drop.ann [(.pointer a1), (.int .i64 a2)] h (bucket_Row_Drop.ret K) = bucket_Row_Drop a1 a2 h K := by kernel_rfl
set_option maxRecDepth 100000 in
theorem bucket_Row_Drop.calls {a1 : Option Addr} {a2 : Int} {h : Heap} {K : Bool → Heap → Prop} (hh : bucket_Row_Drop a1 a2 h K) (w : World) (hw : w.heap = h) :
    (callFunc 10 #[(.pointer a1), (.int .i64 a2)]).run Try.prog w = .ok (.enter 10 #[(.pointer a1), (.int .i64 a2)]) w ∧ Calls Try.prog 10 #[(.pointer a1), (.int .i64 a2)] w fun e w' => ∃ v, e = .returned v ∧ Out w w' ∧ bucket_Row_Drop.ret K v w'.heap := by
  rw [← bucket_Row_Drop.eq] at hh
  exact fn_calls (args := [(.pointer a1), (.int .i64 a2)]) (c := bucket_Row_Drop.code) bucket_Row_Drop.ok Try.func10 (by kernel_rfl) (by kernel_rfl) (by kernel_rfl) (by kernel_rfl) (loops_ok (l := []) (by kernel_rfl) trivial) hh w hw

/-! ### (*strait/bucket.Row).Put: function 8 -/
def bucket_Row_Put (a1 : Option Addr) (a2 : Int) (a3 : Int) (h : Heap) (K : Bool → Heap → Prop) : Prop :=
  (let j44 : Prop := (callP1 (bucket_Row_Drop a1 a2 h) fun x8 h9 => (chkP a1 fun a10 => ∃ (x11 : Option Addr) (x11l : Nat) (x11c : Nat), cell h9 (a10.add 1) = some (.slice x11 x11l x11c) ∧ chkP x11 fun a12 => (0 ≤ a3 ∧ a3 < (x11l : Int)) ∧ ∃ (x13 : Int), cell h9 (a12.add (a3.toNat * 1)) = some (.int .i64 x13) ∧ (chkP a1 fun a14 => ∃ (x15 : Option Addr) (x15l : Nat) (x15c : Nat), cell h9 a14 = some (.slice x15 x15l x15c) ∧ chkP x15 fun a16 => (0 ≤ a2 ∧ a2 < (x15l : Int)) ∧ stC h9 (a16.add (a2.toNat * 3)) (.int .i64 a3) fun h17 => stC h17 ((a16.add (a2.toNat * 3)).add 1) (.int .i64 (-1)) fun h18 => stC h18 ((a16.add (a2.toNat * 3)).add 2) (.int .i64 x13) fun h19 => (let j43 := (fun (h24 : Heap) => chkP a1 fun a25 => ∃ (x26 : Option Addr) (x26l : Nat) (x26c : Nat), cell h24 (a25.add 1) = some (.slice x26 x26l x26c) ∧ chkP x26 fun a27 => (0 ≤ a3 ∧ a3 < (x26l : Int)) ∧ stC h24 (a27.add (a3.toNat * 1)) (.int .i64 a2) fun h28 => (chkP a1 fun a29 => ∃ (x30 : Option Addr) (x30l : Nat) (x30c : Nat), cell h28 (a29.add 2) = some (.slice x30 x30l x30c) ∧ chkP x30 fun a31 => (0 ≤ a3 ∧ a3 < (x30l : Int)) ∧ ∃ (x32 : Int), cell h28 (a31.add (a3.toNat * 1)) = some (.int .i64 x32) ∧ chkP x30 fun a33 => (0 ≤ a3 ∧ a3 < (x30l : Int)) ∧ stC h28 (a33.add (a3.toNat * 1)) (.int .i64 (IntKind.i64.wrap (x32 + 1))) fun h34 => (chkP a1 fun a35 => ∃ (x36 : Int), cell h34 (a35.add 3) = some (.int .i64 x36) ∧ chkP a1 fun a37 => stC h34 (a37.add 3) (.int .i64 (if a3 > x36 then a3 else x36)) fun h38 => (chkP a1 fun a39 => ∃ (x40 : Int), cell h38 (a39.add 4) = some (.int .i64 x40) ∧ chkP a1 fun a41 => stC h38 (a41.add 4) (.int .i64 (IntKind.i64.wrap (x40 + 1))) fun h42 => K true h42))));
  (iteB (x13 != ((-1) : Int)) (chkP a1 fun a20 => ∃ (x21 : Option Addr) (x21l : Nat) (x21c : Nat), cell h19 a20 = some (.slice x21 x21l x21c) ∧ chkP x21 fun a22 => (0 ≤ x13 ∧ x13 < (x21l : Int)) ∧ stC h19 ((a22.add (x13.toNat * 3)).add 1) (.int .i64 a2) fun h23 => (j43 h23)) ((j43 h19)))))));
  qcallP1 h (bucket_Row_right a1 a3 h) fun x4 => iteB (!x4) (K false h) (iteB (decide (a2 < (0 : Int))) (K false h) (chkP a1 fun a5 => ∃ (x6 : Option Addr) (x6l : Nat) (x6c : Nat), cell h a5 = some (.slice x6 x6l x6c) ∧ (iteB (decide (a2 ≥ (x6l : Int))) (K false h) ((j44))))))
def bucket_Row_Put.ret (K : Bool → Heap → Prop) (v : Value) (h : Heap) : Prop := match v with
  | (.bool r45) => K r45 h
  | _ => False
theorem bucket_Row_Put.ret_elim {K : Bool → Heap → Prop} {K' : Value → Heap → Prop} {v : Value} {h : Heap} (hk : ∀ r45 h, K r45 h → K' (.bool r45) h) (hh : bucket_Row_Put.ret K v h) : K' v h := by
  unfold bucket_Row_Put.ret at hh
  split at hh
  · exact hk _ _ hh
  · exact hh.elim
def bucket_Row_Put.call (f : FuncId) (vs : List Value) (h : Heap) (K : Value → Heap → Prop) : Prop := match f, vs with
  | 10, [(.pointer a1), (.int .i64 a2)] => callP1 (bucket_Row_Drop a1 a2 h) fun r62 h' => K (.bool r62) h'
  | _, _ => False
def bucket_Row_Put.qcall (f : FuncId) (vs : List Value) (h : Heap) (K : Value → Prop) : Prop := match f, vs with
  | 20, [(.pointer a1), (.int .i64 a2)] => qcallP1 h (bucket_Row_right a1 a2 h) fun r6 => K (.bool r6)
  | _, _ => False
noncomputable def bucket_Row_Put.ctx : Ctx := { P := Try.prog, call := bucket_Row_Put.call, qcall := bucket_Row_Put.qcall, quiet := fun f => Nat.beq f 20, loop := fun _ _ _ _ => False }
theorem bucket_Row_Put.ok : bucket_Row_Put.ctx.OK where
  mixed := by kernel_rfl
  mono := by
    intro f args h K K' hh hk
    change bucket_Row_Put.call f args h K at hh
    change bucket_Row_Put.call f args h K'
    unfold bucket_Row_Put.call at hh ⊢
    split at hh
    · obtain ⟨R, h1, h2⟩ := hh
      exact ⟨R, h1, fun _ x hr => hk _ _ (h2 _ x hr)⟩
    · exact hh.elim
  call := by
    intro f args h K hh w hw
    change bucket_Row_Put.call f args h K at hh
    unfold bucket_Row_Put.call at hh
    split at hh
    · obtain ⟨R, h1, h2⟩ := hh
      obtain ⟨g1, g2⟩ := bucket_Row_Drop.calls h1 w hw
      exact ⟨g1, g2.mono fun e w' ⟨v, he, ho, hr⟩ => ⟨v, he, ho, bucket_Row_Drop.ret_elim h2 hr⟩⟩
    · exact hh.elim
  qmono := by
    intro f args h K K' hh hk
    change bucket_Row_Put.qcall f args h K at hh
    change bucket_Row_Put.qcall f args h K'
    unfold bucket_Row_Put.qcall at hh ⊢
    split at hh
    · obtain ⟨x0, h1, h2⟩ := hh
      exact ⟨x0, h1, hk _ h2⟩
    · exact hh.elim
  qval := by
    intro f args h K hh
    change bucket_Row_Put.qcall f args h K at hh
    suffices H : ∃ v, K v ∧ bucket_Row_Put.qcall f args h (· = v) from H
    unfold bucket_Row_Put.qcall at hh ⊢
    split at hh
    · obtain ⟨x0, h1, h2⟩ := hh
      exact ⟨_, h2, x0, h1, rfl⟩
    · exact hh.elim
  qcall := by
    intro f args h v hh w hw
    change bucket_Row_Put.qcall f args h (· = v) at hh
    unfold bucket_Row_Put.qcall at hh
    split at hh
    · obtain ⟨x0, h1, h2⟩ := hh
      obtain ⟨g1, g2⟩ := bucket_Row_right.calls h1 w hw
      refine .inl ⟨g1, g2.mono fun e w' ⟨u, he, ho, hr⟩ => ?_⟩
      have hq := bucket_Row_right.ret_elim (K' := fun u h' => u = v ∧ h' = h) (fun _ h' hr => by obtain ⟨rfl, rfl⟩ := hr; exact ⟨h2, rfl⟩) hr
      exact ⟨hq.1 ▸ he, ho, hq.2⟩
    · exact hh.elim
noncomputable def bucket_Row_Put.code : Code := (Try.f8.body).getD .skip
def bucket_Row_Put.ann : Ann := .auto
set_option maxRecDepth 100000 in
theorem bucket_Row_Put.eq (a1 : Option Addr) (a2 : Int) (a3 : Int) (h : Heap) (K : Bool → Heap → Prop) : evF bucket_Row_Put.ctx Try.f8 bucket_Row_Put.ann [(.pointer a1), (.int .i64 a2), (.int .i64 a3)] h (bucket_Row_Put.ret K) = bucket_Row_Put a1 a2 a3 h K := by kernel_rfl
set_option maxRecDepth 100000 in
theorem bucket_Row_Put.calls {a1 : Option Addr} {a2 : Int} {a3 : Int} {h : Heap} {K : Bool → Heap → Prop} (hh : bucket_Row_Put a1 a2 a3 h K) (w : World) (hw : w.heap = h) :
    (callFunc 8 #[(.pointer a1), (.int .i64 a2), (.int .i64 a3)]).run Try.prog w = .ok (.enter 8 #[(.pointer a1), (.int .i64 a2), (.int .i64 a3)]) w ∧ Calls Try.prog 8 #[(.pointer a1), (.int .i64 a2), (.int .i64 a3)] w fun e w' => ∃ v, e = .returned v ∧ Out w w' ∧ bucket_Row_Put.ret K v w'.heap := by
  rw [← bucket_Row_Put.eq] at hh
  exact fn_calls (args := [(.pointer a1), (.int .i64 a2), (.int .i64 a3)]) (c := bucket_Row_Put.code) bucket_Row_Put.ok Try.func8 (by kernel_rfl) (by kernel_rfl) (by kernel_rfl) (by kernel_rfl) (loops_ok (l := []) (by kernel_rfl) trivial) hh w hw

/-! ### (*strait/bucket.Row).Len: function 17 -/
def bucket_Row_Len (a1 : Option Addr) (h : Heap) (K : Int → Heap → Prop) : Prop :=
  ((iteB a1.isNone (K 0 h) ((chkP a1 fun a2 => ∃ (x3 : Int), cell h (a2.add 4) = some (.int .i64 x3) ∧ K x3 h))))
def bucket_Row_Len.ret (K : Int → Heap → Prop) (v : Value) (h : Heap) : Prop := match v with
  | (.int .i64 r4) => K r4 h
  | _ => False
theorem bucket_Row_Len.ret_elim {K : Int → Heap → Prop} {K' : Value → Heap → Prop} {v : Value} {h : Heap} (hk : ∀ r4 h, K r4 h → K' (.int .i64 r4) h) (hh : bucket_Row_Len.ret K v h) : K' v h := by
  unfold bucket_Row_Len.ret at hh
  split at hh
  · exact hk _ _ hh
  · exact hh.elim
noncomputable def bucket_Row_Len.ctx : Ctx := { P := Try.prog, call := fun _ _ _ _ => False, qcall := fun _ _ _ _ => False, quiet := fun f => false, loop := fun _ _ _ _ => False }
theorem bucket_Row_Len.ok : bucket_Row_Len.ctx.OK where
  mixed := by kernel_rfl
  mono := fun hh _ => hh.elim
  call := fun hh => hh.elim
  qmono := fun hh _ => hh.elim
  qval := fun hh => hh.elim
  qcall := fun hh => hh.elim
noncomputable def bucket_Row_Len.code : Code := (Try.f17.body).getD .skip
def bucket_Row_Len.ann : Ann := .auto
set_option maxRecDepth 100000 in
theorem bucket_Row_Len.eq (a1 : Option Addr) (h : Heap) (K : Int → Heap → Prop) : evF bucket_Row_Len.ctx Try.f17 bucket_Row_Len.ann [(.pointer a1)] h (bucket_Row_Len.ret K) = bucket_Row_Len a1 h K := by kernel_rfl
set_option maxRecDepth 100000 in
theorem bucket_Row_Len.calls {a1 : Option Addr} {h : Heap} {K : Int → Heap → Prop} (hh : bucket_Row_Len a1 h K) (w : World) (hw : w.heap = h) :
    (callFunc 17 #[(.pointer a1)]).run Try.prog w = .ok (.enter 17 #[(.pointer a1)]) w ∧ Calls Try.prog 17 #[(.pointer a1)] w fun e w' => ∃ v, e = .returned v ∧ Out w w' ∧ bucket_Row_Len.ret K v w'.heap := by
  rw [← bucket_Row_Len.eq] at hh
  exact fn_calls (args := [(.pointer a1)]) (c := bucket_Row_Len.code) bucket_Row_Len.ok Try.func17 (by kernel_rfl) (by kernel_rfl) (by kernel_rfl) (by kernel_rfl) (loops_ok (l := []) (by kernel_rfl) trivial) hh w hw

/-! ### (*strait/bucket.Row).Highest: function 13 -/
def bucket_Row_Highest.b0 (K2 : Heap → Prop) (cont : (Option Addr) → Heap → Prop) (c0_1001 : Option Addr) (h1002 : Heap) : Prop :=
  chkP c0_1001 fun a1003 => ∃ (x1004 : Option Addr) (x1004l : Nat) (x1004c : Nat), cell h1002 (a1003.add 1) = some (.slice x1004 x1004l x1004c) ∧ chkP c0_1001 fun a1005 => ∃ (x1006 : Int), cell h1002 (a1005.add 3) = some (.int .i64 x1006) ∧ chkP x1004 fun a1007 => (0 ≤ x1006 ∧ x1006 < (x1004l : Int)) ∧ ∃ (x1008 : Int), cell h1002 (a1007.add (x1006.toNat * 1)) = some (.int .i64 x1008) ∧ (iteB (x1008 == ((-1) : Int)) ((chkP c0_1001 fun a1009 => ∃ (x1010 : Int), cell h1002 (a1009.add 3) = some (.int .i64 x1010) ∧ chkP c0_1001 fun a1011 => stC h1002 (a1011.add 3) (.int .i64 (IntKind.i64.wrap (x1010 - 1))) fun h1012 => cont c0_1001 h1012)) (K2 h1002))
def bucket_Row_Highest.l0 (K2 : Heap → Prop) : Nat → (Option Addr) → Heap → Prop
  | 0, _, _ => False
  | m + 1, c0_1001, h => bucket_Row_Highest.b0 K2 (bucket_Row_Highest.l0 K2 m) c0_1001 h
def bucket_Row_Highest (a1 : Option Addr) (h : Heap) (K : Int → Int → Bool → Heap → Prop) : Prop :=
  (qcallP1 h (bucket_Row_Len a1 h) fun x2 => (iteB (x2 == (0 : Int)) (K 0 0 false h) ((∃ m4, bucket_Row_Highest.l0 (fun h3 => ((chkP a1 fun a5 => ∃ (x6 : Option Addr) (x6l : Nat) (x6c : Nat), cell h3 (a5.add 1) = some (.slice x6 x6l x6c) ∧ chkP a1 fun a7 => ∃ (x8 : Int), cell h3 (a7.add 3) = some (.int .i64 x8) ∧ chkP x6 fun a9 => (0 ≤ x8 ∧ x8 < (x6l : Int)) ∧ ∃ (x10 : Int), cell h3 (a9.add (x8.toNat * 1)) = some (.int .i64 x10) ∧ chkP a1 fun a11 => ∃ (x12 : Int), cell h3 (a11.add 3) = some (.int .i64 x12) ∧ K x10 x12 true h3))) m4 a1 h))))
def bucket_Row_Highest.ret (K : Int → Int → Bool → Heap → Prop) (v : Value) (h : Heap) : Prop := match v with
  | (.tuple ⟨[(.int .i64 r13), (.int .i64 r14), (.bool r15)]⟩) => K r13 r14 r15 h
  | _ => False
theorem bucket_Row_Highest.ret_elim {K : Int → Int → Bool → Heap → Prop} {K' : Value → Heap → Prop} {v : Value} {h : Heap} (hk : ∀ r13 r14 r15 h, K r13 r14 r15 h → K' (.tuple #[(.int .i64 r13), (.int .i64 r14), (.bool r15)]) h) (hh : bucket_Row_Highest.ret K v h) : K' v h := by
  unfold bucket_Row_Highest.ret at hh
  split at hh
  · exact hk _ _ _ _ hh
  · exact hh.elim
def bucket_Row_Highest.qcall (f : FuncId) (vs : List Value) (h : Heap) (K : Value → Prop) : Prop := match f, vs with
  | 17, [(.pointer a1)] => qcallP1 h (bucket_Row_Len a1 h) fun r4 => K (.int .i64 r4)
  | _, _ => False
def bucket_Row_Highest.r0 (K : Nat → List Value → Heap → Prop) (m : Nat) (vs : List Value) (h : Heap) : Prop := match vs with
  | [(.pointer c0_1001)] => bucket_Row_Highest.l0 (fun h' => K 2 [(.pointer c0_1001)] h') m c0_1001 h
  | _ => False
def bucket_Row_Highest.loop (i : Nat) (vs : List Value) (h : Heap) (K : Nat → List Value → Heap → Prop) : Prop := match i with
  | 0 => ∃ m, bucket_Row_Highest.r0 K m vs h
  | _ => False
noncomputable def bucket_Row_Highest.ctx : Ctx := { P := Try.prog, call := fun _ _ _ _ => False, qcall := bucket_Row_Highest.qcall, quiet := fun f => Nat.beq f 17, loop := bucket_Row_Highest.loop }
theorem bucket_Row_Highest.ok : bucket_Row_Highest.ctx.OK where
  mixed := by kernel_rfl
  mono := fun hh _ => hh.elim
  call := fun hh => hh.elim
  qmono := by
    intro f args h K K' hh hk
    change bucket_Row_Highest.qcall f args h K at hh
    change bucket_Row_Highest.qcall f args h K'
    unfold bucket_Row_Highest.qcall at hh ⊢
    split at hh
    · obtain ⟨x0, h1, h2⟩ := hh
      exact ⟨x0, h1, hk _ h2⟩
    · exact hh.elim
  qval := by
    intro f args h K hh
    change bucket_Row_Highest.qcall f args h K at hh
    suffices H : ∃ v, K v ∧ bucket_Row_Highest.qcall f args h (· = v) from H
    unfold bucket_Row_Highest.qcall at hh ⊢
    split at hh
    · obtain ⟨x0, h1, h2⟩ := hh
      exact ⟨_, h2, x0, h1, rfl⟩
    · exact hh.elim
  qcall := by
    intro f args h v hh w hw
    change bucket_Row_Highest.qcall f args h (· = v) at hh
    unfold bucket_Row_Highest.qcall at hh
    split at hh
    · obtain ⟨x0, h1, h2⟩ := hh
      obtain ⟨g1, g2⟩ := bucket_Row_Len.calls h1 w hw
      refine .inl ⟨g1, g2.mono fun e w' ⟨u, he, ho, hr⟩ => ?_⟩
      have hq := bucket_Row_Len.ret_elim (K' := fun u h' => u = v ∧ h' = h) (fun _ h' hr => by obtain ⟨rfl, rfl⟩ := hr; exact ⟨h2, rfl⟩) hr
      exact ⟨hq.1 ▸ he, ho, hq.2⟩
    · exact hh.elim
noncomputable def bucket_Row_Highest.code : Code := (Try.f13.body).getD .skip
def bucket_Row_Highest.ann : Ann := (.two .auto (.two .auto (.two (.two (.loop 0 [0] [(2, [0])] (.two (.two (.reg [0, 1, 3, 7, 0, 16, 48, 112, 255, 511, 1023] (.take 0 (.take 1 (.take 2 (.take 3 (.take 4 (.take 5 (.take 6 (.take 7 (.take 8 (.take 9 (.take 10 .done)))))))))))) .auto) .auto)) .auto) (.two (.reg [0, 1, 3, 7, 0, 16, 48, 112, 255, 511, 0, 1024, 3072, 7168, 1023, 32767, 65535] (.take 0 (.take 1 (.take 2 (.take 3 (.take 4 (.take 5 (.take 6 (.take 7 (.take 8 (.take 9 (.take 10 (.take 11 (.take 12 (.take 13 (.take 14 (.take 15 (.take 16 .done)))))))))))))))))) .auto))))
noncomputable def bucket_Row_Highest.c0 : Code := sub bucket_Row_Highest.code [1, 1, 0, 0, 0]
def bucket_Row_Highest.a0 : Ann := (.two (.two (.reg [0, 1, 3, 7, 0, 16, 48, 112, 255, 511, 1023] (.take 0 (.take 1 (.take 2 (.take 3 (.take 4 (.take 5 (.take 6 (.take 7 (.take 8 (.take 9 (.take 10 .done)))))))))))) .auto) .auto)
def bucket_Row_Highest.keep0 : List Nat := [0]
def bucket_Row_Highest.outs0 : List (Nat × List Nat) := [(2, [0])]
set_option maxRecDepth 100000 in
theorem bucket_Row_Highest.L0 : LoopOK bucket_Row_Highest.ctx 40 bucket_Row_Highest.c0 0 bucket_Row_Highest.keep0 bucket_Row_Highest.outs0 := by
  refine loop_ok (n := bucket_Row_Highest.a0) bucket_Row_Highest.ok (by kernel_rfl) (loops_ok (l := []) (by kernel_rfl) ?_) bucket_Row_Highest.r0 ?_ ?_ (fun vs h K hh => hh)
  · exact trivial
  · intro K vs h hh
    unfold bucket_Row_Highest.r0 at hh
    split at hh
    · exact hh
    · exact hh
  · intro K m vs h hh
    unfold bucket_Row_Highest.r0 at hh
    split at hh
    · exact cast (by kernel_rfl) hh
    · exact hh.elim
set_option maxRecDepth 100000 in
theorem bucket_Row_Highest.eq (a1 : Option Addr) (h : Heap) (K : Int → Int → Bool → Heap → Prop) : evF bucket_Row_Highest.ctx Try.f13 bucket_Row_Highest.ann [(.pointer a1)] h (bucket_Row_Highest.ret K) = bucket_Row_Highest a1 h K := by kernel_rfl
set_option maxRecDepth 100000 in
theorem bucket_Row_Highest.calls {a1 : Option Addr} {h : Heap} {K : Int → Int → Bool → Heap → Prop} (hh : bucket_Row_Highest a1 h K) (w : World) (hw : w.heap = h) :
    (callFunc 13 #[(.pointer a1)]).run Try.prog w = .ok (.enter 13 #[(.pointer a1)]) w ∧ Calls Try.prog 13 #[(.pointer a1)] w fun e w' => ∃ v, e = .returned v ∧ Out w w' ∧ bucket_Row_Highest.ret K v w'.heap := by
  rw [← bucket_Row_Highest.eq] at hh
  exact fn_calls (args := [(.pointer a1)]) (c := bucket_Row_Highest.code) bucket_Row_Highest.ok Try.func13 (by kernel_rfl) (by kernel_rfl) (by kernel_rfl) (by kernel_rfl) (loops_ok (l := [(bucket_Row_Highest.c0, none, 0, bucket_Row_Highest.keep0, bucket_Row_Highest.outs0)]) (by kernel_rfl) ⟨bucket_Row_Highest.L0, trivial⟩) hh w hw

/-! ### (*strait/bucket.Row).Count: function 15 -/
def bucket_Row_Count (a1 : Option Addr) (a2 : Int) (h : Heap) (K : Int → Heap → Prop) : Prop :=
  (qcallP1 h (bucket_Row_right a1 a2 h) fun x3 => (iteB (!x3) (K 0 h) ((chkP a1 fun a4 => ∃ (x5 : Option Addr) (x5l : Nat) (x5c : Nat), cell h (a4.add 2) = some (.slice x5 x5l x5c) ∧ chkP x5 fun a6 => (0 ≤ a2 ∧ a2 < (x5l : Int)) ∧ ∃ (x7 : Int), cell h (a6.add (a2.toNat * 1)) = some (.int .i64 x7) ∧ K x7 h))))
def bucket_Row_Count.ret (K : Int → Heap → Prop) (v : Value) (h : Heap) : Prop := match v with
  | (.int .i64 r8) => K r8 h
  | _ => False
theorem bucket_Row_Count.ret_elim {K : Int → Heap → Prop} {K' : Value → Heap → Prop} {v : Value} {h : Heap} (hk : ∀ r8 h, K r8 h → K' (.int .i64 r8) h) (hh : bucket_Row_Count.ret K v h) : K' v h := by
  unfold bucket_Row_Count.ret at hh
  split at hh
  · exact hk _ _ hh
  · exact hh.elim
def bucket_Row_Count.qcall (f : FuncId) (vs : List Value) (h : Heap) (K : Value → Prop) : Prop := match f, vs with
  | 20, [(.pointer a1), (.int .i64 a2)] => qcallP1 h (bucket_Row_right a1 a2 h) fun r6 => K (.bool r6)
  | _, _ => False
noncomputable def bucket_Row_Count.ctx : Ctx := { P := Try.prog, call := fun _ _ _ _ => False, qcall := bucket_Row_Count.qcall, quiet := fun f => Nat.beq f 20, loop := fun _ _ _ _ => False }
theorem bucket_Row_Count.ok : bucket_Row_Count.ctx.OK where
  mixed := by kernel_rfl
  mono := fun hh _ => hh.elim
  call := fun hh => hh.elim
  qmono := by
    intro f args h K K' hh hk
    change bucket_Row_Count.qcall f args h K at hh
    change bucket_Row_Count.qcall f args h K'
    unfold bucket_Row_Count.qcall at hh ⊢
    split at hh
    · obtain ⟨x0, h1, h2⟩ := hh
      exact ⟨x0, h1, hk _ h2⟩
    · exact hh.elim
  qval := by
    intro f args h K hh
    change bucket_Row_Count.qcall f args h K at hh
    suffices H : ∃ v, K v ∧ bucket_Row_Count.qcall f args h (· = v) from H
    unfold bucket_Row_Count.qcall at hh ⊢
    split at hh
    · obtain ⟨x0, h1, h2⟩ := hh
      exact ⟨_, h2, x0, h1, rfl⟩
    · exact hh.elim
  qcall := by
    intro f args h v hh w hw
    change bucket_Row_Count.qcall f args h (· = v) at hh
    unfold bucket_Row_Count.qcall at hh
    split at hh
    · obtain ⟨x0, h1, h2⟩ := hh
      obtain ⟨g1, g2⟩ := bucket_Row_right.calls h1 w hw
      refine .inl ⟨g1, g2.mono fun e w' ⟨u, he, ho, hr⟩ => ?_⟩
      have hq := bucket_Row_right.ret_elim (K' := fun u h' => u = v ∧ h' = h) (fun _ h' hr => by obtain ⟨rfl, rfl⟩ := hr; exact ⟨h2, rfl⟩) hr
      exact ⟨hq.1 ▸ he, ho, hq.2⟩
    · exact hh.elim
noncomputable def bucket_Row_Count.code : Code := (Try.f15.body).getD .skip
def bucket_Row_Count.ann : Ann := .auto
set_option maxRecDepth 100000 in
theorem bucket_Row_Count.eq (a1 : Option Addr) (a2 : Int) (h : Heap) (K : Int → Heap → Prop) : evF bucket_Row_Count.ctx Try.f15 bucket_Row_Count.ann [(.pointer a1), (.int .i64 a2)] h (bucket_Row_Count.ret K) = bucket_Row_Count a1 a2 h K := by kernel_rfl
set_option maxRecDepth 100000 in
theorem bucket_Row_Count.calls {a1 : Option Addr} {a2 : Int} {h : Heap} {K : Int → Heap → Prop} (hh : bucket_Row_Count a1 a2 h K) (w : World) (hw : w.heap = h) :
    (callFunc 15 #[(.pointer a1), (.int .i64 a2)]).run Try.prog w = .ok (.enter 15 #[(.pointer a1), (.int .i64 a2)]) w ∧ Calls Try.prog 15 #[(.pointer a1), (.int .i64 a2)] w fun e w' => ∃ v, e = .returned v ∧ Out w w' ∧ bucket_Row_Count.ret K v w'.heap := by
  rw [← bucket_Row_Count.eq] at hh
  exact fn_calls (args := [(.pointer a1), (.int .i64 a2)]) (c := bucket_Row_Count.code) bucket_Row_Count.ok Try.func15 (by kernel_rfl) (by kernel_rfl) (by kernel_rfl) (by kernel_rfl) (loops_ok (l := []) (by kernel_rfl) trivial) hh w hw

/-! ### (*strait/bucket.Row).Label: function 14 -/
def bucket_Row_Label (a1 : Option Addr) (a2 : Int) (h : Heap) (K : Int → Heap → Prop) : Prop :=
  (callP1 (bucket_Row_seated a1 a2 h) fun x3 h4 => (iteB (!x3) ((K (-1) h4)) ((chkP a1 fun a5 => ∃ (x6 : Option Addr) (x6l : Nat) (x6c : Nat), cell h4 a5 = some (.slice x6 x6l x6c) ∧ chkP x6 fun a7 => (0 ≤ a2 ∧ a2 < (x6l : Int)) ∧ ∃ (x8 : Int), cell h4 (a7.add (a2.toNat * 3)) = some (.int .i64 x8) ∧ K x8 h4))))
def bucket_Row_Label.ret (K : Int → Heap → Prop) (v : Value) (h : Heap) : Prop := match v with
  | (.int .i64 r9) => K r9 h
  | _ => False
theorem bucket_Row_Label.ret_elim {K : Int → Heap → Prop} {K' : Value → Heap → Prop} {v : Value} {h : Heap} (hk : ∀ r9 h, K r9 h → K' (.int .i64 r9) h) (hh : bucket_Row_Label.ret K v h) : K' v h := by
  unfold bucket_Row_Label.ret at hh
  split at hh
  · exact hk _ _ hh
  · exact hh.elim
def bucket_Row_Label.call (f : FuncId) (vs : List Value) (h : Heap) (K : Value → Heap → Prop) : Prop := match f, vs with
  | 21, [(.pointer a1), (.int .i64 a2)] => callP1 (bucket_Row_seated a1 a2 h) fun r21 h' => K (.bool r21) h'
  | _, _ => False
noncomputable def bucket_Row_Label.ctx : Ctx := { P := Try.prog, call := bucket_Row_Label.call, qcall := fun _ _ _ _ => False, quiet := fun f => false, loop := fun _ _ _ _ => False }
theorem bucket_Row_Label.ok : bucket_Row_Label.ctx.OK where
  mixed := by kernel_rfl
  mono := by
    intro f args h K K' hh hk
    change bucket_Row_Label.call f args h K at hh
    change bucket_Row_Label.call f args h K'
    unfold bucket_Row_Label.call at hh ⊢
    split at hh
    · obtain ⟨R, h1, h2⟩ := hh
      exact ⟨R, h1, fun _ x hr => hk _ _ (h2 _ x hr)⟩
    · exact hh.elim
  call := by
    intro f args h K hh w hw
    change bucket_Row_Label.call f args h K at hh
    unfold bucket_Row_Label.call at hh
    split at hh
    · obtain ⟨R, h1, h2⟩ := hh
      obtain ⟨g1, g2⟩ := bucket_Row_seated.calls h1 w hw
      exact ⟨g1, g2.mono fun e w' ⟨v, he, ho, hr⟩ => ⟨v, he, ho, bucket_Row_seated.ret_elim h2 hr⟩⟩
    · exact hh.elim
  qmono := fun hh _ => hh.elim
  qval := fun hh => hh.elim
  qcall := fun hh => hh.elim
noncomputable def bucket_Row_Label.code : Code := (Try.f14.body).getD .skip
def bucket_Row_Label.ann : Ann := .auto
set_option maxRecDepth 100000 in
theorem bucket_Row_Label.eq (a1 : Option Addr) (a2 : Int) (h : Heap) (K : Int → Heap → Prop) : evF bucket_Row_Label.ctx Try.f14 bucket_Row_Label.ann [(.pointer a1), (.int .i64 a2)] h (bucket_Row_Label.ret K) = bucket_Row_Label a1 a2 h K := by kernel_rfl
set_option maxRecDepth 100000 in
theorem bucket_Row_Label.calls {a1 : Option Addr} {a2 : Int} {h : Heap} {K : Int → Heap → Prop} (hh : bucket_Row_Label a1 a2 h K) (w : World) (hw : w.heap = h) :
    (callFunc 14 #[(.pointer a1), (.int .i64 a2)]).run Try.prog w = .ok (.enter 14 #[(.pointer a1), (.int .i64 a2)]) w ∧ Calls Try.prog 14 #[(.pointer a1), (.int .i64 a2)] w fun e w' => ∃ v, e = .returned v ∧ Out w w' ∧ bucket_Row_Label.ret K v w'.heap := by
  rw [← bucket_Row_Label.eq] at hh
  exact fn_calls (args := [(.pointer a1), (.int .i64 a2)]) (c := bucket_Row_Label.code) bucket_Row_Label.ok Try.func14 (by kernel_rfl) (by kernel_rfl) (by kernel_rfl) (by kernel_rfl) (loops_ok (l := []) (by kernel_rfl) trivial) hh w hw

/-! ### strait/straitlaw13.awake: function 5 -/
def straitlaw13_awake (h : Heap) (K : Bool → Heap → Prop) : Prop :=
  (callP1 (bucket_New 3 h) fun x1 h2 => (let j23 := (fun (h11 : Heap) => callP3 (bucket_Row_Highest x1 h11) fun x12 x13 x14 h15 => (iteB x14 (iteB (x12 == (1 : Int)) (iteB (x13 == (3 : Int)) (qcallP1 h15 (bucket_Row_Count x1 3 h15) fun x16 => iteB (x16 == (2 : Int)) (callP1 (bucket_Row_Drop x1 1 h15) fun x17 h18 => iteB x17 (callP1 (bucket_Row_Label x1 1 h18) fun x19 h20 => (K (x19 == ((-1) : Int)) h20)) (K false h18)) (K false h15)) (K false h15)) (K false h15)) (K false h15)));
  iteB x1.isNone (K false h2) (callP1 (bucket_Row_Put x1 0 3 h2) fun x3 h4 => iteB (!x3) (K false h4) (callP1 (bucket_Row_Put x1 1 3 h4) fun x5 h6 => iteB (!x5) (K false h6) (callP1 (bucket_Row_Put x1 2 1 h6) fun x7 h8 => (iteB (!x7) (K false h8) ((j23 h8))))))))
def straitlaw13_awake.ret (K : Bool → Heap → Prop) (v : Value) (h : Heap) : Prop := match v with
  | (.bool r24) => K r24 h
  | _ => False
theorem straitlaw13_awake.ret_elim {K : Bool → Heap → Prop} {K' : Value → Heap → Prop} {v : Value} {h : Heap} (hk : ∀ r24 h, K r24 h → K' (.bool r24) h) (hh : straitlaw13_awake.ret K v h) : K' v h := by
  unfold straitlaw13_awake.ret at hh
  split at hh
  · exact hk _ _ hh
  · exact hh.elim
def straitlaw13_awake.call (f : FuncId) (vs : List Value) (h : Heap) (K : Value → Heap → Prop) : Prop := match f, vs with
  | 6, [(.int .i64 a1)] => callP1 (bucket_New a1 h) fun r55 h' => K (.pointer r55) h'
  | 8, [(.pointer a1), (.int .i64 a2), (.int .i64 a3)] => callP1 (bucket_Row_Put a1 a2 a3 h) fun r45 h' => K (.bool r45) h'
  | 10, [(.pointer a1), (.int .i64 a2)] => callP1 (bucket_Row_Drop a1 a2 h) fun r62 h' => K (.bool r62) h'
  | 13, [(.pointer a1)] => callP3 (bucket_Row_Highest a1 h) fun r13 r14 r15 h' => K (.tuple #[(.int .i64 r13), (.int .i64 r14), (.bool r15)]) h'
  | 14, [(.pointer a1), (.int .i64 a2)] => callP1 (bucket_Row_Label a1 a2 h) fun r9 h' => K (.int .i64 r9) h'
  | _, _ => False
def straitlaw13_awake.qcall (f : FuncId) (vs : List Value) (h : Heap) (K : Value → Prop) : Prop := match f, vs with
  | 15, [(.pointer a1), (.int .i64 a2)] => qcallP1 h (bucket_Row_Count a1 a2 h) fun r8 => K (.int .i64 r8)
  | _, _ => False
noncomputable def straitlaw13_awake.ctx : Ctx := { P := Try.prog, call := straitlaw13_awake.call, qcall := straitlaw13_awake.qcall, quiet := fun f => Nat.beq f 15, loop := fun _ _ _ _ => False }
theorem straitlaw13_awake.ok : straitlaw13_awake.ctx.OK where
  mixed := by kernel_rfl
  mono := by
    intro f args h K K' hh hk
    change straitlaw13_awake.call f args h K at hh
    change straitlaw13_awake.call f args h K'
    unfold straitlaw13_awake.call at hh ⊢
    split at hh
    · obtain ⟨R, h1, h2⟩ := hh
      exact ⟨R, h1, fun _ x hr => hk _ _ (h2 _ x hr)⟩
    · obtain ⟨R, h1, h2⟩ := hh
      exact ⟨R, h1, fun _ x hr => hk _ _ (h2 _ x hr)⟩
    · obtain ⟨R, h1, h2⟩ := hh
      exact ⟨R, h1, fun _ x hr => hk _ _ (h2 _ x hr)⟩
    · obtain ⟨R, h1, h2⟩ := hh
      exact ⟨R, h1, fun _ _ _ x hr => hk _ _ (h2 _ _ _ x hr)⟩
    · obtain ⟨R, h1, h2⟩ := hh
      exact ⟨R, h1, fun _ x hr => hk _ _ (h2 _ x hr)⟩
    · exact hh.elim
  call := by
    intro f args h K hh w hw
    change straitlaw13_awake.call f args h K at hh
    unfold straitlaw13_awake.call at hh
    split at hh
    · obtain ⟨R, h1, h2⟩ := hh
      obtain ⟨g1, g2⟩ := bucket_New.calls h1 w hw
      exact ⟨g1, g2.mono fun e w' ⟨v, he, ho, hr⟩ => ⟨v, he, ho, bucket_New.ret_elim h2 hr⟩⟩
    · obtain ⟨R, h1, h2⟩ := hh
      obtain ⟨g1, g2⟩ := bucket_Row_Put.calls h1 w hw
      exact ⟨g1, g2.mono fun e w' ⟨v, he, ho, hr⟩ => ⟨v, he, ho, bucket_Row_Put.ret_elim h2 hr⟩⟩
    · obtain ⟨R, h1, h2⟩ := hh
      obtain ⟨g1, g2⟩ := bucket_Row_Drop.calls h1 w hw
      exact ⟨g1, g2.mono fun e w' ⟨v, he, ho, hr⟩ => ⟨v, he, ho, bucket_Row_Drop.ret_elim h2 hr⟩⟩
    · obtain ⟨R, h1, h2⟩ := hh
      obtain ⟨g1, g2⟩ := bucket_Row_Highest.calls h1 w hw
      exact ⟨g1, g2.mono fun e w' ⟨v, he, ho, hr⟩ => ⟨v, he, ho, bucket_Row_Highest.ret_elim h2 hr⟩⟩
    · obtain ⟨R, h1, h2⟩ := hh
      obtain ⟨g1, g2⟩ := bucket_Row_Label.calls h1 w hw
      exact ⟨g1, g2.mono fun e w' ⟨v, he, ho, hr⟩ => ⟨v, he, ho, bucket_Row_Label.ret_elim h2 hr⟩⟩
    · exact hh.elim
  qmono := by
    intro f args h K K' hh hk
    change straitlaw13_awake.qcall f args h K at hh
    change straitlaw13_awake.qcall f args h K'
    unfold straitlaw13_awake.qcall at hh ⊢
    split at hh
    · obtain ⟨x0, h1, h2⟩ := hh
      exact ⟨x0, h1, hk _ h2⟩
    · exact hh.elim
  qval := by
    intro f args h K hh
    change straitlaw13_awake.qcall f args h K at hh
    suffices H : ∃ v, K v ∧ straitlaw13_awake.qcall f args h (· = v) from H
    unfold straitlaw13_awake.qcall at hh ⊢
    split at hh
    · obtain ⟨x0, h1, h2⟩ := hh
      exact ⟨_, h2, x0, h1, rfl⟩
    · exact hh.elim
  qcall := by
    intro f args h v hh w hw
    change straitlaw13_awake.qcall f args h (· = v) at hh
    unfold straitlaw13_awake.qcall at hh
    split at hh
    · obtain ⟨x0, h1, h2⟩ := hh
      obtain ⟨g1, g2⟩ := bucket_Row_Count.calls h1 w hw
      refine .inl ⟨g1, g2.mono fun e w' ⟨u, he, ho, hr⟩ => ?_⟩
      have hq := bucket_Row_Count.ret_elim (K' := fun u h' => u = v ∧ h' = h) (fun _ h' hr => by obtain ⟨rfl, rfl⟩ := hr; exact ⟨h2, rfl⟩) hr
      exact ⟨hq.1 ▸ he, ho, hq.2⟩
    · exact hh.elim
noncomputable def straitlaw13_awake.code : Code := (Try.f5.body).getD .skip
def straitlaw13_awake.ann : Ann := .auto
set_option maxRecDepth 100000 in
theorem straitlaw13_awake.eq (h : Heap) (K : Bool → Heap → Prop) : evF straitlaw13_awake.ctx Try.f5 straitlaw13_awake.ann [] h (straitlaw13_awake.ret K) = straitlaw13_awake h K := by kernel_rfl
set_option maxRecDepth 100000 in
theorem straitlaw13_awake.calls {h : Heap} {K : Bool → Heap → Prop} (hh : straitlaw13_awake h K) (w : World) (hw : w.heap = h) :
    (callFunc 5 #[]).run Try.prog w = .ok (.enter 5 #[]) w ∧ Calls Try.prog 5 #[] w fun e w' => ∃ v, e = .returned v ∧ Out w w' ∧ straitlaw13_awake.ret K v w'.heap := by
  rw [← straitlaw13_awake.eq] at hh
  exact fn_calls (args := []) (c := straitlaw13_awake.code) straitlaw13_awake.ok Try.func5 (by kernel_rfl) (by kernel_rfl) (by kernel_rfl) (by kernel_rfl) (loops_ok (l := []) (by kernel_rfl) trivial) hh w hw

/-! ### strait/straitref09.Room: function 19 -/
def straitref09_Room (a1 : Int) (h : Heap) (K : Int → Heap → Prop) : Prop :=
  (bindV (if (if 4096 < a1 then 4096 else a1) > 0 then (if 4096 < a1 then 4096 else a1) else 0) fun n2 => K n2 h)
def straitref09_Room.ret (K : Int → Heap → Prop) (v : Value) (h : Heap) : Prop := match v with
  | (.int .i64 r3) => K r3 h
  | _ => False
theorem straitref09_Room.ret_elim {K : Int → Heap → Prop} {K' : Value → Heap → Prop} {v : Value} {h : Heap} (hk : ∀ r3 h, K r3 h → K' (.int .i64 r3) h) (hh : straitref09_Room.ret K v h) : K' v h := by
  unfold straitref09_Room.ret at hh
  split at hh
  · exact hk _ _ hh
  · exact hh.elim
noncomputable def straitref09_Room.ctx : Ctx := { P := Try.prog, call := fun _ _ _ _ => False, qcall := fun _ _ _ _ => False, quiet := fun f => false, loop := fun _ _ _ _ => False }
theorem straitref09_Room.ok : straitref09_Room.ctx.OK where
  mixed := by kernel_rfl
  mono := fun hh _ => hh.elim
  call := fun hh => hh.elim
  qmono := fun hh _ => hh.elim
  qval := fun hh => hh.elim
  qcall := fun hh => hh.elim
noncomputable def straitref09_Room.code : Code := (Try.f19.body).getD .skip
def straitref09_Room.ann : Ann := .auto
set_option maxRecDepth 100000 in
theorem straitref09_Room.eq (a1 : Int) (h : Heap) (K : Int → Heap → Prop) : evF straitref09_Room.ctx Try.f19 straitref09_Room.ann [(.int .i64 a1)] h (straitref09_Room.ret K) = straitref09_Room a1 h K := by kernel_rfl
set_option maxRecDepth 100000 in
theorem straitref09_Room.calls {a1 : Int} {h : Heap} {K : Int → Heap → Prop} (hh : straitref09_Room a1 h K) (w : World) (hw : w.heap = h) :
    (callFunc 19 #[(.int .i64 a1)]).run Try.prog w = .ok (.enter 19 #[(.int .i64 a1)]) w ∧ Calls Try.prog 19 #[(.int .i64 a1)] w fun e w' => ∃ v, e = .returned v ∧ Out w w' ∧ straitref09_Room.ret K v w'.heap := by
  rw [← straitref09_Room.eq] at hh
  exact fn_calls (args := [(.int .i64 a1)]) (c := straitref09_Room.code) straitref09_Room.ok Try.func19 (by kernel_rfl) (by kernel_rfl) (by kernel_rfl) (by kernel_rfl) (loops_ok (l := []) (by kernel_rfl) trivial) hh w hw

/-! ### strait/straitref13.New: function 7 -/
def straitref13_New (a1 : Int) (h : Heap) (K : (Option Addr) → Heap → Prop) : Prop :=
  (qcallP1 h (straitref09_Room a1 h) fun x2 => newP h (.cells #[(.int .i64 x2), (.slice none 0 0), (.slice none 0 0)] 49) fun a3 h4 => (K (some a3) h4))
def straitref13_New.ret (K : (Option Addr) → Heap → Prop) (v : Value) (h : Heap) : Prop := match v with
  | (.pointer r5) => K r5 h
  | _ => False
theorem straitref13_New.ret_elim {K : (Option Addr) → Heap → Prop} {K' : Value → Heap → Prop} {v : Value} {h : Heap} (hk : ∀ r5 h, K r5 h → K' (.pointer r5) h) (hh : straitref13_New.ret K v h) : K' v h := by
  unfold straitref13_New.ret at hh
  split at hh
  · exact hk _ _ hh
  · exact hh.elim
def straitref13_New.qcall (f : FuncId) (vs : List Value) (h : Heap) (K : Value → Prop) : Prop := match f, vs with
  | 19, [(.int .i64 a1)] => qcallP1 h (straitref09_Room a1 h) fun r3 => K (.int .i64 r3)
  | _, _ => False
noncomputable def straitref13_New.ctx : Ctx := { P := Try.prog, call := fun _ _ _ _ => False, qcall := straitref13_New.qcall, quiet := fun f => Nat.beq f 19, loop := fun _ _ _ _ => False }
theorem straitref13_New.ok : straitref13_New.ctx.OK where
  mixed := by kernel_rfl
  mono := fun hh _ => hh.elim
  call := fun hh => hh.elim
  qmono := by
    intro f args h K K' hh hk
    change straitref13_New.qcall f args h K at hh
    change straitref13_New.qcall f args h K'
    unfold straitref13_New.qcall at hh ⊢
    split at hh
    · obtain ⟨x0, h1, h2⟩ := hh
      exact ⟨x0, h1, hk _ h2⟩
    · exact hh.elim
  qval := by
    intro f args h K hh
    change straitref13_New.qcall f args h K at hh
    suffices H : ∃ v, K v ∧ straitref13_New.qcall f args h (· = v) from H
    unfold straitref13_New.qcall at hh ⊢
    split at hh
    · obtain ⟨x0, h1, h2⟩ := hh
      exact ⟨_, h2, x0, h1, rfl⟩
    · exact hh.elim
  qcall := by
    intro f args h v hh w hw
    change straitref13_New.qcall f args h (· = v) at hh
    unfold straitref13_New.qcall at hh
    split at hh
    · obtain ⟨x0, h1, h2⟩ := hh
      obtain ⟨g1, g2⟩ := straitref09_Room.calls h1 w hw
      refine .inl ⟨g1, g2.mono fun e w' ⟨u, he, ho, hr⟩ => ?_⟩
      have hq := straitref09_Room.ret_elim (K' := fun u h' => u = v ∧ h' = h) (fun _ h' hr => by obtain ⟨rfl, rfl⟩ := hr; exact ⟨h2, rfl⟩) hr
      exact ⟨hq.1 ▸ he, ho, hq.2⟩
    · exact hh.elim
noncomputable def straitref13_New.code : Code := (Try.f7.body).getD .skip
def straitref13_New.ann : Ann := .auto
set_option maxRecDepth 100000 in
theorem straitref13_New.eq (a1 : Int) (h : Heap) (K : (Option Addr) → Heap → Prop) : evF straitref13_New.ctx Try.f7 straitref13_New.ann [(.int .i64 a1)] h (straitref13_New.ret K) = straitref13_New a1 h K := by kernel_rfl
set_option maxRecDepth 100000 in
theorem straitref13_New.calls {a1 : Int} {h : Heap} {K : (Option Addr) → Heap → Prop} (hh : straitref13_New a1 h K) (w : World) (hw : w.heap = h) :
    (callFunc 7 #[(.int .i64 a1)]).run Try.prog w = .ok (.enter 7 #[(.int .i64 a1)]) w ∧ Calls Try.prog 7 #[(.int .i64 a1)] w fun e w' => ∃ v, e = .returned v ∧ Out w w' ∧ straitref13_New.ret K v w'.heap := by
  rw [← straitref13_New.eq] at hh
  exact fn_calls (args := [(.int .i64 a1)]) (c := straitref13_New.code) straitref13_New.ok Try.func7 (by kernel_rfl) (by kernel_rfl) (by kernel_rfl) (by kernel_rfl) (loops_ok (l := []) (by kernel_rfl) trivial) hh w hw

/-! ### (*strait/straitref13.Row).Drop: function 11 -/
def straitref13_Row_Drop.b0 (K2 : (Option Addr) → Nat → Nat → (Option Addr) → Nat → Nat → Heap → Prop) (cont : (Option Addr) → Int → (Option Addr) → Nat → Nat → (Option Addr) → Nat → Nat → Int → Heap → Prop) (c0_1001 : Option Addr) (c1_1002 : Int) (v5_1003 : Option Addr) (v5_1003l : Nat) (v5_1003c : Nat) (v6_1004 : Option Addr) (v6_1004l : Nat) (v6_1004c : Nat) (v7_1005 : Int) (h1006 : Heap) : Prop :=
  chkP c0_1001 fun a1007 => ∃ (x1008 : Option Addr) (x1008l : Nat) (x1008c : Nat), cell h1006 (a1007.add 1) = some (.slice x1008 x1008l x1008c) ∧ (iteB (decide (v7_1005 < (x1008l : Int))) ((chkP c0_1001 fun a1009 => ∃ (x1010 : Option Addr) (x1010l : Nat) (x1010c : Nat), cell h1006 (a1009.add 1) = some (.slice x1010 x1010l x1010c) ∧ chkP x1010 fun a1011 => (0 ≤ v7_1005 ∧ v7_1005 < (x1010l : Int)) ∧ ∃ (x1012 : Int), cell h1006 (a1011.add (v7_1005.toNat * 1)) = some (.int .i64 x1012) ∧ (iteB (x1012 != c1_1002) (chkP c0_1001 fun a1013 => ∃ (x1014 : Option Addr) (x1014l : Nat) (x1014c : Nat), cell h1006 (a1013.add 1) = some (.slice x1014 x1014l x1014c) ∧ chkP x1014 fun a1015 => (0 ≤ v7_1005 ∧ v7_1005 < (x1014l : Int)) ∧ ∃ (x1016 : Int), cell h1006 (a1015.add (v7_1005.toNat * 1)) = some (.int .i64 x1016) ∧ newP h1006 (.cells #[(.int .i64 x1016)] 3) fun a1017 h1018 => ∃ n1023, cellsAt h1018 (some a1017) (1 * 1) n1023 ∧ appP 3 1 8 [(.int .i64 0)] v5_1003 v5_1003l v5_1003c 1 n1023 h1018 fun q1019 l1020 c1021 h1022 => (chkP c0_1001 fun a1024 => ∃ (x1025 : Option Addr) (x1025l : Nat) (x1025c : Nat), cell h1022 (a1024.add 2) = some (.slice x1025 x1025l x1025c) ∧ chkP x1025 fun a1026 => (0 ≤ v7_1005 ∧ v7_1005 < (x1025l : Int)) ∧ ∃ (x1027 : Int), cell h1022 (a1026.add (v7_1005.toNat * 1)) = some (.int .i64 x1027) ∧ newP h1022 (.cells #[(.int .i64 x1027)] 3) fun a1028 h1029 => ∃ n1034, cellsAt h1029 (some a1028) (1 * 1) n1034 ∧ appP 3 1 8 [(.int .i64 0)] v6_1004 v6_1004l v6_1004c 1 n1034 h1029 fun q1030 l1031 c1032 h1033 => ((cont c0_1001 c1_1002 q1019 l1020 c1021 q1030 l1031 c1032 (IntKind.i64.wrap (v7_1005 + 1)) h1033)))) (((cont c0_1001 c1_1002 v5_1003 v5_1003l v5_1003c v6_1004 v6_1004l v6_1004c (IntKind.i64.wrap (v7_1005 + 1)) h1006)))))) (K2 v5_1003 v5_1003l v5_1003c v6_1004 v6_1004l v6_1004c h1006))
def straitref13_Row_Drop.l0 (K2 : (Option Addr) → Nat → Nat → (Option Addr) → Nat → Nat → Heap → Prop) : Nat → (Option Addr) → Int → (Option Addr) → Nat → Nat → (Option Addr) → Nat → Nat → Int → Heap → Prop
  | 0, _, _, _, _, _, _, _, _, _, _ => False
  | m + 1, c0_1001, c1_1002, v5_1003, v5_1003l, v5_1003c, v6_1004, v6_1004l, v6_1004c, v7_1005, h => straitref13_Row_Drop.b0 K2 (straitref13_Row_Drop.l0 K2 m) c0_1001 c1_1002 v5_1003 v5_1003l v5_1003c v6_1004 v6_1004l v6_1004c v7_1005 h
def straitref13_Row_Drop (a1 : Option Addr) (a2 : Int) (h : Heap) (K : Bool → Heap → Prop) : Prop :=
  (((∃ m6, straitref13_Row_Drop.l0 (fun z3 z3l z3c z4 z4l z4c h5 => ((chkP a1 fun a7 => ∃ (x8 : Option Addr) (x8l : Nat) (x8c : Nat), cell h5 (a7.add 1) = some (.slice x8 x8l x8c) ∧ (chkP a1 fun a9 => stC h5 (a9.add 1) (.slice z3 z3l z3c) fun h10 => (chkP a1 fun a11 => stC h10 (a11.add 2) (.slice z4 z4l z4c) fun h12 => ((K (decide ((z3l : Int) < (x8l : Int))) h12))))))) m6 a1 a2 none 0 0 none 0 0 0 h)))
def straitref13_Row_Drop.ret (K : Bool → Heap → Prop) (v : Value) (h : Heap) : Prop := match v with
  | (.bool r13) => K r13 h
  | _ => False
theorem straitref13_Row_Drop.ret_elim {K : Bool → Heap → Prop} {K' : Value → Heap → Prop} {v : Value} {h : Heap} (hk : ∀ r13 h, K r13 h → K' (.bool r13) h) (hh : straitref13_Row_Drop.ret K v h) : K' v h := by
  unfold straitref13_Row_Drop.ret at hh
  split at hh
  · exact hk _ _ hh
  · exact hh.elim
def straitref13_Row_Drop.r0 (K : Nat → List Value → Heap → Prop) (m : Nat) (vs : List Value) (h : Heap) : Prop := match vs with
  | [(.pointer c0_1001), (.int .i64 c1_1002), (.slice v5_1003 v5_1003l v5_1003c), (.slice v6_1004 v6_1004l v6_1004c), (.int .i64 v7_1005)] => straitref13_Row_Drop.l0 (fun z14 z14l z14c z15 z15l z15c h' => K 2 [(.pointer c0_1001), (.slice z14 z14l z14c), (.slice z15 z15l z15c)] h') m c0_1001 c1_1002 v5_1003 v5_1003l v5_1003c v6_1004 v6_1004l v6_1004c v7_1005 h
  | _ => False
def straitref13_Row_Drop.loop (i : Nat) (vs : List Value) (h : Heap) (K : Nat → List Value → Heap → Prop) : Prop := match i with
  | 0 => ∃ m, straitref13_Row_Drop.r0 K m vs h
  | _ => False
noncomputable def straitref13_Row_Drop.ctx : Ctx := { P := Try.prog, call := fun _ _ _ _ => False, qcall := fun _ _ _ _ => False, quiet := fun f => false, loop := straitref13_Row_Drop.loop }
theorem straitref13_Row_Drop.ok : straitref13_Row_Drop.ctx.OK where
  mixed := by kernel_rfl
  mono := fun hh _ => hh.elim
  call := fun hh => hh.elim
  qmono := fun hh _ => hh.elim
  qval := fun hh => hh.elim
  qcall := fun hh => hh.elim
noncomputable def straitref13_Row_Drop.code : Code := (Try.f11.body).getD .skip
def straitref13_Row_Drop.ann : Ann := (.two .auto (.two .auto (.two (.two .auto (.two (.loop 0 [0, 1, 5, 6, 7] [(2, [0, 5, 6])] .auto) .auto)) .auto)))
noncomputable def straitref13_Row_Drop.c0 : Code := sub straitref13_Row_Drop.code [1, 1, 0, 1, 0, 0]
def straitref13_Row_Drop.a0 : Ann := .auto
def straitref13_Row_Drop.keep0 : List Nat := [0, 1, 5, 6, 7]
def straitref13_Row_Drop.outs0 : List (Nat × List Nat) := [(2, [0, 5, 6])]
set_option maxRecDepth 100000 in
theorem straitref13_Row_Drop.L0 : LoopOK straitref13_Row_Drop.ctx 64 straitref13_Row_Drop.c0 0 straitref13_Row_Drop.keep0 straitref13_Row_Drop.outs0 := by
  refine loop_ok (n := straitref13_Row_Drop.a0) straitref13_Row_Drop.ok (by kernel_rfl) (loops_ok (l := []) (by kernel_rfl) ?_) straitref13_Row_Drop.r0 ?_ ?_ (fun vs h K hh => hh)
  · exact trivial
  · intro K vs h hh
    unfold straitref13_Row_Drop.r0 at hh
    split at hh
    · exact hh
    · exact hh
  · intro K m vs h hh
    unfold straitref13_Row_Drop.r0 at hh
    split at hh
    · exact cast (by kernel_rfl) hh
    · exact hh.elim
set_option maxRecDepth 100000 in
theorem straitref13_Row_Drop.eq (a1 : Option Addr) (a2 : Int) (h : Heap) (K : Bool → Heap → Prop) : evF straitref13_Row_Drop.ctx Try.f11 straitref13_Row_Drop.ann [(.pointer a1), (.int .i64 a2)] h (straitref13_Row_Drop.ret K) = straitref13_Row_Drop a1 a2 h K := by kernel_rfl
set_option maxRecDepth 100000 in
theorem straitref13_Row_Drop.calls {a1 : Option Addr} {a2 : Int} {h : Heap} {K : Bool → Heap → Prop} (hh : straitref13_Row_Drop a1 a2 h K) (w : World) (hw : w.heap = h) :
    (callFunc 11 #[(.pointer a1), (.int .i64 a2)]).run Try.prog w = .ok (.enter 11 #[(.pointer a1), (.int .i64 a2)]) w ∧ Calls Try.prog 11 #[(.pointer a1), (.int .i64 a2)] w fun e w' => ∃ v, e = .returned v ∧ Out w w' ∧ straitref13_Row_Drop.ret K v w'.heap := by
  rw [← straitref13_Row_Drop.eq] at hh
  exact fn_calls (args := [(.pointer a1), (.int .i64 a2)]) (c := straitref13_Row_Drop.code) straitref13_Row_Drop.ok Try.func11 (by kernel_rfl) (by kernel_rfl) (by kernel_rfl) (by kernel_rfl) (loops_ok (l := [(straitref13_Row_Drop.c0, none, 0, straitref13_Row_Drop.keep0, straitref13_Row_Drop.outs0)]) (by kernel_rfl) ⟨straitref13_Row_Drop.L0, trivial⟩) hh w hw

/-! ### (*strait/straitref13.Row).Put: function 9 -/
def straitref13_Row_Put (a1 : Option Addr) (a2 : Int) (a3 : Int) (h : Heap) (K : Bool → Heap → Prop) : Prop :=
  (let j33 : Prop := (callP1 (straitref13_Row_Drop a1 a2 h) fun x9 h10 => (newP h10 (.cells #[(.int .i64 a2)] 3) fun a11 h12 => newP h12 (.cells #[(.int .i64 a3)] 3) fun a13 h14 => (chkP a1 fun a15 => ∃ (x16 : Option Addr) (x16l : Nat) (x16c : Nat), cell h14 (a15.add 1) = some (.slice x16 x16l x16c) ∧ ∃ n21, cellsAt h14 x16 (x16l * 1) n21 ∧ appP 3 1 8 [(.int .i64 0)] (some a11) 1 1 x16l n21 h14 fun q17 l18 c19 h20 => chkP a1 fun a22 => stC h20 (a22.add 1) (.slice q17 l18 c19) fun h23 => (chkP a1 fun a24 => ∃ (x25 : Option Addr) (x25l : Nat) (x25c : Nat), cell h23 (a24.add 2) = some (.slice x25 x25l x25c) ∧ ∃ n30, cellsAt h23 x25 (x25l * 1) n30 ∧ appP 3 1 8 [(.int .i64 0)] (some a13) 1 1 x25l n30 h23 fun q26 l27 c28 h29 => chkP a1 fun a31 => stC h29 (a31.add 2) (.slice q26 l27 c28) fun h32 => K true h32))));
  iteB (decide (a2 < (0 : Int))) (K false h) (chkP a1 fun a4 => ∃ (x5 : Int), cell h a4 = some (.int .i64 x5) ∧ iteB (decide (a2 ≥ x5)) (K false h) (iteB (decide (a3 < (0 : Int))) (K false h) (chkP a1 fun a6 => ∃ (x7 : Int), cell h a6 = some (.int .i64 x7) ∧ (iteB (decide (a3 > (IntKind.i64.wrap (2 * x7)))) (K false h) ((j33)))))))
def straitref13_Row_Put.ret (K : Bool → Heap → Prop) (v : Value) (h : Heap) : Prop := match v with
  | (.bool r34) => K r34 h
  | _ => False
theorem straitref13_Row_Put.ret_elim {K : Bool → Heap → Prop} {K' : Value → Heap → Prop} {v : Value} {h : Heap} (hk : ∀ r34 h, K r34 h → K' (.bool r34) h) (hh : straitref13_Row_Put.ret K v h) : K' v h := by
  unfold straitref13_Row_Put.ret at hh
  split at hh
  · exact hk _ _ hh
  · exact hh.elim
def straitref13_Row_Put.call (f : FuncId) (vs : List Value) (h : Heap) (K : Value → Heap → Prop) : Prop := match f, vs with
  | 11, [(.pointer a1), (.int .i64 a2)] => callP1 (straitref13_Row_Drop a1 a2 h) fun r13 h' => K (.bool r13) h'
  | _, _ => False
noncomputable def straitref13_Row_Put.ctx : Ctx := { P := Try.prog, call := straitref13_Row_Put.call, qcall := fun _ _ _ _ => False, quiet := fun f => false, loop := fun _ _ _ _ => False }
theorem straitref13_Row_Put.ok : straitref13_Row_Put.ctx.OK where
  mixed := by kernel_rfl
  mono := by
    intro f args h K K' hh hk
    change straitref13_Row_Put.call f args h K at hh
    change straitref13_Row_Put.call f args h K'
    unfold straitref13_Row_Put.call at hh ⊢
    split at hh
    · obtain ⟨R, h1, h2⟩ := hh
      exact ⟨R, h1, fun _ x hr => hk _ _ (h2 _ x hr)⟩
    · exact hh.elim
  call := by
    intro f args h K hh w hw
    change straitref13_Row_Put.call f args h K at hh
    unfold straitref13_Row_Put.call at hh
    split at hh
    · obtain ⟨R, h1, h2⟩ := hh
      obtain ⟨g1, g2⟩ := straitref13_Row_Drop.calls h1 w hw
      exact ⟨g1, g2.mono fun e w' ⟨v, he, ho, hr⟩ => ⟨v, he, ho, straitref13_Row_Drop.ret_elim h2 hr⟩⟩
    · exact hh.elim
  qmono := fun hh _ => hh.elim
  qval := fun hh => hh.elim
  qcall := fun hh => hh.elim
noncomputable def straitref13_Row_Put.code : Code := (Try.f9.body).getD .skip
def straitref13_Row_Put.ann : Ann := .auto
set_option maxRecDepth 100000 in
theorem straitref13_Row_Put.eq (a1 : Option Addr) (a2 : Int) (a3 : Int) (h : Heap) (K : Bool → Heap → Prop) : evF straitref13_Row_Put.ctx Try.f9 straitref13_Row_Put.ann [(.pointer a1), (.int .i64 a2), (.int .i64 a3)] h (straitref13_Row_Put.ret K) = straitref13_Row_Put a1 a2 a3 h K := by kernel_rfl
set_option maxRecDepth 100000 in
theorem straitref13_Row_Put.calls {a1 : Option Addr} {a2 : Int} {a3 : Int} {h : Heap} {K : Bool → Heap → Prop} (hh : straitref13_Row_Put a1 a2 a3 h K) (w : World) (hw : w.heap = h) :
    (callFunc 9 #[(.pointer a1), (.int .i64 a2), (.int .i64 a3)]).run Try.prog w = .ok (.enter 9 #[(.pointer a1), (.int .i64 a2), (.int .i64 a3)]) w ∧ Calls Try.prog 9 #[(.pointer a1), (.int .i64 a2), (.int .i64 a3)] w fun e w' => ∃ v, e = .returned v ∧ Out w w' ∧ straitref13_Row_Put.ret K v w'.heap := by
  rw [← straitref13_Row_Put.eq] at hh
  exact fn_calls (args := [(.pointer a1), (.int .i64 a2), (.int .i64 a3)]) (c := straitref13_Row_Put.code) straitref13_Row_Put.ok Try.func9 (by kernel_rfl) (by kernel_rfl) (by kernel_rfl) (by kernel_rfl) (loops_ok (l := []) (by kernel_rfl) trivial) hh w hw

/-! ### (*strait/straitref13.Row).Highest: function 22 -/
def straitref13_Row_Highest.b0 (K2 : Heap → Prop) (cont : (Option Addr) → Addr → Addr → Int → Heap → Prop) (c0_1001 : Option Addr) (c2_1002 : Addr) (c3_1003 : Addr) (v4_1004 : Int) (h1005 : Heap) : Prop :=
  chkP c0_1001 fun a1006 => ∃ (x1007 : Option Addr) (x1007l : Nat) (x1007c : Nat), cell h1005 (a1006.add 1) = some (.slice x1007 x1007l x1007c) ∧ (iteB (decide (v4_1004 < (x1007l : Int))) ((let j1026 := (fun (y1014 : Bool) => iteB y1014 (chkP c0_1001 fun a1015 => ∃ (x1016 : Option Addr) (x1016l : Nat) (x1016c : Nat), cell h1005 (a1015.add 1) = some (.slice x1016 x1016l x1016c) ∧ chkP x1016 fun a1017 => (0 ≤ v4_1004 ∧ v4_1004 < (x1016l : Int)) ∧ ∃ (x1018 : Int), cell h1005 (a1017.add (v4_1004.toNat * 1)) = some (.int .i64 x1018) ∧ chkP c0_1001 fun a1019 => ∃ (x1020 : Option Addr) (x1020l : Nat) (x1020c : Nat), cell h1005 (a1019.add 2) = some (.slice x1020 x1020l x1020c) ∧ chkP x1020 fun a1021 => (0 ≤ v4_1004 ∧ v4_1004 < (x1020l : Int)) ∧ ∃ (x1022 : Int), cell h1005 (a1021.add (v4_1004.toNat * 1)) = some (.int .i64 x1022) ∧ stC h1005 c3_1003 (.int .i64 x1018) fun h1023 => stC h1023 (c3_1003.add 1) (.int .i64 x1022) fun h1024 => stC h1024 (c3_1003.add 2) (.bool true) fun h1025 => ((cont c0_1001 c2_1002 c3_1003 (IntKind.i64.wrap (v4_1004 + 1)) h1025))) (((cont c0_1001 c2_1002 c3_1003 (IntKind.i64.wrap (v4_1004 + 1)) h1005))));
  ∃ (x1008 : Bool), cell h1005 (c3_1003.add 2) = some (.bool x1008) ∧ iteB (!x1008) ((j1026 true)) (chkP c0_1001 fun a1009 => ∃ (x1010 : Option Addr) (x1010l : Nat) (x1010c : Nat), cell h1005 (a1009.add 2) = some (.slice x1010 x1010l x1010c) ∧ chkP x1010 fun a1011 => (0 ≤ v4_1004 ∧ v4_1004 < (x1010l : Int)) ∧ ∃ (x1012 : Int), cell h1005 (a1011.add (v4_1004.toNat * 1)) = some (.int .i64 x1012) ∧ ∃ (x1013 : Int), cell h1005 (c3_1003.add 1) = some (.int .i64 x1013) ∧ (j1026 (decide (x1012 > x1013)))))) (K2 h1005))
def straitref13_Row_Highest.l0 (K2 : Heap → Prop) : Nat → (Option Addr) → Addr → Addr → Int → Heap → Prop
  | 0, _, _, _, _, _ => False
  | m + 1, c0_1001, c2_1002, c3_1003, v4_1004, h => straitref13_Row_Highest.b0 K2 (straitref13_Row_Highest.l0 K2 m) c0_1001 c2_1002 c3_1003 v4_1004 h
def straitref13_Row_Highest (a1 : Option Addr) (h : Heap) (K : Int → Int → Bool → Heap → Prop) : Prop :=
  newP h (.cells #[(.int .i64 0), (.int .i64 0), (.bool false)] 51) fun a2 h3 => (newP h3 (.cells #[(.int .i64 0), (.int .i64 0), (.bool false)] 51) fun a4 h5 => ((∃ m7, straitref13_Row_Highest.l0 (fun h6 => ((∃ (x8 : Int), cell h6 a4 = some (.int .i64 x8) ∧ ∃ (x9 : Int), cell h6 (a4.add 1) = some (.int .i64 x9) ∧ ∃ (x10 : Bool), cell h6 (a4.add 2) = some (.bool x10) ∧ stC h6 a2 (.int .i64 x8) fun h11 => stC h11 (a2.add 1) (.int .i64 x9) fun h12 => stC h12 (a2.add 2) (.bool x10) fun h13 => (∃ (x14 : Int), cell h13 a2 = some (.int .i64 x14) ∧ ∃ (x15 : Int), cell h13 (a2.add 1) = some (.int .i64 x15) ∧ ∃ (x16 : Bool), cell h13 (a2.add 2) = some (.bool x16) ∧ K x14 x15 x16 h13)))) m7 a1 a2 a4 0 h5)))
def straitref13_Row_Highest.ret (K : Int → Int → Bool → Heap → Prop) (v : Value) (h : Heap) : Prop := match v with
  | (.agg ⟨[(.int .i64 r17), (.int .i64 r18), (.bool r19)]⟩) => K r17 r18 r19 h
  | _ => False
theorem straitref13_Row_Highest.ret_elim {K : Int → Int → Bool → Heap → Prop} {K' : Value → Heap → Prop} {v : Value} {h : Heap} (hk : ∀ r17 r18 r19 h, K r17 r18 r19 h → K' (.agg #[(.int .i64 r17), (.int .i64 r18), (.bool r19)]) h) (hh : straitref13_Row_Highest.ret K v h) : K' v h := by
  unfold straitref13_Row_Highest.ret at hh
  split at hh
  · exact hk _ _ _ _ hh
  · exact hh.elim
def straitref13_Row_Highest.r0 (K : Nat → List Value → Heap → Prop) (m : Nat) (vs : List Value) (h : Heap) : Prop := match vs with
  | [(.pointer c0_1001), (.pointer (some c2_1002)), (.pointer (some c3_1003)), (.int .i64 v4_1004)] => straitref13_Row_Highest.l0 (fun h' => K 2 [(.pointer (some c2_1002)), (.pointer (some c3_1003))] h') m c0_1001 c2_1002 c3_1003 v4_1004 h
  | _ => False
def straitref13_Row_Highest.loop (i : Nat) (vs : List Value) (h : Heap) (K : Nat → List Value → Heap → Prop) : Prop := match i with
  | 0 => ∃ m, straitref13_Row_Highest.r0 K m vs h
  | _ => False
noncomputable def straitref13_Row_Highest.ctx : Ctx := { P := Try.prog, call := fun _ _ _ _ => False, qcall := fun _ _ _ _ => False, quiet := fun f => false, loop := straitref13_Row_Highest.loop }
theorem straitref13_Row_Highest.ok : straitref13_Row_Highest.ctx.OK where
  mixed := by kernel_rfl
  mono := fun hh _ => hh.elim
  call := fun hh => hh.elim
  qmono := fun hh _ => hh.elim
  qval := fun hh => hh.elim
  qcall := fun hh => hh.elim
noncomputable def straitref13_Row_Highest.code : Code := (Try.f22.body).getD .skip
def straitref13_Row_Highest.ann : Ann := (.two .auto (.two .auto (.two (.two .auto (.two (.loop 0 [0, 2, 3, 4] [(2, [2, 3])] (.two .auto (.two (.two (.two (.reg [0, 1, 3, 7, 15, 31, 63, 127, 15, 511, 1023, 15, 2063, 8191, 16383] (.take 0 (.take 1 (.take 2 (.take 3 (.take 4 (.take 5 (.take 6 (.take 7 (.take 8 (.take 9 (.take 10 (.take 11 (.take 12 (.take 13 (.take 14 .done)))))))))))))))) (.two (.reg [0, 1, 3, 7, 0, 31, 63, 0, 128, 384, 896, 0, 3968, 8064, 16383, 32767] (.take 0 (.take 1 (.take 2 (.take 3 (.take 4 (.take 5 (.take 6 (.take 7 (.take 8 (.take 9 (.take 10 (.take 11 (.take 12 (.take 13 (.take 14 (.alt 15 .done .noalt))))))))))))))))) .auto)) .auto) .auto))) .auto)) .auto)))
noncomputable def straitref13_Row_Highest.c0 : Code := sub straitref13_Row_Highest.code [1, 1, 0, 1, 0, 0]
def straitref13_Row_Highest.a0 : Ann := (.two .auto (.two (.two (.two (.reg [0, 1, 3, 7, 15, 31, 63, 127, 15, 511, 1023, 15, 2063, 8191, 16383] (.take 0 (.take 1 (.take 2 (.take 3 (.take 4 (.take 5 (.take 6 (.take 7 (.take 8 (.take 9 (.take 10 (.take 11 (.take 12 (.take 13 (.take 14 .done)))))))))))))))) (.two (.reg [0, 1, 3, 7, 0, 31, 63, 0, 128, 384, 896, 0, 3968, 8064, 16383, 32767] (.take 0 (.take 1 (.take 2 (.take 3 (.take 4 (.take 5 (.take 6 (.take 7 (.take 8 (.take 9 (.take 10 (.take 11 (.take 12 (.take 13 (.take 14 (.alt 15 .done .noalt))))))))))))))))) .auto)) .auto) .auto))
def straitref13_Row_Highest.keep0 : List Nat := [0, 2, 3, 4]
def straitref13_Row_Highest.outs0 : List (Nat × List Nat) := [(2, [2, 3])]
set_option maxRecDepth 100000 in
theorem straitref13_Row_Highest.L0 : LoopOK straitref13_Row_Highest.ctx 45 straitref13_Row_Highest.c0 0 straitref13_Row_Highest.keep0 straitref13_Row_Highest.outs0 := by
  refine loop_ok (n := straitref13_Row_Highest.a0) straitref13_Row_Highest.ok (by kernel_rfl) (loops_ok (l := []) (by kernel_rfl) ?_) straitref13_Row_Highest.r0 ?_ ?_ (fun vs h K hh => hh)
  · exact trivial
  · intro K vs h hh
    unfold straitref13_Row_Highest.r0 at hh
    split at hh
    · exact hh
    · exact hh
  · intro K m vs h hh
    unfold straitref13_Row_Highest.r0 at hh
    split at hh
    · exact cast (by kernel_rfl) hh
    · exact hh.elim
set_option maxRecDepth 100000 in
theorem straitref13_Row_Highest.eq (a1 : Option Addr) (h : Heap) (K : Int → Int → Bool → Heap → Prop) : evF straitref13_Row_Highest.ctx Try.f22 straitref13_Row_Highest.ann [(.pointer a1)] h (straitref13_Row_Highest.ret K) = straitref13_Row_Highest a1 h K := by kernel_rfl
set_option maxRecDepth 100000 in
theorem straitref13_Row_Highest.calls {a1 : Option Addr} {h : Heap} {K : Int → Int → Bool → Heap → Prop} (hh : straitref13_Row_Highest a1 h K) (w : World) (hw : w.heap = h) :
    (callFunc 22 #[(.pointer a1)]).run Try.prog w = .ok (.enter 22 #[(.pointer a1)]) w ∧ Calls Try.prog 22 #[(.pointer a1)] w fun e w' => ∃ v, e = .returned v ∧ Out w w' ∧ straitref13_Row_Highest.ret K v w'.heap := by
  rw [← straitref13_Row_Highest.eq] at hh
  exact fn_calls (args := [(.pointer a1)]) (c := straitref13_Row_Highest.code) straitref13_Row_Highest.ok Try.func22 (by kernel_rfl) (by kernel_rfl) (by kernel_rfl) (by kernel_rfl) (loops_ok (l := [(straitref13_Row_Highest.c0, none, 0, straitref13_Row_Highest.keep0, straitref13_Row_Highest.outs0)]) (by kernel_rfl) ⟨straitref13_Row_Highest.L0, trivial⟩) hh w hw

/-! ### (*strait/straitref13.Row).Label: function 23 -/
def straitref13_Row_Label.b0 (K0 : Int → Heap → Prop) (K2 : Heap → Prop) (cont : (Option Addr) → Int → Int → Heap → Prop) (c0_1001 : Option Addr) (c1_1002 : Int) (v5_1003 : Int) (h1004 : Heap) : Prop :=
  chkP c0_1001 fun a1005 => ∃ (x1006 : Option Addr) (x1006l : Nat) (x1006c : Nat), cell h1004 (a1005.add 1) = some (.slice x1006 x1006l x1006c) ∧ (iteB (decide (v5_1003 < (x1006l : Int))) ((chkP c0_1001 fun a1007 => ∃ (x1008 : Option Addr) (x1008l : Nat) (x1008c : Nat), cell h1004 (a1007.add 1) = some (.slice x1008 x1008l x1008c) ∧ chkP x1008 fun a1009 => (0 ≤ v5_1003 ∧ v5_1003 < (x1008l : Int)) ∧ ∃ (x1010 : Int), cell h1004 (a1009.add (v5_1003.toNat * 1)) = some (.int .i64 x1010) ∧ (iteB (x1010 == c1_1002) (chkP c0_1001 fun a1011 => ∃ (x1012 : Option Addr) (x1012l : Nat) (x1012c : Nat), cell h1004 (a1011.add 2) = some (.slice x1012 x1012l x1012c) ∧ chkP x1012 fun a1013 => (0 ≤ v5_1003 ∧ v5_1003 < (x1012l : Int)) ∧ ∃ (x1014 : Int), cell h1004 (a1013.add (v5_1003.toNat * 1)) = some (.int .i64 x1014) ∧ K0 x1014 h1004) (((cont c0_1001 c1_1002 (IntKind.i64.wrap (v5_1003 + 1)) h1004)))))) (K2 h1004))
def straitref13_Row_Label.l0 (K0 : Int → Heap → Prop) (K2 : Heap → Prop) : Nat → (Option Addr) → Int → Int → Heap → Prop
  | 0, _, _, _, _ => False
  | m + 1, c0_1001, c1_1002, v5_1003, h => straitref13_Row_Label.b0 K0 K2 (straitref13_Row_Label.l0 K0 K2 m) c0_1001 c1_1002 v5_1003 h
def straitref13_Row_Label (a1 : Option Addr) (a2 : Int) (h : Heap) (K : Int → Heap → Prop) : Prop :=
  ((∃ m6, straitref13_Row_Label.l0 (fun z3 h4 => K z3 h4) (fun h5 => (((K (-1) h5)))) m6 a1 a2 0 h))
def straitref13_Row_Label.ret (K : Int → Heap → Prop) (v : Value) (h : Heap) : Prop := match v with
  | (.int .i64 r7) => K r7 h
  | _ => False
theorem straitref13_Row_Label.ret_elim {K : Int → Heap → Prop} {K' : Value → Heap → Prop} {v : Value} {h : Heap} (hk : ∀ r7 h, K r7 h → K' (.int .i64 r7) h) (hh : straitref13_Row_Label.ret K v h) : K' v h := by
  unfold straitref13_Row_Label.ret at hh
  split at hh
  · exact hk _ _ hh
  · exact hh.elim
def straitref13_Row_Label.r0 (K : Nat → List Value → Heap → Prop) (m : Nat) (vs : List Value) (h : Heap) : Prop := match vs with
  | [(.pointer c0_1001), (.int .i64 c1_1002), (.int .i64 v5_1003)] => straitref13_Row_Label.l0 (fun z8 h' => K 0 [(.int .i64 z8)] h') (fun h' => K 2 [] h') m c0_1001 c1_1002 v5_1003 h
  | _ => False
def straitref13_Row_Label.loop (i : Nat) (vs : List Value) (h : Heap) (K : Nat → List Value → Heap → Prop) : Prop := match i with
  | 0 => ∃ m, straitref13_Row_Label.r0 K m vs h
  | _ => False
noncomputable def straitref13_Row_Label.ctx : Ctx := { P := Try.prog, call := fun _ _ _ _ => False, qcall := fun _ _ _ _ => False, quiet := fun f => false, loop := straitref13_Row_Label.loop }
theorem straitref13_Row_Label.ok : straitref13_Row_Label.ctx.OK where
  mixed := by kernel_rfl
  mono := fun hh _ => hh.elim
  call := fun hh => hh.elim
  qmono := fun hh _ => hh.elim
  qval := fun hh => hh.elim
  qcall := fun hh => hh.elim
noncomputable def straitref13_Row_Label.code : Code := (Try.f23.body).getD .skip
def straitref13_Row_Label.ann : Ann := (.two .auto (.two (.two .auto (.two (.loop 0 [0, 1, 5] [(2, []), (0, [4])] .auto) .auto)) .auto))
noncomputable def straitref13_Row_Label.c0 : Code := sub straitref13_Row_Label.code [1, 0, 1, 0, 0]
def straitref13_Row_Label.a0 : Ann := .auto
def straitref13_Row_Label.keep0 : List Nat := [0, 1, 5]
def straitref13_Row_Label.outs0 : List (Nat × List Nat) := [(2, []), (0, [4])]
set_option maxRecDepth 100000 in
theorem straitref13_Row_Label.L0 : LoopOK straitref13_Row_Label.ctx 31 straitref13_Row_Label.c0 0 straitref13_Row_Label.keep0 straitref13_Row_Label.outs0 := by
  refine loop_ok (n := straitref13_Row_Label.a0) straitref13_Row_Label.ok (by kernel_rfl) (loops_ok (l := []) (by kernel_rfl) ?_) straitref13_Row_Label.r0 ?_ ?_ (fun vs h K hh => hh)
  · exact trivial
  · intro K vs h hh
    unfold straitref13_Row_Label.r0 at hh
    split at hh
    · exact hh
    · exact hh
  · intro K m vs h hh
    unfold straitref13_Row_Label.r0 at hh
    split at hh
    · exact cast (by kernel_rfl) hh
    · exact hh.elim
set_option maxRecDepth 100000 in
theorem straitref13_Row_Label.eq (a1 : Option Addr) (a2 : Int) (h : Heap) (K : Int → Heap → Prop) : evF straitref13_Row_Label.ctx Try.f23 straitref13_Row_Label.ann [(.pointer a1), (.int .i64 a2)] h (straitref13_Row_Label.ret K) = straitref13_Row_Label a1 a2 h K := by kernel_rfl
set_option maxRecDepth 100000 in
theorem straitref13_Row_Label.calls {a1 : Option Addr} {a2 : Int} {h : Heap} {K : Int → Heap → Prop} (hh : straitref13_Row_Label a1 a2 h K) (w : World) (hw : w.heap = h) :
    (callFunc 23 #[(.pointer a1), (.int .i64 a2)]).run Try.prog w = .ok (.enter 23 #[(.pointer a1), (.int .i64 a2)]) w ∧ Calls Try.prog 23 #[(.pointer a1), (.int .i64 a2)] w fun e w' => ∃ v, e = .returned v ∧ Out w w' ∧ straitref13_Row_Label.ret K v w'.heap := by
  rw [← straitref13_Row_Label.eq] at hh
  exact fn_calls (args := [(.pointer a1), (.int .i64 a2)]) (c := straitref13_Row_Label.code) straitref13_Row_Label.ok Try.func23 (by kernel_rfl) (by kernel_rfl) (by kernel_rfl) (by kernel_rfl) (loops_ok (l := [(straitref13_Row_Label.c0, none, 0, straitref13_Row_Label.keep0, straitref13_Row_Label.outs0)]) (by kernel_rfl) ⟨straitref13_Row_Label.L0, trivial⟩) hh w hw

end Go.Proofs.Ythcbigbgfekmdaa
