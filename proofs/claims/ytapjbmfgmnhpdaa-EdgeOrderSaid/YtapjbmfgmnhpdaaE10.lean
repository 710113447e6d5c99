/-
  Edges: awake, and the laws that compare.
-/
import Derived.Test.YtapjbmfgmnhpdaaE9
import Derived.Test.YtapjbmfgmnhpdaaRd
namespace Go.Proofs.Ytapjbmfgmnhpdaa
set_option linter.unusedVariables false
set_option linter.unusedSimpArgs false
set_option linter.unnecessarySimpa false
open Go.Hp Go.RowKit
attribute [local irreducible] Go.Hp.iteB Go.Hp.stC Go.Hp.newP

theorem eV_rows {h : Heap} {q : Option Addr} {l : List Ed} (hr : rowsAt h q 3 (l.map Ed.vs)) : valsAt h q (eV l) := fun t v hv => by
  have ht := lt_get hv
  rw [eV_len] at ht
  obtain ⟨e, he⟩ := get_lt (l := l) (i := t / 3) (by omega)
  have e1 := eV_get (o := t % 3) he (by omega)
  rw [show t / 3 * 3 + t % 3 = t by omega, hv] at e1
  obtain ⟨a, ha, hc⟩ := hr (t / 3) (Ed.vs e) (by simp [he])
  have := hc (t % 3) v e1.symm
  rw [show t / 3 * 3 + t % 3 = t by omega] at this
  exact ⟨a, ha, this⟩

theorem addP_len {e : Ed} : ∀ {P Q : List Ed}, addP P e = some Q → Q.length ≤ P.length + 1
  | [], Q, h => by simp only [addP, Option.some.injEq] at h; subst h; simp
  | x :: r, Q, h => by
    rw [addP_cons] at h
    split at h
    · split at h
      · simp only [Option.some.injEq] at h; subst h; simp
      · cases h
    · obtain ⟨t, ht, rfl⟩ := Option.map_eq_some_iff.1 h
      have := addP_len ht
      simp only [List.length_cons]; omega
theorem fold_len : ∀ (l P Q : List Ed), l.foldl stepP (some P) = some Q → Q.length ≤ P.length + l.length
  | [], P, Q, h => by simp only [List.foldl_nil, Option.some.injEq] at h; subst h; simp
  | x :: l, P, Q, h => by
    simp only [List.foldl_cons, stepP] at h
    split at h
    · have := fold_len l P Q h; simp only [List.length_cons]; omega
    · cases ha : addP P (normE x) with
      | none => rw [ha, step_none] at h; cases h
      | some P' =>
        rw [ha] at h
        have := fold_len l P' Q h
        have := addP_len ha
        simp only [List.length_cons]; omega
theorem mergeP_len {l P : List Ed} (h : mergeP l = some P) : P.length ≤ l.length := by have := fold_len l [] P h; simpa using this

def three : List Ed := [(2, 1, 3), (1, 2, 4), (1, 1, 9)]
theorem three_P : mergeP three = some [(1, 2, 7)] := by decide
theorem three_S : sortEd ([((1, 2, 7) : Ed)].filter nz) = [(1, 2, 7)] := sortEd_one (.refl _) (List.pairwise_singleton _ _)
theorem three_fits : fitsL three := by
  intro e he
  simp only [three, List.mem_cons, List.not_mem_nil, or_false] at he
  rcases he with rfl | rfl | rfl <;> decide

section
variable {h0 : Base} {R : Rws}
theorem awake_of {h : Heap} {K : Bool → Heap → Prop} (s : St h0 h R) (hk : ∀ h', St h0 h' R → K true h') : straitlaw15_awake h K := by
  unfold straitlaw15_awake
  refine St.new_ (cs := eV three) s fun b h1 s1 => ?_
  refine callP4.self (Merge_of (l := three) rfl (by omega) three_fits (Keeps.row (b := b) (l := eV three) (by simp)) s1 (fun no => by rw [three_P] at no; cases no) (fun P hP h2 q c X o s2 => ?_))
  rw [three_P] at hP
  obtain rfl := Option.some.inj hP
  rw [three_S] at o
  have hx : [((1, 2, 7) : Ed)][0]? = some (1, 2, 7) := rfl
  have l1 : ([((1, 2, 7) : Ed)].filter nz).length = 1 := rfl
  rw [l1]
  have vp := o.vals s2
  refine iteB_pos rfl (iteB_pos rfl ?_)
  have ve : ∀ (hh : Heap) (vp : valsAt hh q (eV [(1, 2, 7)])) {G : Int → Int → Int → Prop}, (chkP q fun a => (0 ≤ (0 : Int) ∧ (0 : Int) < ((1 : Nat) : Int)) ∧ ∃ x : Int, cell hh (a.add ((0 : Int).toNat * 3)) = some (.int .i64 x) ∧ ∃ y : Int, cell hh ((a.add ((0 : Int).toNat * 3)).add 1) = some (.int .i64 y) ∧ ∃ z : Int, cell hh ((a.add ((0 : Int).toNat * 3)).add 2) = some (.int .i64 z) ∧ G x y z) = G 1 2 7 := by
    intro hh vp G
    simp -zeta (disch := omega) only [bnd_in]
    exact vals_edge vp hx
  rw [ve h2 vp]
  refine iteB_pos rfl ?_
  rw [ve h2 vp]
  refine callP1.self (Check_of (e := (1, 2, 7)) s2 fun h3 s3 => iteB_pos rfl ?_)
  have vp3 := o.vals s3
  rw [ve h3 vp3]
  refine callP1.self (Check_of (e := (1, 2, 7)) s3 fun h4 s4 => iteB_pos rfl ?_)
  refine callP1.self (Find_of (l := [(1, 2, 7)]) rfl (by omega) (o.keeps fun x hx => by simp [hx]) s4 fun h5 s5 => ?_)
  have := hk h5 s5.drop.tail
  exact this

theorem tells_l0 {K0 : Bool → Heap → Prop} {K2 : Heap → Prop} {b k cl : Nat} {q : Option Addr} {l : List Ed} {e : Ed} (hl : l.length = k) (hb : k < 2 ^ 30) (kl : Keeps h0 R q (eV l)) (hm : (b, Ed.vs e) ∈ R)
    (hk2 : ∀ h', St h0 h' R → K2 h') : ∀ (d i : Nat) (h : Heap), i + d = k → St h0 h R → straitlaw15_EdgeTells.l0 K0 K2 (d + 1) q k cl ⟨b, 0, none⟩ (i : Int) h
  | 0, i, h, hi, s => by
    unfold straitlaw15_EdgeTells.l0 straitlaw15_EdgeTells.b0
    exact iteB_neg (decide_eq_false (by omega)) (hk2 h s)
  | d + 1, i, h, hi, s => by
    unfold straitlaw15_EdgeTells.l0 straitlaw15_EdgeTells.b0
    obtain ⟨⟨u, v, w⟩, hx⟩ := get_lt (l := l) (i := i) (by omega)
    obtain ⟨x, y, z⟩ := e
    refine iteB_pos (decide_eq_true (by omega)) ?_
    have vl := kl.at0 s
    have r0 : ∀ j, cell h ⟨b, j, none⟩ = [Value.int .i64 x, .int .i64 y, .int .i64 z][j]? := s.rd hm
    obtain ⟨a, rfl, g0⟩ := vl _ _ (eV_get0 hx)
    obtain ⟨a1, ha1, g1⟩ := vl _ _ (eV_get1 hx)
    obtain ⟨a2, ha2, g2⟩ := vl _ _ (eV_get2 hx)
    cases ha1; cases ha2
    simp -zeta (disch := omega) only [chkP_some, Int.toNat_natCast, bnd_in, addr_add, g0, g1, g2, ex_int]
    simp -zeta (disch := omega) only [add_mk, Nat.zero_add, r0, ex_int, List.getElem?_cons_zero, List.getElem?_cons_succ]
    refine callP1.self (Cmp_of (e := (x, y, z)) (f := (u, v, w)) s fun h2 s2 => ?_)
    have r2 : ∀ j, cell h2 ⟨b, j, none⟩ = [Value.int .i64 x, .int .i64 y, .int .i64 z][j]? := s2.rd hm
    have vl2 := kl.at0 s2
    obtain ⟨a, ha0, g0⟩ := vl2 _ _ (eV_get0 hx)
    obtain ⟨a1, ha1, g1⟩ := vl2 _ _ (eV_get1 hx)
    obtain ⟨a2, ha2, g2⟩ := vl2 _ _ (eV_get2 hx)
    cases ha0; cases ha1; cases ha2
    refine ⟨⟨u, g0, v, g1, w, g2, rfl⟩, ⟨x, by rw [r2]; rfl, y, by rw [r2]; rfl, z, by rw [r2]; rfl, rfl⟩, ?_⟩
    refine callP1.self (RCmp_of (e := (x, y, z)) (f := (u, v, w)) s2 fun h3 s3 => iteB_neg (by simp) ?_)
    rw [wrap64 (by omega) (by omega)]
    exact tells_l0 hl hb kl hm hk2 d (i + 1) h3 (by omega) s3
end

theorem Tells_of {h : Heap} {k cl : Nat} {n : Int} {q : Option Addr} {l : List Ed} {e : Ed} {K : Bool → Heap → Prop} (hl : l.length = k) (hw : fitsL l) (vl : valsAt h q (eV l))
    (hk : ∀ h', Ext h h' → K true h') : straitlaw15_EdgeTells n q k cl e.1 e.2.1 e.2.2 h K := by
  obtain ⟨x, y, z⟩ := e
  unfold straitlaw15_EdgeTells
  refine St.new_ (cs := Ed.vs (x, y, z)) (St.refl h) fun b h1 s1 => ?_
  refine iteB_intro (fun c => ?_) (fun c => ?_)
  · exact callP1.self (awake_of s1 fun h2 s2 => hk h2 s2.ext)
  have c := of_decide_eq_false c
  have hb : k < 2 ^ 30 := by omega
  have kl : Keeps (h : Base) [(b, Ed.vs (x, y, z))] q (eV l) := Keeps.old vl
  have hm : (b, Ed.vs (x, y, z)) ∈ [(b, Ed.vs (x, y, z))] := by simp
  refine callP2.self (Checks_of hl (by omega) kl s1 fun h2 s2 => ?_)
  intro j
  have J : ∀ h3, St h h3 [(b, Ed.vs (x, y, z))] → j h3 := fun h3 s3 => by
    simp -zeta only [j]
    refine ⟨k + 1, tells_l0 (e := (x, y, z)) hl hb kl hm (fun h4 s4 => ?_) k 0 h3 (by omega) s3⟩
    refine callP2.self (Total_of hl (by omega) hw kl s4 fun h5 s5 => ?_)
    have r0 := s5.rd0
    simp only [Ed.vs] at r0
    simp -zeta (disch := omega) only [chkP_some, iteB_true, iteB_false, add_mk, Nat.zero_add, Nat.add_zero, Nat.mul_one, Nat.reduceAdd, Int.toNat_natCast, ex_int, ex_slice, ex_ptr, ex_bool, ex_str, ex_flt, ex_any, bnd_in, List.getElem?_cons_zero, List.getElem?_cons_succ, List.set_cons_zero, List.set_cons_succ, List.cons_append, List.nil_append, bne_self_eq_false, beq_self_eq_true, Bool.not_true, Bool.not_false, Option.isNone_some, Option.isNone_none, eq_self, true_and, and_true, and_self, r0]
    refine callP1.self (Find_of (u := x) (v := y) hl (by omega) kl s5 fun h6 s6 => ?_)
    have r0 := s6.rd0
    simp only [Ed.vs] at r0
    simp -zeta (disch := omega) only [chkP_some, iteB_true, iteB_false, add_mk, Nat.zero_add, Nat.add_zero, Nat.mul_one, Nat.reduceAdd, Int.toNat_natCast, ex_int, ex_slice, ex_ptr, ex_bool, ex_str, ex_flt, ex_any, bnd_in, List.getElem?_cons_zero, List.getElem?_cons_succ, List.set_cons_zero, List.set_cons_succ, List.cons_append, List.nil_append, bne_self_eq_false, beq_self_eq_true, Bool.not_true, Bool.not_false, Option.isNone_some, Option.isNone_none, eq_self, true_and, and_true, and_self, r0]
    refine qcallP1.of _ (fun Q hQ => RFind_of (u := x) (v := y) hl (by omega) (kl.at0 s6) hQ) (iteB_pos (by simp) ?_)
    refine callP2.self (RTotal_of hl hb hw kl s6 fun h7 s7 => iteB_pos (by simp [eqAll]) ?_)
    exact callP1.self (awake_of s7 fun h8 s8 => hk h8 s8.ext)
  clear_value j
  refine callP2.self (RChecks_of hl (by omega) kl s2 fun h3 s3 => iteB_neg (by simp [eqAll]) ?_)
  have r0 := s3.rd0
  simp only [Ed.vs] at r0
  simp -zeta (disch := omega) only [chkP_some, iteB_true, iteB_false, add_mk, Nat.zero_add, Nat.add_zero, Nat.mul_one, Nat.reduceAdd, Int.toNat_natCast, ex_int, ex_slice, ex_ptr, ex_bool, ex_str, ex_flt, ex_any, bnd_in, List.getElem?_cons_zero, List.getElem?_cons_succ, List.set_cons_zero, List.set_cons_succ, List.cons_append, List.nil_append, bne_self_eq_false, beq_self_eq_true, Bool.not_true, Bool.not_false, Option.isNone_some, Option.isNone_none, eq_self, true_and, and_true, and_self, r0]
  refine callP1.self (Check_of (e := (x, y, z)) s3 fun h4 s4 => ?_)
  have r0 := s4.rd0
  simp only [Ed.vs] at r0
  refine ⟨⟨x, by rw [r0]; rfl, y, by rw [r0]; rfl, z, by rw [r0]; rfl, rfl⟩, ?_⟩
  refine callP1.self (RCheck_of (e := (x, y, z)) s4 fun h5 s5 => iteB_neg (by simp) ?_)
  have r0 := s5.rd0
  simp only [Ed.vs] at r0
  simp -zeta (disch := omega) only [chkP_some, iteB_true, iteB_false, add_mk, Nat.zero_add, Nat.add_zero, Nat.mul_one, Nat.reduceAdd, Int.toNat_natCast, ex_int, ex_slice, ex_ptr, ex_bool, ex_str, ex_flt, ex_any, bnd_in, List.getElem?_cons_zero, List.getElem?_cons_succ, List.set_cons_zero, List.set_cons_succ, List.cons_append, List.nil_append, bne_self_eq_false, beq_self_eq_true, Bool.not_true, Bool.not_false, Option.isNone_some, Option.isNone_none, eq_self, true_and, and_true, and_self, r0]
  refine callP3.self (Normal_of (e := (x, y, z)) s5 fun h6 s6 => ?_)
  have r0 := s6.rd0
  simp only [Ed.vs] at r0
  refine ⟨⟨x, by rw [r0]; rfl, y, by rw [r0]; rfl, z, by rw [r0]; rfl, rfl⟩, ?_⟩
  exact callP3.self (RNormal_of (e := (x, y, z)) s6 fun h7 s7 => iteB_neg (by simp [eqAll]) (J h7 s7))

theorem Merges_of {h : Heap} {k cl : Nat} {q : Option Addr} {l : List Ed} {K : Bool → Heap → Prop} (hl : l.length = k) (hw : fitsL l) (vl : valsAt h q (eV l))
    (hk : ∀ h', Ext h h' → K true h') : straitlaw15_EdgeMerges q k cl h K := by
  unfold straitlaw15_EdgeMerges
  refine iteB_intro (fun c => ?_) (fun c => ?_)
  · exact callP1.self (awake_of (St.refl h) fun h2 s2 => hk h2 s2.ext)
  have c := of_decide_eq_false c
  have hb : k < 2 ^ 30 := by omega
  have kl : Keeps (h : Base) [] q (eV l) := Keeps.old vl
  -- splits and the end, from two results that are the same
  have fin : ∀ (M : List Ed) (ok : Bool) (q1 q2 : Option Addr) (c1 c2 : Nat) (X1 X2 : Rws) (h3 : Heap), M.length < 2 ^ 30 → Own3 q1 c1 M X1 → Own3 q2 c2 M X2 → St h h3 (X2 ++ X1) →
      newP h3 (.cells #[(.slice none 0 0), (.bool false)] 45) fun a10 h11 => stC h11 a10 (.slice q2 M.length c2) fun h12 => stC h12 (a10.add 1) (.bool ok) fun h13 => (callP4 (edge_Split q k cl h13) fun x14 x14l x14c x15 h16 => (callP4 (straitref15_Split q k cl h16) fun x17 x17l x17c x18 h19 => newP h19 (.cells #[(.slice none 0 0), (.bool false)] 45) fun a20 h21 => stC h21 a20 (.slice x17 x17l x17c) fun h22 => stC h22 (a20.add 1) (.bool x18) fun h23 => (∃ (x24 : Bool), cell h23 (a10.add 1) = some (.bool x24) ∧ iteB (ok == x24) (∃ (x25 : Option Addr) (x25l : Nat) (x25c : Nat), cell h23 a10 = some (.slice x25 x25l x25c) ∧ qcallP1 h23 (straitref15_Same q1 M.length c1 x25 x25l x25c h23) fun x26 => iteB x26 (∃ (x27 : Bool), cell h23 (a20.add 1) = some (.bool x27) ∧ iteB (x15 == x27) (∃ (x28 : Option Addr) (x28l : Nat) (x28c : Nat), cell h23 a20 = some (.slice x28 x28l x28c) ∧ qcallP1 h23 (straitref15_Same x14 x14l x14c x28 x28l x28c h23) fun x29 => iteB x29 (callP1 (straitlaw15_awake h23) fun x30 h31 => K x30 h31) (K false h23)) (K false h23)) (K false h23)) (K false h23)))) := by
    intro M ok q1 q2 c1 c2 X1 X2 h3 hM o1 o2 s3
    refine s3.new_ fun b h4 s4 => s4.st0 (by simp) fun h5 s5 => ?_
    simp -zeta only [chkP_some, iteB_true, iteB_false, add_mk, Nat.zero_add, Nat.add_zero, Nat.mul_one, Nat.reduceAdd, Int.toNat_natCast, ex_int, ex_slice, ex_ptr, ex_bool, ex_str, ex_flt, ex_any, bnd_in, List.getElem?_cons_zero, List.getElem?_cons_succ, List.set_cons_zero, List.set_cons_succ, List.cons_append, List.nil_append, bne_self_eq_false, beq_self_eq_true, Bool.not_true, Bool.not_false, Option.isNone_some, Option.isNone_none, eq_self, true_and, and_true, and_self]
    refine s5.st0 (by simp) fun h6 s6 => ?_
    simp only [List.set_cons_zero, List.set_cons_succ, Nat.zero_add] at s6
    have last : ∀ (S : List Ed) (ok2 : Bool) (q3 q4 : Option Addr) (c3 c4 : Nat) (X3 X4 : Rws) (h7 : Heap), S.length < 2 ^ 30 → Own3 q3 c3 S X3 → Own3 q4 c4 S X4 → St h h7 (X4 ++ (X3 ++ (b, [.slice q2 M.length c2, .bool ok]) :: (X2 ++ X1))) →
        newP h7 (.cells #[(.slice none 0 0), (.bool false)] 45) fun a20 h21 => stC h21 a20 (.slice q4 S.length c4) fun h22 => stC h22 (a20.add 1) (.bool ok2) fun h23 => (∃ (x24 : Bool), cell h23 ⟨b, 1, none⟩ = some (.bool x24) ∧ iteB (ok == x24) (∃ (x25 : Option Addr) (x25l : Nat) (x25c : Nat), cell h23 ⟨b, 0, none⟩ = some (.slice x25 x25l x25c) ∧ qcallP1 h23 (straitref15_Same q1 M.length c1 x25 x25l x25c h23) fun x26 => iteB x26 (∃ (x27 : Bool), cell h23 (a20.add 1) = some (.bool x27) ∧ iteB (ok2 == x27) (∃ (x28 : Option Addr) (x28l : Nat) (x28c : Nat), cell h23 a20 = some (.slice x28 x28l x28c) ∧ qcallP1 h23 (straitref15_Same q3 S.length c3 x28 x28l x28c h23) fun x29 => iteB x29 (callP1 (straitlaw15_awake h23) fun x30 h31 => K x30 h31) (K false h23)) (K false h23)) (K false h23)) (K false h23)) := by
      intro S ok2 q3 q4 c3 c4 X3 X4 h7 hS o3 o4 s7
      refine s7.new_ fun b2 h8 s8 => s8.st0 (by simp) fun h9 s9 => ?_
      simp -zeta only [chkP_some, iteB_true, iteB_false, add_mk, Nat.zero_add, Nat.add_zero, Nat.mul_one, Nat.reduceAdd, Int.toNat_natCast, ex_int, ex_slice, ex_ptr, ex_bool, ex_str, ex_flt, ex_any, bnd_in, List.getElem?_cons_zero, List.getElem?_cons_succ, List.set_cons_zero, List.set_cons_succ, List.cons_append, List.nil_append, bne_self_eq_false, beq_self_eq_true, Bool.not_true, Bool.not_false, Option.isNone_some, Option.isNone_none, eq_self, true_and, and_true, and_self]
      refine s9.st0 (by simp) fun h10 s10 => ?_
      simp only [List.set_cons_zero, List.set_cons_succ, Nat.zero_add] at s10
      have r0 : ∀ j, cell h10 ⟨b, j, none⟩ = [Value.slice q2 M.length c2, .bool ok][j]? := s10.rd (by simp)
      have r1 : ∀ j, cell h10 ⟨b2, j, none⟩ = [Value.slice q4 S.length c4, .bool ok2][j]? := s10.rd (by simp)
      simp -zeta (disch := omega) only [chkP_some, iteB_true, iteB_false, add_mk, Nat.zero_add, Nat.add_zero, Nat.mul_one, Nat.reduceAdd, Int.toNat_natCast, ex_int, ex_slice, ex_ptr, ex_bool, ex_str, ex_flt, ex_any, bnd_in, List.getElem?_cons_zero, List.getElem?_cons_succ, List.set_cons_zero, List.set_cons_succ, List.cons_append, List.nil_append, bne_self_eq_false, beq_self_eq_true, Bool.not_true, Bool.not_false, Option.isNone_some, Option.isNone_none, eq_self, true_and, and_true, and_self, r0, r1]
      have v1 := (o1.keeps (h0 := (h : Base)) (R := X1) fun x hx => hx) h10 _ s10 (fun x hx => by simp [hx])
      have v2 := (o2.keeps (h0 := (h : Base)) (R := X2) fun x hx => hx) h10 _ s10 (fun x hx => by simp [hx])
      have v3 := (o3.keeps (h0 := (h : Base)) (R := X3) fun x hx => hx) h10 _ s10 (fun x hx => by simp [hx])
      have v4 := (o4.keeps (h0 := (h : Base)) (R := X4) fun x hx => hx) h10 _ s10 (fun x hx => by simp [hx])
      refine qcallP1.of true (fun Q hQ => Same_of v1 v2 rfl rfl (by omega) (by rw [decide_eq_true rfl]; exact hQ)) (iteB_pos rfl ?_)
      refine qcallP1.of true (fun Q hQ => Same_of v3 v4 rfl rfl (by omega) (by rw [decide_eq_true rfl]; exact hQ)) (iteB_pos rfl ?_)
      exact callP1.self (awake_of s10 fun h11 s11 => hk h11 s11.ext)
    have kl6 : Keeps (h : Base) ((b, [.slice q2 M.length c2, .bool ok]) :: (X2 ++ X1)) q (eV l) := Keeps.old vl
    refine callP4.self (Split_of hl hb hw kl6 s6 (fun no h7 s7 => ?_) (fun yes h7 q3 c3 X3 o3 s7 => ?_))
    · refine callP4.self (RSplit_of hl hb hw kl6 s7 (fun _ h8 s8 => ?_) (fun yes => absurd yes no))
      exact last [] false none none 0 0 [] [] h8 (by simp) Own3.nil Own3.nil s8
    · refine callP4.self (RSplit_of (R := X3 ++ (b, [.slice q2 M.length c2, .bool ok]) :: (X2 ++ X1)) hl hb hw (Keeps.old vl) s7 (fun no => absurd yes no) (fun _ h8 q4 c4 X4 o4 s8 => ?_))
      have hlen := splL_take_len yes.2 l.length
      rw [List.take_length] at hlen
      exact last (splL l) true q3 q4 c3 c4 X3 X4 h8 (by omega) o3 o4 s8
  refine callP4.self (Merge_of hl hb hw kl (St.refl h) (fun no h2 s2 => ?_) (fun P hP h2 q1 c1 X1 o1 s2 => ?_))
  · refine callP4.self (RMerge_of hl hb hw kl s2 (fun _ h3 s3 => ?_) (fun S hS => ?_))
    · exact fin [] false none none 0 0 [] [] h3 (by simp) Own3.nil Own3.nil s3
    · rcases merge_both l with ⟨_, h2⟩ | ⟨P, S, h1, _⟩
      · rw [hS] at h2; cases h2
      · rw [no] at h1; cases h1
  · rcases merge_both l with ⟨h1, _⟩ | ⟨P', S, h1, hS, p, up⟩
    · rw [hP] at h1; cases h1
    rw [hP] at h1
    obtain rfl := Option.some.inj h1
    rw [sort_filter p up] at o1
    have hlen : (P.filter nz).length = (S.filter nz).length := (p.filter nz).length_eq
    rw [hlen]
    refine callP4.self (RMerge_of (R := X1 ++ []) hl hb hw (Keeps.old vl) s2 (fun no => by rw [hS] at no; cases no) (fun S' hS' h3 q2 c2 X2 o2 s3 => ?_))
    rw [hS] at hS'
    obtain rfl := Option.some.inj hS'
    have hPl : P.length ≤ k := by
      have := mergeP_len (l := l) hP; omega
    have hM : (S.filter nz).length < 2 ^ 30 := by
      have := List.length_filter_le nz P; omega
    exact fin (S.filter nz) true q1 q2 c1 c2 X1 X2 h3 hM o1 o2 (by simpa using s3)
end Go.Proofs.Ytapjbmfgmnhpdaa
