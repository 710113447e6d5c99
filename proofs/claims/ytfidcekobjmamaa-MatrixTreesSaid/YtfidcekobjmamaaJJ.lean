/-
  Matrices: the law of a matrix's tree.
-/
import Derived.Test.YtfidcekobjmamaaJI
namespace Go.Proofs.Ytfidcekobjmamaa
set_option linter.unusedVariables false
set_option linter.unusedSimpArgs false
set_option linter.unnecessarySimpa false
open Go.Hp Go.RowKit
attribute [local irreducible] Go.Hp.iteB Go.Hp.stC Go.Hp.newP
section
variable {h : Heap} {n : Nat} {f : Nat → Int} {K : Bool → Heap → Prop} {K0 : Bool → Heap → Prop} {K2 : Heap → Prop} {c1 c2 : Nat}
theorem ints9_l0 {p1 p2 : Option Addr} (v1 : valsAt h p1 (ints n f)) (v2 : valsAt h p2 (ints n f)) (hn : n ≤ 4096) (hk : K2 h) : ∀ (d i : Nat), i + d = n → straitref09_Ints.l0 K0 K2 (d + 1) p1 n c1 p2 n c2 (i : Int) h
  | 0, i, hi => by
    unfold straitref09_Ints.l0 straitref09_Ints.b0
    exact iteB_neg (decide_eq_false (by omega)) hk
  | d + 1, i, hi => by
    unfold straitref09_Ints.l0 straitref09_Ints.b0
    obtain ⟨a1, he1, g1⟩ := ints_at v1 (j := i) (by omega)
    obtain ⟨a2, he2, g2⟩ := ints_at v2 (j := i) (by omega)
    refine iteB_pos (decide_eq_true (by omega)) ?_
    rw [he1, he2]
    simp -zeta only [chkP_some, Int.toNat_natCast, Nat.mul_one]
    rw [← he1, ← he2]
    refine ⟨by omega, _, g1, by omega, _, g2, iteB_neg (by simp) ?_⟩
    rw [wrap64 (by omega) (by omega)]
    exact ints9_l0 v1 v2 hn hk d (i + 1) (by omega)
theorem Ints9_of {p1 p2 : Option Addr} (v1 : valsAt h p1 (ints n f)) (v2 : valsAt h p2 (ints n f)) (hn : n ≤ 4096) (hk : K true h) : straitref09_Ints p1 n c1 p2 n c2 h K := by
  unfold straitref09_Ints
  exact iteB_neg (by simp) ⟨n + 1, ints9_l0 v1 v2 hn hk n 0 (by omega)⟩
/-- A matrix that is none of cuts has no tree. -/
theorem Tree_no {h0 : Base} {R : Rws} {L : List (List Int)} {q : Option Addr} {c : Nat} {K : Option Addr → Nat → Nat → Option Addr → Nat → Nat → Int → Heap → Prop} (hn : L.length ≤ 256) (j : JagV h0.heap q L) (no : ¬ UltraJ L) (s : St h0 h R)
    (hk : ∀ h' Y, St h0 h' (Y ++ R) → K none 0 0 none 0 0 1 h') : matrix_Tree q L.length c h K := by
  unfold matrix_Tree
  refine s.new_ fun t h1 s1 => iteB_neg (decide_eq_false (by omega)) (qcallP1.of false (fun Q hQ => GUltra_of (j.ext s1.ext) hn (fun _ => hQ) fun yes => absurd yes no) (iteB_pos rfl (s1.st0 (by simp) fun h2 s2 => ?_)))
  rw [add_mk, Nat.zero_add]
  refine s2.st0 (by simp) fun h3 s3 => ⟨_, _, _, s3.rd0 0, _, _, _, s3.rd0 1, ?_⟩
  exact hk h3 [_] s3
end
theorem MxV.old {h0 : Base} {R : Rws} {q : Option Addr} {n : Nat} {M : Nat → Nat → Int} (k : MxV h0.heap q n M) : MxK h0 R q n M := by
  obtain ⟨qs, h1, h2, h3⟩ := k
  exact ⟨qs, h1, Keeps.old h2, fun i x hx => ⟨(h3 i x hx).1, (h3 i x hx).2.1, Keeps.old (h3 i x hx).2.2⟩⟩
theorem gM_wf {L : List (List Int)} (hw : ∀ l ∈ L, ∀ x ∈ l, (Lit.int .i64 x).wf = true) {x y : Nat} (hy : y < limJ L x) : (Lit.int .i64 (gM L x y)).wf = true := by
  have : x < L.length := by
    apply Classical.byContradiction
    intro h
    unfold limJ at hy
    rw [List.getD_eq_getElem?_getD, List.getElem?_eq_none (by omega)] at hy
    simp at hy
  obtain ⟨l, hl⟩ := get_lt this
  rw [limJ_of hl] at hy
  rw [gM_of hl]
  obtain ⟨z, hz⟩ := get_lt (l := l) (i := y) (by omega)
  have : l.getD y 0 = z := by simp [List.getD, hz]
  rw [this]
  exact hw l (List.mem_of_getElem? hl) z (List.mem_of_getElem? hz)
theorem MatrixTrees_of {h : Heap} {c1 c2 : Nat} {L L2 : List (List Int)} {q1 q2 : Option Addr} {K : Bool → Heap → Prop} (j1 : JagV h q1 L) (j2 : JagV h q2 L2) (hw : ∀ l ∈ L, ∀ x ∈ l, (Lit.int .i64 x).wf = true)
    (hk : ∀ h', Ext h h' → K true h') : straitlaw35_MatrixTrees q1 L.length c1 q2 L2.length c2 h K := by
  unfold straitlaw35_MatrixTrees
  intro j
  have aw : ∀ h1, Ext h h1 → callP1 (straitlaw35_awake h1) fun x8 h9 => K x8 h9 := fun h1 e => callP1.self (awake_of fun h4 e4 => hk h4 (e.trans e4))
  by_cases w1 : L.length ≤ 40 ∧ ∀ l ∈ L, l.length ≤ 40
  case neg => exact qcallP1.of true (fun Q hQ => Wide_of_ j1 (fun _ => hQ) fun a b => absurd ⟨a, b⟩ w1) (iteB_pos rfl (aw h (Ext.refl h)))
  refine qcallP1.of false (fun Q hQ => Wide_of_ j1 (fun no => absurd w1 no) fun _ _ => hQ) (iteB_neg rfl ?_)
  by_cases w2 : L2.length ≤ 40 ∧ ∀ l ∈ L2, l.length ≤ 40
  case neg => exact qcallP1.of true (fun Q hQ => Wide_of_ j2 (fun _ => hQ) fun a b => absurd ⟨a, b⟩ w2) (iteB_pos rfl (aw h (Ext.refl h)))
  refine qcallP1.of false (fun Q hQ => Wide_of_ j2 (fun no => absurd w2 no) fun _ _ => hQ) (iteB_neg rfl ?_)
  simp -zeta only [j]
  clear j
  obtain ⟨w1, w1'⟩ := w1
  have hll : ∀ l ∈ L, l.length ≤ 2 ^ 20 := fun l hl => by have := w1' l hl; omega
  have hll' : ∀ l ∈ L, l.length ≤ 2 ^ 40 := fun l hl => by have := w1' l hl; omega
  have mid : ∀ (t : Nat) (h1 : Heap) (R : Rws) (cs : List Value) (bu : Bool) (j58 : Heap → Prop), (bu = true ↔ UltraJ L) → St (h : Base) h1 ((t, cs) :: R) → (∀ h' Y, St (h : Base) h' (Y ++ ((t, cs) :: R)) → j58 h') →
      qcallP1 h1 (matrix_Ultra q1 L.length c1 h1) fun x21 => iteB (!(x21 == bu)) (K false h1) (callP1 (matrix_Same q1 L.length c1 q2 L2.length c2 h1) fun x22 h23 => qcallP1 h23 (straitref35_Same q1 L.length c1 q2 L2.length c2 h23) fun x24 => iteB (!(x22 == x24)) (K false h23) (callP3 (matrix_Values q1 L.length c1 h23) fun x25 x25l x25c h26 => callP3 (straitref35_Values q1 L.length c1 h26) fun x27 x27l x27c h28 => qcallP1 h28 (straitref04_Same x25 x25l x25c x27 x27l x27c h28) fun x29 => (iteB (!x29) (K false h28) ((j58 h28))))) := by
    intro t h1 R cs bu j58 hbu s hj
    have vals : callP3 (matrix_Values q1 L.length c1 h1) fun x25 x25l x25c h26 => callP3 (straitref35_Values q1 L.length c1 h26) fun x27 x27l x27c h28 => qcallP1 h28 (straitref04_Same x25 x25l x25c x27 x27l x27c h28) fun x29 => (iteB (!x29) (K false h28) ((j58 h28))) := by
      refine callP3.self (GValues_of (h0 := (h : Base)) (R := (t, cs) :: R) (by omega) j1 (fun x y hy => gM_wf hw hy) s fun h3 q3 c3 ks nd k3 v3 s3 => ?_)
      refine callP3.self (RValues_of (h0 := (h3 : Base)) (R := []) (by omega) (j1.ext s3.ext) hll (St.refl h3) fun q4 c4 X4 ls h4 k4 o4 s4 => ?_)
      have ed := distinct_sort nd fun x => (k3.mem x).trans (k4.mem x).symm
      have el : (sortI ks).length = ks.length := List.length_mergeSort ..
      have hkl := k3.len
      have : L.length * L.length ≤ 40 * 40 := Nat.mul_le_mul w1 w1
      rw [ed] at o4 ⊢
      rw [show ks.length = (sortI ks).length from el.symm]
      exact qcallP1.of true (fun Q hQ => GSame4_of (v3.ext s4.ext) (o4.vals s4) (by omega) (fun no => absurd rfl no) fun _ => hQ) (iteB_neg rfl (hj h4 [] (s3.ofExt s4.ext)))
    have same : callP1 (matrix_Same q1 L.length c1 q2 L2.length c2 h1) fun x22 h23 => qcallP1 h23 (straitref35_Same q1 L.length c1 q2 L2.length c2 h23) fun x24 => iteB (!(x22 == x24)) (K false h23) (callP3 (matrix_Values q1 L.length c1 h23) fun x25 x25l x25c h26 => callP3 (straitref35_Values q1 L.length c1 h26) fun x27 x27l x27c h28 => qcallP1 h28 (straitref04_Same x25 x25l x25c x27 x27l x27c h28) fun x29 => (iteB (!x29) (K false h28) ((j58 h28)))) := by
      have e1 := j1.ext s.ext
      have e2 := j2.ext s.ext
      by_cases hs : L = L2
      · exact callP1.self (GSame_of e1 e2 (by omega) hll' (fun no => absurd hs no) fun _ => qcallP1.of true (fun Q hQ => GRSame_of e1 e2 (by omega) hll' (fun no => absurd hs no) fun _ => hQ) (iteB_neg rfl vals))
      · exact callP1.self (GSame_of e1 e2 (by omega) hll' (fun _ => qcallP1.of false (fun Q hQ => GRSame_of e1 e2 (by omega) hll' (fun _ => hQ) fun yes => absurd yes hs) (iteB_neg rfl vals)) fun yes => absurd yes hs)
    refine qcallP1.of bu (fun Q hQ => GUltra_of (j1.ext s.ext) (by omega) (fun no => ?_) fun yes => ?_) (iteB_neg (by simp) same)
    · have : bu = false := by cases bu <;> simp_all
      rw [this] at hQ; exact hQ
    · rw [hbu.2 yes] at hQ; exact hQ
  by_cases U : UltraJ L
  case neg =>
    refine qcallP1.of false (fun Q hQ => RUltra_of j1 (by omega) (fun _ => hQ) fun yes => absurd yes U) ?_
    refine callP7.self (Tree_no (h0 := (h : Base)) (R := []) (by omega) j1 U (St.refl h) fun h2 Y s2 => s2.new_ fun t h3 s3 => s3.st0 (by simp) fun h4 s4 => ?_)
    rw [add_mk, Nat.zero_add]
    refine s4.st0 (by simp) fun h5 s5 => ?_
    intro j58
    refine mid t h5 (Y ++ []) _ false j58 (by simp [U]) s5 fun h6 Y6 s6 => ?_
    simp -zeta only [j58]
    have rt : ∀ j, cell h6 ⟨t, j, none⟩ = [Value.slice none 0 0, .slice none 0 0][j]? := s6.rd (by simp)
    refine iteB_pos rfl (iteB_pos rfl ⟨_, _, _, rt 0, iteB_pos rfl ⟨_, _, _, rt 1, iteB_pos rfl (aw h6 s6.ext)⟩⟩)
  refine qcallP1.of true (fun Q hQ => RUltra_of j1 (by omega) (fun no => absurd U no) fun _ => hQ) ?_
  have m0 : MxV h q1 L.length (gM L) := j1.mx U.lens
  have hn : L.length ≤ 256 := by omega
  refine callP7.self (Tree_of (h0 := (h : Base)) (R := []) hn U.u (MxV.old m0) (St.refl h) fun h2 A UU_ WW b ba bb Y p hb s2 => s2.new_ fun t h3 s3 => s3.st0 (by simp) fun h4 s4 => ?_)
  rw [add_mk, Nat.zero_add]
  refine s4.st0 (by simp) fun h5 s5 => ?_
  obtain ⟨r, hback⟩ := prim_back (by omega) U.u p hb
  intro j58
  refine mid t h5 ((ba, ints L.length UU_) :: (bb, ints L.length WW) :: (Y ++ [])) _ true j58 (by simp [U]) s5 fun h6 Y6 s6 => ?_
  simp -zeta only [j58]
  clear j58 mid
  have rt : ∀ j, cell h6 ⟨t, j, none⟩ = [Value.slice (some ⟨ba, 0, none⟩) L.length L.length, .slice (some ⟨bb, 0, none⟩) L.length L.length][j]? := s6.rd (by simp)
  refine iteB_neg rfl ⟨_, _, _, rt 0, _, _, _, rt 1, ?_⟩
  rw [upT_vals L.length UU_, upT_vals L.length WW] at s6
  refine callP4.self (Of_of (upT_len _ _) (upT_len _ _) (Keeps.row (b := ba) (by simp)) (Keeps.row (b := bb) (by simp)) s6 (fun no => absurd r no) (fun _ no => by omega) fun _ _ h7 b7 Y7 km7 s7 => ?_)
  have rt7 : ∀ j, cell h7 ⟨t, j, none⟩ = [Value.slice (some ⟨ba, 0, none⟩) L.length L.length, .slice (some ⟨bb, 0, none⟩) L.length L.length][j]? := s7.rd (by simp)
  refine iteB_pos rfl ⟨_, _, _, rt7 0, _, _, _, rt7 1, ?_⟩
  refine callP6.self (RTree_of (h0 := (h : Base)) hn p (p.full hb) (MxV.old m0) s7 fun h8 b1 b2 Y8 s8 => ?_)
  have rt8 : ∀ j, cell h8 ⟨t, j, none⟩ = [Value.slice (some ⟨ba, 0, none⟩) L.length L.length, .slice (some ⟨bb, 0, none⟩) L.length L.length][j]? := s8.rd (by simp)
  refine ⟨⟨_, _, _, rt8 0, _, _, _, rt8 1, rfl⟩, callP1.self ?_⟩
  unfold straitref29_Same
  refine s8.new_ fun t1 h9 s9 => s9.new_ fun t2 h10 s10 => ⟨_, _, _, s10.rd1 0, _, _, _, s10.rd0 0, ?_⟩
  have vU : valsAt h10 (some ⟨ba, 0, none⟩) (ints L.length UU_) := by
    rw [upT_vals]; exact valsAt.row (s10.rows (ba, (upT L.length UU_).map (Value.int .i64)) (by simp)) fun i v hi => by rw [Nat.zero_add]; exact hi
  have vW : valsAt h10 (some ⟨bb, 0, none⟩) (ints L.length WW) := by
    rw [upT_vals]; exact valsAt.row (s10.rows (bb, (upT L.length WW).map (Value.int .i64)) (by simp)) fun i v hi => by rw [Nat.zero_add]; exact hi
  have vU1 : valsAt h10 (some ⟨b1, 0, none⟩) (ints L.length UU_) := valsAt.row (s10.rows (b1, ints L.length UU_) (by simp)) fun i v hi => by rw [Nat.zero_add]; exact hi
  have vW1 : valsAt h10 (some ⟨b2, 0, none⟩) (ints L.length WW) := valsAt.row (s10.rows (b2, ints L.length WW) (by simp)) fun i v hi => by rw [Nat.zero_add]; exact hi
  refine qcallP1.of true (fun Q hQ => Ints9_of vU vU1 (by omega) hQ) (iteB_pos rfl ⟨_, _, _, s10.rd1 1, _, _, _, s10.rd0 1, qcallP1.of true (fun Q hQ => Same4_of vW vW1 (by omega) hQ) (iteB_pos rfl (iteB_pos rfl ?_))⟩)
  have m7 := (km7.at_ s10 fun x hx => by simp [hx]).congr (M' := gM L) hback
  exact qcallP1.of true (fun Q hQ => RSame35_of m7 (m0.ext s10.ext) (by omega) hQ) (iteB_pos rfl (aw h10 s10.ext))
/-- Rows of rows of numbers, as an argument. -/
theorem Rd.jag {P : Program} {h : Heap} {n : Nat} {t e g : TypeId} {q : Option Addr} {len cap : Nat} (r : Rd P h n t [.slice q len cap]) (ht : P.underlying t = some (.slice e)) (hs : P.cellsOf e = 1) (he : P.underlying e = some (.slice g)) (hg : P.underlying g = some (.int .i64)) (hgs : P.cellsOf g = 1) :
    ∃ L : List (List Int), L.length = len ∧ JagV h q L ∧ ∀ l ∈ L, ∀ x ∈ l, (Lit.int .i64 x).wf = true := by
  obtain ⟨h1, h2, l, m, hl, hr, hcs⟩ := r.rows ht
  obtain ⟨l', rfl, hq⟩ := exists_map (f := fun y : Sl3 × List Int => [Value.slice y.1.1 y.1.2.1 y.1.2.2]) (Q := fun y => y.1.2.1 = y.2.length ∧ y.2.length ≤ y.1.2.2 ∧ valsAt h y.1.1 (y.2.map (Value.int .i64)) ∧ ∀ x ∈ y.2, (Lit.int .i64 x).wf = true) fun cs hc => by
    obtain ⟨q', len', cap', rfl, _⟩ := (hcs cs hc).2.slice he
    obtain ⟨g1, g2, k, hk, hv, hw⟩ := Rd.ints (k := .i64) (hcs _ hc).2 he hg hgs
    exact ⟨((q', len', cap'), k), rfl, hk.symm, by show k.length ≤ cap'; omega, hv, hw⟩
  rw [hs] at hr
  have hv : valsAt h q (sl3 (l'.map (·.1))) := by
    refine rowsAt.vals ?_
    unfold sl3
    rw [List.map_map, List.map_map]
    exact hr
  refine ⟨l'.map (·.2), by simpa using hl, ⟨l'.map (·.1), by simp, hv, fun i x k hx hk => ?_⟩, fun k hk x hx => ?_⟩
  · rw [List.getElem?_map] at hx hk
    cases hy : l'[i]? with
    | none => rw [hy] at hx; cases hx
    | some y =>
      rw [hy] at hx hk
      obtain rfl := Option.some.inj hx
      obtain rfl := Option.some.inj hk
      obtain ⟨a1, a2, a3, _⟩ := hq y (List.mem_of_getElem? hy)
      exact ⟨a1, a2, a3⟩
  · obtain ⟨y, hy, rfl⟩ := List.mem_map.1 hk
    exact (hq y hy).2.2.2 x hx
end Go.Proofs.Ytfidcekobjmamaa
