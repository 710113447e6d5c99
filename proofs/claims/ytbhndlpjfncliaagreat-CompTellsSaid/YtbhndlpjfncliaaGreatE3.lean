/-
  Edges: those that weigh nothing go; the others are sorted.
-/
import Derived.Test.YtbhndlpjfncliaaGreatE2
import Derived.Test.YtbhndlpjfncliaaGreatSo2
import Derived.Test.YtbhndlpjfncliaaGreatShE
import Derived.Shelf.SlSortCmp.NoneTotal
namespace Go.Proofs.YtbhndlpjfncliaaGreat
set_option linter.unusedVariables false
set_option linter.unusedSimpArgs false
set_option linter.unnecessarySimpa false
open Go.Hp Go.RowKit Go.Sort
attribute [local irreducible] Go.Hp.iteB Go.Hp.stC Go.Hp.newP

/-- Many cells stored: what lies ahead stays. -/
theorem many3 {h0 : Base} {R : Rws} {b off : Nat} {K : Heap → Prop} {n : Nat} {fr : List Value} (hk : ∀ h' cs', cs'.length = n → cs'.take off = fr → St h0 h' ((b, cs') :: R) → K h') :
    ∀ (vs : List Value) (i : Nat) (cs : List Value) (h : Heap), St h0 h ((b, cs) :: R) → cs.length = n → cs.take off = fr → (∀ v ∈ vs, flat v = true) → off + i + vs.length ≤ n → stL vs h ⟨b, off, none⟩ i K
  | [], i, cs, h, s, hc, hf0, _, _ => by unfold stL; exact hk h cs hc hf0 s
  | v :: vs, i, cs, h, s, hc, hf0, hf, hl => by
    unfold stL
    rw [hf v (by simp)]
    simp only [add_mk]
    simp only [List.length_cons] at hl
    exact s.st0 (by omega) fun h2 s2 => many3 hk vs (i + 1) _ h2 s2 (by simpa using hc) (by rw [List.take_set_of_le (by omega)]; exact hf0) (fun x hx => hf x (by simp [hx])) (by omega)
theorem flat_zr3 {z : List Value} (hz : ∀ v ∈ z, flat v = true) : ∀ n, ∀ v ∈ zeroRow z n, flat v = true
  | 0, v, hv => by simp [zeroRow] at hv
  | n + 1, v, hv => by
    simp only [zeroRow, List.mem_append] at hv
    rcases hv with hv | hv
    · exact hz v hv
    · exact flat_zr3 hz n v hv
theorem clear3 {h0 : Base} {h : Heap} {R : Rws} {b off n : Nat} {cs : List Value} {K : Heap → Prop} (s : St h0 h ((b, cs) :: R)) (hl : off + n * 3 ≤ cs.length) (hk : ∀ h' cs', cs'.length = cs.length → cs'.take off = cs.take off → St h0 h' ((b, cs') :: R) → K h') :
    clearP [.int .i64 0, .int .i64 0, .int .i64 0] (some ⟨b, off, none⟩) n h K :=
  many3 hk (zeroRow [.int .i64 0, .int .i64 0, .int .i64 0] n) 0 cs h s rfl rfl (flat_zr3 (by simp [flat]) n) (by rw [length_zeroRow]; simp; omega)

def nz (e : Ed) : Bool := e.2.2 != 0
section
variable {h0 : Base} {R : Rws}
theorem mc1_of {h : Heap} {u v w : Int} {K : Bool → Heap → Prop} (s : St h0 h R) (hk : ∀ h', St h0 h' R → K (w == 0) h') : edge_Merge_c1 u v w h K := by
  unfold edge_Merge_c1
  refine s.new_ fun b h1 s1 => ?_
  try simp -zeta (disch := omega) only [chkP_some, iteB_true, iteB_false, add_mk, Nat.zero_add, Nat.add_zero, Nat.mul_one, Nat.reduceAdd, Int.toNat_natCast, ex_int, ex_slice, ex_ptr, ex_bool, ex_str, ex_flt, ex_any, bnd_in, List.getElem?_cons_zero, List.getElem?_cons_succ, List.set_cons_zero, List.set_cons_succ, List.cons_append, List.nil_append, bne_self_eq_false, beq_self_eq_true, Bool.not_true, Bool.not_false, Option.isNone_some, Option.isNone_none, eq_self, true_and, and_true, and_self, s1.rd0]
  exact hk h1 s1.tail
theorem index_l0 {K0 : Int → Heap → Prop} {K2 : Heap → Prop} {q : Option Addr} {n c : Nat} {P : List Ed} (hl : P.length = n) (hn : n < 2 ^ 40) (kp : Keeps h0 R q (eV P))
    (hk0 : ∀ h' i e, P[i]? = some e → nz e = false → (P.take i).filter nz = P.take i → St h0 h' R → K0 (i : Nat) h') (hk2 : P.filter nz = P → ∀ h', St h0 h' R → K2 h') :
    ∀ (d i : Nat) (h : Heap), i + d = n → (P.take i).filter nz = P.take i → St h0 h R → slices_IndexFunc_Lapi_Edge_api_Edge_edge_Merge_c1.l0 K0 K2 (d + 1) q n c (n : Int) (i : Int) h
  | 0, i, h, hi, hf, s => by
    unfold slices_IndexFunc_Lapi_Edge_api_Edge_edge_Merge_c1.l0 slices_IndexFunc_Lapi_Edge_api_Edge_edge_Merge_c1.b0
    rw [List.take_of_length_le (by omega)] at hf
    exact iteB_neg (decide_eq_false (by omega)) (hk2 hf h s)
  | d + 1, i, h, hi, hf, s => by
    unfold slices_IndexFunc_Lapi_Edge_api_Edge_edge_Merge_c1.l0 slices_IndexFunc_Lapi_Edge_api_Edge_edge_Merge_c1.b0
    obtain ⟨⟨u, v, w⟩, hx⟩ := get_lt (l := P) (i := i) (by omega)
    have vp := kp.at0 s
    refine iteB_pos (decide_eq_true (by omega)) ?_
    simp -zeta (disch := omega) only [chkP_some, iteB_true, iteB_false, add_mk, Nat.zero_add, Nat.add_zero, Nat.mul_one, Nat.reduceAdd, Int.toNat_natCast, ex_int, ex_slice, ex_ptr, ex_bool, ex_str, ex_flt, ex_any, bnd_in, List.getElem?_cons_zero, List.getElem?_cons_succ, List.set_cons_zero, List.set_cons_succ, List.cons_append, List.nil_append, bne_self_eq_false, beq_self_eq_true, Bool.not_true, Bool.not_false, Option.isNone_some, Option.isNone_none, eq_self, true_and, and_true, and_self, vals_edge vp hx]
    refine callP1.self (mc1_of s fun h2 s2 => iteB_intro (fun e => ?_) (fun e => ?_))
    · exact hk0 h2 i _ hx (by unfold nz; simp only [bne, e, Bool.not_true]) hf s2
    · rw [wrap64 (by omega) (by omega)]
      refine index_l0 hl hn kp hk0 hk2 d (i + 1) h2 (by omega) ?_ s2
      rw [take_snoc hx, List.filter_append, hf]
      have : nz (u, v, w) = true := by unfold nz; simp only [bne, e, Bool.not_false]
      simp [this]

theorem del_l0 {K2 : Int → Heap → Prop} {b n c : Nat} {P : List Ed} {z : List Value} (hl : P.length = n) (hc : n * 3 + z.length = c * 3) (hn : n < 2 ^ 40)
    (hk : ∀ h' cs', cs'.length = c * 3 → cs'.take ((P.filter nz).length * 3) = eV (P.filter nz) → St h0 h' ((b, cs') :: R) → K2 ((P.filter nz).length : Nat) h') :
    ∀ (d j : Nat) (h : Heap) (cs : List Value), j + d = n → cs.length = c * 3 → cs.take (((P.take j).filter nz).length * 3) = eV ((P.take j).filter nz) → ((P.take j).filter nz).length < j → (∀ k, j * 3 ≤ k → cs[k]? = (eV P ++ z)[k]?) → St h0 h ((b, cs) :: R) →
      slices_DeleteFunc_Lapi_Edge_api_Edge_edge_Merge_c1.l0 K2 (d + 1) (some ⟨b, 0, none⟩) n c (((P.take j).filter nz).length : Nat) (j : Int) h
  | 0, j, h, cs, hj, hcl, hct, hlt, hrest, s => by
    unfold slices_DeleteFunc_Lapi_Edge_api_Edge_edge_Merge_c1.l0 slices_DeleteFunc_Lapi_Edge_api_Edge_edge_Merge_c1.b0
    rw [List.take_of_length_le (l := P) (by omega)] at hct ⊢
    exact iteB_neg (decide_eq_false (by omega)) (hk h cs hcl hct s)
  | d + 1, j, h, cs, hj, hcl, hct, hlt, hrest, s => by
    unfold slices_DeleteFunc_Lapi_Edge_api_Edge_edge_Merge_c1.l0 slices_DeleteFunc_Lapi_Edge_api_Edge_edge_Merge_c1.b0
    obtain ⟨⟨u, v, w⟩, hx⟩ := get_lt (l := P) (i := j) (by omega)
    have el := eV_len P
    have rest : ∀ o, o < 3 → cs[j * 3 + o]? = (Ed.vs (u, v, w))[o]? := fun o ho => by
      rw [hrest _ (by omega), List.getElem?_append_left (by omega)]; exact eV_get hx ho
    have g0 : cell h ⟨b, j * 3, none⟩ = some (.int .i64 u) := by rw [s.rd0]; exact rest 0 (by omega)
    have g1 : cell h ⟨b, j * 3 + 1, none⟩ = some (.int .i64 v) := by rw [s.rd0]; exact rest 1 (by omega)
    have g2 : cell h ⟨b, j * 3 + 2, none⟩ = some (.int .i64 w) := by rw [s.rd0]; exact rest 2 (by omega)
    refine iteB_pos (decide_eq_true (by omega)) ?_
    simp -zeta (disch := omega) only [chkP_some, iteB_true, iteB_false, add_mk, Nat.zero_add, Nat.add_zero, Nat.mul_one, Nat.reduceAdd, Int.toNat_natCast, ex_int, ex_slice, ex_ptr, ex_bool, ex_str, ex_flt, ex_any, bnd_in, List.getElem?_cons_zero, List.getElem?_cons_succ, List.set_cons_zero, List.set_cons_succ, List.cons_append, List.nil_append, bne_self_eq_false, beq_self_eq_true, Bool.not_true, Bool.not_false, Option.isNone_some, Option.isNone_none, eq_self, true_and, and_true, and_self, g0, g1, g2]
    refine s.new_ fun b2 h1 s1 => s1.st0 (by simp) fun h2 s2 => s2.st0 (by simp) fun h3 s3 => s3.st0 (by simp) fun h4 s4 => ?_
    try simp -zeta (disch := omega) only [chkP_some, iteB_true, iteB_false, add_mk, Nat.zero_add, Nat.add_zero, Nat.mul_one, Nat.reduceAdd, Int.toNat_natCast, ex_int, ex_slice, ex_ptr, ex_bool, ex_str, ex_flt, ex_any, bnd_in, List.getElem?_cons_zero, List.getElem?_cons_succ, List.set_cons_zero, List.set_cons_succ, List.cons_append, List.nil_append, bne_self_eq_false, beq_self_eq_true, Bool.not_true, Bool.not_false, Option.isNone_some, Option.isNone_none, eq_self, true_and, and_true, and_self, s4.rd0]
    refine callP1.self (mc1_of s4 fun h5 s5 => ?_)
    have ft : (P.take (j + 1)).filter nz = (P.take j).filter nz ++ (if nz (u, v, w) = true then [(u, v, w)] else []) := by
      rw [take_snoc hx, List.filter_append]; congr 1; cases hz : nz (u, v, w) <;> simp [hz]
    refine iteB_intro (fun e => ?_) (fun e => ?_)
    · have hz : nz (u, v, w) = true := by unfold nz; simp only [bne]; exact e
      rw [if_pos hz] at ft
      try simp -zeta (disch := omega) only [chkP_some, iteB_true, iteB_false, add_mk, Nat.zero_add, Nat.add_zero, Nat.mul_one, Nat.reduceAdd, Int.toNat_natCast, ex_int, ex_slice, ex_ptr, ex_bool, ex_str, ex_flt, ex_any, bnd_in, List.getElem?_cons_zero, List.getElem?_cons_succ, List.set_cons_zero, List.set_cons_succ, List.cons_append, List.nil_append, bne_self_eq_false, beq_self_eq_true, Bool.not_true, Bool.not_false, Option.isNone_some, Option.isNone_none, eq_self, true_and, and_true, and_self, s5.rd0]
      have hb3 : ((P.take j).filter nz).length * 3 + 3 ≤ cs.length := by omega
      refine s5.st1 (by omega) fun h6 s6 => ?_
      refine s6.st1 (by simp; omega) fun h7 s7 => ?_
      refine s7.st1 (by simp; omega) fun h8 s8 => ?_
      rw [wrap64 (by omega) (by omega), wrap64 (by omega) (by omega)]
      have hfl : ((P.take (j + 1)).filter nz).length = ((P.take j).filter nz).length + 1 := by rw [ft]; simp
      have hev : (eV ((P.take j).filter nz)).length = ((P.take j).filter nz).length * 3 := eV_len _
      generalize hF : (P.take j).filter nz = F at *
      have r := del_l0 (K2 := K2) hl hc hn hk d (j + 1) h8 (((cs.set (F.length * 3) (.int .i64 u)).set (F.length * 3 + 1) (.int .i64 v)).set (F.length * 3 + 2) (.int .i64 w)) (by omega) (by simpa using hcl) (by
        rw [hfl, ft, eV_app, eV_one, ← hct]
        apply List.ext_getElem?
        intro k
        rw [List.getElem?_take]
        by_cases k3 : k < (F.length + 1) * 3
        · rw [if_pos k3]
          by_cases k0 : k < F.length * 3
          · rw [List.getElem?_append_left (by rw [List.length_take]; omega), List.getElem?_take, if_pos k0]
            rw [List.getElem?_set_ne (by omega), List.getElem?_set_ne (by omega), List.getElem?_set_ne (by omega)]
          · rw [List.getElem?_append_right (by rw [List.length_take]; omega), List.length_take, Nat.min_eq_left (by omega)]
            have : k = F.length * 3 ∨ k = F.length * 3 + 1 ∨ k = F.length * 3 + 2 := by omega
            rcases this with rfl | rfl | rfl
            · rw [List.getElem?_set_ne (by omega), List.getElem?_set_ne (by omega), List.getElem?_set_self (by omega), Nat.sub_self]; rfl
            · rw [List.getElem?_set_ne (by omega), List.getElem?_set_self (by simp; omega), show F.length * 3 + 1 - F.length * 3 = 1 by omega]; rfl
            · rw [List.getElem?_set_self (by simp; omega), show F.length * 3 + 2 - F.length * 3 = 2 by omega]; rfl
        · rw [if_neg k3, List.getElem?_eq_none (by rw [List.length_append, List.length_take]; simp [Ed.vs]; omega)]) (by rw [hfl]; omega) (fun k hk => by
        rw [List.getElem?_set_ne (by omega), List.getElem?_set_ne (by omega), List.getElem?_set_ne (by omega)]; exact hrest k (by omega)) ((St.re s8 (by intro a; simp only [cntR_append, cntR_cons, cntR_nil, List.cons_append, List.nil_append, List.set_cons_zero, List.set_cons_succ]; omega)))
      rw [hfl] at r
      exact r
    · have hz : ¬ nz (u, v, w) = true := by unfold nz; simp only [bne]; rw [e]; simp
      rw [if_neg hz, List.append_nil] at ft
      rw [wrap64 (by omega) (by omega)]
      have r := del_l0 (K2 := K2) hl hc hn hk d (j + 1) h5 cs (by omega) hcl (by rw [ft]; exact hct) (by rw [ft]; omega) (fun k hk => hrest k (by omega)) s5.tail
      rw [ft] at r
      exact r

theorem Delete_of {h : Heap} {q : Option Addr} {n c : Nat} {P : List Ed} {X : Rws} {K : Option Addr → Nat → Nat → Heap → Prop} (hl : P.length = n) (hn : n < 2 ^ 40) (o : Own3 q c P X) (s : St h0 h (X ++ R))
    (hk : ∀ h' X', Own3 q c (P.filter nz) X' → St h0 h' (X' ++ R) → K q (P.filter nz).length c h') : slices_DeleteFunc_Lapi_Edge_api_Edge_edge_Merge_c1 q n c h K := by
  unfold slices_DeleteFunc_Lapi_Edge_api_Edge_edge_Merge_c1
  refine callP1.self ?_
  unfold slices_IndexFunc_Lapi_Edge_api_Edge_edge_Merge_c1
  have kp : Keeps h0 (X ++ R) q (eV P) := o.keeps fun x hx => by simp [hx]
  refine ⟨n + 1, index_l0 hl hn kp (fun h1 i e hx hz hf s1 => ?_) (fun hf h1 s1 => ?_) n 0 h (by omega) (by simp) s⟩
  · refine iteB_neg (by simp) ?_
    have hi := lt_get hx
    rcases o with ⟨_, _, rfl, _⟩ | ⟨b, z, rfl, hcap, rfl⟩
    · simp at hi
    have el := eV_len P
    rw [wrap64 (by omega) (by omega)]
    have hft : (P.take (i + 1)).filter nz = P.take i := by rw [take_snoc hx, List.filter_append, hf]; simp [hz]
    have hfl : ((P.take (i + 1)).filter nz).length = i := by rw [hft, List.length_take]; omega
    refine ⟨n - i - 1 + 1, ?_⟩
    have r := del_l0 (K2 := fun z4 h5 => (0 ≤ z4 ∧ z4 ≤ (n : Int)) ∧ clearP [(.int .i64 0), (.int .i64 0), (.int .i64 0)] (if c = z4.toNat then (some ⟨b, 0, none⟩) else (some (⟨b, 0, none⟩ : Addr)).map (·.add (z4.toNat * 3))) (n - z4.toNat) h5 fun h7 => ((0 ≤ z4 ∧ z4 ≤ (c : Int)) ∧ (K (if c = 0 then (some ⟨b, 0, none⟩) else (some (⟨b, 0, none⟩ : Addr)).map (·.add (0 * 3))) z4.toNat c h7)))
      (b := b) (c := c) (P := P) (z := z) hl (by rw [← hcap, List.length_append, el, hl]) hn (fun h2 cs' e1 e2 s2 => ?_) (n - i - 1) (i + 1) h1 (eV P ++ z) (by omega) hcap (by
        rw [hfl, hft, List.take_append_of_le_length (by omega)]
        have : P = P.take i ++ P.drop i := (List.take_append_drop i P).symm
        conv => lhs; rw [this, eV_app]
        rw [List.take_append_of_le_length (by rw [eV_len, List.length_take]; omega), List.take_of_length_le (by rw [eV_len, List.length_take]; omega)]) (by rw [hfl]; omega) (fun _ _ => rfl) s1
    · rw [hfl] at r
      exact r
    · have fl : (P.filter nz).length < n := by
        have h1 : (P.filter nz).length ≤ n := by rw [← hl]; exact List.length_filter_le _ _
        rcases Nat.lt_or_ge (P.filter nz).length n with h | h
        · exact h
        · have : P.filter nz = P := List.filter_eq_self.2 (by
            have := List.length_filter_eq_length_iff.1 (show (P.filter nz).length = P.length by omega)
            exact this)
          have := (List.filter_eq_self.1 this) e (List.mem_of_getElem? hx)
          rw [hz] at this; cases this
      rw [Int.toNat_natCast]
      have hcap2 : P.length * 3 + z.length = c * 3 := by rw [← hcap, List.length_append, el]
      rw [if_neg (by omega), if_neg (by omega)]
      simp only [Option.map_some, add_mk, Nat.zero_add, Nat.zero_mul]
      refine ⟨by omega, clear3 s2 (by omega) fun h3 cs3 e3 t3 s3 => ⟨by omega, ?_⟩⟩
      have e4 : cs3 = eV (P.filter nz) ++ cs3.drop ((P.filter nz).length * 3) := by rw [← e2, ← t3]; exact (List.take_append_drop _ _).symm
      refine hk h3 [(b, eV (P.filter nz) ++ cs3.drop ((P.filter nz).length * 3))] (.inr ⟨b, _, rfl, ?_, rfl⟩) ?_
      · rw [← e4]; omega
      · rw [← e4]; exact s3
  · refine iteB_pos rfl ?_
    have := hk h1 X (by rw [hf]; exact o) s1
    rw [hf, hl] at this; exact this
end
end Go.Proofs.YtbhndlpjfncliaaGreat
