/-
  Edges in order; edges merged, the program's.
-/
import Derived.Test.YtbhndlpjfncliaaGreatE3
namespace Go.Proofs.YtbhndlpjfncliaaGreat
set_option linter.unusedVariables false
set_option linter.unusedSimpArgs false
set_option linter.unnecessarySimpa false
open Go.Hp Go.RowKit Go.Sort
attribute [local irreducible] Go.Hp.iteB Go.Hp.stC Go.Hp.newP

def cfI (x y : Int) : Int := if x < y then -1 else if x > y then 1 else 0
theorem cfI_zero {x y : Int} : cfI x y = 0 ↔ x = y := by unfold cfI; split <;> (try split) <;> omega
theorem cfI_neg {x y : Int} : cfI x y < 0 ↔ x < y := by unfold cfI; split <;> (try split) <;> omega
theorem compare_of {x y : Int} {h : Heap} {K : Int → Heap → Prop} (hk : K (cfI x y) h) : cmp_Compare_int x y h K := by
  unfold cmp_Compare_int
  refine qcallP1.of false (fun R hR => by unfold cmp_isNaN_int; simpa using hR) ?_
  refine qcallP1.of false (fun R hR => by unfold cmp_isNaN_int; simpa using hR) ?_
  refine iteB_neg rfl (iteB_neg rfl ?_)
  unfold cfI at hk
  refine iteB_intro (fun e => ?_) (fun e => ?_)
  · rwa [if_pos (of_decide_eq_true e)] at hk
  · rw [if_neg (of_decide_eq_false e)] at hk
    refine iteB_intro (fun e2 => ?_) (fun e2 => ?_)
    · rwa [if_pos (of_decide_eq_true e2)] at hk
    · rwa [if_neg (of_decide_eq_false e2)] at hk
theorem compare64_of {x y : Int} {h : Heap} {K : Int → Heap → Prop} (hk : K (cfI x y) h) : cmp_Compare_int64 x y h K := by
  unfold cmp_Compare_int64
  refine qcallP1.of false (fun R hR => by unfold cmp_isNaN_int64; simpa using hR) ?_
  refine qcallP1.of false (fun R hR => by unfold cmp_isNaN_int64; simpa using hR) ?_
  refine iteB_neg rfl (iteB_neg rfl ?_)
  unfold cfI at hk
  refine iteB_intro (fun e => ?_) (fun e => ?_)
  · rwa [if_pos (of_decide_eq_true e)] at hk
  · rw [if_neg (of_decide_eq_false e)] at hk
    refine iteB_intro (fun e2 => ?_) (fun e2 => ?_)
    · rwa [if_pos (of_decide_eq_true e2)] at hk
    · rwa [if_neg (of_decide_eq_false e2)] at hk
def cmpEd (e f : Ed) : Int := if cfI e.1 f.1 ≠ 0 then cfI e.1 f.1 else if cfI e.2.1 f.2.1 ≠ 0 then cfI e.2.1 f.2.1 else cfI e.2.2 f.2.2
def ltEd (e f : Ed) : Prop := e.1 < f.1 ∨ (e.1 = f.1 ∧ (e.2.1 < f.2.1 ∨ (e.2.1 = f.2.1 ∧ e.2.2 < f.2.2)))
instance (e f : Ed) : Decidable (ltEd e f) := by unfold ltEd; exact inferInstance
theorem cmpEd_neg {e f : Ed} : cmpEd e f < 0 ↔ ltEd e f := by
  unfold cmpEd ltEd cfI
  (repeat' split) <;> omega
theorem cmpEd_zero {e f : Ed} : cmpEd e f = 0 ↔ e = f := by
  obtain ⟨a, b, c⟩ := e; obtain ⟨x, y, z⟩ := f
  have h1 := @cfI_zero a x
  have h2 := @cfI_zero b y
  have h3 := @cfI_zero c z
  simp only [cmpEd, Prod.mk.injEq]
  by_cases c1 : cfI a x = 0
  · by_cases c2 : cfI b y = 0
    · rw [if_neg (by simp [c1]), if_neg (by simp [c2]), h3]
      exact ⟨fun h => ⟨h1.1 c1, h2.1 c2, h⟩, fun h => h.2.2⟩
    · rw [if_neg (by simp [c1]), if_pos c2]
      exact ⟨fun h => absurd h c2, fun h => h2.2 h.2.1⟩
  · rw [if_pos c1]
    exact ⟨fun h => absurd h c1, fun h => h1.2 h.1⟩
theorem ltOfE (e f : Ed) : ltOf cmpEd e f = decide (ltEd e f) := by unfold ltOf; exact decide_eq_decide.2 cmpEd_neg
theorem swoEd : SWO (ltOf cmpEd) where
  irrefl x := by rw [ltOfE]; unfold ltEd; simp
  trans x y z := by simp only [ltOfE, decide_eq_true_eq]; unfold ltEd; omega
  ntrans x y z := by simp only [ltOfE, decide_eq_false_iff_not]; unfold ltEd; omega
theorem totEd (e f : Ed) : ltOf cmpEd e f = false → ltOf cmpEd f e = false → e = f := by
  simp only [ltOfE, decide_eq_false_iff_not]
  obtain ⟨a, b, c⟩ := e; obtain ⟨x, y, z⟩ := f
  unfold ltEd; simp only [Prod.mk.injEq]
  intro h1 h2
  omega

section
variable {h0 : Base} {R : Rws}
theorem or3_of {h : Heap} {b : Nat} {x y z : Int} {K : Int → Heap → Prop} (hr : row h b [.int .i64 x, .int .i64 y, .int .i64 z]) (hk : K (if x ≠ 0 then x else if y ≠ 0 then y else z) h) : cmp_Or_int (some ⟨b, 0, none⟩) 3 3 h K := by
  unfold cmp_Or_int
  have r0 : cell h ⟨b, 0, none⟩ = some (.int .i64 x) := by rw [hr.cell]; rfl
  have r1 : cell h ⟨b, 1, none⟩ = some (.int .i64 y) := by rw [hr.cell]; rfl
  have r2 : cell h ⟨b, 2, none⟩ = some (.int .i64 z) := by rw [hr.cell]; rfl
  refine ⟨4, ?_⟩
  unfold cmp_Or_int.l0 cmp_Or_int.b0
  refine iteB_pos rfl ⟨⟨by omega, by omega⟩, x, r0, ?_⟩
  refine iteB_intro (fun e => ?_) (fun e => ?_)
  · rwa [if_pos (by simpa using e)] at hk
  rw [if_neg (by simpa using e)] at hk
  rw [wrap64 (by omega) (by omega)]
  unfold cmp_Or_int.l0 cmp_Or_int.b0
  refine iteB_pos rfl ⟨⟨by omega, by omega⟩, y, r1, ?_⟩
  refine iteB_intro (fun e => ?_) (fun e => ?_)
  · rwa [if_pos (by simpa using e)] at hk
  rw [if_neg (by simpa using e)] at hk
  rw [wrap64 (by omega) (by omega)]
  unfold cmp_Or_int.l0 cmp_Or_int.b0
  refine iteB_pos rfl ⟨⟨by omega, by omega⟩, z, r2, ?_⟩
  refine iteB_intro (fun e => hk) (fun e => ?_)
  have e : z = 0 := by simpa using e
  subst e
  rw [wrap64 (by omega) (by omega)]
  unfold cmp_Or_int.l0 cmp_Or_int.b0
  exact iteB_neg rfl hk
theorem Cmp_of {h : Heap} {e f : Ed} {K : Int → Heap → Prop} (s : St h0 h R) (hk : ∀ h', St h0 h' R → K (cmpEd e f) h') : edge_Cmp e.1 e.2.1 e.2.2 f.1 f.2.1 f.2.2 h K := by
  unfold edge_Cmp
  refine s.new_ fun b1 h1 s1 => s1.new_ fun b2 h2 s2 => ?_
  try simp -zeta (disch := omega) only [chkP_some, iteB_true, iteB_false, add_mk, Nat.zero_add, Nat.add_zero, Nat.mul_one, Nat.reduceAdd, Int.toNat_natCast, ex_int, ex_slice, ex_ptr, ex_bool, ex_str, ex_flt, ex_any, bnd_in, List.getElem?_cons_zero, List.getElem?_cons_succ, List.set_cons_zero, List.set_cons_succ, List.cons_append, List.nil_append, bne_self_eq_false, beq_self_eq_true, Bool.not_true, Bool.not_false, Option.isNone_some, Option.isNone_none, eq_self, true_and, and_true, and_self, s2.rd0, s2.rd1]
  refine qcallP1.of _ (fun Q hQ => compare_of hQ) ?_
  try simp -zeta (disch := omega) only [chkP_some, iteB_true, iteB_false, add_mk, Nat.zero_add, Nat.add_zero, Nat.mul_one, Nat.reduceAdd, Int.toNat_natCast, ex_int, ex_slice, ex_ptr, ex_bool, ex_str, ex_flt, ex_any, bnd_in, List.getElem?_cons_zero, List.getElem?_cons_succ, List.set_cons_zero, List.set_cons_succ, List.cons_append, List.nil_append, bne_self_eq_false, beq_self_eq_true, Bool.not_true, Bool.not_false, Option.isNone_some, Option.isNone_none, eq_self, true_and, and_true, and_self, s2.rd0, s2.rd1]
  refine qcallP1.of _ (fun Q hQ => compare_of hQ) ?_
  try simp -zeta (disch := omega) only [chkP_some, iteB_true, iteB_false, add_mk, Nat.zero_add, Nat.add_zero, Nat.mul_one, Nat.reduceAdd, Int.toNat_natCast, ex_int, ex_slice, ex_ptr, ex_bool, ex_str, ex_flt, ex_any, bnd_in, List.getElem?_cons_zero, List.getElem?_cons_succ, List.set_cons_zero, List.set_cons_succ, List.cons_append, List.nil_append, bne_self_eq_false, beq_self_eq_true, Bool.not_true, Bool.not_false, Option.isNone_some, Option.isNone_none, eq_self, true_and, and_true, and_self, s2.rd0, s2.rd1]
  refine qcallP1.of _ (fun Q hQ => compare64_of hQ) ?_
  refine s2.new_ fun b3 h3 s3 => ?_
  refine qcallP1.of (cmpEd e f) (fun Q hQ => or3_of (s3.rows (b3, _) (by simp)) hQ) ?_
  exact hk h3 s3.tail.tail.tail
end

/-! ### The library's sort, at edges -/
def sortEd (l : List Ed) : List Ed := l.mergeSort fun x y => !decide (ltEd y x)
theorem sortEd_len (l : List Ed) : (sortEd l).length = l.length := List.length_mergeSort ..
theorem sortEd_perm (l : List Ed) : (sortEd l).Perm l := List.mergeSort_perm ..
theorem sortEd_up (l : List Ed) : (sortEd l).Pairwise fun x y => ¬ ltEd y x := by
  have := List.pairwise_mergeSort (le := fun x y : Ed => !decide (ltEd y x)) (fun a b c h1 h2 => by
    simp only [Bool.not_eq_true', decide_eq_false_iff_not] at *; unfold ltEd at *; omega) (fun a b => by
    simp only [Bool.or_eq_true, Bool.not_eq_true', decide_eq_false_iff_not]; unfold ltEd; omega) l
  exact this.imp fun h => by simpa using h
theorem sortEd_one {l m : List Ed} (p : l.Perm m) (hm : m.Pairwise fun x y => ¬ ltEd y x) : sortEd l = m := by
  refine List.Perm.eq_of_pairwise (le := fun x y => ¬ ltEd y x) (fun a b _ _ h1 h2 => totEd a b (by rw [ltOfE]; exact decide_eq_false h2) (by rw [ltOfE]; exact decide_eq_false h1)) (sortEd_up l) hm ((sortEd_perm l).trans p)

instance : Inhabited Ed := ⟨(0, 0, 0)⟩
theorem flatK_eV (l : List Ed) : (flatK Ed.vs 3 l.toArray).toList = eV l := by
  apply List.ext_getElem?
  intro t
  by_cases h : t < l.length * 3
  · have h3 : t / 3 < l.length := by omega
    obtain ⟨e, he⟩ := get_lt h3
    have e1 := eV_get (o := t % 3) he (by omega)
    rw [show t / 3 * 3 + t % 3 = t by omega] at e1
    rw [e1]
    have e2 : l.toArray[t / 3]! = e := by
      rw [getElem!_pos l.toArray (t / 3) (by simpa using h3)]
      obtain ⟨_, he⟩ := List.getElem?_eq_some_iff.1 he
      simpa using he
    unfold flatK
    simp only [List.size_toArray, Array.toList_map, Array.toList_range, List.getElem?_map, List.getElem?_range h, Option.map_some, e2]
    have hl : t % 3 < (Ed.vs e).length := by simp [Ed.vs]; omega
    rw [getElem!_pos (Ed.vs e) (t % 3) hl, List.getElem?_eq_getElem hl]
  · rw [List.getElem?_eq_none (by rw [Array.length_toList, size_flatK]; simp; omega), List.getElem?_eq_none (by rw [eV_len]; omega)]
theorem ext_append {h h' : Heap} (e : Ext h h') : ∃ os : Array Obj, h' = h ++ os := by
  refine ⟨h'.extract h.size h'.size, ?_⟩
  apply Array.ext_getElem?
  intro i
  rcases Nat.lt_or_ge i h.size with hi | hi
  · rw [Array.getElem?_append_left hi, e.at_ i hi]
  · rw [Array.getElem?_append_right hi, Array.getElem?_extract]
    have := e.size
    rcases Nat.lt_or_ge i h'.size with h2 | h2
    · rw [if_pos (by omega), show h.size + (i - h.size) = i by omega]
    · rw [Array.getElem?_eq_none (by omega), if_neg (by omega)]
theorem out_ext [DKc] {w w' : World} (d : DK) (o : Out w w') (e : Ext w.heap w'.heap) : ∃ q os', w' = grow (w.drewN q) os' := by
  obtain ⟨os, ho⟩ := ext_append e
  obtain ⟨h1, h2, h3, h4⟩ := o
  have h4 := h4 d
  refine ⟨w'.drawn - w.drawn, os, ?_⟩
  cases w; cases w'
  simp only [World.drewN, grow] at *
  subst ho h1 h2 h3
  congr 1
  omega

theorem cmpLaysE {b n : Nat} {w : World} : CmpLays Tryz.prog 72 #[] Ed.vs 3 cmpEd b 0 n w := fun m os dk hdk x y => by
  letI : DKc := ⟨True⟩
  have hc := (edge_Cmp.calls (a1 := x.1) (a2 := x.2.1) (a3 := x.2.2) (a4 := y.1) (a5 := y.2.1) (a6 := y.2.2) (h := (sortWorldK Ed.vs 3 w b 0 m dk os).heap) (K := fun r h' => r = cmpEd x y ∧ Ext (sortWorldK Ed.vs 3 w b 0 m dk os).heap h')
    (Cmp_of (e := x) (f := y) (St.refl _) fun h' s => ⟨rfl, s.ext⟩) _ rfl).2
  refine hc.mono ?_
  rintro e w' ⟨v, rfl, ho2, hr⟩
  have hv := edge_Cmp.ret_elim (K' := fun v h' => v = .int .i64 (cmpEd x y) ∧ Ext (sortWorldK Ed.vs 3 w b 0 m dk os).heap h') (by rintro r h' ⟨rfl, e⟩; exact ⟨rfl, e⟩) hr
  exact ⟨by rw [hv.1], out_ext trivial ho2 hv.2⟩
theorem infoEd : (Tryz.prog.info? 82).map (·.size) = some 3 := by kernel_rfl
theorem SortEd_of {h0 : Base} {h : Heap} {R : Rws} {q : Option Addr} {c n : Nat} {l : List Ed} {X : Rws} {K : Heap → Prop} (hn : l.length = n) (hn2 : n < 2 ^ 40) (o : Own3 q c l X) (s : St h0 h (X ++ R))
    (hk : ∀ X' h', Own3 q c (sortEd l) X' → St h0 h' (X' ++ R) → K h') : slices_SortFunc_Lapi_Edge_api_Edge_edge_Cmp q n c h K := by
  intro w hw
  subst hw
  refine ⟨enters_of Tryz.func71 (by kernel_rfl) rfl _ _, ?_⟩
  rcases o with ⟨rfl, rfl, rfl, rfl⟩ | ⟨b, z, rfl, hc2, rfl⟩
  · have hn : n = 0 := by simpa using hn.symm
    subst hn
    refine (AnyF.slices_SortFunc_none Tryz.sortE _ _ _ w).mono ?_
    rintro e w' ⟨rfl, rfl⟩
    exact ⟨_, rfl, Out.refl _, hk [] _ (by simpa [sortEd] using Own3.nil) s⟩
  have hd2 : (flatK Ed.vs 3 l.toArray).toList.map id = eV l := by rw [List.map_id, flatK_eV]
  have s' : St h0 w.heap ((b, (flatK Ed.vs 3 l.toArray).toList.map id ++ z) :: R) := by rw [hd2]; exact s
  have hH : HoldsK Ed.vs 3 w b 0 l.toArray := holds_row (enc := id) (d := flatK Ed.vs 3 l.toArray) (z := z) (s'.rows (b, (flatK Ed.vs 3 l.toArray).toList.map id ++ z) (by simp))
  have hlt := (s'.rows (b, (flatK Ed.vs 3 l.toArray).toList.map id ++ z) (by simp)).lt
  obtain ⟨i, hi, hi3⟩ : ∃ i, Tryz.prog.info? 82 = some i ∧ i.size = 3 := by
    have := infoEd
    cases hi : Tryz.prog.info? 82 with
    | none => rw [hi] at this; cases this
    | some i => rw [hi] at this; exact ⟨i, rfl, by simpa using this⟩
  have HC := AnyQ.slices_SortFunc_total Tryz.sortE 3 (fun w => Go.Hp.run_isAgg (by kernel_rfl) w) (fun w => by have := Go.Hp.run_sizeOf hi w; rw [hi3] at this; exact this) Ed.vs (fun _ => rfl) (fun x v hv => by
    simp only [Ed.vs, List.mem_cons, List.not_mem_nil, or_false] at hv
    rcases hv with rfl | rfl | rfl <;> rfl) cmpEd swoEd 72 #[] b 0 c l.toArray w (fun _ _ => enters_of Tryz.func72 (by kernel_rfl) rfl _ _) cmpLaysE hH hlt (by simp; omega) totEd
  rw [show l.toArray.size = n by simpa using hn] at HC
  refine HC.mono ?_
  rintro e w' ⟨rfl, m, os, rfl⟩
  refine ⟨_, rfl, out_sorted (enc := id) (off := 0), ?_⟩
  have e1 : l.toArray.toList.mergeSort (fun x y => !(ltOf cmpEd) y x) = sortEd l := by
    unfold sortEd
    have e9 : (fun x y => !(ltOf cmpEd) y x) = fun x y => !decide (ltEd y x) := funext fun x => funext fun y => by rw [ltOfE]
    rw [e9]
  have s2 := s'.sorted (n := m) (d' := flatK Ed.vs 3 (l.toArray.toList.mergeSort fun x y => !(ltOf cmpEd) y x).toArray) (os := os) (by simp)
  rw [List.map_id, flatK_eV, e1] at s2
  refine hk [(b, eV (sortEd l) ++ z)] _ (.inr ⟨b, z, rfl, ?_, rfl⟩) ?_
  · rw [← hc2]; simp only [List.length_append, eV_len, sortEd_len]
  · rw [e1]; exact s2

section
variable {h0 : Base} {R : Rws}
theorem Merge_of {h : Heap} {ql : Option Addr} {n cl : Nat} {l : List Ed} {K : Option Addr → Nat → Nat → Bool → Heap → Prop} (hl : l.length = n) (hn : n < 2 ^ 30) (hw : fitsL l) (kl : Keeps h0 R ql (eV l)) (s : St h0 h R)
    (hk0 : mergeP l = none → ∀ h', St h0 h' R → K none 0 0 false h')
    (hk : ∀ P, mergeP l = some P → ∀ h' q c X, Own3 q c (sortEd (P.filter nz)) X → St h0 h' (X ++ R) → K q (P.filter nz).length c true h') : edge_Merge ql n cl h K := by
  unfold edge_Merge
  refine St.newO rfl s fun bm h1 hf s1 => ⟨n + 1, ?_⟩
  refine merge_l0 hf hl hn hw kl hk0 (fun P hP h2 q c X _ hpn o s2 => ?_) n 0 h1 [] none 0 [] (by omega) rfl (fun x hx => by cases hx) (by simp) Own3.nil s1
  refine callP3.self (Delete_of rfl (by omega) o s2 fun h3 X3 o3 s3 => ?_)
  have hf := List.length_filter_le nz P
  exact callP0.self (SortEd_of rfl (by omega) o3 s3 fun X4 h4 o4 s4 => hk P hP h4 q c X4 o4 s4)
end
end Go.Proofs.YtbhndlpjfncliaaGreat
