/-
  Edges merged, the document's; that both merge to the same; edges that are the same.
-/
import Derived.Test.YtapjbmfgmnhpdaaE8
namespace Go.Proofs.Ytapjbmfgmnhpdaa
set_option linter.unusedVariables false
set_option linter.unusedSimpArgs false
set_option linter.unnecessarySimpa false
open Go.Hp Go.RowKit
attribute [local irreducible] Go.Hp.iteB Go.Hp.stC Go.Hp.newP

/-! ### Plain: one more among those in order -/
def ltK (x e : Ed) : Prop := x.1 < e.1 ∨ (x.1 = e.1 ∧ x.2.1 < e.2.1)
instance (x e : Ed) : Decidable (ltK x e) := by unfold ltK; exact inferInstance
def Up (l : List Ed) : Prop := l.Pairwise ltK
theorem addD_true {e : Ed} : ∀ {l : List Ed}, (∀ x ∈ l, ¬ sameK x e) → addD e true l = some l
  | [], _ => rfl
  | x :: l, h => by rw [addD_cons, if_neg (h x (by simp)), if_neg (by simp), addD_true fun y hy => h y (by simp [hy])]; rfl
theorem addD_lt {e : Ed} {B : List Ed} : ∀ {A : List Ed}, (∀ x ∈ A, ltK x e) → addD e false (A ++ B) = (addD e false B).map (A ++ ·)
  | [], _ => by simp
  | x :: A, h => by
    have hx := h x (by simp)
    rw [List.cons_append, addD_cons, if_neg (by unfold sameK; unfold ltK at hx; omega), if_neg (by unfold gtK; unfold ltK at hx; omega), addD_lt fun y hy => h y (by simp [hy]), Option.map_map]
    rfl
theorem split_lt {e : Ed} : ∀ {S : List Ed}, Up S → ∃ A B, S = A ++ B ∧ (∀ x ∈ A, ltK x e) ∧ ∀ x ∈ B, ¬ ltK x e
  | [], _ => ⟨[], [], rfl, by simp, by simp⟩
  | x :: S, h => by
    have hx : ∀ y ∈ S, ltK x y := fun y hy => List.rel_of_pairwise_cons h hy
    obtain ⟨A, B, h1, h2, h3⟩ := split_lt (e := e) (List.Pairwise.of_cons h)
    by_cases c : ltK x e
    · refine ⟨x :: A, B, by rw [h1]; rfl, fun y hy => ?_, h3⟩
      rcases List.mem_cons.1 hy with rfl | hy
      · exact c
      · exact h2 y hy
    · refine ⟨[], x :: S, rfl, by simp, fun y hy => ?_⟩
      rcases List.mem_cons.1 hy with rfl | hy
      · exact c
      · have := hx y hy; unfold ltK at *; omega
/-- The two ways go together. -/
theorem addP_addD {P S : List Ed} {e : Ed} (p : P.Perm S) (up : Up S) :
    (addP P e = none ∧ addD e false S = none) ∨ ∃ P' S', addP P e = some P' ∧ addD e false S = some S' ∧ P'.Perm S' ∧ Up S' := by
  obtain ⟨A, B, rfl, hA, hB⟩ := split_lt (e := e) up
  rw [addD_lt hA]
  have upA : Up A := (List.pairwise_append.1 up).1
  have upB : Up B := (List.pairwise_append.1 up).2.1
  have hAB := (List.pairwise_append.1 up).2.2
  have noA : ∀ x ∈ A, ¬ sameK x e := fun x hx => by have := hA x hx; unfold ltK at this; unfold sameK; omega
  have new : ∀ (S' : List Ed), (∀ x ∈ B, ¬ sameK x e) → addD e false B = some S' → S' = e :: B → (∀ x ∈ B, ltK e x) →
      (addP P e = none ∧ (addD e false B).map (A ++ ·) = none) ∨ ∃ P' S', addP P e = some P' ∧ (addD e false B).map (A ++ ·) = some S' ∧ P'.Perm S' ∧ Up S' := fun S' nB hS he hlt => by
    refine .inr ⟨P ++ [e], A ++ S', addP_none fun x hx => ?_, by rw [hS]; rfl, ?_, ?_⟩
    · rcases List.mem_append.1 (p.mem_iff.1 hx) with h | h
      · exact noA x h
      · exact nB x h
    · subst he
      exact (p.append_right [e]).trans (List.perm_append_singleton e (A ++ B) |>.trans (List.perm_middle.symm))
    · subst he
      refine List.pairwise_append.2 ⟨upA, List.pairwise_cons.2 ⟨hlt, upB⟩, fun a ha b hb => ?_⟩
      rcases List.mem_cons.1 hb with rfl | hb
      · exact hA a ha
      · exact hAB a ha b hb
  cases B with
  | nil => exact new [e] (by simp) rfl rfl (by simp)
  | cons x B =>
    have hx := hB x (by simp)
    have hxB : ∀ y ∈ B, ltK x y := fun y hy => List.rel_of_pairwise_cons upB hy
    have upB2 := List.Pairwise.of_cons upB
    have noB : ∀ y ∈ B, ¬ sameK y e := fun y hy => by
      have h1 := hxB y hy
      unfold ltK at h1 hx; unfold sameK; omega
    by_cases c : sameK x e
    · have hno : ∀ y ∈ P, sameK y e → y = x := fun y hy hs => by
        rcases List.mem_append.1 (p.mem_iff.1 hy) with h | h
        · exact absurd hs (noA y h)
        · rcases List.mem_cons.1 h with h | h
          · exact h
          · exact absurd hs (noB y h)
      rw [addD_cons, if_pos c]
      rcases split_key e P with hn | ⟨C, y, D, rfl, hC, hy⟩
      · exact absurd c (hn x (p.mem_iff.2 (by simp)))
      · have := hno y (by simp) hy
        subst this
        rw [addP_mid hC c]
        by_cases hf : fits (y.2.2 + e.2.2)
        · rw [if_pos hf, if_pos hf, addD_true noB]
          refine .inr ⟨_, _, rfl, rfl, ?_, ?_⟩
          · have p2 : (C ++ D).Perm (A ++ B) := by
              have := List.perm_middle.symm.trans (p.trans List.perm_middle)
              exact List.Perm.cons_inv this
            exact List.perm_middle.trans ((p2.cons _).trans List.perm_middle.symm)
          · refine List.pairwise_append.2 ⟨upA, List.pairwise_cons.2 ⟨fun b hb => ?_, upB2⟩, fun a ha b hb => ?_⟩
            · have := hxB b hb; unfold ltK at *; exact this
            · rcases List.mem_cons.1 hb with rfl | hb
              · have := hAB a ha y (by simp); unfold ltK at *; exact this
              · exact hAB a ha b (by simp [hb])
        · rw [if_neg hf, if_neg hf]
          exact .inl ⟨rfl, rfl⟩
    · have c2 : ltK e x := by unfold ltK sameK at *; omega
      refine new (e :: x :: B) (fun y hy => ?_) ?_ rfl (fun y hy => ?_)
      · rcases List.mem_cons.1 hy with rfl | hy
        · exact c
        · exact noB y hy
      · rw [addD_cons, if_neg c, if_pos ⟨rfl, by unfold gtK; unfold ltK at c2; omega⟩, addD_true noB]; rfl
      · rcases List.mem_cons.1 hy with rfl | hy
        · exact c2
        · have := hxB y hy; unfold ltK at *; omega
def stepD (o : Option (List Ed)) (x : Ed) : Option (List Ed) := match o with
  | none => none
  | some S => if x.1 = x.2.1 then some S else addD (normE x) false S
def mergeD (l : List Ed) : Option (List Ed) := l.foldl stepD (some [])
theorem stepD_none : ∀ l : List Ed, l.foldl stepD none = none
  | [] => rfl
  | x :: l => stepD_none l
theorem mergeD_snoc (l : List Ed) (x : Ed) : mergeD (l ++ [x]) = stepD (mergeD l) x := by unfold mergeD; rw [List.foldl_append]; rfl
theorem mergeD_none {l : List Ed} {i : Nat} (h : mergeD (l.take i) = none) : mergeD l = none := by
  unfold mergeD at *
  rw [show l = l.take i ++ l.drop i from (List.take_append_drop i l).symm, List.foldl_append, h]; exact stepD_none _
theorem fold_PD : ∀ (l : List Ed) (P S : List Ed), P.Perm S → Up S →
    (l.foldl stepP (some P) = none ∧ l.foldl stepD (some S) = none) ∨ ∃ P' S', l.foldl stepP (some P) = some P' ∧ l.foldl stepD (some S) = some S' ∧ P'.Perm S' ∧ Up S'
  | [], P, S, p, up => .inr ⟨P, S, rfl, rfl, p, up⟩
  | x :: l, P, S, p, up => by
    simp only [List.foldl_cons, stepP, stepD]
    by_cases c : x.1 = x.2.1
    · rw [if_pos ((normE_eq x).2 c), if_pos c]
      exact fold_PD l P S p up
    · rw [if_neg (fun h => c ((normE_eq x).1 h)), if_neg c]
      rcases addP_addD (e := normE x) p up with ⟨h1, h2⟩ | ⟨P', S', h1, h2, p', up'⟩
      · rw [h1, h2]; exact .inl ⟨step_none l, stepD_none l⟩
      · rw [h1, h2]; exact fold_PD l P' S' p' up'
theorem merge_both (l : List Ed) : (mergeP l = none ∧ mergeD l = none) ∨ ∃ P S, mergeP l = some P ∧ mergeD l = some S ∧ P.Perm S ∧ Up S := fold_PD l [] [] (.refl _) List.Pairwise.nil
theorem sort_filter {P S : List Ed} (p : P.Perm S) (up : Up S) : sortEd (P.filter nz) = S.filter nz := by
  refine sortEd_one (p.filter nz) ((up.filter nz).imp fun h => ?_)
  unfold ltEd; unfold ltK at h; omega
theorem addD_fits {e : Ed} (he : fits e.2.2) : ∀ {S T : List Ed} {d : Bool}, fitsL S → addD e d S = some T → fitsL T ∧ T.length ≤ S.length + (if d then 0 else 1)
  | [], T, d, _, h => by
    simp only [addD, Option.some.injEq] at h; subst h
    cases d
    · exact ⟨fun x hx => by simp only [Bool.false_eq_true, if_false, List.mem_singleton] at hx; subst hx; exact he, by simp⟩
    · exact ⟨fun x hx => by simp at hx, by simp⟩
  | x :: r, T, d, hP, h => by
    have hr : fitsL r := fun y hy => hP y (by simp [hy])
    rw [addD_cons] at h
    split at h
    · split at h
      · rename_i hf
        obtain ⟨t, ht, rfl⟩ := Option.map_eq_some_iff.1 h
        obtain ⟨h1, h2⟩ := addD_fits he hr ht
        exact ⟨fun y hy => by rcases List.mem_cons.1 hy with rfl | hy; exact hf; exact h1 y hy, by simp at h2 ⊢; omega⟩
      · cases h
    · split at h
      · rename_i hd
        obtain ⟨t, ht, rfl⟩ := Option.map_eq_some_iff.1 h
        obtain ⟨h1, h2⟩ := addD_fits he hr ht
        exact ⟨fun y hy => by
          rcases List.mem_cons.1 hy with rfl | hy
          · exact he
          rcases List.mem_cons.1 hy with rfl | hy
          · exact hP _ (by simp)
          · exact h1 y hy, by rw [hd.1]; simp at h2 ⊢; omega⟩
      · obtain ⟨t, ht, rfl⟩ := Option.map_eq_some_iff.1 h
        obtain ⟨h1, h2⟩ := addD_fits he hr ht
        exact ⟨fun y hy => by rcases List.mem_cons.1 hy with rfl | hy; exact hP _ (by simp); exact h1 y hy, by simp only [List.length_cons]; omega⟩

section
variable {h0 : Base} {R : Rws}
theorem rmerge_l0 {K0 : Heap → Prop} {K2 : Option Addr → Nat → Nat → Heap → Prop} {b k cl : Nat} {q : Option Addr} {l : List Ed} (hl : l.length = k) (hb : k < 2 ^ 30) (hw : fitsL l) (kl : Keeps h0 R q (eV l))
    (hk0 : mergeD l = none → ∀ h', St h0 h' ((b, [.slice none 0 0, .bool false]) :: R) → K0 h')
    (hk2 : ∀ S, mergeD l = some S → ∀ h' q' c' X, S.length ≤ k → Own3 q' c' S X → St h0 h' (X ++ (b, [.slice none 0 0, .bool false]) :: R) → K2 q' S.length c' h') :
    ∀ (d i : Nat) (h : Heap) (S : List Ed) (q' : Option Addr) (c' : Nat) (X : Rws), i + d = k → mergeD (l.take i) = some S → fitsL S → S.length ≤ i → Own3 q' c' S X → St h0 h (X ++ (b, [.slice none 0 0, .bool false]) :: R) →
      straitref15_Merge.l0 K0 K2 (d + 1) q k cl ⟨b, 0, none⟩ q' S.length c' (i : Int) h
  | 0, i, h, S, q', c', X, hi, hm, hfs, hls, o, s => by
    unfold straitref15_Merge.l0 straitref15_Merge.b0
    rw [List.take_of_length_le (by omega)] at hm
    exact iteB_neg (decide_eq_false (by omega)) (hk2 S hm h q' c' X (by omega) o s)
  | d + 1, i, h, S, q', c', X, hi, hm, hfs, hls, o, s => by
    unfold straitref15_Merge.l0 straitref15_Merge.b0
    obtain ⟨⟨u, v, w⟩, hx⟩ := get_lt (l := l) (i := i) (by omega)
    have hwx : fits w := hw _ (List.mem_of_getElem? hx)
    have vl : valsAt h q (eV l) := (kl.cons (y := (b, _))).at1 s
    have v1 : ∀ {G : Int → Prop}, (chkP q fun a' => ∃ y : Int, cell h ((a'.add (i * 3)).add 1) = some (.int .i64 y) ∧ G y) = G v := by
      intro G; simp only [addr_add]; exact vals_int vl (eV_get1 hx)
    have ms : mergeD (l.take (i + 1)) = stepD (some S) (u, v, w) := by rw [take_snoc hx, mergeD_snoc, hm]
    simp only [stepD] at ms
    refine iteB_pos (decide_eq_true (by omega)) ?_
    simp -zeta (disch := omega) only [chkP_some, iteB_true, iteB_false, add_mk, Nat.zero_add, Nat.add_zero, Nat.mul_one, Nat.reduceAdd, Int.toNat_natCast, ex_int, ex_slice, ex_ptr, ex_bool, ex_str, ex_flt, ex_any, bnd_in, List.getElem?_cons_zero, List.getElem?_cons_succ, List.set_cons_zero, List.set_cons_succ, List.cons_append, List.nil_append, bne_self_eq_false, beq_self_eq_true, Bool.not_true, Bool.not_false, Option.isNone_some, Option.isNone_none, eq_self, true_and, and_true, and_self, vals_int vl (eV_get0 hx), v1, vals_edge vl hx]
    refine iteB_intro (fun c => ?_) (fun c => ?_)
    · have c : ¬ u = v := by simpa using c
      rw [if_neg c] at ms
      have hwn : fits (normE (u, v, w)).2.2 := by rw [normE_w]; exact hwx
      refine callP3.self (RNormal_of (e := (u, v, w)) s fun h2 s2 => callP4.self (RAdd_of (e := normE (u, v, w)) rfl (by omega) hfs hwn (o.keeps fun x hx => by simp [hx]) s2 (fun no h3 s3 => ?_) (fun T hT h3 q2 c2 Y o3 s3 => ?_)))
      · refine s3.new_ fun b5 h4 s4 => s4.st0 (by simp) fun h5 s5 => ?_
        simp -zeta only [chkP_some, iteB_true, iteB_false, add_mk, Nat.zero_add, Nat.add_zero, Nat.mul_one, Nat.reduceAdd, Int.toNat_natCast, ex_int, ex_slice, ex_ptr, ex_bool, ex_str, ex_flt, ex_any, bnd_in, List.getElem?_cons_zero, List.getElem?_cons_succ, List.set_cons_zero, List.set_cons_succ, List.cons_append, List.nil_append, bne_self_eq_false, beq_self_eq_true, Bool.not_true, Bool.not_false, Option.isNone_some, Option.isNone_none, eq_self, true_and, and_true, and_self]
        refine s5.st0 (by simp) fun h6 s6 => ?_
        simp -zeta (disch := omega) only [chkP_some, iteB_true, iteB_false, add_mk, Nat.zero_add, Nat.add_zero, Nat.mul_one, Nat.reduceAdd, Int.toNat_natCast, ex_int, ex_slice, ex_ptr, ex_bool, ex_str, ex_flt, ex_any, bnd_in, List.getElem?_cons_zero, List.getElem?_cons_succ, List.set_cons_zero, List.set_cons_succ, List.cons_append, List.nil_append, bne_self_eq_false, beq_self_eq_true, Bool.not_true, Bool.not_false, Option.isNone_some, Option.isNone_none, eq_self, true_and, and_true, and_self, s6.rd0]
        have s6 := s6.tail
        refine St.st s6 (by simp) fun h7 s7 => ?_
        try simp -zeta only [chkP_some, iteB_true, iteB_false, add_mk, Nat.zero_add, Nat.add_zero, Nat.mul_one, Nat.reduceAdd, Int.toNat_natCast, ex_int, ex_slice, ex_ptr, ex_bool, ex_str, ex_flt, ex_any, bnd_in, List.getElem?_cons_zero, List.getElem?_cons_succ, List.set_cons_zero, List.set_cons_succ, List.cons_append, List.nil_append, bne_self_eq_false, beq_self_eq_true, Bool.not_true, Bool.not_false, Option.isNone_some, Option.isNone_none, eq_self, true_and, and_true, and_self]
        refine St.st s7 (by simp) fun h8 s8 => ?_
        refine hk0 (mergeD_none (i := i + 1) (by rw [ms]; exact no)) h8 s8.drop
      · refine s3.new_ fun b5 h4 s4 => s4.st0 (by simp) fun h5 s5 => ?_
        simp -zeta only [chkP_some, iteB_true, iteB_false, add_mk, Nat.zero_add, Nat.add_zero, Nat.mul_one, Nat.reduceAdd, Int.toNat_natCast, ex_int, ex_slice, ex_ptr, ex_bool, ex_str, ex_flt, ex_any, bnd_in, List.getElem?_cons_zero, List.getElem?_cons_succ, List.set_cons_zero, List.set_cons_succ, List.cons_append, List.nil_append, bne_self_eq_false, beq_self_eq_true, Bool.not_true, Bool.not_false, Option.isNone_some, Option.isNone_none, eq_self, true_and, and_true, and_self]
        refine s5.st0 (by simp) fun h6 s6 => ?_
        simp -zeta (disch := omega) only [chkP_some, iteB_true, iteB_false, add_mk, Nat.zero_add, Nat.add_zero, Nat.mul_one, Nat.reduceAdd, Int.toNat_natCast, ex_int, ex_slice, ex_ptr, ex_bool, ex_str, ex_flt, ex_any, bnd_in, List.getElem?_cons_zero, List.getElem?_cons_succ, List.set_cons_zero, List.set_cons_succ, List.cons_append, List.nil_append, bne_self_eq_false, beq_self_eq_true, Bool.not_true, Bool.not_false, Option.isNone_some, Option.isNone_none, eq_self, true_and, and_true, and_self, s6.rd0]
        obtain ⟨hf2, hl2⟩ := addD_fits hwn hfs hT
        have hl2 : T.length ≤ S.length + 1 := hl2
        rw [wrap64 (by omega) (by omega)]
        exact rmerge_l0 hl hb hw kl hk0 hk2 d (i + 1) h6 T q2 c2 Y (by omega) (by rw [ms]; exact hT) hf2 (by omega) o3 ((St.re s6 (by intro a; simp only [cntR_append, cntR_cons, cntR_nil, List.cons_append, List.nil_append, List.set_cons_zero, List.set_cons_succ]; omega)))
    · have c : u = v := by simpa using c
      rw [if_pos c] at ms
      rw [wrap64 (by omega) (by omega)]
      exact rmerge_l0 hl hb hw kl hk0 hk2 d (i + 1) h S q' c' X (by omega) ms hfs (by omega) o s
theorem rmerge_l1 {K4 : Option Addr → Nat → Nat → Heap → Prop} {b k cl : Nat} {q : Option Addr} {l : List Ed} {c0 : List Value} (hl : l.length = k) (hb : k < 2 ^ 30) (kl : Keeps h0 R q (eV l))
    (hk : ∀ h' q' c' X, Own3 q' c' (l.filter nz) X → St h0 h' (X ++ (b, c0) :: R) → K4 q' (l.filter nz).length c' h') :
    ∀ (d i : Nat) (h : Heap) (q' : Option Addr) (c' : Nat) (X : Rws), i + d = k → Own3 q' c' ((l.take i).filter nz) X → St h0 h (X ++ (b, c0) :: R) → straitref15_Merge.l1 K4 (d + 1) ⟨b, 0, none⟩ q k cl q' ((l.take i).filter nz).length c' (i : Int) h
  | 0, i, h, q', c', X, hi, o, s => by
    unfold straitref15_Merge.l1 straitref15_Merge.b1
    rw [List.take_of_length_le (by omega)] at o ⊢
    exact iteB_neg (decide_eq_false (by omega)) (hk h q' c' X o s)
  | d + 1, i, h, q', c', X, hi, o, s => by
    unfold straitref15_Merge.l1 straitref15_Merge.b1
    obtain ⟨⟨u, v, w⟩, hx⟩ := get_lt (l := l) (i := i) (by omega)
    have vl : valsAt h q (eV l) := (kl.cons (y := (b, _))).at1 s
    have ht : (l.take (i + 1)).filter nz = (l.take i).filter nz ++ [(u, v, w)].filter nz := by rw [take_snoc hx, List.filter_append]
    have hlen : ((l.take i).filter nz).length ≤ i := Nat.le_trans (List.length_filter_le _ _) (by rw [List.length_take]; omega)
    refine iteB_pos (decide_eq_true (by omega)) ?_
    simp -zeta (disch := omega) only [chkP_some, iteB_true, iteB_false, add_mk, Nat.zero_add, Nat.add_zero, Nat.mul_one, Nat.reduceAdd, Int.toNat_natCast, ex_int, ex_slice, ex_ptr, ex_bool, ex_str, ex_flt, ex_any, bnd_in, List.getElem?_cons_zero, List.getElem?_cons_succ, List.set_cons_zero, List.set_cons_succ, List.cons_append, List.nil_append, bne_self_eq_false, beq_self_eq_true, Bool.not_true, Bool.not_false, Option.isNone_some, Option.isNone_none, eq_self, true_and, and_true, and_self, vals_edge2 vl hx, vals_edge vl hx]
    refine iteB_intro (fun c => ?_) (fun c => ?_)
    · have c : w ≠ 0 := by simpa using c
      rw [show [(u, v, w)].filter nz = [(u, v, w)] by simp [nz, c]] at ht
      refine Own3.push1 o s rfl (by omega) fun q2 c2 X2 h2 o2 s2 => ?_
      rw [wrap64 (by omega) (by omega)]
      rw [← ht] at o2
      rw [show ((l.take i).filter nz).length + 1 = ((l.take (i + 1)).filter nz).length by rw [ht]; simp]
      exact rmerge_l1 hl hb kl hk d (i + 1) h2 q2 c2 X2 (by omega) o2 s2
    · have c : w = 0 := by simpa using c
      rw [show [(u, v, w)].filter nz = [] by simp [nz, c], List.append_nil] at ht
      rw [wrap64 (by omega) (by omega)]
      rw [← ht] at o ⊢
      exact rmerge_l1 hl hb kl hk d (i + 1) h q' c' X (by omega) o s
theorem RMerge_of {h : Heap} {k cl : Nat} {q : Option Addr} {l : List Ed} {K : Option Addr → Nat → Nat → Bool → Heap → Prop} (hl : l.length = k) (hb : k < 2 ^ 30) (hw : fitsL l) (kl : Keeps h0 R q (eV l)) (s : St h0 h R)
    (hk0 : mergeD l = none → ∀ h', St h0 h' R → K none 0 0 false h')
    (hk : ∀ S, mergeD l = some S → ∀ h' q c X, Own3 q c (S.filter nz) X → St h0 h' (X ++ R) → K q (S.filter nz).length c true h') : straitref15_Merge q k cl h K := by
  unfold straitref15_Merge
  refine s.new_ fun b h1 s1 => ⟨k + 1, rmerge_l0 hl hb hw kl (fun no h2 s2 => ?_) (fun S hS h2 q' c' X hSl o s2 => ?_) k 0 h1 [] none 0 [] (by omega) rfl (fun x hx => by cases hx) (by simp) Own3.nil s1⟩
  · try simp -zeta (disch := omega) only [chkP_some, iteB_true, iteB_false, add_mk, Nat.zero_add, Nat.add_zero, Nat.mul_one, Nat.reduceAdd, Int.toNat_natCast, ex_int, ex_slice, ex_ptr, ex_bool, ex_str, ex_flt, ex_any, bnd_in, List.getElem?_cons_zero, List.getElem?_cons_succ, List.set_cons_zero, List.set_cons_succ, List.cons_append, List.nil_append, bne_self_eq_false, beq_self_eq_true, Bool.not_true, Bool.not_false, Option.isNone_some, Option.isNone_none, eq_self, true_and, and_true, and_self, s2.rd0]
    exact hk0 no h2 s2.tail
  · refine ⟨S.length + 1, rmerge_l1 (R := X ++ R) (b := b) (c0 := [.slice none 0 0, .bool false]) rfl (by omega) (o.keeps fun x hx => by simp [hx]) (fun h3 q3 c3 Y o3 s3 => ?_) S.length 0 h2 none 0 [] (by omega) Own3.nil ((St.re s2 (by intro a; simp only [cntR_append, cntR_cons, cntR_nil, List.cons_append, List.nil_append, List.set_cons_zero, List.set_cons_succ]; omega)))⟩
    refine St.st s3 (by simp) fun h4 s4 => ?_
    try simp -zeta only [chkP_some, iteB_true, iteB_false, add_mk, Nat.zero_add, Nat.add_zero, Nat.mul_one, Nat.reduceAdd, Int.toNat_natCast, ex_int, ex_slice, ex_ptr, ex_bool, ex_str, ex_flt, ex_any, bnd_in, List.getElem?_cons_zero, List.getElem?_cons_succ, List.set_cons_zero, List.set_cons_succ, List.cons_append, List.nil_append, bne_self_eq_false, beq_self_eq_true, Bool.not_true, Bool.not_false, Option.isNone_some, Option.isNone_none, eq_self, true_and, and_true, and_self]
    refine St.st s4 (by simp) fun h5 s5 => ?_
    simp only [List.set_cons_zero, List.set_cons_succ, Nat.zero_add] at s5
    have r0 : ∀ j, cell h5 ⟨b, j, none⟩ = [Value.slice q3 (S.filter nz).length c3, .bool true][j]? := s5.rd (by simp)
    simp -zeta (disch := omega) only [chkP_some, iteB_true, iteB_false, add_mk, Nat.zero_add, Nat.add_zero, Nat.mul_one, Nat.reduceAdd, Int.toNat_natCast, ex_int, ex_slice, ex_ptr, ex_bool, ex_str, ex_flt, ex_any, bnd_in, List.getElem?_cons_zero, List.getElem?_cons_succ, List.set_cons_zero, List.set_cons_succ, List.cons_append, List.nil_append, bne_self_eq_false, beq_self_eq_true, Bool.not_true, Bool.not_false, Option.isNone_some, Option.isNone_none, eq_self, true_and, and_true, and_self, r0]
    exact hk S hS h5 q3 c3 Y o3 ((St.re s5 (by intro a; simp only [cntR_append, cntR_cons, cntR_nil, List.cons_append, List.nil_append, List.set_cons_zero, List.set_cons_succ]; omega)))

theorem same_l0 {h : Heap} {K0 : Bool → Heap → Prop} {K2 : Heap → Prop} {k c1 c2 : Nat} {p1 p2 : Option Addr} {l1 l2 : List Ed} (v1 : valsAt h p1 (eV l1)) (v2 : valsAt h p2 (eV l2)) (h1 : l1.length = k) (h2 : l2.length = k) (hb : k < 2 ^ 40) (hk0 : l1 ≠ l2 → K0 false h) (hk2 : l1 = l2 → K2 h) :
    ∀ (d i : Nat), i + d = k → l1.take i = l2.take i → straitref15_Same.l0 K0 K2 (d + 1) p1 k c1 p2 k c2 (i : Int) h
  | 0, i, hi, he => by
    unfold straitref15_Same.l0 straitref15_Same.b0
    refine iteB_neg (decide_eq_false (by omega)) (hk2 ?_)
    rwa [List.take_of_length_le (by omega), List.take_of_length_le (by omega)] at he
  | d + 1, i, hi, he => by
    unfold straitref15_Same.l0 straitref15_Same.b0
    obtain ⟨⟨u, v, w⟩, hx⟩ := get_lt (l := l1) (i := i) (by omega)
    obtain ⟨⟨x, y, z⟩, hy⟩ := get_lt (l := l2) (i := i) (by omega)
    refine iteB_pos (decide_eq_true (by omega)) ?_
    simp -zeta (disch := omega) only [chkP_some, iteB_true, iteB_false, add_mk, Nat.zero_add, Nat.add_zero, Nat.mul_one, Nat.reduceAdd, Int.toNat_natCast, ex_int, ex_slice, ex_ptr, ex_bool, ex_str, ex_flt, ex_any, bnd_in, List.getElem?_cons_zero, List.getElem?_cons_succ, List.set_cons_zero, List.set_cons_succ, List.cons_append, List.nil_append, bne_self_eq_false, beq_self_eq_true, Bool.not_true, Bool.not_false, Option.isNone_some, Option.isNone_none, eq_self, true_and, and_true, and_self, vals_edge v1 hx, vals_edge v2 hy, eqAll3]
    refine iteB_intro (fun c => hk0 ?_) (fun c => ?_)
    · rintro rfl; rw [hx] at hy; cases hy; simp at c
    · have c : (u == x && v == y && w == z) = true := by simpa using c
      simp only [Bool.and_eq_true, beq_iff_eq] at c
      obtain ⟨⟨rfl, rfl⟩, rfl⟩ := c
      rw [wrap64 (by omega) (by omega)]
      exact same_l0 v1 v2 h1 h2 hb hk0 hk2 d (i + 1) (by omega) (by rw [take_snoc hx, take_snoc hy, he])
theorem Same_of {h : Heap} {K : Bool → Heap → Prop} {n1 n2 c1 c2 : Nat} {p1 p2 : Option Addr} {l1 l2 : List Ed} (v1 : valsAt h p1 (eV l1)) (v2 : valsAt h p2 (eV l2)) (h1 : n1 = l1.length) (h2 : n2 = l2.length) (hb : n1 < 2 ^ 40) (hk : K (decide (l1 = l2)) h) : straitref15_Same p1 n1 c1 p2 n2 c2 h K := by
  unfold straitref15_Same
  subst h1 h2
  by_cases e : l1.length = l2.length
  · refine iteB_neg (by simp; omega) ⟨l1.length + 1, ?_⟩
    rw [← e]
    exact same_l0 v1 v2 rfl e.symm hb (fun hne => by rw [decide_eq_false hne] at hk; exact hk) (fun he => by rw [decide_eq_true he] at hk; exact hk) l1.length 0 (by omega) rfl
  · refine iteB_pos (by simp; omega) ?_
    rw [decide_eq_false (fun h => e (by rw [h]))] at hk; exact hk
end
end Go.Proofs.Ytapjbmfgmnhpdaa
