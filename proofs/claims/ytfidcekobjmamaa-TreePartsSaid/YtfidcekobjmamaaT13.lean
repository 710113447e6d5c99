/-
  Trees: what is below a vertex, the program's.
-/
import Derived.Test.YtfidcekobjmamaaT12
namespace Go.Proofs.Ytfidcekobjmamaa
set_option linter.unusedVariables false
set_option linter.unusedSimpArgs false
set_option linter.unnecessarySimpa false
open Go.Hp Go.RowKit
attribute [local irreducible] Go.Hp.iteB Go.Hp.stC Go.Hp.newP

theorem ordP_perm (dl : List Nat) : (ordP dl).Perm (List.range dl.length) := srt_perm _
theorem ordP_len (dl : List Nat) : (ordP dl).length = dl.length := by rw [ordP, srt_len, List.length_range]
/-- Who is above comes ahead. -/
theorem ord_above {up w : List Int} (r : RightT up w) {i u f : Nat} (hi : (ordP (depL up w))[i]? = some u) (hu : u < up.length) (hf : UU up u = (f : Int)) : f ∈ (ordP (depL up w)).take i := by
  have hl : (depL up w).length = up.length := by rw [depL, if_pos r]; simp
  have hD : ∀ v, v < up.length → (depL up w).getD v 0 = dN up v := fun v hv => by rw [depL, if_pos r]; simp [List.getD, hv]
  obtain ⟨d, hd⟩ := rt_deep r hu
  obtain ⟨e, he, hfe⟩ := hd.up hf
  have hfn := hfe.lt
  have hmem : f ∈ ordP (depL up w) := (ordP_perm _).mem_iff.2 (by rw [hl]; exact List.mem_range.2 hfn)
  obtain ⟨j, hj, hjf⟩ := List.getElem_of_mem hmem
  rcases Nat.lt_or_ge j i with h | h
  · exact List.mem_of_getElem? (i := j) (by rw [List.getElem?_take, if_pos h, List.getElem?_eq_getElem hj, hjf])
  · exfalso
    have hil := (List.getElem?_eq_some_iff.1 hi).1
    have hiu := (List.getElem?_eq_some_iff.1 hi).2
    have hle : leK (keyD (depL up w)) u f := by
      rcases Nat.lt_or_ge i j with h2 | h2
      · have := List.pairwise_iff_getElem.1 (srt_up (key := keyD (depL up w)) (List.range (depL up w).length)) i j hil hj h2
        change leK _ ((ordP (depL up w))[i]) ((ordP (depL up w))[j]) at this
        rwa [hiu, hjf] at this
      · have : i = j := by omega
        subst this
        rw [hiu] at hjf; subst hjf
        rw [leK_iff]; omega
    rw [leK_iff] at hle
    unfold keyD at hle
    rw [hD u hu, hD f hfn, dN_deep hd, dN_deep hfe] at hle
    omega

section
variable {h0 : Heap} {R : Rws} {n : Nat} {up w : List Int} {qU qW : Option Addr} {cU cW : Nat}

theorem ways_iff {u v : Nat} (r : RightT up w) (hu : u < up.length) : isB up v u = if u = v then true else if 0 ≤ UU up u then isB up v (UU up u).toNat else false := by
  obtain ⟨d, hd⟩ := rt_deep r hu
  unfold isB
  cases d with
  | zero =>
    have h1 := hd.2
    rw [ways_root hd, if_neg (c := 0 ≤ UU up u) (by omega)]
    by_cases c : u = v
    · rw [if_pos c]; simp [c]
    · have c' : ¬ v = u := fun e => c e.symm
      rw [if_neg c]; simp [c']
  | succ d =>
    obtain ⟨_, f, hf, hfd⟩ := id hd
    rw [ways_cons hd hf, hf, if_pos (c := (0 : Int) ≤ (f : Int)) (by omega), Int.toNat_natCast]
    by_cases c : u = v
    · rw [if_pos c]; simp [c]
    · rw [if_neg c]
      refine decide_eq_decide.2 ?_
      have c' : ¬ v = u := fun e => c e.symm
      simp [c']

theorem pbel_l0 {K2 : Option Addr → Nat → Nat → Heap → Prop} {t m v b9 co : Nat} {q5 : Option Addr} {ord : List Nat} (hup : up.length = n) (hn : n ≤ 4096) (r : RightT up w) (hord : ord = ordP (depL up w)) (kU : Keeps h0 R qU (up.map (Value.int .i64))) {XO : Rws} (oo : Own q5 co (natV ord) XO)
    (hk : ∀ q c X h' f, Own q c (natV (ord.filter (isB up v))) X → St h0 h' (X ++ (XO ++ (b9, boolV n f) :: (t, [.slice qU n cU, .slice qW m cW]) :: R)) → K2 q (ord.filter (isB up v)).length c h') :
    ∀ (d i : Nat) (q : Option Addr) (c : Nat) (X : Rws) (h : Heap), i + d = n → Own q c (natV ((ord.take i).filter (isB up v))) X → St h0 h (X ++ (XO ++ (b9, boolV n fun u => decide (u ∈ ord.take i) && isB up v u) :: (t, [.slice qU n cU, .slice qW m cW]) :: R)) →
      tree_Below.l0 K2 (d + 1) (v : Int) ⟨t, 0, none⟩ ⟨b9, 0, none⟩ n n q ((ord.take i).filter (isB up v)).length c q5 n co (n : Int) (i : Int) h
  | 0, i, q, c, X, h, hi, o, s => by
    unfold tree_Below.l0 tree_Below.b0
    have hin : i = n := by omega
    have hl : ord.length = n := by rw [hord, ordP_len, depL, if_pos r]; simp [hup]
    rw [List.take_of_length_le (show ord.length ≤ i by omega)] at o s ⊢
    exact iteB_neg (decide_eq_false (by omega)) (hk q c X h _ o s)
  | d + 1, i, q, c, X, h, hi, o, s => by
    unfold tree_Below.l0 tree_Below.b0
    have hl : ord.length = n := by rw [hord, ordP_len, depL, if_pos r]; simp [hup]
    obtain ⟨u, hu⟩ := get_lt (l := ord) (i := i) (by omega)
    have hun : u < n := by
      have : u ∈ ordP (depL up w) := by rw [← hord]; exact List.mem_of_getElem? hu
      have := (ordP_perm _).mem_iff.1 this
      rw [depL, if_pos r] at this; simpa [hup] using this
    have gu : (natV ord)[i]? = some (.int .i64 (u : Int)) := by simp [natV, hu]
    have vo := oo.vals s.flip
    have vU : valsAt h qU (up.map (Value.int .i64)) := kU _ _ s (fun y hy => by simp [hy])
    have rt : ∀ j, cell h ⟨t, j, none⟩ = [.slice qU n cU, .slice qW m cW][j]? := s.rd (by simp)
    have rb : ∀ j, cell h ⟨b9, j, none⟩ = (boolV n fun u => decide (u ∈ ord.take i) && isB up v u)[j]? := s.rd (by simp)
    have hfl : ((ord.take i).filter (isB up v)).length ≤ i := by
      have := List.length_filter_le (isB up v) (ord.take i); simp at this ⊢; omega
    have er : (ord.take (i + 1)).filter (isB up v) = (ord.take i).filter (isB up v) ++ (if isB up v u then [u] else []) := by
      rw [take_snoc hu, List.filter_append, filter1]
    have hw' := ways_iff (v := v) r (u := u) (by omega)
    refine iteB_pos (decide_eq_true (by omega)) ?_
    simp -zeta (disch := omega) only [chkP_some, iteB_true, iteB_false, add_mk, Nat.zero_add, Nat.add_zero, Nat.mul_one, Nat.reduceAdd, Int.toNat_natCast, ex_int, ex_slice, ex_ptr, ex_bool, ex_str, ex_flt, ex_any, bnd_in, List.getElem?_cons_zero, List.getElem?_cons_succ, List.set_cons_zero, List.set_cons_succ, List.cons_append, List.nil_append, bne_self_eq_false, beq_self_eq_true, Bool.not_true, Bool.not_false, Option.isNone_some, Option.isNone_none, eq_self, true_and, and_true, and_self, vals_int vo gu]
    intro j
    have J : j (isB up v u) := by
      simp -zeta only [j]
      clear j
      refine iteB_intro (fun e => ?_) (fun e => ?_)
      · rw [e] at er
        have s1 : St h0 h ((b9, boolV n fun u => decide (u ∈ ord.take i) && isB up v u) :: (X ++ (XO ++ (t, [.slice qU n cU, .slice qW m cW]) :: R))) := (St.re s (by intro a; simp only [cntR_append, cntR_cons, cntR_nil, List.cons_append, List.nil_append, List.set_cons_zero, List.set_cons_succ]; omega))
        refine s1.st0 (by rw [boolV_len]; exact hun) fun h2 s2 => ?_
        rw [boolV_set] at s2
        have s3 : St h0 h2 (X ++ (XO ++ (b9, boolV n fun u => decide (u ∈ ord.take (i + 1)) && isB up v u) :: (t, [.slice qU n cU, .slice qW m cW]) :: R)) := by
          rw [boolV_congr (g := fun u => decide (u ∈ ord.take (i + 1)) && isB up v u) fun k hk => ?_] at s2
          · exact (St.re s2 (by intro a; simp only [cntR_append, cntR_cons, cntR_nil, List.cons_append, List.nil_append, List.set_cons_zero, List.set_cons_succ]; omega))
          · unfold Hp.upd
            rw [take_snoc hu]
            by_cases ck : k = u
            · subst ck; simp [e]
            · rw [if_neg ck]; simp [ck]
        refine Own.push1 o s3 (natV_len _).symm rfl (by rw [natV_len]; omega) fun q2 c2 X2 h3 o2 s4 => ?_
        rw [natV_len, wrap_id (by omega) (by omega)]
        have ih := pbel_l0 hup hn r hord kU oo hk d (i + 1) q2 c2 X2 h3 (by omega) (by rw [er]; simpa [natV] using o2) s4
        rw [er] at ih
        simpa using ih
      · rw [e] at er
        simp only [Bool.false_eq_true, if_false, List.append_nil] at er
        rw [wrap_id (by omega) (by omega)]
        have ih := pbel_l0 hup hn r hord kU oo hk d (i + 1) q c X h (by omega) (by rw [er]; exact o) ?_
        · rw [er] at ih; exact ih
        · rw [boolV_congr (g := fun u => decide (u ∈ ord.take i) && isB up v u) fun k hk => ?_]
          · exact s
          · rw [take_snoc hu]
            by_cases ck : k = u
            · subst ck; simp [e]
            · simp [ck]
    clear_value j
    refine iteB_intro (fun e => ?_) (fun e => ?_)
    · have e : u = v := by have e : (u : Int) = v := by simpa using e
                           omega
      rw [hw', if_pos e] at J; exact J
    · have e : u ≠ v := fun h => by simp [h] at e
      rw [if_neg e] at hw'
      simp -zeta (disch := omega) only [chkP_some, iteB_true, iteB_false, add_mk, Nat.zero_add, Nat.add_zero, Nat.mul_one, Nat.reduceAdd, Int.toNat_natCast, ex_int, ex_slice, ex_ptr, ex_bool, ex_str, ex_flt, ex_any, bnd_in, List.getElem?_cons_zero, List.getElem?_cons_succ, List.set_cons_zero, List.set_cons_succ, List.cons_append, List.nil_append, bne_self_eq_false, beq_self_eq_true, Bool.not_true, Bool.not_false, Option.isNone_some, Option.isNone_none, eq_self, true_and, and_true, and_self, rt, vals_int vU (UU_get (v := u) (by omega))]
      refine iteB_intro (fun e2 => ?_) (fun e2 => ?_)
      · have e2 : 0 ≤ UU up u := by simpa using e2
        rw [if_pos e2] at hw'
        have hr2 := (r.each u (by omega)).2.1
        change UU up u < _ at hr2
        obtain ⟨f, hf⟩ : ∃ f : Nat, UU up u = (f : Int) := ⟨(UU up u).toNat, by omega⟩
        have hfm : f ∈ ord.take i := by
          rw [hord] at hu ⊢
          exact ord_above r hu (by omega) hf
        have gb := boolV_get (f := fun u => decide (u ∈ ord.take i) && isB up v u) (show f < n by omega)
        rw [hf]
        simp -zeta (disch := omega) only [chkP_some, iteB_true, iteB_false, add_mk, Nat.zero_add, Nat.add_zero, Nat.mul_one, Nat.reduceAdd, Int.toNat_natCast, ex_int, ex_slice, ex_ptr, ex_bool, ex_str, ex_flt, ex_any, bnd_in, List.getElem?_cons_zero, List.getElem?_cons_succ, List.set_cons_zero, List.set_cons_succ, List.cons_append, List.nil_append, bne_self_eq_false, beq_self_eq_true, Bool.not_true, Bool.not_false, Option.isNone_some, Option.isNone_none, eq_self, true_and, and_true, and_self, rb, gb]
        rw [hf, Int.toNat_natCast] at hw'
        rw [hw'] at J
        rw [decide_eq_true hfm, Bool.true_and]; exact J
      · rw [if_neg (by intro h; simp [h] at e2)] at hw'
        rw [hw'] at J; exact J

open Classical in
theorem PBelow_of {h : Heap} {m : Nat} {v : Int} {K : Option Addr → Nat → Nat → Heap → Prop} (hup : up.length = n) (hw : w.length = m) (hn : n ≤ 4096) (kU : Keeps h0 R qU (up.map (Value.int .i64))) (kW : Keeps h0 R qW (w.map (Value.int .i64))) (s : St h0 h R)
    (hk : ∀ q c X h', Own q c (natV (belL up w v)) X → St h0 h' (X ++ R) → K q (belL up w v).length c h') : tree_Below qU n cU qW m cW v h K := by
  unfold tree_Below
  refine s.new_ fun t h1 s1 => ?_
  intro j
  have none_ : belL up w v = [] → K none 0 0 h1 := fun e => by rw [e] at hk; exact hk none 0 [] h1 Own.nil s1.tail
  refine iteB_intro (fun e => none_ ?_) (fun e => ?_)
  · have e : v < 0 := by simpa using e
    unfold belL; rw [if_neg (by omega)]
  have e : 0 ≤ v := by simpa using e
  try simp -zeta (disch := omega) only [chkP_some, iteB_true, iteB_false, add_mk, Nat.zero_add, Nat.add_zero, Nat.mul_one, Nat.reduceAdd, Int.toNat_natCast, ex_int, ex_slice, ex_ptr, ex_bool, ex_str, ex_flt, ex_any, bnd_in, List.getElem?_cons_zero, List.getElem?_cons_succ, List.set_cons_zero, List.set_cons_succ, List.cons_append, List.nil_append, bne_self_eq_false, beq_self_eq_true, Bool.not_true, Bool.not_false, Option.isNone_some, Option.isNone_none, eq_self, true_and, and_true, and_self, s1.rd0]
  refine iteB_intro (fun e2 => none_ ?_) (fun e2 => ?_)
  · have e2 : (n : Int) ≤ v := by simpa using e2
    unfold belL; rw [hup, if_neg (by omega)]
  have e2 : v < (n : Int) := by simpa using e2
  simp -zeta only [j]
  clear j
  try simp -zeta (disch := omega) only [chkP_some, iteB_true, iteB_false, add_mk, Nat.zero_add, Nat.add_zero, Nat.mul_one, Nat.reduceAdd, Int.toNat_natCast, ex_int, ex_slice, ex_ptr, ex_bool, ex_str, ex_flt, ex_any, bnd_in, List.getElem?_cons_zero, List.getElem?_cons_succ, List.set_cons_zero, List.set_cons_succ, List.cons_append, List.nil_append, bne_self_eq_false, beq_self_eq_true, Bool.not_true, Bool.not_false, Option.isNone_some, Option.isNone_none, eq_self, true_and, and_true, and_self, s1.rd0]
  refine ⟨⟨by omega, by omega, by omega, by omega⟩, ?_⟩
  refine s1.new_ fun b9 h2 s2 => ?_
  rw [boolV_zero] at s2
  try simp -zeta (disch := omega) only [chkP_some, iteB_true, iteB_false, add_mk, Nat.zero_add, Nat.add_zero, Nat.mul_one, Nat.reduceAdd, Int.toNat_natCast, ex_int, ex_slice, ex_ptr, ex_bool, ex_str, ex_flt, ex_any, bnd_in, List.getElem?_cons_zero, List.getElem?_cons_succ, List.set_cons_zero, List.set_cons_succ, List.cons_append, List.nil_append, bne_self_eq_false, beq_self_eq_true, Bool.not_true, Bool.not_false, Option.isNone_some, Option.isNone_none, eq_self, true_and, and_true, and_self, s2.rd0, s2.rd1]
  refine callP3.self (POrder_of (R := (b9, boolV n fun _ => false) :: (t, [.slice qU n cU, .slice qW m cW]) :: R) hup hw hn kU.cons.cons kW.cons.cons s2 fun b13 h3 s3 => ?_)
  obtain ⟨v, rfl⟩ := Int.eq_ofNat_of_zero_le e
  by_cases r : RightT up w
  · have hl : (depL up w).length = n := by rw [depL, if_pos r]; simp [hup]
    have hb : sortN ((ordP (depL up w)).filter (isB up v)) = belL up w (v : Int) := by
      unfold belL; rw [if_pos ⟨r, e, by omega⟩, Int.toNat_natCast]
      refine sortN_one ?_ ((List.pairwise_lt_range.filter _).imp fun h => Nat.le_of_lt h)
      rw [← hup] at hl
      rw [← hl]; exact (ordP_perm _).filter _
    rw [hl]
    refine ⟨n + 1, pbel_l0 (XO := [(b13, natV (ordP (depL up w)))]) hup hn r rfl kU (by have := Own.made b13 (natV (ordP (depL up w))); rw [natV_len, ordP_len, hl] at this; exact this) (fun q c X h4 f o s4 => ?_) n 0 none 0 [] h3 (by omega) (by simpa [natV] using Own.nil) (by simpa using s3)⟩
    have hfl : ((ordP (depL up w)).filter (isB up v)).length ≤ n := by
      have := List.length_filter_le (isB up v) (ordP (depL up w)); rw [ordP_len, hl] at this; exact this
    refine callP0.self (Sort_of rfl (by omega) o s4 fun X5 h5 o5 s5 => ?_)
    rw [hb] at o5
    have := hk q c X5 h5 o5 ((St.re s5 (by intro a; simp only [cntR_append, cntR_cons, cntR_nil, List.cons_append, List.nil_append, List.set_cons_zero, List.set_cons_succ]; omega)))
    rw [← hb, sortN_len] at this; exact this
  · have hl : depL up w = [] := by rw [depL, if_neg r]
    rw [hl]
    refine ⟨1, ?_⟩
    unfold tree_Below.l0 tree_Below.b0
    refine iteB_neg (by decide) ?_
    have hb : belL up w (v : Int) = [] := by unfold belL; rw [if_neg (fun h => r h.1)]
    rw [hb] at hk
    refine callP0.self (Sort_of (l := []) (X := []) rfl (by decide) (by simpa [natV] using Own.nil) s3 fun X5 h5 o5 s5 => ?_)
    exact hk none 0 X5 h5 (by simpa [sortN] using o5) ((St.re s5 (by intro a; simp only [cntR_append, cntR_cons, cntR_nil, List.cons_append, List.nil_append, List.set_cons_zero, List.set_cons_succ]; omega)))
end
end Go.Proofs.Ytfidcekobjmamaa
