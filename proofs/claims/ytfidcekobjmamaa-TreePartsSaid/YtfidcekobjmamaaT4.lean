/-
  Trees: Least; the same lists; the awake tree; the law TreeSame.
-/
import Derived.Test.YtfidcekobjmamaaT3
namespace Go.Proofs.Ytfidcekobjmamaa
set_option linter.unusedVariables false
set_option linter.unusedSimpArgs false
set_option linter.unnecessarySimpa false
open Go.Hp Go.RowKit
attribute [local irreducible] Go.Hp.iteB Go.Hp.stC Go.Hp.newP

/-- Is the one at this place the top of the way? -/
def topAt (U : Nat → Int) (p : List Nat) (i : Nat) : Bool :=
  (i == 0 || U (p.getD (i - 1) 0) == (p.getD i 0 : Int)) && (i + 1 == p.length || U (p.getD (i + 1) 0) == (p.getD i 0 : Int))
def stepL (U W : Nat → Int) (p : List Nat) (o : Nat × Bool) (i : Nat) : Nat × Bool :=
  if topAt U p i then o else if !o.2 || decide (W (p.getD i 0) < W o.1) || (W (p.getD i 0) == W o.1 && decide (p.getD i 0 < o.1)) then (p.getD i 0, true) else o
def leastF (U W : Nat → Int) (p : List Nat) : Nat × Bool := (List.range p.length).foldl (stepL U W p) (0, false)

section
variable {h0 : Heap} {R : Rws} {b n : Nat} {up w : List Int} {qU qW : Option Addr} {cU cW : Nat}

theorem stepL_lt {p : List Nat} (hp : ∀ x ∈ p, x < n) {o : Nat × Bool} {i : Nat} (hi : i < p.length) (ho : o.2 = true → o.1 < n) : (stepL (UU up) (UU w) p o i).2 = true → (stepL (UU up) (UU w) p o i).1 < n := by
  unfold stepL
  have : p.getD i 0 < n := by
    rw [List.getD_eq_getElem?_getD, List.getElem?_eq_getElem hi]; exact hp _ (List.getElem_mem hi)
  split
  · exact ho
  · split
    · exact fun _ => this
    · exact ho

theorem least_l0 {t c : Nat} {q : Option Addr} {p : List Nat} {K2 : Int → Bool → Heap → Prop} {h : Heap} (hup : up.length = n) (hw : w.length = n) (hp : ∀ x ∈ p, x < n) (hlen : p.length ≤ 100000)
    (vU : valsAt h qU (up.map (Value.int .i64))) (vW : valsAt h qW (w.map (Value.int .i64))) (vp : valsAt h q (nats p)) (s : St h0 h ((t, [.slice qU n cU, .slice qW n cW]) :: R))
    (hk : K2 ((leastF (UU up) (UU w) p).1 : Int) (leastF (UU up) (UU w) p).2 h) :
    ∀ (d i : Nat) (o : Nat × Bool), i + d = p.length → (o.2 = true → o.1 < n) → leastF (UU up) (UU w) p = (List.range' i d).foldl (stepL (UU up) (UU w) p) o →
      tree_Least.l0 K2 (d + 1) ⟨t, 0, none⟩ (o.1 : Int) o.2 q p.length c q p.length c (p.length : Int) (i : Int) h
  | 0, i, o, hi, ho, he => by
    unfold tree_Least.l0 tree_Least.b0
    refine iteB_neg (decide_eq_false (by omega)) ?_
    rw [he] at hk; exact hk
  | d + 1, i, o, hi, ho, he => by
    unfold tree_Least.l0 tree_Least.b0
    have hil : i < p.length := by omega
    have hx : p[i]? = some (p.getD i 0) := by simp [hil]
    have hxn : p.getD i 0 < n := hp _ (List.mem_of_getElem? hx)
    have hgi : (nats p)[i]? = some (.int .i64 ((p.getD i 0 : Nat) : Int)) := by rw [List.getElem?_map, hx]; rfl
    have hn1 : n ≤ n := Nat.le_refl _
    refine iteB_pos (decide_eq_true (by omega)) ?_
    intro jc
    have Jc : ∀ o' : Nat × Bool, o' = stepL (UU up) (UU w) p o i → jc (o'.1 : Int) o'.2 := by
      intro o' ho'
      simp -zeta only [jc]
      rw [wrap64 (by omega) (by omega)]
      refine least_l0 hup hw hp hlen vU vW vp s hk d (i + 1) o' (by omega) (by rw [ho']; exact stepL_lt hp hil ho) ?_
      rw [he, ho', List.range'_succ]; rfl
    clear_value jc
    simp -zeta (disch := omega) only [chkP_some, iteB_true, iteB_false, add_mk, Nat.zero_add, Nat.add_zero, Nat.mul_one, Nat.reduceAdd, Int.toNat_natCast, ex_int, ex_slice, ex_ptr, ex_bool, ex_str, ex_flt, ex_any, bnd_in, List.getElem?_cons_zero, List.getElem?_cons_succ, List.set_cons_zero, List.set_cons_succ, List.cons_append, List.nil_append, bne_self_eq_false, beq_self_eq_true, Bool.not_true, Bool.not_false, Option.isNone_some, Option.isNone_none, eq_self, true_and, and_true, and_self, vals_int vp hgi]
    intro jt
    have Jt : ∀ c, c = topAt (UU up) p i → jt c := by
      intro c hc
      simp -zeta only [jt]
      clear jt
      unfold stepL at Jc
      rw [← hc] at Jc
      refine iteB_intro (fun e => ?_) (fun e => ?_)
      · rw [e] at Jc; exact Jc o rfl
      · rw [e] at Jc
        simp only [Bool.false_eq_true, if_false] at Jc
        have yes : (!o.2 || decide (UU w (p.getD i 0) < UU w o.1) || (UU w (p.getD i 0) == UU w o.1 && decide (p.getD i 0 < o.1))) = true → jc ((p.getD i 0 : Nat) : Int) true := by
          intro hh; rw [hh] at Jc; exact Jc (p.getD i 0, true) rfl
        have no : (!o.2 || decide (UU w (p.getD i 0) < UU w o.1) || (UU w (p.getD i 0) == UU w o.1 && decide (p.getD i 0 < o.1))) = false → jc (o.1 : Int) o.2 := by
          intro hh; rw [hh] at Jc; exact Jc o rfl
        clear Jc
        refine iteB_intro (fun e2 => yes (by rw [e2]; simp)) (fun e2 => ?_)
        have e2' : o.2 = true := by simpa using e2
        have hon := ho e2'
        simp -zeta (disch := omega) only [chkP_some, iteB_true, iteB_false, add_mk, Nat.zero_add, Nat.add_zero, Nat.mul_one, Nat.reduceAdd, Int.toNat_natCast, ex_int, ex_slice, ex_ptr, ex_bool, ex_str, ex_flt, ex_any, bnd_in, List.getElem?_cons_zero, List.getElem?_cons_succ, List.set_cons_zero, List.set_cons_succ, List.cons_append, List.nil_append, bne_self_eq_false, beq_self_eq_true, Bool.not_true, Bool.not_false, Option.isNone_some, Option.isNone_none, eq_self, true_and, and_true, and_self, s.rd0, vals_int vW (UU_get (up := w) (v := p.getD i 0) (by omega)), vals_int vW (UU_get (up := w) (v := o.1) (by omega))]
        refine iteB_intro (fun e3 => yes (by rw [e3]; simp)) (fun e3 => ?_)
        refine iteB_intro (fun e4 => ?_) (fun e4 => no (by rw [e2, e3, e4]; simp))
        refine iteB_intro (fun e5 => yes (by have := of_decide_eq_true e5; rw [e4, decide_eq_true (show p.getD i 0 < o.1 by omega)]; simp)) (fun e5 => no (by have := of_decide_eq_false e5; rw [e2, e3, decide_eq_false (show ¬ p.getD i 0 < o.1 by omega)]; simp))
    clear_value jt
    -- the places ahead and behind
    have ahead : 0 < i → ∃ y : Nat, (nats p)[i - 1]? = some (.int .i64 (y : Int)) ∧ y = p.getD (i - 1) 0 ∧ y < n := by
      intro h0
      have : p[i - 1]? = some (p.getD (i - 1) 0) := by rw [List.getD_eq_getElem?_getD, List.getElem?_eq_getElem (by omega)]; rfl
      exact ⟨_, by rw [List.getElem?_map, this]; rfl, rfl, hp _ (List.mem_of_getElem? this)⟩
    have behind : i + 1 < p.length → ∃ y : Nat, (nats p)[i + 1]? = some (.int .i64 (y : Int)) ∧ y = p.getD (i + 1) 0 ∧ y < n := by
      intro h0
      have : p[i + 1]? = some (p.getD (i + 1) 0) := by rw [List.getD_eq_getElem?_getD, List.getElem?_eq_getElem (by omega)]; rfl
      exact ⟨_, by rw [List.getElem?_map, this]; rfl, rfl, hp _ (List.mem_of_getElem? this)⟩
    have wl : IntKind.i64.wrap ((p.length : Int) - 1) = (p.length : Int) - 1 := wrap64 (by omega) (by omega)
    have wi : IntKind.i64.wrap ((i : Int) + 1) = ((i + 1 : Nat) : Int) := by rw [wrap64 (by omega) (by omega)]; omega
    rw [wl, wi]
    -- what is asked behind
    have tail : ∀ first : Bool, first = (i == 0 || UU up (p.getD (i - 1) 0) == (p.getD i 0 : Int)) → first = true →
        iteB ((i : Int) == (p.length : Int) - 1) (jt true) (∃ (x : Option Addr) (xl xc : Nat), cell h (⟨t, 0, none⟩ : Addr) = some (.slice x xl xc) ∧ chkP q fun a => (0 ≤ ((i + 1 : Nat) : Int) ∧ ((i + 1 : Nat) : Int) < (p.length : Int)) ∧ ∃ y : Int, cell h (a.add (((i + 1 : Nat) : Int).toNat * 1)) = some (.int .i64 y) ∧
          chkP x fun a => (0 ≤ y ∧ y < (xl : Int)) ∧ ∃ z : Int, cell h (a.add (y.toNat * 1)) = some (.int .i64 z) ∧ jt (z == ((p.getD i 0 : Nat) : Int))) := by
      intro first hf hf'
      refine iteB_intro (fun e => ?_) (fun e => ?_)
      · have e : (i + 1 == p.length) = true := by simp at e ⊢; omega
        exact Jt true (by unfold topAt; rw [← hf, hf', e]; rfl)
      · have e' : ¬ i + 1 = p.length := by simp at e; omega
        obtain ⟨y, hy, hy2, hyn⟩ := behind (by omega)
        simp -zeta (disch := omega) only [chkP_some, iteB_true, iteB_false, add_mk, Nat.zero_add, Nat.add_zero, Nat.mul_one, Nat.reduceAdd, Int.toNat_natCast, ex_int, ex_slice, ex_ptr, ex_bool, ex_str, ex_flt, ex_any, bnd_in, List.getElem?_cons_zero, List.getElem?_cons_succ, List.set_cons_zero, List.set_cons_succ, List.cons_append, List.nil_append, bne_self_eq_false, beq_self_eq_true, Bool.not_true, Bool.not_false, Option.isNone_some, Option.isNone_none, eq_self, true_and, and_true, and_self, s.rd0, vals_int vp hy, vals_int vU (UU_get (up := up) (v := y) (by omega))]
        exact Jt _ (by unfold topAt; rw [← hf, hf', hy2]; simp [e'])
    refine iteB_intro (fun e => ?_) (fun e => ?_)
    · have e : i = 0 := by simpa using e
      have := tail true (by simp [e]) rfl
      simp -zeta (disch := omega) only [chkP_some, iteB_true, iteB_false, add_mk, Nat.zero_add, Nat.add_zero, Nat.mul_one, Nat.reduceAdd, Int.toNat_natCast, ex_int, ex_slice, ex_ptr, ex_bool, ex_str, ex_flt, ex_any, bnd_in, List.getElem?_cons_zero, List.getElem?_cons_succ, List.set_cons_zero, List.set_cons_succ, List.cons_append, List.nil_append, bne_self_eq_false, beq_self_eq_true, Bool.not_true, Bool.not_false, Option.isNone_some, Option.isNone_none, eq_self, true_and, and_true, and_self] at this ⊢
      exact this
    · have e : i ≠ 0 := by simpa using e
      obtain ⟨y, hy, hy2, hyn⟩ := ahead (by omega)
      rw [show IntKind.i64.wrap ((i : Int) - 1) = ((i - 1 : Nat) : Int) by rw [wrap64 (by omega) (by omega)]; omega]
      simp -zeta (disch := omega) only [chkP_some, iteB_true, iteB_false, add_mk, Nat.zero_add, Nat.add_zero, Nat.mul_one, Nat.reduceAdd, Int.toNat_natCast, ex_int, ex_slice, ex_ptr, ex_bool, ex_str, ex_flt, ex_any, bnd_in, List.getElem?_cons_zero, List.getElem?_cons_succ, List.set_cons_zero, List.set_cons_succ, List.cons_append, List.nil_append, bne_self_eq_false, beq_self_eq_true, Bool.not_true, Bool.not_false, Option.isNone_some, Option.isNone_none, eq_self, true_and, and_true, and_self, s.rd0, vals_int vp hy, vals_int vU (UU_get (up := up) (v := y) (by omega))]
      refine iteB_intro (fun e2 => ?_) (fun e2 => ?_)
      · have := tail true (by rw [← hy2, e2]; simp) rfl
        simp -zeta (disch := omega) only [chkP_some, iteB_true, iteB_false, add_mk, Nat.zero_add, Nat.add_zero, Nat.mul_one, Nat.reduceAdd, Int.toNat_natCast, ex_int, ex_slice, ex_ptr, ex_bool, ex_str, ex_flt, ex_any, bnd_in, List.getElem?_cons_zero, List.getElem?_cons_succ, List.set_cons_zero, List.set_cons_succ, List.cons_append, List.nil_append, bne_self_eq_false, beq_self_eq_true, Bool.not_true, Bool.not_false, Option.isNone_some, Option.isNone_none, eq_self, true_and, and_true, and_self, s.rd0] at this ⊢
        exact this
      · exact Jt false (by unfold topAt; rw [← hy2, e2]; simp [e])

theorem Least_of {h : Heap} {m : Nat} {u v : Int} {K : Int → Bool → Heap → Prop} (hup : up.length = n) (hw : w.length = m) (kU : Keeps h0 R qU (up.map (Value.int .i64))) (kW : Keeps h0 R qW (w.map (Value.int .i64))) (s : St h0 h R)
    (hk0 : ¬ (RightT up w ∧ 0 ≤ u ∧ u < n ∧ 0 ≤ v ∧ v < n) → ∀ h', St h0 h' R → K 0 false h')
    (hk1 : ∀ (D : Nat → Int) (a b : Nat), RightT up w → u = a → v = b → a < n → b < n → DR up n D → ∀ h', St h0 h' R → K ((leastF (UU up) (UU w) (pathF (UU up) D (2 * n + 1) a b)).1 : Int) (leastF (UU up) (UU w) (pathF (UU up) D (2 * n + 1) a b)).2 h') : tree_Least qU n cU qW m cW u v h K := by
  unfold tree_Least
  refine s.new_ fun t h1 s => ?_
  try simp -zeta (disch := omega) only [chkP_some, iteB_true, iteB_false, add_mk, Nat.zero_add, Nat.add_zero, Nat.mul_one, Nat.reduceAdd, Int.toNat_natCast, ex_int, ex_slice, ex_ptr, ex_bool, ex_str, ex_flt, ex_any, bnd_in, List.getElem?_cons_zero, List.getElem?_cons_succ, List.set_cons_zero, List.set_cons_succ, List.cons_append, List.nil_append, bne_self_eq_false, beq_self_eq_true, Bool.not_true, Bool.not_false, Option.isNone_some, Option.isNone_none, eq_self, true_and, and_true, and_self, s.rd0]
  refine callP3.self (Path_of hup hw kU.cons kW.cons s (fun hno h' s => ?_) (fun D a b r ha hb han hbn hD h' p c X o s => ?_))
  · refine ⟨1, ?_⟩
    unfold tree_Least.l0 tree_Least.b0
    exact iteB_neg (by decide) (hk0 hno _ s.tail)
  · have hmn : m = n := by have := r.len; omega
    subst hmn
    have hn : m ≤ 4096 := by have := r.max; omega
    have hone : (up.filter (· == -1)).length ≤ 1 := by rw [r.roots]; omega
    obtain ⟨da, hda, hda2⟩ := hD a han
    obtain ⟨db, hdb, hdb2⟩ := hD b hbn
    have := hda2.lt_n
    have := hdb2.lt_n
    obtain ⟨g1, g2, g3, g4⟩ := meetF_sum (m := 2 * m) hup hone hD (u := a) (v := b) han hbn (by omega)
    have hp : ∀ x ∈ pathF (UU up) D (2 * m + 1) a b, x < m := by
      intro x hx
      unfold pathF at hx
      simp only [List.mem_append, List.mem_singleton, List.mem_reverse] at hx
      rcases hx with (hx | rfl) | hx
      · exact g2 x hx
      · exact g3
      · exact g4 x hx
    have hlen : (pathF (UU up) D (2 * m + 1) a b).length ≤ 100000 := by
      unfold pathF; simp; omega
    have s2 := s.mid
    refine ⟨(pathF (UU up) D (2 * m + 1) a b).length + 1, least_l0 (h0 := h0) (R := X ++ R) hup hw hp hlen (kU.at1 (X := X ++ [(t, [.slice qU m cU, .slice qW m cW])]) (by simpa using s)) (kW.at1 (X := X ++ [(t, [.slice qU m cU, .slice qW m cW])]) (by simpa using s)) (o.vals s) s2
      (hk1 D a b r ha hb han hbn hD h' (s2.tail.drop)) (pathF (UU up) D (2 * m + 1) a b).length 0 (0, false) (by omega) (by simp) (by unfold leastF; rw [List.range_eq_range'])⟩
end
end Go.Proofs.Ytfidcekobjmamaa
