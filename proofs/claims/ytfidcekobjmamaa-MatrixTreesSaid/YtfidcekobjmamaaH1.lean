/-
  The document's trees: the way up, whether a tree is right (turned from the trees' texts).
-/
import Derived.Test.YtfidcekobjmamaaT2
import Derived.Test.YtfidcekobjmamaaSs0
namespace Go.Proofs.Ytfidcekobjmamaa
set_option linter.unusedVariables false
set_option linter.unusedSimpArgs false
set_option linter.unnecessarySimpa false
open Go.Hp Go.RowKit
attribute [local irreducible] Go.Hp.iteB Go.Hp.stC Go.Hp.newP



/-- The way up, of so many at the most. -/
def upL (U : Nat → Int) (n : Nat) : Nat → Int → List Nat
  | 0, _ => []
  | f + 1, v => if 0 ≤ v ∧ v < (n : Int) then v.toNat :: upL U n f (U v.toNat) else []
theorem upL_neg {U : Nat → Int} {n f : Nat} {v : Int} (h : v < 0) : upL U n f v = [] := by
  cases f with
  | zero => rfl
  | succ f => unfold upL; rw [if_neg (by omega)]
theorem upL_big {U : Nat → Int} {n f : Nat} {v : Int} (h : (n : Int) ≤ v) : upL U n f v = [] := by
  cases f with
  | zero => rfl
  | succ f => unfold upL; rw [if_neg (by omega)]
theorem upL_le (U : Nat → Int) (n : Nat) : ∀ f v, (upL U n f v).length ≤ f
  | 0, _ => by simp [upL]
  | f + 1, v => by unfold upL; split <;> simp [upL_le U n f]
theorem upL_lt {U : Nat → Int} {n : Nat} : ∀ {f v}, ∀ x ∈ upL U n f v, x < n
  | 0, _ => by simp [upL]
  | f + 1, v => by
    unfold upL; split
    · rename_i h
      intro x hx
      rcases List.mem_cons.1 hx with rfl | hx
      · omega
      · exact upL_lt x hx
    · simp
theorem upL_deep {U : Nat → Int} {n : Nat} : ∀ {d f v : Nat}, hasD U n d v → d < f → (upL U n f (v : Int)).length = d + 1
  | 0, f + 1, v, h, hf => by
    unfold upL
    rw [if_pos ⟨by omega, by have := h.1; omega⟩, Int.toNat_natCast, h.2]
    cases f <;> simp [upL]
  | d + 1, f + 1, v, h, hf => by
    obtain ⟨hv, u, hu, hd⟩ := h
    unfold upL
    rw [if_pos ⟨by omega, by omega⟩, Int.toNat_natCast, hu, List.length_cons, upL_deep hd (by omega)]
theorem upL_no {U : Nat → Int} {n : Nat} (hr : ∀ u, u < n → -1 ≤ U u ∧ U u < (n : Int)) : ∀ {f v : Nat}, v < n → (∀ d, ¬ hasD U n d v) → (upL U n f (v : Int)).length = f
  | 0, v, hv, hno => by simp [upL]
  | f + 1, v, hv, hno => by
    unfold upL
    rw [if_pos ⟨by omega, by omega⟩, Int.toNat_natCast, List.length_cons]
    have h1 := hr v hv
    have h2 : U v ≠ -1 := fun h => hno 0 ⟨hv, h⟩
    obtain ⟨u, hu⟩ : ∃ u : Nat, U v = (u : Int) := ⟨(U v).toNat, by omega⟩
    rw [hu, upL_no hr (by omega) fun d hd => hno (d + 1) ⟨hv, u, hu, hd⟩]
theorem upL_last {U : Nat → Int} {n : Nat} : ∀ {d f v : Nat}, hasD U n d v → d < f → ∃ r, (upL U n f (v : Int))[d]? = some r ∧ r < n ∧ U r = -1
  | 0, f + 1, v, h, hf => by
    unfold upL
    rw [if_pos ⟨by omega, by have := h.1; omega⟩, Int.toNat_natCast]
    exact ⟨v, rfl, h.1, h.2⟩
  | d + 1, f + 1, v, h, hf => by
    obtain ⟨hv, u, hu, hd⟩ := h
    unfold upL
    rw [if_pos ⟨by omega, by omega⟩, Int.toNat_natCast, hu]
    obtain ⟨r, h1, h2⟩ := upL_last hd (show d < f by omega)
    exact ⟨r, by simpa using h1, h2⟩

section
variable {h0 : Base} {R : Rws} {n : Nat} {up : List Int} {qU : Option Addr} {cU : Nat}

theorem up_l0 {K2 : Option Addr → Nat → Nat → Heap → Prop} {t mW cW : Nat} {qW : Option Addr} (hup : up.length = n) (hn : n ≤ 4096) (kU : Keeps h0 R qU (up.map (Value.int .i64))) {F : List Nat}
    (hk : ∀ q c X h', Own q c (natV F) X → St h0 h' (X ++ (t, [.slice qU n cU, .slice qW mW cW]) :: R) → K2 q F.length c h') :
    ∀ (f : Nat) (v : Int) (acc : List Nat) (q : Option Addr) (c : Nat) (X : Rws) (h : Heap), acc.length + f = n + 1 → acc ++ upL (UU up) n f v = F → Own q c (natV acc) X → St h0 h (X ++ (t, [.slice qU n cU, .slice qW mW cW]) :: R) →
      straitref29_Up.l0 K2 (f + 1) v ⟨t, 0, none⟩ q acc.length c h
  | f, v, acc, q, c, X, h, hf, hF, o, s => by
    unfold straitref29_Up.l0 straitref29_Up.b0
    have rt : ∀ j, cell h ⟨t, j, none⟩ = [.slice qU n cU, .slice qW mW cW][j]? := s.rd (by simp)
    have stop : upL (UU up) n f v = [] → K2 q acc.length c h := fun e => by
      rw [e, List.append_nil] at hF; subst hF; exact hk q c X h o s
    intro j
    refine iteB_intro (fun e => ?_) (fun e => stop (upL_neg (by simpa using e)))
    have e : 0 ≤ v := by simpa using e
    simp -zeta (disch := omega) only [chkP_some, iteB_true, iteB_false, add_mk, Nat.zero_add, Nat.add_zero, Nat.mul_one, Nat.reduceAdd, Int.toNat_natCast, ex_int, ex_slice, ex_ptr, ex_bool, ex_str, ex_flt, ex_any, bnd_in, List.getElem?_cons_zero, List.getElem?_cons_succ, List.set_cons_zero, List.set_cons_succ, List.cons_append, List.nil_append, bne_self_eq_false, beq_self_eq_true, Bool.not_true, Bool.not_false, Option.isNone_some, Option.isNone_none, eq_self, true_and, and_true, and_self, rt]
    refine iteB_intro (fun e2 => ?_) (fun e2 => stop (upL_big (by simpa using e2)))
    have e2 : v < (n : Int) := by simpa using e2
    refine iteB_intro (fun e3 => ?_) (fun e3 => stop ?_)
    · have e3 : acc.length ≤ n := by simpa using e3
      cases f with
      | zero => omega
      | succ f =>
        simp -zeta only [j]
        clear j
        have ev : v = ((v.toNat : Nat) : Int) := by omega
        refine Own.push1 o s (natV_len acc).symm rfl (by rw [natV_len]; omega) fun q2 c2 X2 h2 o2 s2 => ?_
        have rt2 : ∀ j, cell h2 ⟨t, j, none⟩ = [.slice qU n cU, .slice qW mW cW][j]? := s2.rd (by simp)
        have vU : valsAt h2 qU (up.map (Value.int .i64)) := kU _ _ s2 (fun y hy => by simp [hy])
        simp -zeta (disch := omega) only [chkP_some, iteB_true, iteB_false, add_mk, Nat.zero_add, Nat.add_zero, Nat.mul_one, Nat.reduceAdd, Int.toNat_natCast, ex_int, ex_slice, ex_ptr, ex_bool, ex_str, ex_flt, ex_any, bnd_in, List.getElem?_cons_zero, List.getElem?_cons_succ, List.set_cons_zero, List.set_cons_succ, List.cons_append, List.nil_append, bne_self_eq_false, beq_self_eq_true, Bool.not_true, Bool.not_false, Option.isNone_some, Option.isNone_none, eq_self, true_and, and_true, and_self, rt2, vals_int vU (UU_get (v := v.toNat) (by omega))]
        have ih := up_l0 hup hn kU hk f (UU up v.toNat) (acc ++ [v.toNat]) q2 c2 X2 h2 (by simp; omega) (by rw [← hF]; simp [upL, e, e2]) (by rw [ev] at o2; simpa [natV] using o2) s2
        rw [natV_len]
        simpa using ih
    · have e3 : n < acc.length := by simpa using e3
      have : f = 0 := by omega
      subst this; rfl
theorem Up_of {h : Heap} {mW cW : Nat} {qW : Option Addr} {v : Int} {K : Option Addr → Nat → Nat → Heap → Prop} (hup : up.length = n) (hn : n ≤ 4096) (kU : Keeps h0 R qU (up.map (Value.int .i64))) (s : St h0 h R)
    (hk : ∀ q c X h', Own q c (natV (upL (UU up) n (n + 1) v)) X → St h0 h' (X ++ R) → K q (upL (UU up) n (n + 1) v).length c h') : straitref29_Up qU n cU qW mW cW v h K := by
  unfold straitref29_Up
  refine s.new_ fun t h1 s1 => ?_
  exact ⟨n + 1 + 1, up_l0 hup hn kU (fun q c X h' o s' => hk q c X h' o (by simpa using St.drop (L := [(t, _)]) (s'.mid))) (n + 1) v [] none 0 [] h1 (by simp) (by simp) (by simpa [natV] using Own.nil) (by simpa using s1)⟩
end


section
variable {h0 : Base} {R : Rws} {n : Nat} {up w : List Int} {qU qW : Option Addr} {cU cW : Nat}

theorem right_l0 {K0 : Bool → Heap → Prop} {K2 : Int → Heap → Prop} {t : Nat} (hup : up.length = n) (hw : w.length = n) (hn : n ≤ 4096) (kU : Keeps h0 R qU (up.map (Value.int .i64))) (kW : Keeps h0 R qW (w.map (Value.int .i64)))
    (hk0 : ∀ h', ¬ RightT up w → St h0 h' ((t, [.slice qU n cU, .slice qW n cW]) :: R) → K0 false h')
    (hk2 : ∀ h', (∀ v, v < n → okV up w v) → St h0 h' ((t, [.slice qU n cU, .slice qW n cW]) :: R) → K2 ((up.filter (· == -1)).length : Int) h') {h : Heap} (s : St h0 h ((t, [.slice qU n cU, .slice qW n cW]) :: R)) :
    ∀ (d i : Nat), i + d = n → (∀ v, v < i → okV up w v) → straitref29_Right.l0 K0 K2 (d + 1) ⟨t, 0, none⟩ (((up.take i).filter (· == -1)).length : Int) (i : Int) h
  | 0, i, hi, ho => by
    unfold straitref29_Right.l0 straitref29_Right.b0
    obtain rfl : i = n := by omega
    try simp -zeta (disch := omega) only [chkP_some, iteB_true, iteB_false, add_mk, Nat.zero_add, Nat.add_zero, Nat.mul_one, Nat.reduceAdd, Int.toNat_natCast, ex_int, ex_slice, ex_ptr, ex_bool, ex_str, ex_flt, ex_any, bnd_in, List.getElem?_cons_zero, List.getElem?_cons_succ, List.set_cons_zero, List.set_cons_succ, List.cons_append, List.nil_append, bne_self_eq_false, beq_self_eq_true, Bool.not_true, Bool.not_false, Option.isNone_some, Option.isNone_none, eq_self, true_and, and_true, and_self, s.rd0]
    refine iteB_neg (decide_eq_false (by omega)) ?_
    rw [List.take_of_length_le (by omega)]
    exact hk2 h ho s
  | d + 1, i, hi, ho => by
    unfold straitref29_Right.l0 straitref29_Right.b0
    have gu := UU_get0 (up := up) (v := i) (by omega)
    have ct := count_take gu
    have vU := kU.atC s
    have vW := kW.atC s
    have ok0 : ¬ okV up w i → ¬ RightT up w := fun h r => h (by have := r.each i (by omega); exact ⟨this.1, this.2.1, this.2.2.1, this.2.2.2⟩)
    have hcl : ((up.take i).filter (· == -1)).length ≤ i := by
      have := List.length_filter_le (· == -1) (up.take i)
      simp at this ⊢; omega
    try simp -zeta (disch := omega) only [chkP_some, iteB_true, iteB_false, add_mk, Nat.zero_add, Nat.add_zero, Nat.mul_one, Nat.reduceAdd, Int.toNat_natCast, ex_int, ex_slice, ex_ptr, ex_bool, ex_str, ex_flt, ex_any, bnd_in, List.getElem?_cons_zero, List.getElem?_cons_succ, List.set_cons_zero, List.set_cons_succ, List.cons_append, List.nil_append, bne_self_eq_false, beq_self_eq_true, Bool.not_true, Bool.not_false, Option.isNone_some, Option.isNone_none, eq_self, true_and, and_true, and_self, s.rd0]
    refine iteB_pos (decide_eq_true (by omega)) ?_
    intro j
    try simp -zeta (disch := omega) only [chkP_some, iteB_true, iteB_false, add_mk, Nat.zero_add, Nat.add_zero, Nat.mul_one, Nat.reduceAdd, Int.toNat_natCast, ex_int, ex_slice, ex_ptr, ex_bool, ex_str, ex_flt, ex_any, bnd_in, List.getElem?_cons_zero, List.getElem?_cons_succ, List.set_cons_zero, List.set_cons_succ, List.cons_append, List.nil_append, bne_self_eq_false, beq_self_eq_true, Bool.not_true, Bool.not_false, Option.isNone_some, Option.isNone_none, eq_self, true_and, and_true, and_self, s.rd0, vals_int vU (UU_get (v := i) (by omega)), vals_int vW (UU_get (up := w) (v := i) (by omega))]
    refine iteB_intro (fun e => hk0 h (ok0 fun o => ?_) s) (fun e => ?_)
    · have e : UU up i < -1 := by simpa using e
      have := o.1; omega
    have e : -1 ≤ UU up i := by simpa using e
    refine iteB_intro (fun e2 => hk0 h (ok0 fun o => ?_) s) (fun e2 => ?_)
    · have e2 : (n : Int) ≤ UU up i := by simpa using e2
      have := o.2.1; omega
    have e2 : UU up i < (n : Int) := by simpa using e2
    refine iteB_intro (fun e3 => hk0 h (ok0 fun o => ?_) s) (fun e3 => ?_)
    · have e3 : UU w i < 0 := by simpa using e3
      have := o.2.2.1; omega
    have e3 : 0 ≤ UU w i := by simpa using e3
    simp -zeta only [j]
    clear j
    try simp -zeta (disch := omega) only [chkP_some, iteB_true, iteB_false, add_mk, Nat.zero_add, Nat.add_zero, Nat.mul_one, Nat.reduceAdd, Int.toNat_natCast, ex_int, ex_slice, ex_ptr, ex_bool, ex_str, ex_flt, ex_any, bnd_in, List.getElem?_cons_zero, List.getElem?_cons_succ, List.set_cons_zero, List.set_cons_succ, List.cons_append, List.nil_append, bne_self_eq_false, beq_self_eq_true, Bool.not_true, Bool.not_false, Option.isNone_some, Option.isNone_none, eq_self, true_and, and_true, and_self, s.rd0, vals_int vU (UU_get (v := i) (by omega)), vals_int vW (UU_get (up := w) (v := i) (by omega))]
    have next : okV up w i → ∀ v, v < i + 1 → okV up w v := fun o v hv => by
      rcases Nat.lt_or_ge v i with h | h
      · exact ho v h
      · have : v = i := by omega
        subst this; exact o
    refine iteB_intro (fun e4 => ?_) (fun e4 => ?_)
    · have e4 : UU up i = -1 := by simpa using e4
      refine iteB_intro (fun e5 => hk0 h (ok0 fun o => ?_) s) (fun e5 => ?_)
      · have e5 : UU w i ≠ 0 := by simpa using e5
        exact e5 (o.2.2.2 e4)
      have e5 : UU w i = 0 := by simpa using e5
      have ih := right_l0 hup hw hn kU kW hk0 hk2 s d (i + 1) (by omega) (next ⟨e, by omega, e3, fun _ => e5⟩)
      rw [ct, if_pos e4] at ih
      rw [wrap_id (by omega) (by omega), wrap_id (by omega) (by omega)]
      exact ih
    · have e4 : UU up i ≠ -1 := by simpa using e4
      have ih := right_l0 hup hw hn kU kW hk0 hk2 s d (i + 1) (by omega) (next ⟨e, by omega, e3, fun h => absurd h e4⟩)
      rw [ct, if_neg e4] at ih
      rw [wrap_id (x := (i : Int) + 1) (by omega) (by omega)]
      exact ih

theorem right_l1 {K0 : Bool → Heap → Prop} {K4 : Heap → Prop} {t mW : Nat} (hup : up.length = n) (hn : n ≤ 4096) (kU : Keeps h0 R qU (up.map (Value.int .i64))) (hr : ∀ u, u < n → -1 ≤ UU up u ∧ UU up u < (n : Int))
    (hk0 : ∀ h', (∃ v, v < n ∧ ∀ d, ¬ hasD (UU up) n d v) → St h0 h' ((t, [.slice qU n cU, .slice qW mW cW]) :: R) → K0 false h')
    (hk4 : ∀ h', (∀ v, v < n → ∃ d, hasD (UU up) n d v) → St h0 h' ((t, [.slice qU n cU, .slice qW mW cW]) :: R) → K4 h') :
    ∀ (d i : Nat) (h : Heap), i + d = n → (∀ v, v < i → ∃ d, hasD (UU up) n d v) → St h0 h ((t, [.slice qU n cU, .slice qW mW cW]) :: R) → straitref29_Right.l1 K0 K4 (d + 1) ⟨t, 0, none⟩ (i : Int) h
  | 0, i, h, hi, ho, s => by
    unfold straitref29_Right.l1 straitref29_Right.b1
    obtain rfl : i = n := by omega
    try simp -zeta (disch := omega) only [chkP_some, iteB_true, iteB_false, add_mk, Nat.zero_add, Nat.add_zero, Nat.mul_one, Nat.reduceAdd, Int.toNat_natCast, ex_int, ex_slice, ex_ptr, ex_bool, ex_str, ex_flt, ex_any, bnd_in, List.getElem?_cons_zero, List.getElem?_cons_succ, List.set_cons_zero, List.set_cons_succ, List.cons_append, List.nil_append, bne_self_eq_false, beq_self_eq_true, Bool.not_true, Bool.not_false, Option.isNone_some, Option.isNone_none, eq_self, true_and, and_true, and_self, s.rd0]
    exact iteB_neg (decide_eq_false (by omega)) (hk4 h ho s)
  | d + 1, i, h, hi, ho, s => by
    unfold straitref29_Right.l1 straitref29_Right.b1
    try simp -zeta (disch := omega) only [chkP_some, iteB_true, iteB_false, add_mk, Nat.zero_add, Nat.add_zero, Nat.mul_one, Nat.reduceAdd, Int.toNat_natCast, ex_int, ex_slice, ex_ptr, ex_bool, ex_str, ex_flt, ex_any, bnd_in, List.getElem?_cons_zero, List.getElem?_cons_succ, List.set_cons_zero, List.set_cons_succ, List.cons_append, List.nil_append, bne_self_eq_false, beq_self_eq_true, Bool.not_true, Bool.not_false, Option.isNone_some, Option.isNone_none, eq_self, true_and, and_true, and_self, s.rd0]
    refine iteB_pos (decide_eq_true (by omega)) ?_
    refine callP3.self (Up_of (mW := mW) (R := (t, [.slice qU n cU, .slice qW mW cW]) :: R) hup hn kU.cons s fun q c X h2 o s2 => ?_)
    have s3 := s2.drop
    try simp -zeta (disch := omega) only [chkP_some, iteB_true, iteB_false, add_mk, Nat.zero_add, Nat.add_zero, Nat.mul_one, Nat.reduceAdd, Int.toNat_natCast, ex_int, ex_slice, ex_ptr, ex_bool, ex_str, ex_flt, ex_any, bnd_in, List.getElem?_cons_zero, List.getElem?_cons_succ, List.set_cons_zero, List.set_cons_succ, List.cons_append, List.nil_append, bne_self_eq_false, beq_self_eq_true, Bool.not_true, Bool.not_false, Option.isNone_some, Option.isNone_none, eq_self, true_and, and_true, and_self, s3.rd0]
    refine iteB_intro (fun e => hk0 h2 ⟨i, by omega, fun d hd => ?_⟩ s3) (fun e => ?_)
    · have e : n < (upL (UU up) n (n + 1) (i : Int)).length := by simpa using e
      have := hd.lt_n
      rw [upL_deep hd (by omega)] at e; omega
    · have e : (upL (UU up) n (n + 1) (i : Int)).length ≤ n := by simpa using e
      rw [wrap_id (by omega) (by omega)]
      refine right_l1 hup hn kU hr hk0 hk4 d (i + 1) h2 (by omega) (fun v hv => ?_) s3
      rcases Nat.lt_or_ge v i with h | h
      · exact ho v h
      · have : v = i := by omega
        subst this
        apply Classical.byContradiction
        intro hno
        have := upL_no (n := n) (f := n + 1) hr (v := v) (by omega) (fun d hd => hno ⟨d, hd⟩)
        omega

open Classical in
theorem Right_of {h : Heap} {m : Nat} {K : Bool → Heap → Prop} (hup : up.length = n) (hw : w.length = m) (kU : Keeps h0 R qU (up.map (Value.int .i64))) (kW : Keeps h0 R qW (w.map (Value.int .i64))) (s : St h0 h R)
    (hk : ∀ h', St h0 h' R → K (decide (RightT up w)) h') : straitref29_Right qU n cU qW m cW h K := by
  unfold straitref29_Right
  have no : ∀ h', ¬ RightT up w → St h0 h' R → K false h' := fun h' hno s' => by have := hk h' s'; rwa [decide_eq_false hno] at this
  have yes : ∀ h', RightT up w → St h0 h' R → K true h' := fun h' hr s' => by have := hk h' s'; rwa [decide_eq_true hr] at this
  refine s.new_ fun t h1 s1 => ?_
  intro j
  try simp -zeta (disch := omega) only [chkP_some, iteB_true, iteB_false, add_mk, Nat.zero_add, Nat.add_zero, Nat.mul_one, Nat.reduceAdd, Int.toNat_natCast, ex_int, ex_slice, ex_ptr, ex_bool, ex_str, ex_flt, ex_any, bnd_in, List.getElem?_cons_zero, List.getElem?_cons_succ, List.set_cons_zero, List.set_cons_succ, List.cons_append, List.nil_append, bne_self_eq_false, beq_self_eq_true, Bool.not_true, Bool.not_false, Option.isNone_some, Option.isNone_none, eq_self, true_and, and_true, and_self, s1.rd0]
  refine iteB_intro (fun e => no h1 (fun r => ?_) s1.tail) (fun e => ?_)
  · have e : ¬ n = m := fun h => by simp [h] at e
    have := r.len; omega
  have e : n = m := by have e : (n : Int) = m := by simpa using e
                       omega
  subst e
  refine iteB_intro (fun e => no h1 (fun r => ?_) s1.tail) (fun e => ?_)
  · have e : (4096 : Int) < n := by simpa using e
    have := r.max; omega
  have hn : n ≤ 4096 := by have e : (n : Int) ≤ 4096 := by simpa using e
                           omega
  simp -zeta only [j]
  clear j
  refine ⟨n + 1, right_l0 hup hw hn kU kW (fun h' hno s' => no h' hno s'.tail) (fun h2 ho s2 => ?_) s1 n 0 (by omega) (fun v hv => by omega)⟩
  have l1 : (up.filter (· == -1)).length = min up.length 1 → ∃ m27, straitref29_Right.l1 (fun z24 h25 => K z24 h25) (fun h26 => K true h26) m27 ⟨t, 0, none⟩ 0 h2 := fun hroots =>
    ⟨n + 1, right_l1 hup hn kU (fun u hu => ⟨(ho u hu).1, by have := (ho u hu).2.1; omega⟩) (fun h' ⟨v, hv, hd⟩ s' => no h' (fun r => by
      obtain ⟨d, hd'⟩ := r.deep v (by omega)
      rw [hup] at hd'
      exact hd d hd') s'.tail) (fun h' hd s' => yes h' ⟨by omega, by omega, fun v hv => ho v (by omega), hroots, fun v hv => by rw [hup]; exact hd v (by omega)⟩ s'.tail) n 0 h2 (by omega) (fun v hv => by omega) s2⟩
  refine iteB_intro (fun e => no h2 (fun r => ?_) s2.tail) (fun e => ?_)
  · have e : (1 : Int) < (up.filter (· == -1)).length := by simpa using e
    have := r.roots; omega
  have e : ((up.filter (· == -1)).length : Int) ≤ 1 := by simpa using e
  refine iteB_intro (fun e2 => ?_) (fun e2 => ?_)
  · have e2 : (up.filter (· == -1)).length = 0 := by have e2 : ((up.filter (· == -1)).length : Int) = 0 := by simpa using e2
                                                     omega
    try simp -zeta (disch := omega) only [chkP_some, iteB_true, iteB_false, add_mk, Nat.zero_add, Nat.add_zero, Nat.mul_one, Nat.reduceAdd, Int.toNat_natCast, ex_int, ex_slice, ex_ptr, ex_bool, ex_str, ex_flt, ex_any, bnd_in, List.getElem?_cons_zero, List.getElem?_cons_succ, List.set_cons_zero, List.set_cons_succ, List.cons_append, List.nil_append, bne_self_eq_false, beq_self_eq_true, Bool.not_true, Bool.not_false, Option.isNone_some, Option.isNone_none, eq_self, true_and, and_true, and_self, s2.rd0]
    refine iteB_intro (fun e3 => no h2 (fun r => ?_) s2.tail) (fun e3 => l1 ?_)
    · have e3 : 0 < n := by have e3 : (0 : Int) < n := by simpa using e3
                            omega
      have := r.roots; omega
    · have e3 : (n : Int) ≤ 0 := by simpa using e3
      omega
  · have e2 : (up.filter (· == -1)).length ≠ 0 := fun h => by simp [h] at e2
    refine l1 ?_
    have := List.length_filter_le (· == -1) up
    omega
end
end Go.Proofs.Ytfidcekobjmamaa
