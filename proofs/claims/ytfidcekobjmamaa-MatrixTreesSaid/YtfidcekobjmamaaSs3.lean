/-
  Stable sorting: the searches of symMerge.
-/
import Derived.Test.YtfidcekobjmamaaSs2
namespace Go.Proofs.Ytfidcekobjmamaa
set_option linter.unusedVariables false
set_option linter.unusedSimpArgs false
set_option linter.unnecessarySimpa false
open Go.Hp Go.RowKit
attribute [local irreducible] Go.Hp.iteB Go.Hp.stC Go.Hp.newP

theorem half_eq {i j : Nat} (h : i + j < 2 ^ 50) : IntKind.i64.wrap ((IntKind.u64.wrap (IntKind.i64.wrap ((i : Int) + (j : Int)))).fdiv (2 ^ 1)) = (((i + j) / 2 : Nat) : Int) := by
  rw [wrap_id (x := (i : Int) + j) (by omega) (by omega), wrap_u64, show ((i : Int) + j) % 18446744073709551616 = ((i + j : Nat) : Int) by omega, Int.fdiv_eq_ediv_of_nonneg _ (by decide), wrap_id (by omega) (by omega)]
  omega

/-- What a search by halves finds. -/
structure Found (pr : Nat → Prop) (lo hi p : Nat) : Prop where
  b1 : lo ≤ p
  b2 : p ≤ hi
  yes : ∀ t, lo ≤ t → t < p → pr t
  no : ∀ t, p ≤ t → t < hi → ¬ pr t
def Mono (pr : Nat → Prop) (lo hi : Nat) : Prop := ∀ t u, lo ≤ t → t ≤ u → u < hi → pr u → pr t
structure SInv (pr : Nat → Prop) (lo hi i j : Nat) : Prop where
  b1 : lo ≤ i
  ij : i ≤ j
  b2 : j ≤ hi
  yes : ∀ t, lo ≤ t → t < i → pr t
  no : ∀ t, j ≤ t → t < hi → ¬ pr t
theorem SInv.start {pr : Nat → Prop} {lo hi : Nat} (h : lo ≤ hi) : SInv pr lo hi lo hi := ⟨Nat.le_refl _, h, Nat.le_refl _, fun t h1 h2 => by omega, fun t h1 h2 => by omega⟩
theorem SInv.found {pr : Nat → Prop} {lo hi i j : Nat} (v : SInv pr lo hi i j) (h : ¬ i < j) : Found pr lo hi i := by
  have : i = j := by have := v.ij; omega
  subst this
  exact ⟨v.b1, v.b2, v.yes, v.no⟩
theorem SInv.up {pr : Nat → Prop} {lo hi i j : Nat} (v : SInv pr lo hi i j) (hm : Mono pr lo hi) (h : i < j) (hp : pr ((i + j) / 2)) : SInv pr lo hi ((i + j) / 2 + 1) j := by
  have h1 := v.b1; have h2 := v.ij; have h3 := v.b2
  exact ⟨by omega, by omega, h3, fun t a c => hm t ((i + j) / 2) a (by omega) (by omega) hp, v.no⟩
theorem SInv.down {pr : Nat → Prop} {lo hi i j : Nat} (v : SInv pr lo hi i j) (hm : Mono pr lo hi) (h : i < j) (hp : ¬ pr ((i + j) / 2)) : SInv pr lo hi i ((i + j) / 2) := by
  have h1 := v.b1; have h2 := v.ij; have h3 := v.b2
  exact ⟨h1, by omega, by omega, v.yes, fun t a c hpt => hp (hm _ t (by omega) a c hpt)⟩

section
variable {key : Nat → Int} {ok : Nat → Prop} {h0 : Base} {h : Heap} {b c n : Nat} {R : Rws} {z : List Value} {cp : Addr} {l : List Nat}

theorem getD_l {i x : Nat} (hx : l[i]? = some x) : l.getD i 0 = x := by simp [List.getD, hx]

theorem sym_l0 (hc : CmpOK key ok h0 b z R cp) {K2 : Int → Heap → Prop} (hn2 : n < 2 ^ 40) (hl : l.length = n) (hok : ∀ x ∈ l, ok x) {a2 x lo hi : Nat} (hx : l[a2]? = some x) (hhi : hi ≤ n) (hm : Mono (fun t => key (l.getD t 0) < key x) lo hi)
    (hk : ∀ p : Nat, Found (fun t => key (l.getD t 0) < key x) lo hi p → K2 (p : Int) h) (s : St h0 h ((b, natV l ++ z) :: R)) :
    ∀ (d i j : Nat), j ≤ i + d → SInv (fun t => key (l.getD t 0) < key x) lo hi i j → slices_symMergeCmpFunc_int_tree_Order_c1.l0 K2 (d + 1) (some ⟨b, 0, none⟩) n c (a2 : Int) cp (i : Int) (j : Int) h
  | d, i, j, hd, v => by
    unfold slices_symMergeCmpFunc_int_tree_Order_c1.l0 slices_symMergeCmpFunc_int_tree_Order_c1.b0
    have v1 := v.b1; have v2 := v.ij; have v3 := v.b2
    have hxl := lt_get hx
    refine iteB_intro (fun e => ?_) (fun e => hk i (v.found (by simpa using e)))
    have e : i < j := by simpa using e
    obtain ⟨y, hy⟩ := get_lt (l := l) (i := (i + j) / 2) (by omega)
    simp only [bindV, half_eq (i := i) (j := j) (by omega)]
    try simp -zeta (disch := omega) only [chkP_some, iteB_true, iteB_false, add_mk, Nat.zero_add, Nat.add_zero, Nat.mul_one, Nat.reduceAdd, Int.toNat_natCast, ex_int, ex_slice, ex_ptr, ex_bool, ex_str, ex_flt, ex_any, bnd_in, List.getElem?_cons_zero, List.getElem?_cons_succ, List.set_cons_zero, List.set_cons_succ, List.cons_append, List.nil_append, bne_self_eq_false, beq_self_eq_true, Bool.not_true, Bool.not_false, Option.isNone_some, Option.isNone_none, eq_self, true_and, and_true, and_self, s.rd0, nv_get hy, nv_get hx]
    refine ⟨by decide, ?_⟩
    refine callP1.self (hc y x _ h _ (hok _ (List.mem_of_getElem? hy)) (hok _ (List.mem_of_getElem? hx)) s fun r hr => ?_)
    cases d with
    | zero => omega
    | succ d =>
      refine iteB_intro (fun e2 => ?_) (fun e2 => ?_)
      · rw [wrap_id (by omega) (by omega)]
        exact sym_l0 hc hn2 hl hok hx hhi hm hk s d ((i + j) / 2 + 1) j (by omega) (v.up hm e (by show key (l.getD _ 0) < key x; rw [getD_l hy]; exact hr.1 (by simpa using e2)))
      · exact sym_l0 hc hn2 hl hok hx hhi hm hk s d i ((i + j) / 2) (by omega) (v.down hm e (by show ¬ key (l.getD _ 0) < key x; rw [getD_l hy]; exact fun hh => by have := hr.2 hh; simp [this] at e2))

theorem sym_l2 (hc : CmpOK key ok h0 b z R cp) {K6 : Int → Heap → Prop} (hn2 : n < 2 ^ 40) (hl : l.length = n) (hok : ∀ x ∈ l, ok x) {m2 y lo hi : Nat} (hy : l[m2]? = some y) (hhi : hi ≤ n) (hm : Mono (fun t => ¬ key y < key (l.getD t 0)) lo hi)
    (hk : ∀ p : Nat, Found (fun t => ¬ key y < key (l.getD t 0)) lo hi p → K6 (p : Int) h) (s : St h0 h ((b, natV l ++ z) :: R)) :
    ∀ (d i j : Nat), j ≤ i + d → SInv (fun t => ¬ key y < key (l.getD t 0)) lo hi i j → slices_symMergeCmpFunc_int_tree_Order_c1.l2 K6 (d + 1) (some ⟨b, 0, none⟩) n c (m2 : Int) cp (i : Int) (j : Int) h
  | d, i, j, hd, v => by
    unfold slices_symMergeCmpFunc_int_tree_Order_c1.l2 slices_symMergeCmpFunc_int_tree_Order_c1.b2
    have v1 := v.b1; have v2 := v.ij; have v3 := v.b2
    have hxl := lt_get hy
    refine iteB_intro (fun e => ?_) (fun e => hk i (v.found (by simpa using e)))
    have e : i < j := by simpa using e
    obtain ⟨x, hx⟩ := get_lt (l := l) (i := (i + j) / 2) (by omega)
    simp only [bindV, half_eq (i := i) (j := j) (by omega)]
    try simp -zeta (disch := omega) only [chkP_some, iteB_true, iteB_false, add_mk, Nat.zero_add, Nat.add_zero, Nat.mul_one, Nat.reduceAdd, Int.toNat_natCast, ex_int, ex_slice, ex_ptr, ex_bool, ex_str, ex_flt, ex_any, bnd_in, List.getElem?_cons_zero, List.getElem?_cons_succ, List.set_cons_zero, List.set_cons_succ, List.cons_append, List.nil_append, bne_self_eq_false, beq_self_eq_true, Bool.not_true, Bool.not_false, Option.isNone_some, Option.isNone_none, eq_self, true_and, and_true, and_self, s.rd0, nv_get hy, nv_get hx]
    refine ⟨by decide, ?_⟩
    refine callP1.self (hc y x _ h _ (hok _ (List.mem_of_getElem? hy)) (hok _ (List.mem_of_getElem? hx)) s fun r hr => ?_)
    cases d with
    | zero => omega
    | succ d =>
      refine iteB_intro (fun e2 => ?_) (fun e2 => ?_)
      · rw [wrap_id (by omega) (by omega)]
        exact sym_l2 hc hn2 hl hok hy hhi hm hk s d ((i + j) / 2 + 1) j (by omega) (v.up hm e (by show ¬ key y < key (l.getD _ 0); rw [getD_l hx]; exact fun hh => by have := hr.2 hh; simp [this] at e2))
      · exact sym_l2 hc hn2 hl hok hy hhi hm hk s d i ((i + j) / 2) (by omega) (v.down hm e (by show ¬ ¬ key y < key (l.getD _ 0); rw [getD_l hx]; exact fun hh => hh (hr.1 (by simpa using e2))))

theorem sym_l4 (hc : CmpOK key ok h0 b z R cp) {K10 : Int → Heap → Prop} (hn2 : n < 2 ^ 40) (hl : l.length = n) (hok : ∀ x ∈ l, ok x) {p2 lo hi : Nat} {A1 A2 A3 A4 A5 : Int} (hhi : hi ≤ n) (hp2 : p2 < 2 ^ 41) (hpl : hi ≤ p2 + 1) (hpn : p2 < n + lo) (hm : Mono (fun t => ¬ key (l.getD (p2 - t) 0) < key (l.getD t 0)) lo hi)
    (hk : ∀ p : Nat, Found (fun t => ¬ key (l.getD (p2 - t) 0) < key (l.getD t 0)) lo hi p → K10 (p : Int) h) (s : St h0 h ((b, natV l ++ z) :: R)) :
    ∀ (d i j : Nat), j ≤ i + d → SInv (fun t => ¬ key (l.getD (p2 - t) 0) < key (l.getD t 0)) lo hi i j → slices_symMergeCmpFunc_int_tree_Order_c1.l4 K10 (d + 1) (some ⟨b, 0, none⟩) n c A1 A2 A3 cp A4 A5 (i : Int) (j : Int) (p2 : Int) h
  | d, i, j, hd, v => by
    unfold slices_symMergeCmpFunc_int_tree_Order_c1.l4 slices_symMergeCmpFunc_int_tree_Order_c1.b4
    have v1 := v.b1; have v2 := v.ij; have v3 := v.b2
    refine iteB_intro (fun e => ?_) (fun e => hk i (v.found (by simpa using e)))
    have e : i < j := by simpa using e
    obtain ⟨x, hx⟩ := get_lt (l := l) (i := (i + j) / 2) (by omega)
    obtain ⟨y, hy⟩ := get_lt (l := l) (i := p2 - (i + j) / 2) (by omega)
    have ep : IntKind.i64.wrap ((p2 : Int) - (((i + j) / 2 : Nat) : Int)) = ((p2 - (i + j) / 2 : Nat) : Int) := by rw [wrap_id (by omega) (by omega)]; omega
    simp only [bindV, half_eq (i := i) (j := j) (by omega), ep]
    try simp -zeta (disch := omega) only [chkP_some, iteB_true, iteB_false, add_mk, Nat.zero_add, Nat.add_zero, Nat.mul_one, Nat.reduceAdd, Int.toNat_natCast, ex_int, ex_slice, ex_ptr, ex_bool, ex_str, ex_flt, ex_any, bnd_in, List.getElem?_cons_zero, List.getElem?_cons_succ, List.set_cons_zero, List.set_cons_succ, List.cons_append, List.nil_append, bne_self_eq_false, beq_self_eq_true, Bool.not_true, Bool.not_false, Option.isNone_some, Option.isNone_none, eq_self, true_and, and_true, and_self, s.rd0, nv_get hy, nv_get hx]
    refine ⟨by decide, ?_⟩
    refine callP1.self (hc y x _ h _ (hok _ (List.mem_of_getElem? hy)) (hok _ (List.mem_of_getElem? hx)) s fun r hr => ?_)
    cases d with
    | zero => omega
    | succ d =>
      refine iteB_intro (fun e2 => ?_) (fun e2 => ?_)
      · rw [wrap_id (by omega) (by omega)]
        exact sym_l4 hc hn2 hl hok hhi hp2 hpl hpn hm hk s d ((i + j) / 2 + 1) j (by omega) (v.up hm e (by show ¬ key (l.getD _ 0) < key (l.getD _ 0); rw [getD_l hx, getD_l hy]; exact fun hh => by have := hr.2 hh; simp [this] at e2))
      · exact sym_l4 hc hn2 hl hok hhi hp2 hpl hpn hm hk s d i ((i + j) / 2) (by omega) (v.down hm e (by show ¬ ¬ key (l.getD _ 0) < key (l.getD _ 0); rw [getD_l hx, getD_l hy]; exact fun hh => hh (hr.1 (by simpa using e2))))

/-! One element carried through others. -/
theorem sym_l1 {K4 : Heap → Prop} (hn2 : n < 2 ^ 40) {P T : List Nat} {x : Nat} {i2 : Int} {F : List Nat} (hk : ∀ h', St h0 h' ((b, natV F ++ z) :: R) → K4 h') :
    ∀ (d : Nat) (A B : List Nat) (h : Heap), B.length = d → i2 = ((P.length + A.length + B.length + 1 : Nat) : Int) → (P ++ (A ++ x :: (B ++ T))).length = n → P ++ (A ++ (B ++ x :: T)) = F → St h0 h ((b, natV (P ++ (A ++ x :: (B ++ T))) ++ z) :: R) →
      slices_symMergeCmpFunc_int_tree_Order_c1.l1 K4 (d + 1) (some ⟨b, 0, none⟩) n c i2 ((P.length + A.length : Nat) : Int) h
  | 0, A, B, h, hB, hi, hl, hF, s => by
    unfold slices_symMergeCmpFunc_int_tree_Order_c1.l1 slices_symMergeCmpFunc_int_tree_Order_c1.b1
    obtain rfl := List.length_eq_zero_iff.1 hB
    simp only [List.length_append, List.length_cons, List.length_nil] at hl hi
    refine iteB_neg (decide_eq_false ?_) (hk h (by rw [← hF]; simpa using s))
    rw [wrap_id (by omega) (by omega)]; omega
  | d + 1, A, B, h, hB, hi, hl, hF, s => by
    unfold slices_symMergeCmpFunc_int_tree_Order_c1.l1 slices_symMergeCmpFunc_int_tree_Order_c1.b1
    obtain ⟨y, B', rfl⟩ : ∃ y B', B = y :: B' := by cases B with
      | nil => simp at hB
      | cons y B' => exact ⟨y, B', rfl⟩
    simp only [List.length_append, List.length_cons] at hl hi hB
    have e1 : IntKind.i64.wrap (((P.length + A.length : Nat) : Int) + 1) = ((P.length + A.length + 1 : Nat) : Int) := by rw [wrap_id (by omega) (by omega)]; omega
    simp only [List.cons_append] at s
    have gx : (P ++ (A ++ x :: y :: (B' ++ T)))[P.length + A.length]? = some x := by
      have := lget_at (A := P ++ A) (B := y :: (B' ++ T)) (x := x) (i := P.length + A.length) (by simp)
      simpa using this
    have gy : (P ++ (A ++ x :: y :: (B' ++ T)))[P.length + A.length + 1]? = some y := by
      have := lget_at (A := P ++ (A ++ [x])) (B := B' ++ T) (x := y) (i := P.length + A.length + 1) (by simp; omega)
      simpa using this
    have hlen : (P ++ (A ++ x :: y :: (B' ++ T))).length = n := by simp; omega
    refine iteB_pos (decide_eq_true (by rw [wrap_id (by omega) (by omega)]; omega)) ?_
    simp only [e1]
    try simp -zeta (disch := omega) only [chkP_some, iteB_true, iteB_false, add_mk, Nat.zero_add, Nat.add_zero, Nat.mul_one, Nat.reduceAdd, Int.toNat_natCast, ex_int, ex_slice, ex_ptr, ex_bool, ex_str, ex_flt, ex_any, bnd_in, List.getElem?_cons_zero, List.getElem?_cons_succ, List.set_cons_zero, List.set_cons_succ, List.cons_append, List.nil_append, bne_self_eq_false, beq_self_eq_true, Bool.not_true, Bool.not_false, Option.isNone_some, Option.isNone_none, eq_self, true_and, and_true, and_self, s.rd0, nv_get gx, nv_get gy]
    refine s.st0 (show P.length + A.length < _ by rw [List.length_append, natV_len, hlen]; omega) fun h5 s5 => ?_
    rw [nv_set (by omega)] at s5
    try simp -zeta (disch := omega) only [chkP_some, iteB_true, iteB_false, add_mk, Nat.zero_add, Nat.add_zero, Nat.mul_one, Nat.reduceAdd, Int.toNat_natCast, ex_int, ex_slice, ex_ptr, ex_bool, ex_str, ex_flt, ex_any, bnd_in, List.getElem?_cons_zero, List.getElem?_cons_succ, List.set_cons_zero, List.set_cons_succ, List.cons_append, List.nil_append, bne_self_eq_false, beq_self_eq_true, Bool.not_true, Bool.not_false, Option.isNone_some, Option.isNone_none, eq_self, true_and, and_true, and_self, s5.rd0]
    refine s5.st0 (show P.length + A.length + 1 < _ by rw [List.length_append, natV_len, List.length_set, hlen]; omega) fun h6 s6 => ?_
    rw [nv_set (by rw [List.length_set, hlen]; omega)] at s6
    have es : ((P ++ (A ++ x :: y :: (B' ++ T))).set (P.length + A.length) y).set (P.length + A.length + 1) x = P ++ ((A ++ [y]) ++ x :: (B' ++ T)) := by
      have u1 := lset_at (A := P ++ A) (B := y :: (B' ++ T)) (x := x) (y := y) (i := P.length + A.length) (by simp)
      have u2 := lset_at (A := P ++ (A ++ [y])) (B := B' ++ T) (x := y) (y := x) (i := P.length + A.length + 1) (by simp; omega)
      simp only [List.append_assoc, List.cons_append, List.nil_append] at u1 u2 ⊢
      rw [u1, u2]
    rw [es] at s6
    have ih := sym_l1 (P := P) (T := T) (x := x) (i2 := i2) hn2 hk d (A ++ [y]) B' h6 (by omega) (by simp only [List.length_append, List.length_cons, List.length_nil]; omega) (by simp; omega) (by rw [← hF]; simp) s6
    rw [show P.length + (A ++ [y]).length = P.length + A.length + 1 by simp; omega] at ih
    exact ih
theorem sym_l3 {K8 : Heap → Prop} (hn2 : n < 2 ^ 40) {P T : List Nat} {y : Nat} {F : List Nat} (hk : ∀ h', St h0 h' ((b, natV F ++ z) :: R) → K8 h') :
    ∀ (d : Nat) (A B : List Nat) (h : Heap), A.length = d → (P ++ (A ++ y :: (B ++ T))).length = n → P ++ y :: (A ++ (B ++ T)) = F → St h0 h ((b, natV (P ++ (A ++ y :: (B ++ T))) ++ z) :: R) →
      slices_symMergeCmpFunc_int_tree_Order_c1.l3 K8 (d + 1) (some ⟨b, 0, none⟩) n c (P.length : Int) ((P.length + A.length : Nat) : Int) h
  | 0, A, B, h, hA, hl, hF, s => by
    unfold slices_symMergeCmpFunc_int_tree_Order_c1.l3 slices_symMergeCmpFunc_int_tree_Order_c1.b3
    obtain rfl := List.length_eq_zero_iff.1 hA
    exact iteB_neg (decide_eq_false (by simp)) (hk h (by rw [← hF]; simpa using s))
  | d + 1, A, B, h, hA, hl, hF, s => by
    unfold slices_symMergeCmpFunc_int_tree_Order_c1.l3 slices_symMergeCmpFunc_int_tree_Order_c1.b3
    obtain ⟨A', x, rfl⟩ := snoc_cases (l := A) (by omega)
    simp only [List.length_append, List.length_cons, List.length_nil] at hl hA
    have e0 : P.length + (A' ++ [x]).length = P.length + A'.length + 1 := by simp; omega
    rw [e0]
    have e1 : IntKind.i64.wrap (((P.length + A'.length + 1 : Nat) : Int) - 1) = ((P.length + A'.length : Nat) : Int) := by rw [wrap_id (by omega) (by omega)]; omega
    have gx : (P ++ (A' ++ [x] ++ y :: (B ++ T)))[P.length + A'.length]? = some x := by
      have := lget_at (A := P ++ A') (B := y :: (B ++ T)) (x := x) (i := P.length + A'.length) (by simp)
      simpa using this
    have gy : (P ++ (A' ++ [x] ++ y :: (B ++ T)))[P.length + A'.length + 1]? = some y := by
      have := lget_at (A := P ++ (A' ++ [x])) (B := B ++ T) (x := y) (i := P.length + A'.length + 1) (by simp; omega)
      simpa using this
    have hlen : (P ++ (A' ++ [x] ++ y :: (B ++ T))).length = n := by simp; omega
    refine iteB_pos (decide_eq_true (by omega)) ?_
    simp only [e1]
    try simp -zeta (disch := omega) only [chkP_some, iteB_true, iteB_false, add_mk, Nat.zero_add, Nat.add_zero, Nat.mul_one, Nat.reduceAdd, Int.toNat_natCast, ex_int, ex_slice, ex_ptr, ex_bool, ex_str, ex_flt, ex_any, bnd_in, List.getElem?_cons_zero, List.getElem?_cons_succ, List.set_cons_zero, List.set_cons_succ, List.cons_append, List.nil_append, bne_self_eq_false, beq_self_eq_true, Bool.not_true, Bool.not_false, Option.isNone_some, Option.isNone_none, eq_self, true_and, and_true, and_self, s.rd0, nv_get gx, nv_get gy]
    refine s.st0 (show P.length + A'.length + 1 < _ by rw [List.length_append, natV_len, hlen]; omega) fun h5 s5 => ?_
    rw [nv_set (by omega)] at s5
    try simp -zeta (disch := omega) only [chkP_some, iteB_true, iteB_false, add_mk, Nat.zero_add, Nat.add_zero, Nat.mul_one, Nat.reduceAdd, Int.toNat_natCast, ex_int, ex_slice, ex_ptr, ex_bool, ex_str, ex_flt, ex_any, bnd_in, List.getElem?_cons_zero, List.getElem?_cons_succ, List.set_cons_zero, List.set_cons_succ, List.cons_append, List.nil_append, bne_self_eq_false, beq_self_eq_true, Bool.not_true, Bool.not_false, Option.isNone_some, Option.isNone_none, eq_self, true_and, and_true, and_self, s5.rd0]
    refine s5.st0 (show P.length + A'.length < _ by rw [List.length_append, natV_len, List.length_set, hlen]; omega) fun h6 s6 => ?_
    rw [nv_set (by rw [List.length_set, hlen]; omega)] at s6
    have es : ((P ++ (A' ++ [x] ++ y :: (B ++ T))).set (P.length + A'.length + 1) x).set (P.length + A'.length) y = P ++ (A' ++ y :: ((x :: B) ++ T)) := by
      have u1 := lset_at (A := P ++ (A' ++ [x])) (B := B ++ T) (x := y) (y := x) (i := P.length + A'.length + 1) (by simp; omega)
      have u2 := lset_at (A := P ++ A') (B := x :: (B ++ T)) (x := x) (y := y) (i := P.length + A'.length) (by simp)
      simp only [List.append_assoc, List.cons_append, List.nil_append] at u1 u2 ⊢
      rw [u1, u2]
    rw [es] at s6
    exact sym_l3 hn2 hk d A' (x :: B) h6 (by omega) (by simp; omega) (by rw [← hF]; simp) s6
end
end Go.Proofs.Ytfidcekobjmamaa
