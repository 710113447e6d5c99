/-
  Trees: the walks of deepen, depths, Check.
-/
import Derived.Test.YtfidcekobjmamaaT1
import Derived.Test.YtfidcekobjmamaaRd
import Derived.Test.YtfidcekobjmamaaG3
namespace Go.Proofs.Ytfidcekobjmamaa
set_option linter.unusedVariables false
set_option linter.unusedSimpArgs false
set_option linter.unnecessarySimpa false
open Go.Hp Go.RowKit
attribute [local irreducible] Go.Hp.iteB Go.Hp.stC Go.Hp.newP

def UU (up : List Int) (v : Nat) : Int := up.getD v 0
theorem UU_get {up : List Int} {v : Nat} (h : v < up.length) : (up.map (Value.int .i64))[v]? = some (.int .i64 (UU up v)) := by
  simp [UU, h]

theorem UU_get0 {up : List Int} {v : Nat} (h : v < up.length) : up[v]? = some (UU up v) := by simp [UU, h]
/-- Depths that are known are right. -/
def DD (U D : Nat → Int) (n : Nat) : Prop := ∀ u, u < n → D u = -1 ∨ ∃ d : Nat, D u = d ∧ hasD U n d u
def extD (D D' : Nat → Int) (n : Nat) : Prop := ∀ u, u < n → 0 ≤ D u → D' u = D u

theorem DD.upd {U D : Nat → Int} {n d w : Nat} (h : DD U D n) (hw : hasD U n d w) : DD U (upd D w (d : Int)) n := by
  intro u hu
  unfold Hp.upd
  by_cases e : u = w
  · rw [if_pos e]; exact .inr ⟨d, rfl, e ▸ hw⟩
  · rw [if_neg e]; exact h u hu
theorem extD.upd {U D D' : Nat → Int} {n d w : Nat} (h : DD U D n) (x : extD D D' n) (hw : hasD U n d w) : extD D (upd D' w (d : Int)) n := by
  intro u hu h0
  unfold Hp.upd
  by_cases e : u = w
  · rw [if_pos e]
    subst e
    rcases h u hu with h1 | ⟨d', h1, h2⟩
    · omega
    · rw [h1, hw.uniq h2]
  · rw [if_neg e]; exact x u hu h0

section
variable {h0 : Base} {R : Rws} {b n : Nat} {up : List Int} {qU : Option Addr} {cU : Nat}

theorem deepen_l1 {l : List Nat} {e d0 : Nat} {q : Option Addr} {c : Nat} {D : Nat → Int} {K2 : Heap → Prop} (hn : n ≤ 4096) (hll : l.length ≤ 4097) (hl : ∀ x ∈ l, x < n) (hway : isWay (UU up) l e) (he : hasD (UU up) n d0 e) (hD : DD (UU up) D n)
    (hq : ∀ h A, St h0 h (A :: R) → valsAt h q (l.map fun v : Nat => Value.int .i64 v))
    (hk : ∀ h' D', DD (UU up) D' n → extD D D' n → (∀ (i v : Nat), l[i]? = some v → 0 ≤ D' v) → St h0 h' ((b, ints n D') :: R) → K2 h') :
    ∀ (i : Nat) (h : Heap) (D' : Nat → Int), i ≤ l.length → DD (UU up) D' n → extD D D' n → (∀ (j v : Nat), i ≤ j → l[j]? = some v → 0 ≤ D' v) → St h0 h ((b, ints n D') :: R) →
      tree_deepen.l1 K2 (i + 1) (some ⟨b, 0, none⟩) n n q l.length c ((d0 + (l.length - i) : Nat) : Int) ((i : Int) - 1) h
  | 0, h, D', _, h1, h2, h3, s => by
    unfold tree_deepen.l1 tree_deepen.b1
    exact iteB_neg (by simp) (hk h D' h1 h2 (fun i v hv => h3 i v (Nat.zero_le _) hv) s)
  | i + 1, h, D', hi, h1, h2, h3, s => by
    unfold tree_deepen.l1 tree_deepen.b1
    obtain ⟨w, hw⟩ := get_lt (l := l) (i := i) (by omega)
    have hwn := hl w (List.mem_of_getElem? hw)
    have hdw := isWay_deep hway hl he i w hw
    have hlt := hdw.lt_n
    rw [show ((i + 1 : Nat) : Int) - 1 = (i : Int) by omega]
    refine iteB_pos (by simp) ?_
    try simp -zeta (disch := omega) only [chkP_some, iteB_true, iteB_false, add_mk, Nat.zero_add, Nat.add_zero, Nat.mul_one, Nat.reduceAdd, Int.toNat_natCast, ex_int, ex_slice, ex_ptr, ex_bool, ex_str, ex_flt, ex_any, bnd_in, List.getElem?_cons_zero, List.getElem?_cons_succ, List.set_cons_zero, List.set_cons_succ, List.cons_append, List.nil_append, bne_self_eq_false, beq_self_eq_true, Bool.not_true, Bool.not_false, Option.isNone_some, Option.isNone_none, eq_self, true_and, and_true, and_self, s.rd0, vals_int (hq _ _ s) (show (l.map fun v : Nat => Value.int .i64 (v : Int))[i]? = some (.int .i64 (w : Int)) by simp [hw])]
    refine s.st0 (by rw [ints_length]; exact hwn) fun h' s => ?_
    rw [wrap64 (by omega) (by omega), wrap64 (by omega) (by omega), show ((d0 + (l.length - (i + 1)) : Nat) : Int) + 1 = ((d0 + (l.length - i) : Nat) : Int) by omega] at *
    rw [ints_set] at s
    refine deepen_l1 hn hll hl hway he hD hq hk i h' _ (by omega) (h1.upd hdw) (extD.upd hD h2 hdw) (fun j v hj hv => ?_) s
    unfold Hp.upd
    by_cases e : v = w
    · rw [if_pos e]; omega
    · rw [if_neg e]
      refine h3 j v ?_ hv
      rcases Nat.lt_or_ge i j with h | h
      · exact h
      · obtain rfl : i = j := by omega
        rw [hw] at hv; exact absurd (Option.some.inj hv).symm e

theorem deepen_l0 {v0 t lW cW : Nat} {qW : Option Addr} {D : Nat → Int} {K0 : Bool → Heap → Prop} (hup : up.length = n) (hn : n ≤ 4096) (kU : Keeps h0 R qU (up.map (Value.int .i64))) (hr : ∀ u, u < n → -1 ≤ UU up u ∧ UU up u < n) (hroot : ∀ u, u < n → UU up u = -1 → 0 ≤ D u)
    (hD : DD (UU up) D n)
    (hk0 : ∀ h', (¬ ∃ d, hasD (UU up) n d v0) → St h0 h' ((b, ints n D) :: R) → K0 false h')
    (hk1 : ∀ h' D', 0 ≤ D' v0 → extD D D' n → DD (UU up) D' n → St h0 h' ((b, ints n D') :: R) → K0 true h') :
    ∀ (m : Nat) (h : Heap) (l : List Nat) (e : Nat) (q : Option Addr) (c : Nat) (X : Rws), m + l.length = n → isWay (UU up) (v0 :: l) e → v0 < n → (∀ x ∈ l, x < n) → e < n → Own q c ((v0 :: l).map fun v : Nat => Value.int .i64 v) X →
      St h0 h (X ++ ((t, [.slice qU n cU, .slice qW lW cW]) :: (b, ints n D) :: R)) →
      tree_deepen.l0 K0 (m + 1) (some ⟨b, 0, none⟩) n n (e : Int) ⟨t, 0, none⟩ q (l.length + 1) c h := by
  intro m
  induction m with
  | zero =>
    intro h l e q c X hm hway hv0 hl he o s
    unfold tree_deepen.l0 tree_deepen.b0
    have s' := s.drop
    intro j
    try simp -zeta (disch := omega) only [chkP_some, iteB_true, iteB_false, add_mk, Nat.zero_add, Nat.add_zero, Nat.mul_one, Nat.reduceAdd, Int.toNat_natCast, ex_int, ex_slice, ex_ptr, ex_bool, ex_str, ex_flt, ex_any, bnd_in, List.getElem?_cons_zero, List.getElem?_cons_succ, List.set_cons_zero, List.set_cons_succ, List.cons_append, List.nil_append, bne_self_eq_false, beq_self_eq_true, Bool.not_true, Bool.not_false, Option.isNone_some, Option.isNone_none, eq_self, true_and, and_true, and_self, s'.rd0, s'.rd1, ints_get]
    have key : j false := by
      simp -zeta only [j]
      refine iteB_neg rfl ?_
      try simp -zeta (disch := omega) only [chkP_some, iteB_true, iteB_false, add_mk, Nat.zero_add, Nat.add_zero, Nat.mul_one, Nat.reduceAdd, Int.toNat_natCast, ex_int, ex_slice, ex_ptr, ex_bool, ex_str, ex_flt, ex_any, bnd_in, List.getElem?_cons_zero, List.getElem?_cons_succ, List.set_cons_zero, List.set_cons_succ, List.cons_append, List.nil_append, bne_self_eq_false, beq_self_eq_true, Bool.not_true, Bool.not_false, Option.isNone_some, Option.isNone_none, eq_self, true_and, and_true, and_self, s'.rd0, s'.rd1, ints_get]
      have hno : ¬ ∃ d, hasD (UU up) n d v0 := by
        rintro ⟨d, hd⟩
        have := (isWay_start hway hd).1
        have := hd.lt_n
        omega
      refine iteB_intro (fun cc => hk0 _ hno s'.tail) (fun cc => ?_)
      have cc := of_decide_eq_false cc
      rcases hD e he with h1 | ⟨d, h1, h2⟩
      · omega
      · exfalso
        have hd := isWay_deep (n := n) hway (fun x hx => (List.mem_cons.1 hx).elim (fun h => h ▸ hv0) (hl x)) h2 0 v0 rfl
        exact hno ⟨_, hd⟩
    refine iteB_intro (fun cc => ?_) (fun cc => key)
    rw [decide_eq_false (by omega)]
    exact key
  | succ m ih =>
    intro h l e q c X hm hway hv0 hl he o s
    unfold tree_deepen.l0 tree_deepen.b0
    have s' := s.drop
    intro j
    have hall : ∀ x ∈ v0 :: l, x < n := fun x hx => (List.mem_cons.1 hx).elim (fun h => h ▸ hv0) (hl x)
    try simp -zeta (disch := omega) only [chkP_some, iteB_true, iteB_false, add_mk, Nat.zero_add, Nat.add_zero, Nat.mul_one, Nat.reduceAdd, Int.toNat_natCast, ex_int, ex_slice, ex_ptr, ex_bool, ex_str, ex_flt, ex_any, bnd_in, List.getElem?_cons_zero, List.getElem?_cons_succ, List.set_cons_zero, List.set_cons_succ, List.cons_append, List.nil_append, bne_self_eq_false, beq_self_eq_true, Bool.not_true, Bool.not_false, Option.isNone_some, Option.isNone_none, eq_self, true_and, and_true, and_self, s'.rd0, s'.rd1, ints_get]
    refine iteB_intro (fun cc => ?_) (fun cc => ?_)
    · have cc := of_decide_eq_true cc
      rw [decide_eq_true (by omega)]
      simp -zeta only [j]
      refine iteB_pos rfl ?_
      have hrt := hr e he
      have hne : UU up e ≠ -1 := fun h => by have := hroot e he h; omega
      obtain ⟨f, hf⟩ : ∃ f : Nat, UU up e = f := ⟨(UU up e).toNat, by omega⟩
      refine Own.push1 o s (by simp) rfl (by simp; omega) fun q' c' X' h' o' s => ?_
      have s' := s.drop
      try simp -zeta (disch := omega) only [chkP_some, iteB_true, iteB_false, add_mk, Nat.zero_add, Nat.add_zero, Nat.mul_one, Nat.reduceAdd, Int.toNat_natCast, ex_int, ex_slice, ex_ptr, ex_bool, ex_str, ex_flt, ex_any, bnd_in, List.getElem?_cons_zero, List.getElem?_cons_succ, List.set_cons_zero, List.set_cons_succ, List.cons_append, List.nil_append, bne_self_eq_false, beq_self_eq_true, Bool.not_true, Bool.not_false, Option.isNone_some, Option.isNone_none, eq_self, true_and, and_true, and_self, s'.rd0, vals_int (kU.at0 s'.tail.tail) (UU_get (up := up) (v := e) (by omega))]
      rw [hf]
      have := ih h' (l ++ [e]) f q' c' X' (by simp; omega) (by have := isWay_snoc hway hf; simpa using this) hv0 (fun x hx => by
        rcases List.mem_append.1 hx with hx | hx
        · exact hl x hx
        · obtain rfl : x = e := by simpa using hx
          exact he) (by omega) (by simpa using o') s
      simpa using this
    · have cc := of_decide_eq_false cc
      simp -zeta only [j]
      refine iteB_neg rfl ?_
      try simp -zeta (disch := omega) only [chkP_some, iteB_true, iteB_false, add_mk, Nat.zero_add, Nat.add_zero, Nat.mul_one, Nat.reduceAdd, Int.toNat_natCast, ex_int, ex_slice, ex_ptr, ex_bool, ex_str, ex_flt, ex_any, bnd_in, List.getElem?_cons_zero, List.getElem?_cons_succ, List.set_cons_zero, List.set_cons_succ, List.cons_append, List.nil_append, bne_self_eq_false, beq_self_eq_true, Bool.not_true, Bool.not_false, Option.isNone_some, Option.isNone_none, eq_self, true_and, and_true, and_self, s'.rd0, s'.rd1, ints_get]
      refine iteB_neg (decide_eq_false cc) ?_
      rcases hD e he with h1 | ⟨d, h1, h2⟩
      · omega
      rw [h1, wrap64 (by omega) (by omega)]
      have s2 : St h0 h ((b, ints n D) :: (X ++ ((t, [.slice qU n cU, .slice qW lW cW]) :: R))) := (St.re s (by intro a; simp only [cntR_append, cntR_cons, cntR_nil, List.cons_append, List.nil_append, List.set_cons_zero, List.set_cons_succ]; omega))
      refine ⟨(v0 :: l).length + 1, ?_⟩
      have := deepen_l1 (h0 := h0) (R := X ++ ((t, [.slice qU n cU, .slice qW lW cW]) :: R)) (b := b) (up := up) (l := v0 :: l) (e := e) (d0 := d) (q := q) (c := c) (D := D) (K2 := fun h27 => K0 true h27) hn (by simp; omega) hall hway h2 hD
        (fun h A s => o.vals s.tail) (fun h' D' g1 g2 g3 s => hk1 h' D' (g3 0 v0 rfl) g2 g1 ((St.re s (by intro a; simp only [cntR_append, cntR_cons, cntR_nil, List.cons_append, List.nil_append, List.set_cons_zero, List.set_cons_succ]; omega)))) (v0 :: l).length h D (Nat.le_refl _) hD (fun _ _ _ => rfl) (fun j v hj hv => absurd (lt_get hv) (by omega)) s2
      simpa using this

theorem deepen_of {h : Heap} {v lW cW : Nat} {qW : Option Addr} {D : Nat → Int} {K : Bool → Heap → Prop} (hup : up.length = n) (hn : n ≤ 4096) (kU : Keeps h0 R qU (up.map (Value.int .i64))) (hr : ∀ u, u < n → -1 ≤ UU up u ∧ UU up u < n) (hroot : ∀ u, u < n → UU up u = -1 → 0 ≤ D u)
    (hD : DD (UU up) D n) (hv : v < n) (s : St h0 h ((b, ints n D) :: R))
    (hk0 : ∀ h', (¬ ∃ d, hasD (UU up) n d v) → St h0 h' ((b, ints n D) :: R) → K false h')
    (hk1 : ∀ h' D', 0 ≤ D' v → extD D D' n → DD (UU up) D' n → St h0 h' ((b, ints n D') :: R) → K true h') :
    tree_deepen qU n cU qW lW cW (some ⟨b, 0, none⟩) n n (v : Int) h K := by
  unfold tree_deepen
  refine s.new_ fun t h1 s => ?_
  intro j
  try simp -zeta (disch := omega) only [chkP_some, iteB_true, iteB_false, add_mk, Nat.zero_add, Nat.add_zero, Nat.mul_one, Nat.reduceAdd, Int.toNat_natCast, ex_int, ex_slice, ex_ptr, ex_bool, ex_str, ex_flt, ex_any, bnd_in, List.getElem?_cons_zero, List.getElem?_cons_succ, List.set_cons_zero, List.set_cons_succ, List.cons_append, List.nil_append, bne_self_eq_false, beq_self_eq_true, Bool.not_true, Bool.not_false, Option.isNone_some, Option.isNone_none, eq_self, true_and, and_true, and_self, s.rd0, s.rd1, ints_get]
  refine iteB_intro (fun cc => ?_) (fun cc => ?_)
  · have cc := of_decide_eq_true cc
    rw [decide_eq_true (by omega)]
    simp -zeta only [j]
    refine iteB_pos rfl ?_
    have hrt := hr v hv
    have hne : UU up v ≠ -1 := fun h => by have := hroot v hv h; omega
    obtain ⟨f, hf⟩ : ∃ f : Nat, UU up v = f := ⟨(UU up v).toNat, by omega⟩
    refine Own.push1 Own.nil (R := _ :: _) s rfl rfl (by simp) fun q' c' X' h' o' s => ?_
    have s' := s.drop
    try simp -zeta (disch := omega) only [chkP_some, iteB_true, iteB_false, add_mk, Nat.zero_add, Nat.add_zero, Nat.mul_one, Nat.reduceAdd, Int.toNat_natCast, ex_int, ex_slice, ex_ptr, ex_bool, ex_str, ex_flt, ex_any, bnd_in, List.getElem?_cons_zero, List.getElem?_cons_succ, List.set_cons_zero, List.set_cons_succ, List.cons_append, List.nil_append, bne_self_eq_false, beq_self_eq_true, Bool.not_true, Bool.not_false, Option.isNone_some, Option.isNone_none, eq_self, true_and, and_true, and_self, s'.rd0, vals_int (kU.at0 s'.tail.tail) (UU_get (up := up) (v := v) (by omega))]
    rw [hf]
    exact ⟨n + 1, deepen_l0 hup hn kU hr hroot hD hk0 hk1 n h' [] f q' c' X' (by simp) hf hv (by simp) (by omega) (by simpa using o') s⟩
  · have cc := of_decide_eq_false cc
    simp -zeta only [j]
    refine iteB_neg rfl ?_
    try simp -zeta (disch := omega) only [chkP_some, iteB_true, iteB_false, add_mk, Nat.zero_add, Nat.add_zero, Nat.mul_one, Nat.reduceAdd, Int.toNat_natCast, ex_int, ex_slice, ex_ptr, ex_bool, ex_str, ex_flt, ex_any, bnd_in, List.getElem?_cons_zero, List.getElem?_cons_succ, List.set_cons_zero, List.set_cons_succ, List.cons_append, List.nil_append, bne_self_eq_false, beq_self_eq_true, Bool.not_true, Bool.not_false, Option.isNone_some, Option.isNone_none, eq_self, true_and, and_true, and_self, s.rd0, s.rd1, ints_get]
    refine iteB_neg (decide_eq_false cc) ⟨1, ?_⟩
    unfold tree_deepen.l2 tree_deepen.b2
    rw [wrap64 (by omega) (by omega)]
    exact iteB_neg (by decide) (hk1 _ D (by omega) (fun _ _ _ => rfl) hD s.tail)

/-- What the first loop has seen to be right. -/
def okV (up w : List Int) (v : Nat) : Prop := -1 ≤ UU up v ∧ UU up v < up.length ∧ 0 ≤ UU w v ∧ (UU up v = -1 → UU w v = 0)
def D0 (up : List Int) (i : Nat) (j : Nat) : Int := if j < i then (if UU up j = -1 then 0 else -1) else 0

theorem count_take {up : List Int} {i : Nat} {x : Int} (h : up[i]? = some x) : ((up.take (i + 1)).filter (· == -1)).length = ((up.take i).filter (· == -1)).length + if x = -1 then 1 else 0 := by
  rw [take_snoc h, List.filter_append, List.length_append]
  by_cases e : x = -1 <;> simp [e]

theorem depths_l0 {t : Nat} {w : List Int} {qW : Option Addr} {cW : Nat} {K0 : Option Addr → Nat → Nat → Bool → Heap → Prop} {K2 : Int → Heap → Prop} (hup : up.length = n) (hw : w.length = n) (hn : n ≤ 4096) (kU : Keeps h0 R qU (up.map (Value.int .i64))) (kW : Keeps h0 R qW (w.map (Value.int .i64)))
    (hk0 : ∀ h', ¬ RightT up w → St h0 h' R → K0 none 0 0 false h')
    (hk2 : ∀ h', (∀ v, v < n → okV up w v) → St h0 h' ((b, ints n (D0 up n)) :: (t, [.slice qU n cU, .slice qW n cW]) :: R) → K2 ((up.filter (· == -1)).length : Int) h') :
    ∀ (d i : Nat) (h : Heap), i + d = n → (∀ v, v < i → okV up w v) → St h0 h ((b, ints n (D0 up i)) :: (t, [.slice qU n cU, .slice qW n cW]) :: R) →
      tree_depths.l0 K0 K2 (d + 1) ⟨t, 0, none⟩ (n : Int) ⟨b, 0, none⟩ n n (((up.take i).filter (· == -1)).length : Int) qU n cU (n : Int) (i : Int) h
  | 0, i, h, hi, ho, s => by
    unfold tree_depths.l0 tree_depths.b0
    obtain rfl : i = n := by omega
    refine iteB_neg (decide_eq_false (by omega)) ?_
    rw [List.take_of_length_le (by omega)]
    exact hk2 h ho s
  | d + 1, i, h, hi, ho, s => by
    unfold tree_depths.l0 tree_depths.b0
    have hin : i < n := by omega
    have hx : up[i]? = some (UU up i) := by simp [UU, hup, hin]
    have hct := count_take hx
    have hcl : ((up.take i).filter (· == -1)).length ≤ 4096 := by
      have := List.length_filter_le (· == (-1 : Int)) (up.take i); rw [List.length_take] at this; omega
    refine iteB_pos (decide_eq_true (by omega)) ?_
    try simp -zeta (disch := omega) only [chkP_some, iteB_true, iteB_false, add_mk, Nat.zero_add, Nat.add_zero, Nat.mul_one, Nat.reduceAdd, Int.toNat_natCast, ex_int, ex_slice, ex_ptr, ex_bool, ex_str, ex_flt, ex_any, bnd_in, List.getElem?_cons_zero, List.getElem?_cons_succ, List.set_cons_zero, List.set_cons_succ, List.cons_append, List.nil_append, bne_self_eq_false, beq_self_eq_true, Bool.not_true, Bool.not_false, Option.isNone_some, Option.isNone_none, eq_self, true_and, and_true, and_self, s.rd0, s.rd1, vals_int (kU.at0 s.tail.tail) (UU_get (up := up) (v := i) (by omega))]
    refine s.st0 (by rw [ints_length]; exact hin) fun h1 s => ?_
    rw [ints_set] at s
    intro j
    have bad : ¬ okV up w i → j true := by
      intro hb
      simp -zeta only [j]
      exact iteB_pos rfl (hk0 _ (fun r => hb (r.each i (by omega))) s.tail.tail)
    have good : -1 ≤ UU up i → UU up i < n → 0 ≤ UU w i → j false := by
      intro g1 g2 g3
      simp -zeta only [j]
      refine iteB_neg rfl ?_
      refine iteB_intro (fun c => ?_) (fun c => ?_)
      · have c : UU up i = -1 := by simpa using c
        try simp -zeta (disch := omega) only [chkP_some, iteB_true, iteB_false, add_mk, Nat.zero_add, Nat.add_zero, Nat.mul_one, Nat.reduceAdd, Int.toNat_natCast, ex_int, ex_slice, ex_ptr, ex_bool, ex_str, ex_flt, ex_any, bnd_in, List.getElem?_cons_zero, List.getElem?_cons_succ, List.set_cons_zero, List.set_cons_succ, List.cons_append, List.nil_append, bne_self_eq_false, beq_self_eq_true, Bool.not_true, Bool.not_false, Option.isNone_some, Option.isNone_none, eq_self, true_and, and_true, and_self, s.rd0, s.rd1]
        refine s.st0 (by rw [ints_length]; exact hin) fun h2 s => ?_
        rw [ints_set] at s
        try simp -zeta (disch := omega) only [chkP_some, iteB_true, iteB_false, add_mk, Nat.zero_add, Nat.add_zero, Nat.mul_one, Nat.reduceAdd, Int.toNat_natCast, ex_int, ex_slice, ex_ptr, ex_bool, ex_str, ex_flt, ex_any, bnd_in, List.getElem?_cons_zero, List.getElem?_cons_succ, List.set_cons_zero, List.set_cons_succ, List.cons_append, List.nil_append, bne_self_eq_false, beq_self_eq_true, Bool.not_true, Bool.not_false, Option.isNone_some, Option.isNone_none, eq_self, true_and, and_true, and_self, s.rd0, s.rd1, vals_int (kW.at0 s.tail.tail) (UU_get (up := w) (v := i) (by omega))]
        refine iteB_intro (fun c2 => hk0 _ (fun r => ?_) s.tail.tail) (fun c2 => ?_)
        · have := (r.each i (by omega)).2.2.2 c
          have c2 : UU w i ≠ 0 := by simpa using c2
          exact c2 this
        · have c2 : UU w i = 0 := by simpa using c2
          rw [wrap64 (by omega) (by omega), wrap64 (by omega) (by omega)]
          rw [if_pos c] at hct
          have := depths_l0 hup hw hn kU kW hk0 hk2 d (i + 1) h2 (by omega) (fun v hv => by
            rcases Nat.lt_or_ge v i with h | h
            · exact ho v h
            · obtain rfl : v = i := by omega
              exact ⟨g1, by omega, g3, fun _ => c2⟩) (by
            rw [ints_congr (g := D0 up (i + 1)) (fun j hj => ?_)] at s
            · exact s
            · unfold D0 upd
              by_cases e : j = i
              · subst e; simp [c]
              · by_cases e2 : j < i
                · simp [e, e2, show j < i + 1 by omega]
                · simp [e, e2, show ¬ j < i + 1 by omega])
          rw [hct] at this
          simpa using this
      · have c : ¬ UU up i = -1 := by simpa using c
        rw [wrap64 (by omega) (by omega)]
        rw [if_neg c, Nat.add_zero] at hct
        have := depths_l0 hup hw hn kU kW hk0 hk2 d (i + 1) h1 (by omega) (fun v hv => by
          rcases Nat.lt_or_ge v i with h | h
          · exact ho v h
          · obtain rfl : v = i := by omega
            exact ⟨g1, by omega, g3, fun e => absurd e c⟩) (by
          rw [ints_congr (g := D0 up (i + 1)) (fun j hj => ?_)] at s
          · exact s
          · unfold D0 upd
            by_cases e : j = i
            · subst e; simp [c]
            · by_cases e2 : j < i
              · simp [e, e2, show j < i + 1 by omega]
              · simp [e, e2, show ¬ j < i + 1 by omega])
        rw [hct] at this
        exact this
    refine iteB_intro (fun c => ?_) (fun c => ?_)
    · rw [c]; have c := of_decide_eq_true c; exact bad (fun o => by have := o.1; omega)
    have c := of_decide_eq_false c
    refine iteB_intro (fun c2 => ?_) (fun c2 => ?_)
    · rw [c2]; have c2 := of_decide_eq_true c2; exact bad (fun o => by have := o.2.1; omega)
    have c2 := of_decide_eq_false c2
    try simp -zeta (disch := omega) only [chkP_some, iteB_true, iteB_false, add_mk, Nat.zero_add, Nat.add_zero, Nat.mul_one, Nat.reduceAdd, Int.toNat_natCast, ex_int, ex_slice, ex_ptr, ex_bool, ex_str, ex_flt, ex_any, bnd_in, List.getElem?_cons_zero, List.getElem?_cons_succ, List.set_cons_zero, List.set_cons_succ, List.cons_append, List.nil_append, bne_self_eq_false, beq_self_eq_true, Bool.not_true, Bool.not_false, Option.isNone_some, Option.isNone_none, eq_self, true_and, and_true, and_self, s.rd0, s.rd1, vals_int (kW.at0 s.tail.tail) (UU_get (up := w) (v := i) (by omega))]
    by_cases c3 : UU w i < 0
    · rw [decide_eq_true c3]; exact bad (fun o => by have := o.2.2.1; omega)
    · rw [decide_eq_false c3]; exact good (by omega) (by omega) (by omega)

theorem depths_l1 {t : Nat} {w : List Int} {qW : Option Addr} {cW : Nat} {K0 : Option Addr → Nat → Nat → Bool → Heap → Prop} {K5 : Heap → Prop} (hup : up.length = n) (hn : n ≤ 4096) (kU : Keeps h0 R qU (up.map (Value.int .i64)))
    (ho : ∀ v, v < n → okV up w v)
    (hk0 : ∀ h', ¬ RightT up w → St h0 h' R → K0 none 0 0 false h')
    (hk5 : ∀ h' D, DD (UU up) D n → (∀ v, v < n → 0 ≤ D v) → St h0 h' ((b, ints n D) :: (t, [.slice qU n cU, .slice qW n cW]) :: R) → K5 h') :
    ∀ (d i : Nat) (h : Heap) (D : Nat → Int), i + d = n → DD (UU up) D n → (∀ u, u < n → UU up u = -1 → 0 ≤ D u) → (∀ v, v < i → 0 ≤ D v) → St h0 h ((b, ints n D) :: (t, [.slice qU n cU, .slice qW n cW]) :: R) →
      tree_depths.l1 K0 K5 (d + 1) ⟨t, 0, none⟩ ⟨b, 0, none⟩ n n (n : Int) (i : Int) h
  | 0, i, h, D, hi, hD, hr, hp, s => by
    unfold tree_depths.l1 tree_depths.b1
    obtain rfl : i = n := by omega
    exact iteB_neg (decide_eq_false (by omega)) (hk5 h D hD hp s)
  | d + 1, i, h, D, hi, hD, hr, hp, s => by
    unfold tree_depths.l1 tree_depths.b1
    refine iteB_pos (decide_eq_true (by omega)) ?_
    try simp -zeta (disch := omega) only [chkP_some, iteB_true, iteB_false, add_mk, Nat.zero_add, Nat.add_zero, Nat.mul_one, Nat.reduceAdd, Int.toNat_natCast, ex_int, ex_slice, ex_ptr, ex_bool, ex_str, ex_flt, ex_any, bnd_in, List.getElem?_cons_zero, List.getElem?_cons_succ, List.set_cons_zero, List.set_cons_succ, List.cons_append, List.nil_append, bne_self_eq_false, beq_self_eq_true, Bool.not_true, Bool.not_false, Option.isNone_some, Option.isNone_none, eq_self, true_and, and_true, and_self, s.rd0, s.rd1]
    refine callP1.self (deepen_of (up := up) (n := n) hup hn kU.cons (fun u hu => by have := ho u hu; unfold okV at this; omega) hr hD (by omega) s (fun h' hno s => ?_) (fun h' D' g1 g2 g3 s => ?_))
    · refine iteB_pos rfl (hk0 _ (fun r => hno ?_) s.tail.tail)
      have := r.deep i (by omega)
      rw [hup] at this; exact this
    · refine iteB_neg rfl ?_
      rw [wrap64 (by omega) (by omega)]
      refine depths_l1 hup hn kU ho hk0 hk5 d (i + 1) h' D' (by omega) g3 (fun u hu hu' => ?_) (fun v hv => ?_) s
      · have := hr u hu hu'; rw [g2 u hu this]; exact this
      · rcases Nat.lt_or_ge v i with h | h
        · have := hp v h; rw [g2 v (by omega) this]; exact this
        · obtain rfl : v = i := by omega
          exact g1

theorem depths_of {h : Heap} {w : List Int} {m cW : Nat} {qW : Option Addr} {K : Option Addr → Nat → Nat → Bool → Heap → Prop} (hup : up.length = n) (hw : w.length = m) (kU : Keeps h0 R qU (up.map (Value.int .i64))) (kW : Keeps h0 R qW (w.map (Value.int .i64))) (s : St h0 h R)
    (hk0 : ¬ RightT up w → ∀ h', St h0 h' R → K none 0 0 false h')
    (hk1 : RightT up w → ∀ h' b (D : Nat → Int), (∀ v, v < n → ∃ d : Nat, D v = (d : Int) ∧ hasD (UU up) n d v) → St h0 h' ((b, ints n D) :: R) → K (some ⟨b, 0, none⟩) n n true h') : tree_depths qU n cU qW m cW h K := by
  unfold tree_depths
  refine s.new_ fun t h1 s => ?_
  try simp -zeta (disch := omega) only [chkP_some, iteB_true, iteB_false, add_mk, Nat.zero_add, Nat.add_zero, Nat.mul_one, Nat.reduceAdd, Int.toNat_natCast, ex_int, ex_slice, ex_ptr, ex_bool, ex_str, ex_flt, ex_any, bnd_in, List.getElem?_cons_zero, List.getElem?_cons_succ, List.set_cons_zero, List.set_cons_succ, List.cons_append, List.nil_append, bne_self_eq_false, beq_self_eq_true, Bool.not_true, Bool.not_false, Option.isNone_some, Option.isNone_none, eq_self, true_and, and_true, and_self, s.rd0]
  intro j
  refine iteB_intro (fun c => hk0 (fun r => ?_) _ s.tail) (fun c => ?_)
  · have := r.len; simp at c; omega
  have c : m = n := by simp at c; omega
  subst c
  refine iteB_intro (fun c => hk0 (fun r => ?_) _ s.tail) (fun c => ?_)
  · have := r.max; have c := of_decide_eq_true c; omega
  have hn : m ≤ 4096 := by have := of_decide_eq_false c; omega
  simp -zeta only [j]
  clear j
  refine ⟨⟨by omega, by omega, by omega, by omega⟩, ?_⟩
  refine s.new_ fun b h2 s => ?_
  rw [ints_zero] at s
  try simp -zeta (disch := omega) only [chkP_some, iteB_true, iteB_false, add_mk, Nat.zero_add, Nat.add_zero, Nat.mul_one, Nat.reduceAdd, Int.toNat_natCast, ex_int, ex_slice, ex_ptr, ex_bool, ex_str, ex_flt, ex_any, bnd_in, List.getElem?_cons_zero, List.getElem?_cons_succ, List.set_cons_zero, List.set_cons_succ, List.cons_append, List.nil_append, bne_self_eq_false, beq_self_eq_true, Bool.not_true, Bool.not_false, Option.isNone_some, Option.isNone_none, eq_self, true_and, and_true, and_self, s.rd0, s.rd1]
  refine ⟨m + 1, depths_l0 (R := R) (up := up) (w := w) (K2 := _) hup hw hn kU kW (fun h' hno s => hk0 hno h' s) (fun h3 ho s => ?_) m 0 h2 (by omega) (by simp) s⟩
  have hmin : (if (1 : Int) < (m : Int) then (1 : Int) else (m : Int)) = (min up.length 1 : Nat) := by rw [hup]; split <;> omega
  rw [hmin]
  refine iteB_intro (fun c => hk0 (fun r => ?_) _ s.tail.tail) (fun c => ?_)
  · have := r.roots; simp at c; omega
  have c : (up.filter (· == -1)).length = min up.length 1 := by simp at c; omega
  refine ⟨m + 1, depths_l1 (R := R) (up := up) (w := w) hup hn kU ho (fun h' hno s => hk0 hno h' s) (fun h4 D hD hp s => ?_) m 0 h3 (D0 up m) (by omega) (fun u hu => ?_) (fun u hu hu' => ?_) (by simp) s⟩
  · have hall : ∀ v, v < m → ∃ d : Nat, D v = (d : Int) ∧ hasD (UU up) m d v := fun v hv => by
      rcases hD v hv with h | h
      · have := hp v hv; omega
      · exact h
    refine hk1 ⟨by omega, by omega, fun v hv => ho v (by omega), c, fun v hv => ?_⟩ h4 b D hall ((St.re s (by intro a; simp only [cntR_append, cntR_cons, cntR_nil, List.cons_append, List.nil_append, List.set_cons_zero, List.set_cons_succ]; omega)))
    obtain ⟨d, _, hd⟩ := hall v (by omega)
    rw [hup]; exact ⟨d, hd⟩
  · unfold D0
    by_cases e : UU up u = -1
    · right; exact ⟨0, by simp [hu, e], hu, e⟩
    · left; simp [hu, e]
  · unfold D0; simp [hu, hu']

open Classical in
theorem Check_of {h : Heap} {w : List Int} {m cW : Nat} {qW : Option Addr} {K : Int → Heap → Prop} (hup : up.length = n) (hw : w.length = m) (kU : Keeps h0 R qU (up.map (Value.int .i64))) (kW : Keeps h0 R qW (w.map (Value.int .i64))) (s : St h0 h R)
    (hk : ∀ h', St h0 h' R → K (if RightT up w then 0 else 15) h') : tree_Check qU n cU qW m cW h K := by
  unfold tree_Check
  refine s.new_ fun t h1 s => ?_
  try simp -zeta (disch := omega) only [chkP_some, iteB_true, iteB_false, add_mk, Nat.zero_add, Nat.add_zero, Nat.mul_one, Nat.reduceAdd, Int.toNat_natCast, ex_int, ex_slice, ex_ptr, ex_bool, ex_str, ex_flt, ex_any, bnd_in, List.getElem?_cons_zero, List.getElem?_cons_succ, List.set_cons_zero, List.set_cons_succ, List.cons_append, List.nil_append, bne_self_eq_false, beq_self_eq_true, Bool.not_true, Bool.not_false, Option.isNone_some, Option.isNone_none, eq_self, true_and, and_true, and_self, s.rd0]
  refine callP4.self (depths_of hup hw kU.cons kW.cons s (fun hno h' s => ?_) (fun r h' b D _ s => ?_))
  · rw [if_neg hno] at hk; exact iteB_pos rfl (hk _ s.tail)
  · rw [if_pos r] at hk; exact iteB_neg rfl (hk _ s.tail.tail)
end
end Go.Proofs.Ytfidcekobjmamaa
