/-
  Classes that are joined: the program's forest in memory.
-/
import Derived.Test.YtbhndlpjfncliaaGreatD1
import Derived.Test.YtbhndlpjfncliaaGreatG2
namespace Go.Proofs.YtbhndlpjfncliaaGreat
set_option linter.unusedVariables false
set_option linter.unusedSimpArgs false
set_option linter.unnecessarySimpa false
open Go.Hp Go.RowKit
attribute [local irreducible] Go.Hp.iteB Go.Hp.stC Go.Hp.newP

/-- Where a forest lies. -/
structure DA where
  b : Nat
  bu : Nat
  bz : Nat
  bm : Nat
def intN (n : Nat) (f : Nat → Nat) : List Value := ints n fun i => (f i : Int)
theorem intN_len (n : Nat) (f : Nat → Nat) : (intN n f).length = n := ints_length _ _
theorem intN_get {n i : Nat} {f : Nat → Nat} (h : i < n) : (intN n f)[i]? = some (.int .i64 (f i : Int)) := ints_get h
theorem intN_set {n i : Nat} {f : Nat → Nat} {x : Nat} : (intN n f).set i (.int .i64 (x : Int)) = intN n (upd f i x) := by
  unfold intN; rw [ints_set]; refine ints_congr fun j _ => ?_
  unfold Hp.upd; split <;> rfl
theorem intN_zero (n : Nat) : zeroRow [.int .i64 0] n = intN n fun _ => 0 := ints_zero n
theorem intN_congr {n : Nat} {f g : Nat → Nat} (h : ∀ i, i < n → f i = g i) : intN n f = intN n g := ints_congr fun i hi => by rw [h i hi]
abbrev DS.head (z : DS) (a : DA) : List Value := [.slice (some ⟨a.bu, 0, none⟩) z.n z.n, .slice (some ⟨a.bz, 0, none⟩) z.n z.n, .slice (some ⟨a.bm, 0, none⟩) z.n z.n, .int .i64 (z.cnt : Int)]
abbrev DS.rows (z : DS) (a : DA) : Rws := [(a.b, z.head a), (a.bu, intN z.n z.up), (a.bz, intN z.n z.size), (a.bm, intN z.n z.least)]
def roomN (n : Int) : Nat := (if n > 4096 then 4096 else if n < 0 then 0 else n).toNat
theorem roomN_le (n : Int) : roomN n ≤ 4096 := by unfold roomN; split <;> (try split) <;> omega

section
variable {h0 : Base} {R : Rws} {C : Nat → Nat} {z : DS} {a : DA}

theorem dnew_l0 {K2 : Heap → Prop} {n : Nat} (hn : n ≤ 4096) (hk : ∀ h', St h0 h' ((DS.new n).rows a ++ R) → K2 h') :
    ∀ (d i : Nat) (h : Heap), i + d = n → St h0 h ((a.b, (DS.new n).head a) :: (a.bu, intN n fun v => if v < i then v else 0) :: (a.bz, intN n fun v => if v < i then 1 else 0) :: (a.bm, intN n fun v => if v < i then v else 0) :: R) → dsu_New.l0 K2 (d + 1) ⟨a.b, 0, none⟩ (n : Int) (i : Int) h
  | 0, i, h, hi, s => by
    unfold dsu_New.l0 dsu_New.b0
    have e : i = n := by omega
    subst e
    refine iteB_neg (decide_eq_false (by omega)) (hk h ?_)
    have e1 : intN i (fun v => if v < i then v else 0) = intN i fun v => v := intN_congr fun v hv => if_pos hv
    have e2 : intN i (fun v => if v < i then 1 else 0) = intN i fun _ => 1 := intN_congr fun v hv => if_pos hv
    rw [e1, e2] at s
    exact s
  | d + 1, i, h, hi, s => by
    unfold dsu_New.l0 dsu_New.b0
    refine iteB_pos (decide_eq_true (by omega)) ?_
    have hn1 : (DS.new n).n = n := rfl
    try simp -zeta (disch := omega) only [chkP_some, iteB_true, iteB_false, add_mk, Nat.zero_add, Nat.add_zero, Nat.mul_one, Nat.reduceAdd, Int.toNat_natCast, ex_int, ex_slice, ex_ptr, ex_bool, ex_str, ex_flt, ex_any, bnd_in, List.getElem?_cons_zero, List.getElem?_cons_succ, List.set_cons_zero, List.set_cons_succ, List.cons_append, List.nil_append, bne_self_eq_false, beq_self_eq_true, Bool.not_true, Bool.not_false, Option.isNone_some, Option.isNone_none, eq_self, true_and, and_true, and_self, s.rd0, s.rd1, s.rd2, s.rd3, hn1]
    refine s.st1 (by rw [intN_len]; omega) fun h2 s2 => ?_
    try simp -zeta (disch := omega) only [chkP_some, iteB_true, iteB_false, add_mk, Nat.zero_add, Nat.add_zero, Nat.mul_one, Nat.reduceAdd, Int.toNat_natCast, ex_int, ex_slice, ex_ptr, ex_bool, ex_str, ex_flt, ex_any, bnd_in, List.getElem?_cons_zero, List.getElem?_cons_succ, List.set_cons_zero, List.set_cons_succ, List.cons_append, List.nil_append, bne_self_eq_false, beq_self_eq_true, Bool.not_true, Bool.not_false, Option.isNone_some, Option.isNone_none, eq_self, true_and, and_true, and_self, s2.rd0, s2.rd1, s2.rd2, s2.rd3, hn1]
    refine s2.st2 (by rw [intN_len]; omega) fun h3 s3 => ?_
    try simp -zeta (disch := omega) only [chkP_some, iteB_true, iteB_false, add_mk, Nat.zero_add, Nat.add_zero, Nat.mul_one, Nat.reduceAdd, Int.toNat_natCast, ex_int, ex_slice, ex_ptr, ex_bool, ex_str, ex_flt, ex_any, bnd_in, List.getElem?_cons_zero, List.getElem?_cons_succ, List.set_cons_zero, List.set_cons_succ, List.cons_append, List.nil_append, bne_self_eq_false, beq_self_eq_true, Bool.not_true, Bool.not_false, Option.isNone_some, Option.isNone_none, eq_self, true_and, and_true, and_self, s3.rd0, s3.rd1, s3.rd2, s3.rd3, hn1]
    refine s3.st3 (by rw [intN_len]; omega) fun h4 s4 => ?_
    rw [wrap64 (by omega) (by omega)]
    refine dnew_l0 hn hk d (i + 1) h4 (by omega) ?_
    have e1 : (intN n fun v => if v < i then v else 0).set i (.int .i64 (i : Int)) = intN n fun v => if v < i + 1 then v else 0 := by
      rw [intN_set]; refine intN_congr fun v _ => ?_
      unfold Hp.upd
      by_cases c : v = i
      · subst c; simp
      · rw [if_neg c]; by_cases c2 : v < i
        · simp only [if_pos c2]; rw [if_pos (by omega)]
        · simp only [if_neg c2]; rw [if_neg (by omega)]
    have e2 : (intN n fun v => if v < i then 1 else 0).set i (.int .i64 1) = intN n fun v => if v < i + 1 then 1 else 0 := by
      have := intN_set (n := n) (i := i) (f := fun v => if v < i then 1 else 0) (x := 1)
      refine this.trans (intN_congr fun v _ => ?_)
      unfold Hp.upd
      by_cases c : v = i
      · subst c; simp
      · rw [if_neg c]; by_cases c2 : v < i
        · simp only [if_pos c2]; rw [if_pos (by omega)]
        · simp only [if_neg c2]; rw [if_neg (by omega)]
    rw [e1, e2] at s4
    exact s4

theorem DNew_of {h : Heap} {n : Int} {K : Option Addr → Heap → Prop} (s : St h0 h R) (hk : ∀ a h', St h0 h' ((DS.new (roomN n)).rows a ++ R) → K (some ⟨a.b, 0, none⟩) h') : dsu_New n h K := by
  unfold dsu_New
  refine bindV_intro fun m hm => ?_
  have hr := roomN_le n
  have e : m = (roomN n : Int) := by rw [hm]; unfold roomN; (repeat' split) <;> omega
  clear hm
  subst e
  generalize hg : roomN n = m at hk hr
  intro j
  have J : ∀ (b bu bz bm : Nat) (h' : Heap), St h0 h' ((b, [.slice (some ⟨bu, 0, none⟩) m m, .slice (some ⟨bz, 0, none⟩) m m, .slice (some ⟨bm, 0, none⟩) m m, .int .i64 (m : Int)]) :: (bu, zeroRow [.int .i64 0] m) :: (bz, zeroRow [.int .i64 0] m) :: (bm, zeroRow [.int .i64 0] m) :: R) → j ⟨b, 0, none⟩ h' := by
    intro b bu bz bm h' s
    simp -zeta only [j]
    refine ⟨m + 1, dnew_l0 (a := ⟨b, bu, bz, bm⟩) hr (fun h2 s2 => hk ⟨b, bu, bz, bm⟩ h2 s2) m 0 h' (by omega) ?_⟩
    rw [intN_zero] at s
    have e1 : (intN m fun v => if v < 0 then v else 0) = intN m fun _ => 0 := intN_congr fun v _ => if_neg (by omega)
    have e2 : (intN m fun v => if v < 0 then 1 else 0) = intN m fun _ => 0 := intN_congr fun v _ => if_neg (by omega)
    rw [e1, e2]
    exact s
  clear_value j
  have hb : (0 ≤ (m : Int) ∧ (m : Int) ≤ m ∧ (m : Int) * ((8 : Nat) : Int) ≤ 2 ^ 47 ∧ (m : Int) ≤ 2 ^ 47) := by omega
  simp -zeta only [Int.toNat_natCast]
  refine ⟨⟨hb, s.new_ fun b1 h1 s1 => ⟨⟨hb, s1.new_ fun b2 h2 s2 => ⟨hb, s2.new_ fun b3 h3 s3 => s3.new_ fun b h4 s4 => J b b1 b2 b3 h4 ((St.re s4 (by intro a; simp only [cntR_append, cntR_cons, cntR_nil, List.cons_append, List.nil_append, List.set_cons_zero, List.set_cons_succ]; omega)))⟩⟩, ⟨hb, s1.new_ fun b2 h2 s2 => ⟨hb, s2.new_ fun b3 h3 s3 => s3.new_ fun b h4 s4 => J b b1 b3 b2 h4 ((St.re s4 (by intro a; simp only [cntR_append, cntR_cons, cntR_nil, List.cons_append, List.nil_append, List.set_cons_zero, List.set_cons_succ]; omega)))⟩⟩⟩⟩,
    ⟨hb, s.new_ fun b1 h1 s1 => ⟨⟨hb, s1.new_ fun b2 h2 s2 => ⟨hb, s2.new_ fun b3 h3 s3 => s3.new_ fun b h4 s4 => J b b2 b1 b3 h4 ((St.re s4 (by intro a; simp only [cntR_append, cntR_cons, cntR_nil, List.cons_append, List.nil_append, List.set_cons_zero, List.set_cons_succ]; omega)))⟩⟩, ⟨hb, s1.new_ fun b2 h2 s2 => ⟨hb, s2.new_ fun b3 h3 s3 => s3.new_ fun b h4 s4 => J b b3 b1 b2 h4 ((St.re s4 (by intro a; simp only [cntR_append, cntR_cons, cntR_nil, List.cons_append, List.nil_append, List.set_cons_zero, List.set_cons_succ]; omega)))⟩⟩⟩⟩,
    ⟨hb, s.new_ fun b1 h1 s1 => ⟨⟨hb, s1.new_ fun b2 h2 s2 => ⟨hb, s2.new_ fun b3 h3 s3 => s3.new_ fun b h4 s4 => J b b2 b3 b1 h4 ((St.re s4 (by intro a; simp only [cntR_append, cntR_cons, cntR_nil, List.cons_append, List.nil_append, List.set_cons_zero, List.set_cons_succ]; omega)))⟩⟩, ⟨hb, s1.new_ fun b2 h2 s2 => ⟨hb, s2.new_ fun b3 h3 s3 => s3.new_ fun b h4 s4 => J b b3 b2 b1 h4 ((St.re s4 (by intro a; simp only [cntR_append, cntR_cons, cntR_nil, List.cons_append, List.nil_append, List.set_cons_zero, List.set_cons_succ]; omega)))⟩⟩⟩⟩⟩

theorem DRoom_of {h : Heap} {K : Int → Heap → Prop} (s : St h0 h (z.rows a ++ R)) (hk : K (z.n : Int) h) : dsu_Classes_Room (some ⟨a.b, 0, none⟩) h K := by
  unfold dsu_Classes_Room
  refine iteB_neg rfl ?_
  try simp -zeta (disch := omega) only [chkP_some, iteB_true, iteB_false, add_mk, Nat.zero_add, Nat.add_zero, Nat.mul_one, Nat.reduceAdd, Int.toNat_natCast, ex_int, ex_slice, ex_ptr, ex_bool, ex_str, ex_flt, ex_any, bnd_in, List.getElem?_cons_zero, List.getElem?_cons_succ, List.set_cons_zero, List.set_cons_succ, List.cons_append, List.nil_append, bne_self_eq_false, beq_self_eq_true, Bool.not_true, Bool.not_false, Option.isNone_some, Option.isNone_none, eq_self, true_and, and_true, and_self, s.rd0, s.rd1, s.rd2, s.rd3]
  exact hk
theorem DRoom_nil {h : Heap} {K : Int → Heap → Prop} (hk : K 0 h) : dsu_Classes_Room none h K := by
  unfold dsu_Classes_Room; exact iteB_pos rfl hk
theorem DCount_of {h : Heap} {K : Int → Heap → Prop} (s : St h0 h (z.rows a ++ R)) (hk : K (z.cnt : Int) h) : dsu_Classes_Count (some ⟨a.b, 0, none⟩) h K := by
  unfold dsu_Classes_Count
  refine iteB_neg rfl ?_
  try simp -zeta (disch := omega) only [chkP_some, iteB_true, iteB_false, add_mk, Nat.zero_add, Nat.add_zero, Nat.mul_one, Nat.reduceAdd, Int.toNat_natCast, ex_int, ex_slice, ex_ptr, ex_bool, ex_str, ex_flt, ex_any, bnd_in, List.getElem?_cons_zero, List.getElem?_cons_succ, List.set_cons_zero, List.set_cons_succ, List.cons_append, List.nil_append, bne_self_eq_false, beq_self_eq_true, Bool.not_true, Bool.not_false, Option.isNone_some, Option.isNone_none, eq_self, true_and, and_true, and_self, s.rd0, s.rd1, s.rd2, s.rd3]
  exact hk
theorem DCount_nil {h : Heap} {K : Int → Heap → Prop} (hk : K 0 h) : dsu_Classes_Count none h K := by
  unfold dsu_Classes_Count; exact iteB_pos rfl hk

theorem root_b0 {K0 : Int → Heap → Prop} {cont : Option Addr → Int → Heap → Prop} {h : Heap} {v : Nat} (iv : DInv z C) (hv : v < z.n) (s : St h0 h (z.rows a ++ R))
    (hk0 : z.up v = v → K0 (v : Int) h) (hkc : z.up v ≠ v → ∀ h', St h0 h' (({ z with up := upd z.up v (z.up (z.up v)) } : DS).rows a ++ R) → cont (some ⟨a.b, 0, none⟩) (z.up (z.up v) : Nat) h') : dsu_Classes_root.b0 K0 cont (some ⟨a.b, 0, none⟩) (v : Int) h := by
  unfold dsu_Classes_root.b0
  obtain ⟨h1, h2⟩ := iv.up v hv
  try simp -zeta (disch := omega) only [chkP_some, iteB_true, iteB_false, add_mk, Nat.zero_add, Nat.add_zero, Nat.mul_one, Nat.reduceAdd, Int.toNat_natCast, ex_int, ex_slice, ex_ptr, ex_bool, ex_str, ex_flt, ex_any, bnd_in, List.getElem?_cons_zero, List.getElem?_cons_succ, List.set_cons_zero, List.set_cons_succ, List.cons_append, List.nil_append, bne_self_eq_false, beq_self_eq_true, Bool.not_true, Bool.not_false, Option.isNone_some, Option.isNone_none, eq_self, true_and, and_true, and_self, s.rd0, s.rd1, s.rd2, s.rd3, intN_get hv]
  refine iteB_intro (fun e => ?_) (fun e => ?_)
  · have e : ((z.up v : Nat) : Int) = v := by simpa using e
    exact hk0 (by omega)
  · have e : ¬ ((z.up v : Nat) : Int) = v := by simpa using e
    try simp -zeta (disch := omega) only [chkP_some, iteB_true, iteB_false, add_mk, Nat.zero_add, Nat.add_zero, Nat.mul_one, Nat.reduceAdd, Int.toNat_natCast, ex_int, ex_slice, ex_ptr, ex_bool, ex_str, ex_flt, ex_any, bnd_in, List.getElem?_cons_zero, List.getElem?_cons_succ, List.set_cons_zero, List.set_cons_succ, List.cons_append, List.nil_append, bne_self_eq_false, beq_self_eq_true, Bool.not_true, Bool.not_false, Option.isNone_some, Option.isNone_none, eq_self, true_and, and_true, and_self, s.rd0, s.rd1, s.rd2, s.rd3, intN_get hv, intN_get h1]
    refine s.st1 (by rw [intN_len]; omega) fun h2 s2 => ?_
    rw [intN_set] at s2
    try simp -zeta (disch := omega) only [chkP_some, iteB_true, iteB_false, add_mk, Nat.zero_add, Nat.add_zero, Nat.mul_one, Nat.reduceAdd, Int.toNat_natCast, ex_int, ex_slice, ex_ptr, ex_bool, ex_str, ex_flt, ex_any, bnd_in, List.getElem?_cons_zero, List.getElem?_cons_succ, List.set_cons_zero, List.set_cons_succ, List.cons_append, List.nil_append, bne_self_eq_false, beq_self_eq_true, Bool.not_true, Bool.not_false, Option.isNone_some, Option.isNone_none, eq_self, true_and, and_true, and_self, s2.rd0, s2.rd1, s2.rd2, s2.rd3, intN_get hv]
    rw [upd_same]
    exact hkc (by omega) h2 s2

theorem half_root {U : Nat → Nat} {v : Nat} (h1 : U v ≠ v) (h2 : U (U v) ≠ v) (w : Nat) : upd U v (U (U v)) w = w ↔ U w = w := by
  by_cases c : w = v
  · subst c; rw [upd_same]; exact ⟨fun e => absurd e h2, fun e => absurd e h1⟩
  · rw [upd_ne _ _ c]
theorem root_l0 {K0 : Int → Heap → Prop} {v0 : Nat} {U0 : Nat → Nat} (hk : ∀ h' U (r : Nat), DInv { z with up := U } C → (∀ w, U w = w ↔ U0 w = w) → U0 r = r → r < z.n → C r = C v0 → St h0 h' (({ z with up := U } : DS).rows a ++ R) → K0 (r : Int) h') :
    ∀ (m v : Nat) (U : Nat → Nat) (d : Nat → Nat) (h : Heap), d v < m → DInv { z with up := U } C → (∀ w, U w = w ↔ U0 w = w) → (∀ w, w < z.n → U w ≠ w → d (U w) < d w) → v < z.n → C v = C v0 → St h0 h (({ z with up := U } : DS).rows a ++ R) → dsu_Classes_root.l0 K0 m (some ⟨a.b, 0, none⟩) (v : Int) h
  | 0, v, U, d, h, hm, iv, hu, hd, hv, hc, s => by omega
  | m + 1, v, U, d, h, hm, iv, hu, hd, hv, hc, s => by
    unfold dsu_Classes_root.l0
    have h1 : U v < z.n := (iv.up v hv).1
    have h2 : C (U v) = C v := (iv.up v hv).2
    have h3 : U (U v) < z.n := (iv.up _ h1).1
    have h4 : C (U (U v)) = C (U v) := (iv.up _ h1).2
    refine root_b0 iv hv s (fun e => hk h U v iv hu ((hu v).1 e) hv hc s) fun hne h' s' => ?_
    have hne : U v ≠ v := hne
    have dy : d (U (U v)) < d v := by
      by_cases c : U (U v) = U v
      · rw [c]; exact hd v hv hne
      · have := hd _ h1 c; have := hd v hv hne; omega
    refine root_l0 hk m _ (upd U v (U (U v))) d h' (Nat.lt_of_lt_of_le dy (by omega)) (iv.half hv hne) (fun w => (half_root hne (fun e => by rw [e] at dy; omega) w).trans (hu w)) (fun w hw hwn => ?_) h3 (by rw [← hc]; exact h4.trans h2) s'
    by_cases c : w = v
    · subst c; rw [upd_same]; exact dy
    · rw [upd_ne _ _ c] at hwn ⊢; exact hd w hw hwn

/-- What a root is, or -1. -/
def RootOf (z : DS) (C : Nat → Nat) (v r : Int) : Prop := (∃ w r' : Nat, v = w ∧ w < z.n ∧ r = r' ∧ z.up r' = r' ∧ r' < z.n ∧ C r' = C w) ∨ (¬ (0 ≤ v ∧ v < z.n) ∧ r = -1)
theorem root_of {K : Int → Heap → Prop} {h : Heap} {v : Int} (iv : DInv z C) (s : St h0 h (z.rows a ++ R))
    (hk : ∀ h' U r, DInv { z with up := U } C → (∀ w, U w = w ↔ z.up w = w) → RootOf z C v r → St h0 h' (({ z with up := U } : DS).rows a ++ R) → K r h') : dsu_Classes_root (some ⟨a.b, 0, none⟩) v h K := by
  unfold dsu_Classes_root
  by_cases hv : 0 ≤ v ∧ v < z.n
  · obtain ⟨v, rfl⟩ := Int.eq_ofNat_of_zero_le hv.1
    have hv : v < z.n := by omega
    have J : dsu_Classes_root.b0 K (fun q x h => ∃ m, dsu_Classes_root.l0 K m q x h) (some ⟨a.b, 0, none⟩) (v : Int) h := by
      refine root_b0 iv hv s (fun e => hk h z.up v iv (fun _ => Iff.rfl) (.inl ⟨v, v, rfl, hv, rfl, e, hv, rfl⟩) s) fun hne h' s' => ?_
      obtain ⟨h1, h2⟩ := iv.up v hv
      obtain ⟨h3, h4⟩ := iv.up _ h1
      obtain ⟨d0, hd0⟩ := iv.rank
      have dy : d0 (z.up (z.up v)) < d0 v := by
        by_cases c : z.up (z.up v) = z.up v
        · rw [c]; exact hd0 v hv hne
        · have := hd0 _ h1 c; have := hd0 v hv hne; omega
      obtain ⟨d, hd⟩ := (iv.half hv hne).rank
      exact ⟨_, root_l0 (U0 := z.up) (v0 := v) (fun h' U r iv hu hr hrn hc s => hk h' U r iv hu (.inl ⟨v, r, rfl, by omega, rfl, hr, hrn, hc⟩) s) (d (z.up (z.up v)) + 1) (z.up (z.up v)) _ d h' (by omega) (iv.half hv hne) (fun w => half_root hne (fun e => by rw [e] at dy; omega) w) hd h3 (h4.trans h2) s'⟩
    intro j
    have J2 : j := J
    clear_value j
    exact iteB_neg (decide_eq_false (by omega)) (qcallP1.of (z.n : Int) (fun Q hQ => DRoom_of s hQ) (iteB_neg (decide_eq_false (by omega)) J2))
  · have k := hk h z.up (-1) iv (fun _ => Iff.rfl) (.inr ⟨hv, rfl⟩) s
    intro j
    clear_value j
    refine iteB_intro (fun _ => k) (fun e => ?_)
    have e := of_decide_eq_false e
    exact qcallP1.of (z.n : Int) (fun Q hQ => DRoom_of s hQ) (iteB_pos (decide_eq_true (by omega)) k)
theorem root_nil {K : Int → Heap → Prop} {h : Heap} {v : Int} (hk : K (-1) h) : dsu_Classes_root none v h K := by
  unfold dsu_Classes_root
  intro j
  clear_value j
  refine iteB_intro (fun _ => hk) (fun e => ?_)
  have e := of_decide_eq_false e
  exact qcallP1.of 0 (fun Q hQ => DRoom_nil hQ) (iteB_pos (decide_eq_true (by omega)) hk)

/-- What a vertex's class is called, or -1. -/
def ofF (C : Nat → Nat) (n : Nat) (v : Int) : Int := if 0 ≤ v ∧ v < n then (C v.toNat : Int) else -1
def sizeF (C : Nat → Nat) (n : Nat) (v : Int) : Int := if 0 ≤ v ∧ v < n then ((clsF C n (C v.toNat)).length : Int) else 0
def sameF (C : Nat → Nat) (n : Nat) (u v : Int) : Bool := decide (0 ≤ u ∧ u < n) && decide (0 ≤ v ∧ v < n) && decide (C u.toNat = C v.toNat)
theorem DOf_of {K : Int → Heap → Prop} {h : Heap} {v : Int} (iv : DInv z C) (s : St h0 h (z.rows a ++ R))
    (hk : ∀ h' U, DInv { z with up := U } C → St h0 h' (({ z with up := U } : DS).rows a ++ R) → K (ofF C z.n v) h') : dsu_Classes_Of (some ⟨a.b, 0, none⟩) v h K := by
  unfold dsu_Classes_Of
  refine callP1.self (root_of iv s fun h1 U r iv1 hu hr s1 => ?_)
  have := hk h1 U iv1 s1
  rcases hr with ⟨w, r, rfl, hw, rfl, hr, hrn, hc⟩ | ⟨hv, rfl⟩
  · refine iteB_neg (decide_eq_false (by omega)) ?_
    try simp -zeta (disch := omega) only [chkP_some, iteB_true, iteB_false, add_mk, Nat.zero_add, Nat.add_zero, Nat.mul_one, Nat.reduceAdd, Int.toNat_natCast, ex_int, ex_slice, ex_ptr, ex_bool, ex_str, ex_flt, ex_any, bnd_in, List.getElem?_cons_zero, List.getElem?_cons_succ, List.set_cons_zero, List.set_cons_succ, List.cons_append, List.nil_append, bne_self_eq_false, beq_self_eq_true, Bool.not_true, Bool.not_false, Option.isNone_some, Option.isNone_none, eq_self, true_and, and_true, and_self, s1.rd0, s1.rd1, s1.rd2, s1.rd3, intN_get hrn]
    rw [ofF, if_pos (by omega), Int.toNat_natCast, ← hc, ← (iv1.root r hrn ((hu r).2 hr)).1] at this
    exact this
  · rw [ofF, if_neg hv] at this
    exact iteB_pos rfl this
theorem RootOf.up {U : Nat → Nat} {v r : Int} (hu : ∀ w, U w = w ↔ z.up w = w) (h : RootOf { z with up := U } C v r) : RootOf z C v r := by
  rcases h with ⟨w, r, h1, h2, h3, h4, h5, h6⟩ | h
  · exact .inl ⟨w, r, h1, h2, h3, (hu r).1 h4, h5, h6⟩
  · exact .inr h
theorem RootOf.same (iv : DInv z C) {u v r1 r2 : Int} (h1 : RootOf z C u r1) (h2 : RootOf z C v r2) : sameF C z.n u v = (decide (r1 ≥ 0) && (r1 == r2)) := by
  unfold sameF
  rcases h1 with ⟨w, r, rfl, hw, rfl, hr, hrn, hc⟩ | ⟨hv, rfl⟩
  · rcases h2 with ⟨w2, r2, rfl, hw2, rfl, hr2, hrn2, hc2⟩ | ⟨hv, rfl⟩
    · have d1 : decide (0 ≤ (w : Int) ∧ (w : Int) < z.n) = true := decide_eq_true (by omega)
      have d2 : decide (0 ≤ (w2 : Int) ∧ (w2 : Int) < z.n) = true := decide_eq_true (by omega)
      have d3 : decide ((r : Int) ≥ 0) = true := decide_eq_true (by omega)
      rw [d1, d2, d3, Bool.true_and, Bool.true_and, Bool.true_and, Bool.eq_iff_iff]
      simp only [Int.toNat_natCast, decide_eq_true_eq, beq_iff_eq]
      constructor
      · intro h; have := iv.uniq r r2 hrn hrn2 hr hr2 (by rw [hc, hc2, h]); omega
      · intro h; have : r = r2 := by omega
        rw [← hc, ← hc2, this]
    · have e : ((r : Int) == -1) = false := by simp
      rw [decide_eq_false hv, Bool.and_false, Bool.false_and, e, Bool.and_false]
  · rw [decide_eq_false hv, Bool.false_and, Bool.false_and]; rfl
theorem DSame_of {K : Bool → Heap → Prop} {h : Heap} {u v : Int} (iv : DInv z C) (s : St h0 h (z.rows a ++ R))
    (hk : ∀ h' U, DInv { z with up := U } C → St h0 h' (({ z with up := U } : DS).rows a ++ R) → K (sameF C z.n u v) h') : dsu_Classes_Same (some ⟨a.b, 0, none⟩) u v h K := by
  unfold dsu_Classes_Same
  refine callP1.self (root_of iv s fun h1 U1 r1 iv1 hu1 hr1 s1 => ?_)
  refine callP1.self (root_of iv1 s1 fun h2 U2 r2 iv2 hu2 hr2 s2 => ?_)
  have := hk h2 U2 iv2 s2
  rw [hr1.same iv (hr2.up hu1)] at this
  refine iteB_intro (fun e => ?_) (fun e => ?_)
  · rwa [e, Bool.true_and] at this
  · rwa [e, Bool.false_and] at this

/-- What they are called then. -/
def joinC (C : Nat → Nat) (n : Nat) (u v : Int) : Nat → Nat := fun x => if (0 ≤ u ∧ u < n) ∧ (0 ≤ v ∧ v < n) then joinF (C u.toNat) (C v.toNat) (C x) else C x
def twoF (C : Nat → Nat) (n : Nat) (u v : Int) : Bool := decide (0 ≤ u ∧ u < n) && decide (0 ≤ v ∧ v < n) && !decide (C u.toNat = C v.toNat)
theorem joinC_names {n : Nat} (hn : Names n C) (u v : Int) : Names n (joinC C n u v) := by
  unfold joinC
  by_cases c : (0 ≤ u ∧ u < (n : Int)) ∧ (0 ≤ v ∧ v < (n : Int))
  · simp only [if_pos c]; exact hn.join (by omega) (by omega)
  · simp only [if_neg c]; exact hn
theorem joinC_none {n : Nat} {u v : Int} (h : twoF C n u v = false) : joinC C n u v = C := by
  funext x
  unfold joinC
  split
  · rename_i c
    unfold twoF at h
    rw [decide_eq_true c.1, decide_eq_true c.2] at h
    have : C u.toNat = C v.toNat := by simpa using h
    rw [this, joinF_same]
  · rfl
theorem joinF_comm (a b c : Nat) : joinF a b c = joinF b a c := by
  unfold joinF
  by_cases h : c = a ∨ c = b
  · rw [if_pos h, if_pos h.symm, Nat.min_comm]
  · rw [if_neg h, if_neg (fun k => h k.symm)]
theorem joinC_comm {n : Nat} (u v : Int) : joinC C n u v = joinC C n v u := by
  funext x
  unfold joinC
  by_cases c : (0 ≤ u ∧ u < (n : Int)) ∧ (0 ≤ v ∧ v < (n : Int))
  · rw [if_pos c, if_pos c.symm, joinF_comm]
  · rw [if_neg c, if_neg (fun k => c k.symm)]

theorem joins_of {K : Bool → Heap → Prop} {h : Heap} {x y : Nat} (iv : DInv z C) (s : St h0 h (z.rows a ++ R)) (hx : x < z.n) (hy : y < z.n) (rx : z.up x = x) (ry : z.up y = y) (hne : x ≠ y)
    (hk : ∀ h', St h0 h' ((z.link x y).rows a ++ R) → K true h') :
    (chkP (some (⟨a.b, 0, none⟩ : Addr)) fun a19 => ∃ (x20 : Option Addr) (x20l : Nat) (x20c : Nat), cell h a19 = some (.slice x20 x20l x20c) ∧ chkP x20 fun a21 => (0 ≤ (y : Int) ∧ (y : Int) < (x20l : Int)) ∧ stC h (a21.add ((y : Int).toNat * 1)) (.int .i64 (x : Int)) fun h22 => (chkP (some (⟨a.b, 0, none⟩ : Addr)) fun a23 => ∃ (x24 : Option Addr) (x24l : Nat) (x24c : Nat), cell h22 (a23.add 1) = some (.slice x24 x24l x24c) ∧ chkP x24 fun a25 => (0 ≤ (x : Int) ∧ (x : Int) < (x24l : Int)) ∧ ∃ (x26 : Int), cell h22 (a25.add ((x : Int).toNat * 1)) = some (.int .i64 x26) ∧ chkP (some (⟨a.b, 0, none⟩ : Addr)) fun a27 => ∃ (x28 : Option Addr) (x28l : Nat) (x28c : Nat), cell h22 (a27.add 1) = some (.slice x28 x28l x28c) ∧ chkP x28 fun a29 => (0 ≤ (y : Int) ∧ (y : Int) < (x28l : Int)) ∧ ∃ (x30 : Int), cell h22 (a29.add ((y : Int).toNat * 1)) = some (.int .i64 x30) ∧ chkP x24 fun a31 => (0 ≤ (x : Int) ∧ (x : Int) < (x24l : Int)) ∧ stC h22 (a31.add ((x : Int).toNat * 1)) (.int .i64 (IntKind.i64.wrap (x26 + x30))) fun h32 => (chkP (some (⟨a.b, 0, none⟩ : Addr)) fun a33 => ∃ (x34 : Option Addr) (x34l : Nat) (x34c : Nat), cell h32 (a33.add 2) = some (.slice x34 x34l x34c) ∧ chkP (some (⟨a.b, 0, none⟩ : Addr)) fun a35 => ∃ (x36 : Option Addr) (x36l : Nat) (x36c : Nat), cell h32 (a35.add 2) = some (.slice x36 x36l x36c) ∧ chkP x36 fun a37 => (0 ≤ (x : Int) ∧ (x : Int) < (x36l : Int)) ∧ ∃ (x38 : Int), cell h32 (a37.add ((x : Int).toNat * 1)) = some (.int .i64 x38) ∧ chkP (some (⟨a.b, 0, none⟩ : Addr)) fun a39 => ∃ (x40 : Option Addr) (x40l : Nat) (x40c : Nat), cell h32 (a39.add 2) = some (.slice x40 x40l x40c) ∧ chkP x40 fun a41 => (0 ≤ (y : Int) ∧ (y : Int) < (x40l : Int)) ∧ ∃ (x42 : Int), cell h32 (a41.add ((y : Int).toNat * 1)) = some (.int .i64 x42) ∧ chkP x34 fun a43 => (0 ≤ (x : Int) ∧ (x : Int) < (x34l : Int)) ∧ stC h32 (a43.add ((x : Int).toNat * 1)) (.int .i64 (if x42 < x38 then x42 else x38)) fun h44 => (chkP (some (⟨a.b, 0, none⟩ : Addr)) fun a45 => ∃ (x46 : Int), cell h44 (a45.add 3) = some (.int .i64 x46) ∧ chkP (some (⟨a.b, 0, none⟩ : Addr)) fun a47 => stC h44 (a47.add 3) (.int .i64 (IntKind.i64.wrap (x46 - 1))) fun h48 => K true h48)))) := by
  have hcl := clsF_le C z.n
  obtain ⟨l1, l2⟩ := iv.root x hx rx
  obtain ⟨l3, l4⟩ := iv.root y hy ry
  have b1 := hcl (C x); have b2 := hcl (C y)
  have hn := iv.n
  have hc1 : z.cnt ≤ 4096 := by rw [iv.cnt]; exact Nat.le_trans (headF_le C z.n) hn
  have hc0 : 0 < z.cnt := by
    rw [iv.cnt]
    exact List.length_pos_of_mem (List.mem_filter.2 ⟨List.mem_range.2 (iv.names.lt hx), by simpa using iv.names.idem x hx⟩)
  try simp -zeta (disch := omega) only [chkP_some, iteB_true, iteB_false, add_mk, Nat.zero_add, Nat.add_zero, Nat.mul_one, Nat.reduceAdd, Int.toNat_natCast, ex_int, ex_slice, ex_ptr, ex_bool, ex_str, ex_flt, ex_any, bnd_in, List.getElem?_cons_zero, List.getElem?_cons_succ, List.set_cons_zero, List.set_cons_succ, List.cons_append, List.nil_append, bne_self_eq_false, beq_self_eq_true, Bool.not_true, Bool.not_false, Option.isNone_some, Option.isNone_none, eq_self, true_and, and_true, and_self, s.rd0, s.rd1, s.rd2, s.rd3]
  refine s.st1 (by rw [intN_len]; omega) fun h2 s2 => ?_
  rw [intN_set] at s2
  try simp -zeta (disch := omega) only [chkP_some, iteB_true, iteB_false, add_mk, Nat.zero_add, Nat.add_zero, Nat.mul_one, Nat.reduceAdd, Int.toNat_natCast, ex_int, ex_slice, ex_ptr, ex_bool, ex_str, ex_flt, ex_any, bnd_in, List.getElem?_cons_zero, List.getElem?_cons_succ, List.set_cons_zero, List.set_cons_succ, List.cons_append, List.nil_append, bne_self_eq_false, beq_self_eq_true, Bool.not_true, Bool.not_false, Option.isNone_some, Option.isNone_none, eq_self, true_and, and_true, and_self, s2.rd0, s2.rd1, s2.rd2, s2.rd3, intN_get hx, intN_get hy]
  rw [wrap64 (by omega) (by omega), show ((z.size x : Nat) : Int) + ((z.size y : Nat) : Int) = ((z.size x + z.size y : Nat) : Int) by omega]
  refine s2.st2 (by rw [intN_len]; omega) fun h3 s3 => ?_
  rw [intN_set] at s3
  try simp -zeta (disch := omega) only [chkP_some, iteB_true, iteB_false, add_mk, Nat.zero_add, Nat.add_zero, Nat.mul_one, Nat.reduceAdd, Int.toNat_natCast, ex_int, ex_slice, ex_ptr, ex_bool, ex_str, ex_flt, ex_any, bnd_in, List.getElem?_cons_zero, List.getElem?_cons_succ, List.set_cons_zero, List.set_cons_succ, List.cons_append, List.nil_append, bne_self_eq_false, beq_self_eq_true, Bool.not_true, Bool.not_false, Option.isNone_some, Option.isNone_none, eq_self, true_and, and_true, and_self, s3.rd0, s3.rd1, s3.rd2, s3.rd3, intN_get hx, intN_get hy]
  rw [show (if ((z.least y : Nat) : Int) < ((z.least x : Nat) : Int) then ((z.least y : Nat) : Int) else ((z.least x : Nat) : Int)) = ((min (z.least x) (z.least y) : Nat) : Int) by split <;> omega]
  refine s3.st3 (by rw [intN_len]; omega) fun h4 s4 => ?_
  rw [intN_set] at s4
  try simp -zeta (disch := omega) only [chkP_some, iteB_true, iteB_false, add_mk, Nat.zero_add, Nat.add_zero, Nat.mul_one, Nat.reduceAdd, Int.toNat_natCast, ex_int, ex_slice, ex_ptr, ex_bool, ex_str, ex_flt, ex_any, bnd_in, List.getElem?_cons_zero, List.getElem?_cons_succ, List.set_cons_zero, List.set_cons_succ, List.cons_append, List.nil_append, bne_self_eq_false, beq_self_eq_true, Bool.not_true, Bool.not_false, Option.isNone_some, Option.isNone_none, eq_self, true_and, and_true, and_self, s4.rd0, s4.rd1, s4.rd2, s4.rd3]
  rw [wrap64 (by omega) (by omega), show ((z.cnt : Nat) : Int) - 1 = ((z.cnt - 1 : Nat) : Int) by omega]
  exact s4.st0 (by simp) fun h5 s5 => hk h5 s5

theorem DJoin_of {K : Bool → Heap → Prop} {h : Heap} {u v : Int} (iv : DInv z C) (s : St h0 h (z.rows a ++ R))
    (hk : ∀ h' z', z'.n = z.n → DInv z' (joinC C z.n u v) → St h0 h' (z'.rows a ++ R) → K (twoF C z.n u v) h') : dsu_Classes_Join (some ⟨a.b, 0, none⟩) u v h K := by
  unfold dsu_Classes_Join
  refine callP1.self (root_of iv s fun h1 U1 r1 iv1 hu1 hr1 s1 => ?_)
  refine callP1.self (root_of iv1 s1 fun h2 U2 r2 iv2 hu2 hr2 s2 => ?_)
  have hr2 := hr2.up hu1
  have hu : ∀ w, U2 w = w ↔ z.up w = w := fun w => (hu2 w).trans (hu1 w)
  have none : twoF C z.n u v = false → K false h2 := fun e => by
    have := hk h2 { z with up := U2 } rfl (by rw [joinC_none e]; exact iv2) s2
    rwa [e] at this
  rcases hr1 with ⟨w, r, rfl, hw, rfl, hr, hrn, hc⟩ | ⟨hv, rfl⟩
  · rcases hr2 with ⟨w2, r2, rfl, hw2, rfl, hr2, hrn2, hc2⟩ | ⟨hv, rfl⟩
    · intro j
      have J : r ≠ r2 → j := by
        intro hne
        simp -zeta only [j]
        have hcn : C w ≠ C w2 := fun e => hne (iv.uniq r r2 hrn hrn2 hr hr2 (by rw [hc, hc2, e]))
        have two : twoF C z.n (w : Int) (w2 : Int) = true := by
          have d1 : decide (0 ≤ (w : Int) ∧ (w : Int) < z.n) = true := decide_eq_true (by omega)
          have d2 : decide (0 ≤ (w2 : Int) ∧ (w2 : Int) < z.n) = true := decide_eq_true (by omega)
          unfold twoF; rw [d1, d2]; simpa using hcn
        have jc : joinC C z.n (w : Int) (w2 : Int) = fun x => joinF (C r) (C r2) (C x) := by
          funext x; unfold joinC; rw [if_pos (by omega), Int.toNat_natCast, Int.toNat_natCast, hc, hc2]
        rw [two] at hk
        intro j2
        have J2 : ∀ x y : Nat, x < z.n → y < z.n → z.up x = x → z.up y = y → x ≠ y → joinC C z.n (w : Int) (w2 : Int) = (fun k => joinF (C x) (C y) (C k)) → j2 (x : Int) (y : Int) := by
          intro x y hx hy rx ry hxy e
          have ll := iv2.link (a := x) (b := y) hx hy ((hu x).2 rx) ((hu y).2 ry) hxy
          exact joins_of iv2 s2 hx hy ((hu x).2 rx) ((hu y).2 ry) hxy fun h' s' => hk h' (({ z with up := U2 } : DS).link x y) rfl (by rw [e]; exact ll) s'
        clear_value j2
        try simp -zeta (disch := omega) only [chkP_some, iteB_true, iteB_false, add_mk, Nat.zero_add, Nat.add_zero, Nat.mul_one, Nat.reduceAdd, Int.toNat_natCast, ex_int, ex_slice, ex_ptr, ex_bool, ex_str, ex_flt, ex_any, bnd_in, List.getElem?_cons_zero, List.getElem?_cons_succ, List.set_cons_zero, List.set_cons_succ, List.cons_append, List.nil_append, bne_self_eq_false, beq_self_eq_true, Bool.not_true, Bool.not_false, Option.isNone_some, Option.isNone_none, eq_self, true_and, and_true, and_self, s2.rd0, s2.rd1, s2.rd2, s2.rd3, intN_get hrn, intN_get hrn2]
        exact iteB_intro (fun _ => J2 r2 r hrn2 hrn hr2 hr (fun e => hne e.symm) (by rw [jc]; funext k; exact joinF_comm _ _ _)) (fun _ => J2 r r2 hrn hrn2 hr hr2 hne jc)
      clear_value j
      refine iteB_neg (decide_eq_false (by omega)) (iteB_neg (decide_eq_false (by omega)) (iteB_intro (fun e => none ?_) (fun e => J ?_)))
      · have e : r = r2 := by have e : (r : Int) = r2 := by simpa using e
                              omega
        unfold twoF
        have : C w = C w2 := by rw [← hc, ← hc2, e]
        simp [this]
      · have e : ¬ (r : Int) = r2 := by simpa using e
        omega
    · intro j
      clear_value j
      refine iteB_neg (decide_eq_false (by omega)) (iteB_pos rfl (none ?_))
      unfold twoF; rw [decide_eq_false hv]; simp
  · intro j
    clear_value j
    refine iteB_pos rfl (none ?_)
    unfold twoF; rw [decide_eq_false hv]; simp
theorem DJoin_nil {K : Bool → Heap → Prop} {h : Heap} {u v : Int} (hk : K false h) : dsu_Classes_Join none u v h K := by
  unfold dsu_Classes_Join
  refine callP1.self (root_nil (callP1.self (root_nil ?_)))
  intro j
  clear_value j
  exact iteB_pos rfl hk
theorem DOf_nil {K : Int → Heap → Prop} {h : Heap} {v : Int} (hk : K (-1) h) : dsu_Classes_Of none v h K := by
  unfold dsu_Classes_Of; exact callP1.self (root_nil (iteB_pos rfl hk))
theorem DSame_nil {K : Bool → Heap → Prop} {h : Heap} {u v : Int} (hk : K false h) : dsu_Classes_Same none u v h K := by
  unfold dsu_Classes_Same; exact callP1.self (root_nil (callP1.self (root_nil (iteB_neg rfl hk))))
end
end Go.Proofs.YtbhndlpjfncliaaGreat
