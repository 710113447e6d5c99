/-
  D1, D2, D3, D4, D5, D6, D7, in one text.
-/
import Derived.Test.YtbhndlpjfncliaaGreatMp
import Derived.Test.YtbhndlpjfncliaaGreatG2
import Derived.Test.YtbhndlpjfncliaaGreatSo2
import Derived.Test.YtbhndlpjfncliaaGreatShF
namespace Go.Proofs.YtbhndlpjfncliaaGreat
set_option linter.unusedVariables false
set_option linter.unusedSimpArgs false
set_option linter.unnecessarySimpa false
open Go.Hp Go.RowKit

/-- Names: each class is called by its least. -/
structure Names (n : Nat) (C : Nat → Nat) : Prop where
  le : ∀ v, v < n → C v ≤ v
  idem : ∀ v, v < n → C (C v) = C v
theorem Names.lt {n : Nat} {C : Nat → Nat} (h : Names n C) {v : Nat} (hv : v < n) : C v < n := Nat.lt_of_le_of_lt (h.le v hv) hv
theorem Names.id (n : Nat) : Names n fun v => v := ⟨fun _ _ => Nat.le_refl _, fun _ _ => rfl⟩
/-- Who is called so. -/
def clsF (C : Nat → Nat) (n c : Nat) : List Nat := (List.range n).filter fun u => C u == c
def headF (C : Nat → Nat) (n : Nat) : List Nat := (List.range n).filter fun v => C v == v

/-- Two are one. -/
def joinF (cu cv c : Nat) : Nat := if c = cu ∨ c = cv then min cu cv else c
theorem joinF_in {cu cv c : Nat} (h : c = cu ∨ c = cv) : joinF cu cv c = min cu cv := if_pos h
theorem joinF_out {cu cv c : Nat} (h : ¬ (c = cu ∨ c = cv)) : joinF cu cv c = c := if_neg h
theorem min_or (a b : Nat) : min a b = a ∨ min a b = b := by omega
theorem joinF_idem (cu cv c : Nat) : joinF cu cv (joinF cu cv c) = joinF cu cv c := by
  by_cases h : c = cu ∨ c = cv
  · rw [joinF_in h, joinF_in (min_or cu cv)]
  · rw [joinF_out h, joinF_out h]
theorem joinF_le {cu cv c : Nat} : joinF cu cv c ≤ c := by
  by_cases h : c = cu ∨ c = cv
  · rw [joinF_in h]; rcases h with rfl | rfl <;> omega
  · rw [joinF_out h]; exact Nat.le_refl _
theorem joinF_same (c x : Nat) : joinF c c x = x := by
  by_cases h : x = c ∨ x = c
  · rw [joinF_in h]; rcases h with rfl | rfl <;> omega
  · exact joinF_out h
theorem Names.join {n : Nat} {C : Nat → Nat} (h : Names n C) {u v : Nat} (hu : u < n) (hv : v < n) : Names n fun x => joinF (C u) (C v) (C x) := by
  refine ⟨fun x hx => Nat.le_trans joinF_le (h.le x hx), fun x hx => ?_⟩
  show joinF _ _ (C (joinF _ _ (C x))) = joinF _ _ (C x)
  have e : C (joinF (C u) (C v) (C x)) = joinF (C u) (C v) (C x) := by
    by_cases c : C x = C u ∨ C x = C v
    · rw [joinF_in c]
      rcases min_or (C u) (C v) with e | e <;> rw [e]
      · exact h.idem u hu
      · exact h.idem v hv
    · rw [joinF_out c]; exact h.idem x hx
  rw [e, joinF_idem]

theorem filter_or_len {α : Type} (p q r : α → Bool) (hr : ∀ x, r x = (p x || q x)) (hd : ∀ x, ¬ (p x = true ∧ q x = true)) : ∀ l : List α, (l.filter r).length = (l.filter p).length + (l.filter q).length
  | [] => rfl
  | x :: l => by
    have ih := filter_or_len p q r hr hd l
    have := hd x
    have h2 := hr x
    cases hp : p x <;> cases hq : q x <;> simp_all <;> omega

/-- A forest. -/
structure DS where
  n : Nat
  up : Nat → Nat
  size : Nat → Nat
  least : Nat → Nat
  cnt : Nat
structure DInv (z : DS) (C : Nat → Nat) : Prop where
  n : z.n ≤ 4096
  names : Names z.n C
  up : ∀ v, v < z.n → z.up v < z.n ∧ C (z.up v) = C v
  rank : ∃ d : Nat → Nat, ∀ v, v < z.n → z.up v ≠ v → d (z.up v) < d v
  root : ∀ v, v < z.n → z.up v = v → z.least v = C v ∧ z.size v = (clsF C z.n (C v)).length
  uniq : ∀ u v, u < z.n → v < z.n → z.up u = u → z.up v = v → C u = C v → u = v
  cnt : z.cnt = (headF C z.n).length
theorem clsF_le (C : Nat → Nat) (n c : Nat) : (clsF C n c).length ≤ n := by
  have := List.length_filter_le (fun u => C u == c) (List.range n); simpa [clsF] using this
theorem headF_le (C : Nat → Nat) (n : Nat) : (headF C n).length ≤ n := by
  have := List.length_filter_le (fun u => C u == u) (List.range n); simpa [headF] using this

theorem filter_one {n v : Nat} (hv : v < n) : (List.range n).filter (fun u => u == v) = [v] := by
  induction n with
  | zero => omega
  | succ n ih =>
    rw [List.range_succ, List.filter_append]
    by_cases h : v = n
    · subst h
      rw [List.filter_eq_nil_iff.2 (fun x hx => by have := List.mem_range.1 hx; simp; omega)]; simp
    · rw [ih (by omega)]; simp; omega
def DS.new (n : Nat) : DS := ⟨n, fun v => v, fun _ => 1, fun v => v, n⟩
theorem DInv.new {n : Nat} (hn : n ≤ 4096) : DInv (DS.new n) fun v => v where
  n := hn
  names := Names.id n
  up := fun v hv => ⟨hv, rfl⟩
  rank := ⟨fun _ => 0, fun v _ h => absurd rfl h⟩
  root := fun v hv _ => ⟨rfl, by
    have hv : v < n := hv
    show 1 = ((List.range n).filter fun u => u == v).length
    rw [filter_one hv]; rfl⟩
  uniq := fun u v _ _ _ _ h => h
  cnt := by
    show n = ((List.range n).filter fun v => v == v).length
    rw [List.filter_eq_self.2 (fun x _ => by simp), List.length_range]

/-- A way that is shorter. -/
theorem DInv.half {z : DS} {C : Nat → Nat} (iv : DInv z C) {v : Nat} (hv : v < z.n) (hne : z.up v ≠ v) : DInv { z with up := upd z.up v (z.up (z.up v)) } C := by
  obtain ⟨h1, h2⟩ := iv.up v hv
  obtain ⟨h3, h4⟩ := iv.up _ h1
  obtain ⟨d, hd⟩ := iv.rank
  have dy : d (z.up (z.up v)) < d v := by
    by_cases c : z.up (z.up v) = z.up v
    · rw [c]; exact hd v hv hne
    · have := hd _ h1 c; have := hd v hv hne; omega
  have ny : z.up (z.up v) ≠ v := fun e => by rw [e] at dy; omega
  have rt : ∀ {w}, upd z.up v (z.up (z.up v)) w = w → z.up w = w := fun {w} hw => by
    by_cases c : w = v
    · subst c; rw [upd_same] at hw; exact absurd hw ny
    · rwa [upd_ne _ _ c] at hw
  refine ⟨iv.n, iv.names, fun w hw => ?_, ⟨d, fun w hw hwn => ?_⟩, fun w hw hwr => iv.root w hw (rt hwr), fun a b ha hb ra rb e => iv.uniq a b ha hb (rt ra) (rt rb) e, iv.cnt⟩
  · by_cases c : w = v
    · subst c; show upd _ _ _ _ < _ ∧ C (upd _ _ _ _) = _; rw [upd_same]; exact ⟨h3, by rw [h4, h2]⟩
    · show upd _ _ _ _ < _ ∧ C (upd _ _ _ _) = _; rw [upd_ne _ _ c]; exact iv.up w hw
  · show d (upd _ _ _ _) < _
    have hwn : upd z.up v (z.up (z.up v)) w ≠ w := hwn
    by_cases c : w = v
    · subst c; rw [upd_same]; exact dy
    · rw [upd_ne _ _ c] at hwn ⊢; exact hd w hw hwn

/-- Two roots: the second one below the first. -/
def DS.link (z : DS) (a b : Nat) : DS := { z with up := upd z.up b a, size := upd z.size a (z.size a + z.size b), least := upd z.least a (min (z.least a) (z.least b)), cnt := z.cnt - 1 }
theorem DInv.link {z : DS} {C : Nat → Nat} (iv : DInv z C) {a b : Nat} (ha : a < z.n) (hb : b < z.n) (ra : z.up a = a) (rb : z.up b = b) (hne : a ≠ b) : DInv (z.link a b) fun x => joinF (C a) (C b) (C x) := by
  have hc : C a ≠ C b := fun e => hne (iv.uniq a b ha hb ra rb e)
  obtain ⟨d, hd⟩ := iv.rank
  have rt : ∀ {w}, upd z.up b a w = w → w ≠ b ∧ z.up w = w := fun {w} hw => by
    by_cases c : w = b
    · subst c; rw [upd_same] at hw; exact absurd hw hne
    · rw [upd_ne _ _ c] at hw; exact ⟨c, hw⟩
  have out : ∀ {w}, w < z.n → w ≠ a → w ≠ b → z.up w = w → ¬ (C w = C a ∨ C w = C b) := fun {w} hw h1 h2 hr h => by
    rcases h with h | h
    · exact h1 (iv.uniq w a hw ha hr ra h)
    · exact h2 (iv.uniq w b hw hb hr rb h)
  have na := iv.names
  refine ⟨iv.n, na.join ha hb, fun w hw => ?_, ⟨fun x => if C x = C b then d x + d a + 1 else d x, fun w hw hwn => ?_⟩, fun w hw hwr => ?_, fun u v hu hv ru rv e => ?_, ?_⟩
  · show upd z.up b a w < z.n ∧ joinF _ _ (C (upd z.up b a w)) = _
    by_cases c : w = b
    · subst c; rw [upd_same]; exact ⟨ha, by rw [joinF_in (.inl rfl), joinF_in (.inr rfl)]⟩
    · rw [upd_ne _ _ c]; obtain ⟨h1, h2⟩ := iv.up w hw; exact ⟨h1, by rw [h2]⟩
  · have hwn : upd z.up b a w ≠ w := hwn
    show (if C (upd z.up b a w) = C b then d (upd z.up b a w) + d a + 1 else d (upd z.up b a w)) < (if C w = C b then d w + d a + 1 else d w)
    by_cases c : w = b
    · subst c; rw [upd_same, if_neg hc, if_pos rfl]; omega
    · rw [upd_ne _ _ c] at hwn ⊢
      rw [(iv.up w hw).2]
      have := hd w hw hwn
      split <;> omega
  · obtain ⟨h1, h2⟩ := rt hwr
    show upd z.least a _ w = joinF _ _ (C w) ∧ upd z.size a _ w = (clsF (fun x => joinF (C a) (C b) (C x)) z.n (joinF (C a) (C b) (C w))).length
    obtain ⟨l1, l2⟩ := iv.root w hw h2
    by_cases c : w = a
    · subst c
      obtain ⟨l3, l4⟩ := iv.root b hb rb
      rw [upd_same, upd_same, joinF_in (.inl rfl), l1, l3, l2, l4]
      refine ⟨rfl, ?_⟩
      unfold clsF
      refine (filter_or_len (fun u => C u == C w) (fun u => C u == C b) _ (fun x => ?_) (fun x h => ?_) _).symm
      · rw [Bool.eq_iff_iff]
        simp only [beq_iff_eq, Bool.or_eq_true]
        constructor
        · intro h
          by_cases k : C x = C w ∨ C x = C b
          · exact k
          · rw [joinF_out k] at h
            rcases min_or (C w) (C b) with e | e
            · exact .inl (by rw [h, e])
            · exact .inr (by rw [h, e])
        · intro h; exact joinF_in h
      · simp only [beq_iff_eq] at h; exact hc (h.1.symm.trans h.2)
    · have o := out hw c h1 h2
      rw [upd_ne _ _ c, upd_ne _ _ c, joinF_out o]
      refine ⟨l1, l2.trans ?_⟩
      unfold clsF
      congr 1
      refine List.filter_congr fun x _ => ?_
      rw [Bool.eq_iff_iff]
      simp only [beq_iff_eq]
      constructor
      · intro h; rw [h]; exact joinF_out o
      · intro h
        by_cases k : C x = C a ∨ C x = C b
        · rw [joinF_in k] at h
          refine absurd ?_ o
          rcases min_or (C a) (C b) with e | e
          · exact .inl (by rw [← h, e])
          · exact .inr (by rw [← h, e])
        · rwa [joinF_out k] at h
  · obtain ⟨u1, u2⟩ := rt ru
    obtain ⟨v1, v2⟩ := rt rv
    by_cases cu : u = a <;> by_cases cv : v = a
    · rw [cu, cv]
    · subst cu
      have o := out hv cv v1 v2
      simp only [joinF_in (.inl rfl : C u = C u ∨ C u = C b), joinF_out o] at e
      refine absurd ?_ o
      rcases min_or (C u) (C b) with k | k
      · exact .inl (by rw [← e, k])
      · exact .inr (by rw [← e, k])
    · subst cv
      have o := out hu cu u1 u2
      simp only [joinF_in (.inl rfl : C v = C v ∨ C v = C b), joinF_out o] at e
      refine absurd ?_ o
      rcases min_or (C v) (C b) with k | k
      · exact .inl (by rw [e, k])
      · exact .inr (by rw [e, k])
    · have o1 := out hu cu u1 u2
      have o2 := out hv cv v1 v2
      simp only [joinF_out o1, joinF_out o2] at e
      exact iv.uniq u v hu hv u2 v2 e
  · show z.cnt - 1 = (headF (fun x => joinF (C a) (C b) (C x)) z.n).length
    have hM : max (C a) (C b) ∈ headF C z.n := by
      unfold headF
      have one : ∀ x, x < z.n → C x ∈ (List.range z.n).filter fun v => C v == v := fun x hx => List.mem_filter.2 ⟨List.mem_range.2 (na.lt hx), by simpa using na.idem x hx⟩
      rcases (show max (C a) (C b) = C a ∨ max (C a) (C b) = C b by omega) with e | e
      · rw [e]; exact one a ha
      · rw [e]; exact one b hb
    have e1 : headF (fun x => joinF (C a) (C b) (C x)) z.n = (headF C z.n).erase (max (C a) (C b)) := by
      rw [List.Nodup.erase_eq_filter (show (headF C z.n).Nodup from List.nodup_range.filter _)]
      unfold headF
      rw [List.filter_filter]
      refine List.filter_congr fun x hx => ?_
      have hx := List.mem_range.1 hx
      rw [Bool.eq_iff_iff]
      simp only [beq_iff_eq, Bool.and_eq_true, bne_iff_ne, ne_eq]
      constructor
      · intro h
        by_cases k : C x = C a ∨ C x = C b
        · rw [joinF_in k] at h
          have hx2 : C x = x := by
            rw [← h]
            rcases min_or (C a) (C b) with e | e
            · rw [e]; exact na.idem _ ha
            · rw [e]; exact na.idem _ hb
          exact ⟨by omega, hx2⟩
        · rw [joinF_out k] at h
          refine ⟨fun e => k ?_, h⟩
          rw [h, e]; omega
      · rintro ⟨h1, h2⟩
        by_cases k : C x = C a ∨ C x = C b
        · rw [joinF_in k]; omega
        · rw [joinF_out k]; exact h2
    rw [e1, List.length_erase_of_mem hM, iv.cnt]
end Go.Proofs.YtbhndlpjfncliaaGreat

namespace Go.Proofs.YtbhndlpjfncliaaGreat
set_option linter.unusedVariables false
set_option linter.unusedSimpArgs false
set_option linter.unnecessarySimpa false
open Go.Hp Go.RowKit
attribute [local irreducible] Go.Hp.iteB Go.Hp.stC Go.Hp.newP

/-- Where a forest lies. -/
structure DA where
  b : Nat
  bu : Nat
  bz : Nat
  bm : Nat
def intN (n : Nat) (f : Nat → Nat) : List Value := ints n fun i => (f i : Int)
theorem intN_len (n : Nat) (f : Nat → Nat) : (intN n f).length = n := ints_length _ _
theorem intN_get {n i : Nat} {f : Nat → Nat} (h : i < n) : (intN n f)[i]? = some (.int .i64 (f i : Int)) := ints_get h
theorem intN_set {n i : Nat} {f : Nat → Nat} {x : Nat} : (intN n f).set i (.int .i64 (x : Int)) = intN n (upd f i x) := by
  unfold intN; rw [ints_set]; refine ints_congr fun j _ => ?_
  unfold Hp.upd; split <;> rfl
theorem intN_zero (n : Nat) : zeroRow [.int .i64 0] n = intN n fun _ => 0 := ints_zero n
theorem intN_congr {n : Nat} {f g : Nat → Nat} (h : ∀ i, i < n → f i = g i) : intN n f = intN n g := ints_congr fun i hi => by rw [h i hi]
abbrev DS.head (z : DS) (a : DA) : List Value := [.slice (some ⟨a.bu, 0, none⟩) z.n z.n, .slice (some ⟨a.bz, 0, none⟩) z.n z.n, .slice (some ⟨a.bm, 0, none⟩) z.n z.n, .int .i64 (z.cnt : Int)]
abbrev DS.rows (z : DS) (a : DA) : Rws := [(a.b, z.head a), (a.bu, intN z.n z.up), (a.bz, intN z.n z.size), (a.bm, intN z.n z.least)]
def roomN (n : Int) : Nat := (if n > 4096 then 4096 else if n < 0 then 0 else n).toNat
theorem roomN_le (n : Int) : roomN n ≤ 4096 := by unfold roomN; split <;> (try split) <;> omega

section
variable {h0 : Base} {R : Rws} {C : Nat → Nat} {z : DS} {a : DA}

theorem dnew_l0 {K2 : Heap → Prop} {n : Nat} (hn : n ≤ 4096) (hk : ∀ h', St h0 h' ((DS.new n).rows a ++ R) → K2 h') :
    ∀ (d i : Nat) (h : Heap), i + d = n → St h0 h ((a.b, (DS.new n).head a) :: (a.bu, intN n fun v => if v < i then v else 0) :: (a.bz, intN n fun v => if v < i then 1 else 0) :: (a.bm, intN n fun v => if v < i then v else 0) :: R) → dsu_New.l0 K2 (d + 1) ⟨a.b, 0, none⟩ (n : Int) (i : Int) h
  | 0, i, h, hi, s => by
    unfold dsu_New.l0 dsu_New.b0
    have e : i = n := by omega
    subst e
    refine iteB_neg (decide_eq_false (by omega)) (hk h ?_)
    have e1 : intN i (fun v => if v < i then v else 0) = intN i fun v => v := intN_congr fun v hv => if_pos hv
    have e2 : intN i (fun v => if v < i then 1 else 0) = intN i fun _ => 1 := intN_congr fun v hv => if_pos hv
    rw [e1, e2] at s
    exact s
  | d + 1, i, h, hi, s => by
    unfold dsu_New.l0 dsu_New.b0
    refine iteB_pos (decide_eq_true (by omega)) ?_
    have hn1 : (DS.new n).n = n := rfl
    try simp -zeta (disch := omega) only [chkP_some, iteB_true, iteB_false, add_mk, Nat.zero_add, Nat.add_zero, Nat.mul_one, Nat.reduceAdd, Int.toNat_natCast, ex_int, ex_slice, ex_ptr, ex_bool, ex_str, ex_flt, ex_any, bnd_in, List.getElem?_cons_zero, List.getElem?_cons_succ, List.set_cons_zero, List.set_cons_succ, List.cons_append, List.nil_append, bne_self_eq_false, beq_self_eq_true, Bool.not_true, Bool.not_false, Option.isNone_some, Option.isNone_none, eq_self, true_and, and_true, and_self, s.rd0, s.rd1, s.rd2, s.rd3, hn1]
    refine s.st1 (by rw [intN_len]; omega) fun h2 s2 => ?_
    try simp -zeta (disch := omega) only [chkP_some, iteB_true, iteB_false, add_mk, Nat.zero_add, Nat.add_zero, Nat.mul_one, Nat.reduceAdd, Int.toNat_natCast, ex_int, ex_slice, ex_ptr, ex_bool, ex_str, ex_flt, ex_any, bnd_in, List.getElem?_cons_zero, List.getElem?_cons_succ, List.set_cons_zero, List.set_cons_succ, List.cons_append, List.nil_append, bne_self_eq_false, beq_self_eq_true, Bool.not_true, Bool.not_false, Option.isNone_some, Option.isNone_none, eq_self, true_and, and_true, and_self, s2.rd0, s2.rd1, s2.rd2, s2.rd3, hn1]
    refine s2.st2 (by rw [intN_len]; omega) fun h3 s3 => ?_
    try simp -zeta (disch := omega) only [chkP_some, iteB_true, iteB_false, add_mk, Nat.zero_add, Nat.add_zero, Nat.mul_one, Nat.reduceAdd, Int.toNat_natCast, ex_int, ex_slice, ex_ptr, ex_bool, ex_str, ex_flt, ex_any, bnd_in, List.getElem?_cons_zero, List.getElem?_cons_succ, List.set_cons_zero, List.set_cons_succ, List.cons_append, List.nil_append, bne_self_eq_false, beq_self_eq_true, Bool.not_true, Bool.not_false, Option.isNone_some, Option.isNone_none, eq_self, true_and, and_true, and_self, s3.rd0, s3.rd1, s3.rd2, s3.rd3, hn1]
    refine s3.st3 (by rw [intN_len]; omega) fun h4 s4 => ?_
    rw [wrap64 (by omega) (by omega)]
    refine dnew_l0 hn hk d (i + 1) h4 (by omega) ?_
    have e1 : (intN n fun v => if v < i then v else 0).set i (.int .i64 (i : Int)) = intN n fun v => if v < i + 1 then v else 0 := by
      rw [intN_set]; refine intN_congr fun v _ => ?_
      unfold Hp.upd
      by_cases c : v = i
      · subst c; simp
      · rw [if_neg c]; by_cases c2 : v < i
        · simp only [if_pos c2]; rw [if_pos (by omega)]
        · simp only [if_neg c2]; rw [if_neg (by omega)]
    have e2 : (intN n fun v => if v < i then 1 else 0).set i (.int .i64 1) = intN n fun v => if v < i + 1 then 1 else 0 := by
      have := intN_set (n := n) (i := i) (f := fun v => if v < i then 1 else 0) (x := 1)
      refine this.trans (intN_congr fun v _ => ?_)
      unfold Hp.upd
      by_cases c : v = i
      · subst c; simp
      · rw [if_neg c]; by_cases c2 : v < i
        · simp only [if_pos c2]; rw [if_pos (by omega)]
        · simp only [if_neg c2]; rw [if_neg (by omega)]
    rw [e1, e2] at s4
    exact s4

theorem DNew_of {h : Heap} {n : Int} {K : Option Addr → Heap → Prop} (s : St h0 h R) (hk : ∀ a h', St h0 h' ((DS.new (roomN n)).rows a ++ R) → K (some ⟨a.b, 0, none⟩) h') : dsu_New n h K := by
  unfold dsu_New
  refine bindV_intro fun m hm => ?_
  have hr := roomN_le n
  have e : m = (roomN n : Int) := by rw [hm]; unfold roomN; (repeat' split) <;> omega
  clear hm
  subst e
  generalize hg : roomN n = m at hk hr
  intro j
  have J : ∀ (b bu bz bm : Nat) (h' : Heap), St h0 h' ((b, [.slice (some ⟨bu, 0, none⟩) m m, .slice (some ⟨bz, 0, none⟩) m m, .slice (some ⟨bm, 0, none⟩) m m, .int .i64 (m : Int)]) :: (bu, zeroRow [.int .i64 0] m) :: (bz, zeroRow [.int .i64 0] m) :: (bm, zeroRow [.int .i64 0] m) :: R) → j ⟨b, 0, none⟩ h' := by
    intro b bu bz bm h' s
    simp -zeta only [j]
    refine ⟨m + 1, dnew_l0 (a := ⟨b, bu, bz, bm⟩) hr (fun h2 s2 => hk ⟨b, bu, bz, bm⟩ h2 s2) m 0 h' (by omega) ?_⟩
    rw [intN_zero] at s
    have e1 : (intN m fun v => if v < 0 then v else 0) = intN m fun _ => 0 := intN_congr fun v _ => if_neg (by omega)
    have e2 : (intN m fun v => if v < 0 then 1 else 0) = intN m fun _ => 0 := intN_congr fun v _ => if_neg (by omega)
    rw [e1, e2]
    exact s
  clear_value j
  have hb : (0 ≤ (m : Int) ∧ (m : Int) ≤ m ∧ (m : Int) * ((8 : Nat) : Int) ≤ 2 ^ 47 ∧ (m : Int) ≤ 2 ^ 47) := by omega
  simp -zeta only [Int.toNat_natCast]
  refine ⟨⟨hb, s.new_ fun b1 h1 s1 => ⟨⟨hb, s1.new_ fun b2 h2 s2 => ⟨hb, s2.new_ fun b3 h3 s3 => s3.new_ fun b h4 s4 => J b b1 b2 b3 h4 ((St.re s4 (by intro a; simp only [cntR_append, cntR_cons, cntR_nil, List.cons_append, List.nil_append, List.set_cons_zero, List.set_cons_succ]; omega)))⟩⟩, ⟨hb, s1.new_ fun b2 h2 s2 => ⟨hb, s2.new_ fun b3 h3 s3 => s3.new_ fun b h4 s4 => J b b1 b3 b2 h4 ((St.re s4 (by intro a; simp only [cntR_append, cntR_cons, cntR_nil, List.cons_append, List.nil_append, List.set_cons_zero, List.set_cons_succ]; omega)))⟩⟩⟩⟩,
    ⟨hb, s.new_ fun b1 h1 s1 => ⟨⟨hb, s1.new_ fun b2 h2 s2 => ⟨hb, s2.new_ fun b3 h3 s3 => s3.new_ fun b h4 s4 => J b b2 b1 b3 h4 ((St.re s4 (by intro a; simp only [cntR_append, cntR_cons, cntR_nil, List.cons_append, List.nil_append, List.set_cons_zero, List.set_cons_succ]; omega)))⟩⟩, ⟨hb, s1.new_ fun b2 h2 s2 => ⟨hb, s2.new_ fun b3 h3 s3 => s3.new_ fun b h4 s4 => J b b3 b1 b2 h4 ((St.re s4 (by intro a; simp only [cntR_append, cntR_cons, cntR_nil, List.cons_append, List.nil_append, List.set_cons_zero, List.set_cons_succ]; omega)))⟩⟩⟩⟩,
    ⟨hb, s.new_ fun b1 h1 s1 => ⟨⟨hb, s1.new_ fun b2 h2 s2 => ⟨hb, s2.new_ fun b3 h3 s3 => s3.new_ fun b h4 s4 => J b b2 b3 b1 h4 ((St.re s4 (by intro a; simp only [cntR_append, cntR_cons, cntR_nil, List.cons_append, List.nil_append, List.set_cons_zero, List.set_cons_succ]; omega)))⟩⟩, ⟨hb, s1.new_ fun b2 h2 s2 => ⟨hb, s2.new_ fun b3 h3 s3 => s3.new_ fun b h4 s4 => J b b3 b2 b1 h4 ((St.re s4 (by intro a; simp only [cntR_append, cntR_cons, cntR_nil, List.cons_append, List.nil_append, List.set_cons_zero, List.set_cons_succ]; omega)))⟩⟩⟩⟩⟩

theorem DRoom_of {h : Heap} {K : Int → Heap → Prop} (s : St h0 h (z.rows a ++ R)) (hk : K (z.n : Int) h) : dsu_Classes_Room (some ⟨a.b, 0, none⟩) h K := by
  unfold dsu_Classes_Room
  refine iteB_neg rfl ?_
  try simp -zeta (disch := omega) only [chkP_some, iteB_true, iteB_false, add_mk, Nat.zero_add, Nat.add_zero, Nat.mul_one, Nat.reduceAdd, Int.toNat_natCast, ex_int, ex_slice, ex_ptr, ex_bool, ex_str, ex_flt, ex_any, bnd_in, List.getElem?_cons_zero, List.getElem?_cons_succ, List.set_cons_zero, List.set_cons_succ, List.cons_append, List.nil_append, bne_self_eq_false, beq_self_eq_true, Bool.not_true, Bool.not_false, Option.isNone_some, Option.isNone_none, eq_self, true_and, and_true, and_self, s.rd0, s.rd1, s.rd2, s.rd3]
  exact hk
theorem DRoom_nil {h : Heap} {K : Int → Heap → Prop} (hk : K 0 h) : dsu_Classes_Room none h K := by
  unfold dsu_Classes_Room; exact iteB_pos rfl hk
theorem DCount_of {h : Heap} {K : Int → Heap → Prop} (s : St h0 h (z.rows a ++ R)) (hk : K (z.cnt : Int) h) : dsu_Classes_Count (some ⟨a.b, 0, none⟩) h K := by
  unfold dsu_Classes_Count
  refine iteB_neg rfl ?_
  try simp -zeta (disch := omega) only [chkP_some, iteB_true, iteB_false, add_mk, Nat.zero_add, Nat.add_zero, Nat.mul_one, Nat.reduceAdd, Int.toNat_natCast, ex_int, ex_slice, ex_ptr, ex_bool, ex_str, ex_flt, ex_any, bnd_in, List.getElem?_cons_zero, List.getElem?_cons_succ, List.set_cons_zero, List.set_cons_succ, List.cons_append, List.nil_append, bne_self_eq_false, beq_self_eq_true, Bool.not_true, Bool.not_false, Option.isNone_some, Option.isNone_none, eq_self, true_and, and_true, and_self, s.rd0, s.rd1, s.rd2, s.rd3]
  exact hk
theorem DCount_nil {h : Heap} {K : Int → Heap → Prop} (hk : K 0 h) : dsu_Classes_Count none h K := by
  unfold dsu_Classes_Count; exact iteB_pos rfl hk

theorem root_b0 {K0 : Int → Heap → Prop} {cont : Option Addr → Int → Heap → Prop} {h : Heap} {v : Nat} (iv : DInv z C) (hv : v < z.n) (s : St h0 h (z.rows a ++ R))
    (hk0 : z.up v = v → K0 (v : Int) h) (hkc : z.up v ≠ v → ∀ h', St h0 h' (({ z with up := upd z.up v (z.up (z.up v)) } : DS).rows a ++ R) → cont (some ⟨a.b, 0, none⟩) (z.up (z.up v) : Nat) h') : dsu_Classes_root.b0 K0 cont (some ⟨a.b, 0, none⟩) (v : Int) h := by
  unfold dsu_Classes_root.b0
  obtain ⟨h1, h2⟩ := iv.up v hv
  try simp -zeta (disch := omega) only [chkP_some, iteB_true, iteB_false, add_mk, Nat.zero_add, Nat.add_zero, Nat.mul_one, Nat.reduceAdd, Int.toNat_natCast, ex_int, ex_slice, ex_ptr, ex_bool, ex_str, ex_flt, ex_any, bnd_in, List.getElem?_cons_zero, List.getElem?_cons_succ, List.set_cons_zero, List.set_cons_succ, List.cons_append, List.nil_append, bne_self_eq_false, beq_self_eq_true, Bool.not_true, Bool.not_false, Option.isNone_some, Option.isNone_none, eq_self, true_and, and_true, and_self, s.rd0, s.rd1, s.rd2, s.rd3, intN_get hv]
  refine iteB_intro (fun e => ?_) (fun e => ?_)
  · have e : ((z.up v : Nat) : Int) = v := by simpa using e
    exact hk0 (by omega)
  · have e : ¬ ((z.up v : Nat) : Int) = v := by simpa using e
    try simp -zeta (disch := omega) only [chkP_some, iteB_true, iteB_false, add_mk, Nat.zero_add, Nat.add_zero, Nat.mul_one, Nat.reduceAdd, Int.toNat_natCast, ex_int, ex_slice, ex_ptr, ex_bool, ex_str, ex_flt, ex_any, bnd_in, List.getElem?_cons_zero, List.getElem?_cons_succ, List.set_cons_zero, List.set_cons_succ, List.cons_append, List.nil_append, bne_self_eq_false, beq_self_eq_true, Bool.not_true, Bool.not_false, Option.isNone_some, Option.isNone_none, eq_self, true_and, and_true, and_self, s.rd0, s.rd1, s.rd2, s.rd3, intN_get hv, intN_get h1]
    refine s.st1 (by rw [intN_len]; omega) fun h2 s2 => ?_
    rw [intN_set] at s2
    try simp -zeta (disch := omega) only [chkP_some, iteB_true, iteB_false, add_mk, Nat.zero_add, Nat.add_zero, Nat.mul_one, Nat.reduceAdd, Int.toNat_natCast, ex_int, ex_slice, ex_ptr, ex_bool, ex_str, ex_flt, ex_any, bnd_in, List.getElem?_cons_zero, List.getElem?_cons_succ, List.set_cons_zero, List.set_cons_succ, List.cons_append, List.nil_append, bne_self_eq_false, beq_self_eq_true, Bool.not_true, Bool.not_false, Option.isNone_some, Option.isNone_none, eq_self, true_and, and_true, and_self, s2.rd0, s2.rd1, s2.rd2, s2.rd3, intN_get hv]
    rw [upd_same]
    exact hkc (by omega) h2 s2

theorem half_root {U : Nat → Nat} {v : Nat} (h1 : U v ≠ v) (h2 : U (U v) ≠ v) (w : Nat) : upd U v (U (U v)) w = w ↔ U w = w := by
  by_cases c : w = v
  · subst c; rw [upd_same]; exact ⟨fun e => absurd e h2, fun e => absurd e h1⟩
  · rw [upd_ne _ _ c]
theorem root_l0 {K0 : Int → Heap → Prop} {v0 : Nat} {U0 : Nat → Nat} (hk : ∀ h' U (r : Nat), DInv { z with up := U } C → (∀ w, U w = w ↔ U0 w = w) → U0 r = r → r < z.n → C r = C v0 → St h0 h' (({ z with up := U } : DS).rows a ++ R) → K0 (r : Int) h') :
    ∀ (m v : Nat) (U : Nat → Nat) (d : Nat → Nat) (h : Heap), d v < m → DInv { z with up := U } C → (∀ w, U w = w ↔ U0 w = w) → (∀ w, w < z.n → U w ≠ w → d (U w) < d w) → v < z.n → C v = C v0 → St h0 h (({ z with up := U } : DS).rows a ++ R) → dsu_Classes_root.l0 K0 m (some ⟨a.b, 0, none⟩) (v : Int) h
  | 0, v, U, d, h, hm, iv, hu, hd, hv, hc, s => by omega
  | m + 1, v, U, d, h, hm, iv, hu, hd, hv, hc, s => by
    unfold dsu_Classes_root.l0
    have h1 : U v < z.n := (iv.up v hv).1
    have h2 : C (U v) = C v := (iv.up v hv).2
    have h3 : U (U v) < z.n := (iv.up _ h1).1
    have h4 : C (U (U v)) = C (U v) := (iv.up _ h1).2
    refine root_b0 iv hv s (fun e => hk h U v iv hu ((hu v).1 e) hv hc s) fun hne h' s' => ?_
    have hne : U v ≠ v := hne
    have dy : d (U (U v)) < d v := by
      by_cases c : U (U v) = U v
      · rw [c]; exact hd v hv hne
      · have := hd _ h1 c; have := hd v hv hne; omega
    refine root_l0 hk m _ (upd U v (U (U v))) d h' (Nat.lt_of_lt_of_le dy (by omega)) (iv.half hv hne) (fun w => (half_root hne (fun e => by rw [e] at dy; omega) w).trans (hu w)) (fun w hw hwn => ?_) h3 (by rw [← hc]; exact h4.trans h2) s'
    by_cases c : w = v
    · subst c; rw [upd_same]; exact dy
    · rw [upd_ne _ _ c] at hwn ⊢; exact hd w hw hwn

/-- What a root is, or -1. -/
def RootOf (z : DS) (C : Nat → Nat) (v r : Int) : Prop := (∃ w r' : Nat, v = w ∧ w < z.n ∧ r = r' ∧ z.up r' = r' ∧ r' < z.n ∧ C r' = C w) ∨ (¬ (0 ≤ v ∧ v < z.n) ∧ r = -1)
theorem root_of {K : Int → Heap → Prop} {h : Heap} {v : Int} (iv : DInv z C) (s : St h0 h (z.rows a ++ R))
    (hk : ∀ h' U r, DInv { z with up := U } C → (∀ w, U w = w ↔ z.up w = w) → RootOf z C v r → St h0 h' (({ z with up := U } : DS).rows a ++ R) → K r h') : dsu_Classes_root (some ⟨a.b, 0, none⟩) v h K := by
  unfold dsu_Classes_root
  by_cases hv : 0 ≤ v ∧ v < z.n
  · obtain ⟨v, rfl⟩ := Int.eq_ofNat_of_zero_le hv.1
    have hv : v < z.n := by omega
    have J : dsu_Classes_root.b0 K (fun q x h => ∃ m, dsu_Classes_root.l0 K m q x h) (some ⟨a.b, 0, none⟩) (v : Int) h := by
      refine root_b0 iv hv s (fun e => hk h z.up v iv (fun _ => Iff.rfl) (.inl ⟨v, v, rfl, hv, rfl, e, hv, rfl⟩) s) fun hne h' s' => ?_
      obtain ⟨h1, h2⟩ := iv.up v hv
      obtain ⟨h3, h4⟩ := iv.up _ h1
      obtain ⟨d0, hd0⟩ := iv.rank
      have dy : d0 (z.up (z.up v)) < d0 v := by
        by_cases c : z.up (z.up v) = z.up v
        · rw [c]; exact hd0 v hv hne
        · have := hd0 _ h1 c; have := hd0 v hv hne; omega
      obtain ⟨d, hd⟩ := (iv.half hv hne).rank
      exact ⟨_, root_l0 (U0 := z.up) (v0 := v) (fun h' U r iv hu hr hrn hc s => hk h' U r iv hu (.inl ⟨v, r, rfl, by omega, rfl, hr, hrn, hc⟩) s) (d (z.up (z.up v)) + 1) (z.up (z.up v)) _ d h' (by omega) (iv.half hv hne) (fun w => half_root hne (fun e => by rw [e] at dy; omega) w) hd h3 (h4.trans h2) s'⟩
    intro j
    have J2 : j := J
    clear_value j
    exact iteB_neg (decide_eq_false (by omega)) (qcallP1.of (z.n : Int) (fun Q hQ => DRoom_of s hQ) (iteB_neg (decide_eq_false (by omega)) J2))
  · have k := hk h z.up (-1) iv (fun _ => Iff.rfl) (.inr ⟨hv, rfl⟩) s
    intro j
    clear_value j
    refine iteB_intro (fun _ => k) (fun e => ?_)
    have e := of_decide_eq_false e
    exact qcallP1.of (z.n : Int) (fun Q hQ => DRoom_of s hQ) (iteB_pos (decide_eq_true (by omega)) k)
theorem root_nil {K : Int → Heap → Prop} {h : Heap} {v : Int} (hk : K (-1) h) : dsu_Classes_root none v h K := by
  unfold dsu_Classes_root
  intro j
  clear_value j
  refine iteB_intro (fun _ => hk) (fun e => ?_)
  have e := of_decide_eq_false e
  exact qcallP1.of 0 (fun Q hQ => DRoom_nil hQ) (iteB_pos (decide_eq_true (by omega)) hk)

/-- What a vertex's class is called, or -1. -/
def ofF (C : Nat → Nat) (n : Nat) (v : Int) : Int := if 0 ≤ v ∧ v < n then (C v.toNat : Int) else -1
def sizeF (C : Nat → Nat) (n : Nat) (v : Int) : Int := if 0 ≤ v ∧ v < n then ((clsF C n (C v.toNat)).length : Int) else 0
def sameF (C : Nat → Nat) (n : Nat) (u v : Int) : Bool := decide (0 ≤ u ∧ u < n) && decide (0 ≤ v ∧ v < n) && decide (C u.toNat = C v.toNat)
theorem DOf_of {K : Int → Heap → Prop} {h : Heap} {v : Int} (iv : DInv z C) (s : St h0 h (z.rows a ++ R))
    (hk : ∀ h' U, DInv { z with up := U } C → St h0 h' (({ z with up := U } : DS).rows a ++ R) → K (ofF C z.n v) h') : dsu_Classes_Of (some ⟨a.b, 0, none⟩) v h K := by
  unfold dsu_Classes_Of
  refine callP1.self (root_of iv s fun h1 U r iv1 hu hr s1 => ?_)
  have := hk h1 U iv1 s1
  rcases hr with ⟨w, r, rfl, hw, rfl, hr, hrn, hc⟩ | ⟨hv, rfl⟩
  · refine iteB_neg (decide_eq_false (by omega)) ?_
    try simp -zeta (disch := omega) only [chkP_some, iteB_true, iteB_false, add_mk, Nat.zero_add, Nat.add_zero, Nat.mul_one, Nat.reduceAdd, Int.toNat_natCast, ex_int, ex_slice, ex_ptr, ex_bool, ex_str, ex_flt, ex_any, bnd_in, List.getElem?_cons_zero, List.getElem?_cons_succ, List.set_cons_zero, List.set_cons_succ, List.cons_append, List.nil_append, bne_self_eq_false, beq_self_eq_true, Bool.not_true, Bool.not_false, Option.isNone_some, Option.isNone_none, eq_self, true_and, and_true, and_self, s1.rd0, s1.rd1, s1.rd2, s1.rd3, intN_get hrn]
    rw [ofF, if_pos (by omega), Int.toNat_natCast, ← hc, ← (iv1.root r hrn ((hu r).2 hr)).1] at this
    exact this
  · rw [ofF, if_neg hv] at this
    exact iteB_pos rfl this
theorem RootOf.up {U : Nat → Nat} {v r : Int} (hu : ∀ w, U w = w ↔ z.up w = w) (h : RootOf { z with up := U } C v r) : RootOf z C v r := by
  rcases h with ⟨w, r, h1, h2, h3, h4, h5, h6⟩ | h
  · exact .inl ⟨w, r, h1, h2, h3, (hu r).1 h4, h5, h6⟩
  · exact .inr h
theorem RootOf.same (iv : DInv z C) {u v r1 r2 : Int} (h1 : RootOf z C u r1) (h2 : RootOf z C v r2) : sameF C z.n u v = (decide (r1 ≥ 0) && (r1 == r2)) := by
  unfold sameF
  rcases h1 with ⟨w, r, rfl, hw, rfl, hr, hrn, hc⟩ | ⟨hv, rfl⟩
  · rcases h2 with ⟨w2, r2, rfl, hw2, rfl, hr2, hrn2, hc2⟩ | ⟨hv, rfl⟩
    · have d1 : decide (0 ≤ (w : Int) ∧ (w : Int) < z.n) = true := decide_eq_true (by omega)
      have d2 : decide (0 ≤ (w2 : Int) ∧ (w2 : Int) < z.n) = true := decide_eq_true (by omega)
      have d3 : decide ((r : Int) ≥ 0) = true := decide_eq_true (by omega)
      rw [d1, d2, d3, Bool.true_and, Bool.true_and, Bool.true_and, Bool.eq_iff_iff]
      simp only [Int.toNat_natCast, decide_eq_true_eq, beq_iff_eq]
      constructor
      · intro h; have := iv.uniq r r2 hrn hrn2 hr hr2 (by rw [hc, hc2, h]); omega
      · intro h; have : r = r2 := by omega
        rw [← hc, ← hc2, this]
    · have e : ((r : Int) == -1) = false := by simp
      rw [decide_eq_false hv, Bool.and_false, Bool.false_and, e, Bool.and_false]
  · rw [decide_eq_false hv, Bool.false_and, Bool.false_and]; rfl
theorem DSame_of {K : Bool → Heap → Prop} {h : Heap} {u v : Int} (iv : DInv z C) (s : St h0 h (z.rows a ++ R))
    (hk : ∀ h' U, DInv { z with up := U } C → St h0 h' (({ z with up := U } : DS).rows a ++ R) → K (sameF C z.n u v) h') : dsu_Classes_Same (some ⟨a.b, 0, none⟩) u v h K := by
  unfold dsu_Classes_Same
  refine callP1.self (root_of iv s fun h1 U1 r1 iv1 hu1 hr1 s1 => ?_)
  refine callP1.self (root_of iv1 s1 fun h2 U2 r2 iv2 hu2 hr2 s2 => ?_)
  have := hk h2 U2 iv2 s2
  rw [hr1.same iv (hr2.up hu1)] at this
  refine iteB_intro (fun e => ?_) (fun e => ?_)
  · rwa [e, Bool.true_and] at this
  · rwa [e, Bool.false_and] at this

/-- What they are called then. -/
def joinC (C : Nat → Nat) (n : Nat) (u v : Int) : Nat → Nat := fun x => if (0 ≤ u ∧ u < n) ∧ (0 ≤ v ∧ v < n) then joinF (C u.toNat) (C v.toNat) (C x) else C x
def twoF (C : Nat → Nat) (n : Nat) (u v : Int) : Bool := decide (0 ≤ u ∧ u < n) && decide (0 ≤ v ∧ v < n) && !decide (C u.toNat = C v.toNat)
theorem joinC_names {n : Nat} (hn : Names n C) (u v : Int) : Names n (joinC C n u v) := by
  unfold joinC
  by_cases c : (0 ≤ u ∧ u < (n : Int)) ∧ (0 ≤ v ∧ v < (n : Int))
  · simp only [if_pos c]; exact hn.join (by omega) (by omega)
  · simp only [if_neg c]; exact hn
theorem joinC_none {n : Nat} {u v : Int} (h : twoF C n u v = false) : joinC C n u v = C := by
  funext x
  unfold joinC
  split
  · rename_i c
    unfold twoF at h
    rw [decide_eq_true c.1, decide_eq_true c.2] at h
    have : C u.toNat = C v.toNat := by simpa using h
    rw [this, joinF_same]
  · rfl
theorem joinF_comm (a b c : Nat) : joinF a b c = joinF b a c := by
  unfold joinF
  by_cases h : c = a ∨ c = b
  · rw [if_pos h, if_pos h.symm, Nat.min_comm]
  · rw [if_neg h, if_neg (fun k => h k.symm)]
theorem joinC_comm {n : Nat} (u v : Int) : joinC C n u v = joinC C n v u := by
  funext x
  unfold joinC
  by_cases c : (0 ≤ u ∧ u < (n : Int)) ∧ (0 ≤ v ∧ v < (n : Int))
  · rw [if_pos c, if_pos c.symm, joinF_comm]
  · rw [if_neg c, if_neg (fun k => c k.symm)]

theorem joins_of {K : Bool → Heap → Prop} {h : Heap} {x y : Nat} (iv : DInv z C) (s : St h0 h (z.rows a ++ R)) (hx : x < z.n) (hy : y < z.n) (rx : z.up x = x) (ry : z.up y = y) (hne : x ≠ y)
    (hk : ∀ h', St h0 h' ((z.link x y).rows a ++ R) → K true h') :
    (chkP (some (⟨a.b, 0, none⟩ : Addr)) fun a19 => ∃ (x20 : Option Addr) (x20l : Nat) (x20c : Nat), cell h a19 = some (.slice x20 x20l x20c) ∧ chkP x20 fun a21 => (0 ≤ (y : Int) ∧ (y : Int) < (x20l : Int)) ∧ stC h (a21.add ((y : Int).toNat * 1)) (.int .i64 (x : Int)) fun h22 => (chkP (some (⟨a.b, 0, none⟩ : Addr)) fun a23 => ∃ (x24 : Option Addr) (x24l : Nat) (x24c : Nat), cell h22 (a23.add 1) = some (.slice x24 x24l x24c) ∧ chkP x24 fun a25 => (0 ≤ (x : Int) ∧ (x : Int) < (x24l : Int)) ∧ ∃ (x26 : Int), cell h22 (a25.add ((x : Int).toNat * 1)) = some (.int .i64 x26) ∧ chkP (some (⟨a.b, 0, none⟩ : Addr)) fun a27 => ∃ (x28 : Option Addr) (x28l : Nat) (x28c : Nat), cell h22 (a27.add 1) = some (.slice x28 x28l x28c) ∧ chkP x28 fun a29 => (0 ≤ (y : Int) ∧ (y : Int) < (x28l : Int)) ∧ ∃ (x30 : Int), cell h22 (a29.add ((y : Int).toNat * 1)) = some (.int .i64 x30) ∧ chkP x24 fun a31 => (0 ≤ (x : Int) ∧ (x : Int) < (x24l : Int)) ∧ stC h22 (a31.add ((x : Int).toNat * 1)) (.int .i64 (IntKind.i64.wrap (x26 + x30))) fun h32 => (chkP (some (⟨a.b, 0, none⟩ : Addr)) fun a33 => ∃ (x34 : Option Addr) (x34l : Nat) (x34c : Nat), cell h32 (a33.add 2) = some (.slice x34 x34l x34c) ∧ chkP (some (⟨a.b, 0, none⟩ : Addr)) fun a35 => ∃ (x36 : Option Addr) (x36l : Nat) (x36c : Nat), cell h32 (a35.add 2) = some (.slice x36 x36l x36c) ∧ chkP x36 fun a37 => (0 ≤ (x : Int) ∧ (x : Int) < (x36l : Int)) ∧ ∃ (x38 : Int), cell h32 (a37.add ((x : Int).toNat * 1)) = some (.int .i64 x38) ∧ chkP (some (⟨a.b, 0, none⟩ : Addr)) fun a39 => ∃ (x40 : Option Addr) (x40l : Nat) (x40c : Nat), cell h32 (a39.add 2) = some (.slice x40 x40l x40c) ∧ chkP x40 fun a41 => (0 ≤ (y : Int) ∧ (y : Int) < (x40l : Int)) ∧ ∃ (x42 : Int), cell h32 (a41.add ((y : Int).toNat * 1)) = some (.int .i64 x42) ∧ chkP x34 fun a43 => (0 ≤ (x : Int) ∧ (x : Int) < (x34l : Int)) ∧ stC h32 (a43.add ((x : Int).toNat * 1)) (.int .i64 (if x42 < x38 then x42 else x38)) fun h44 => (chkP (some (⟨a.b, 0, none⟩ : Addr)) fun a45 => ∃ (x46 : Int), cell h44 (a45.add 3) = some (.int .i64 x46) ∧ chkP (some (⟨a.b, 0, none⟩ : Addr)) fun a47 => stC h44 (a47.add 3) (.int .i64 (IntKind.i64.wrap (x46 - 1))) fun h48 => K true h48)))) := by
  have hcl := clsF_le C z.n
  obtain ⟨l1, l2⟩ := iv.root x hx rx
  obtain ⟨l3, l4⟩ := iv.root y hy ry
  have b1 := hcl (C x); have b2 := hcl (C y)
  have hn := iv.n
  have hc1 : z.cnt ≤ 4096 := by rw [iv.cnt]; exact Nat.le_trans (headF_le C z.n) hn
  have hc0 : 0 < z.cnt := by
    rw [iv.cnt]
    exact List.length_pos_of_mem (List.mem_filter.2 ⟨List.mem_range.2 (iv.names.lt hx), by simpa using iv.names.idem x hx⟩)
  try simp -zeta (disch := omega) only [chkP_some, iteB_true, iteB_false, add_mk, Nat.zero_add, Nat.add_zero, Nat.mul_one, Nat.reduceAdd, Int.toNat_natCast, ex_int, ex_slice, ex_ptr, ex_bool, ex_str, ex_flt, ex_any, bnd_in, List.getElem?_cons_zero, List.getElem?_cons_succ, List.set_cons_zero, List.set_cons_succ, List.cons_append, List.nil_append, bne_self_eq_false, beq_self_eq_true, Bool.not_true, Bool.not_false, Option.isNone_some, Option.isNone_none, eq_self, true_and, and_true, and_self, s.rd0, s.rd1, s.rd2, s.rd3]
  refine s.st1 (by rw [intN_len]; omega) fun h2 s2 => ?_
  rw [intN_set] at s2
  try simp -zeta (disch := omega) only [chkP_some, iteB_true, iteB_false, add_mk, Nat.zero_add, Nat.add_zero, Nat.mul_one, Nat.reduceAdd, Int.toNat_natCast, ex_int, ex_slice, ex_ptr, ex_bool, ex_str, ex_flt, ex_any, bnd_in, List.getElem?_cons_zero, List.getElem?_cons_succ, List.set_cons_zero, List.set_cons_succ, List.cons_append, List.nil_append, bne_self_eq_false, beq_self_eq_true, Bool.not_true, Bool.not_false, Option.isNone_some, Option.isNone_none, eq_self, true_and, and_true, and_self, s2.rd0, s2.rd1, s2.rd2, s2.rd3, intN_get hx, intN_get hy]
  rw [wrap64 (by omega) (by omega), show ((z.size x : Nat) : Int) + ((z.size y : Nat) : Int) = ((z.size x + z.size y : Nat) : Int) by omega]
  refine s2.st2 (by rw [intN_len]; omega) fun h3 s3 => ?_
  rw [intN_set] at s3
  try simp -zeta (disch := omega) only [chkP_some, iteB_true, iteB_false, add_mk, Nat.zero_add, Nat.add_zero, Nat.mul_one, Nat.reduceAdd, Int.toNat_natCast, ex_int, ex_slice, ex_ptr, ex_bool, ex_str, ex_flt, ex_any, bnd_in, List.getElem?_cons_zero, List.getElem?_cons_succ, List.set_cons_zero, List.set_cons_succ, List.cons_append, List.nil_append, bne_self_eq_false, beq_self_eq_true, Bool.not_true, Bool.not_false, Option.isNone_some, Option.isNone_none, eq_self, true_and, and_true, and_self, s3.rd0, s3.rd1, s3.rd2, s3.rd3, intN_get hx, intN_get hy]
  rw [show (if ((z.least y : Nat) : Int) < ((z.least x : Nat) : Int) then ((z.least y : Nat) : Int) else ((z.least x : Nat) : Int)) = ((min (z.least x) (z.least y) : Nat) : Int) by split <;> omega]
  refine s3.st3 (by rw [intN_len]; omega) fun h4 s4 => ?_
  rw [intN_set] at s4
  try simp -zeta (disch := omega) only [chkP_some, iteB_true, iteB_false, add_mk, Nat.zero_add, Nat.add_zero, Nat.mul_one, Nat.reduceAdd, Int.toNat_natCast, ex_int, ex_slice, ex_ptr, ex_bool, ex_str, ex_flt, ex_any, bnd_in, List.getElem?_cons_zero, List.getElem?_cons_succ, List.set_cons_zero, List.set_cons_succ, List.cons_append, List.nil_append, bne_self_eq_false, beq_self_eq_true, Bool.not_true, Bool.not_false, Option.isNone_some, Option.isNone_none, eq_self, true_and, and_true, and_self, s4.rd0, s4.rd1, s4.rd2, s4.rd3]
  rw [wrap64 (by omega) (by omega), show ((z.cnt : Nat) : Int) - 1 = ((z.cnt - 1 : Nat) : Int) by omega]
  exact s4.st0 (by simp) fun h5 s5 => hk h5 s5

theorem DJoin_of {K : Bool → Heap → Prop} {h : Heap} {u v : Int} (iv : DInv z C) (s : St h0 h (z.rows a ++ R))
    (hk : ∀ h' z', z'.n = z.n → DInv z' (joinC C z.n u v) → St h0 h' (z'.rows a ++ R) → K (twoF C z.n u v) h') : dsu_Classes_Join (some ⟨a.b, 0, none⟩) u v h K := by
  unfold dsu_Classes_Join
  refine callP1.self (root_of iv s fun h1 U1 r1 iv1 hu1 hr1 s1 => ?_)
  refine callP1.self (root_of iv1 s1 fun h2 U2 r2 iv2 hu2 hr2 s2 => ?_)
  have hr2 := hr2.up hu1
  have hu : ∀ w, U2 w = w ↔ z.up w = w := fun w => (hu2 w).trans (hu1 w)
  have none : twoF C z.n u v = false → K false h2 := fun e => by
    have := hk h2 { z with up := U2 } rfl (by rw [joinC_none e]; exact iv2) s2
    rwa [e] at this
  rcases hr1 with ⟨w, r, rfl, hw, rfl, hr, hrn, hc⟩ | ⟨hv, rfl⟩
  · rcases hr2 with ⟨w2, r2, rfl, hw2, rfl, hr2, hrn2, hc2⟩ | ⟨hv, rfl⟩
    · intro j
      have J : r ≠ r2 → j := by
        intro hne
        simp -zeta only [j]
        have hcn : C w ≠ C w2 := fun e => hne (iv.uniq r r2 hrn hrn2 hr hr2 (by rw [hc, hc2, e]))
        have two : twoF C z.n (w : Int) (w2 : Int) = true := by
          have d1 : decide (0 ≤ (w : Int) ∧ (w : Int) < z.n) = true := decide_eq_true (by omega)
          have d2 : decide (0 ≤ (w2 : Int) ∧ (w2 : Int) < z.n) = true := decide_eq_true (by omega)
          unfold twoF; rw [d1, d2]; simpa using hcn
        have jc : joinC C z.n (w : Int) (w2 : Int) = fun x => joinF (C r) (C r2) (C x) := by
          funext x; unfold joinC; rw [if_pos (by omega), Int.toNat_natCast, Int.toNat_natCast, hc, hc2]
        rw [two] at hk
        intro j2
        have J2 : ∀ x y : Nat, x < z.n → y < z.n → z.up x = x → z.up y = y → x ≠ y → joinC C z.n (w : Int) (w2 : Int) = (fun k => joinF (C x) (C y) (C k)) → j2 (x : Int) (y : Int) := by
          intro x y hx hy rx ry hxy e
          have ll := iv2.link (a := x) (b := y) hx hy ((hu x).2 rx) ((hu y).2 ry) hxy
          exact joins_of iv2 s2 hx hy ((hu x).2 rx) ((hu y).2 ry) hxy fun h' s' => hk h' (({ z with up := U2 } : DS).link x y) rfl (by rw [e]; exact ll) s'
        clear_value j2
        try simp -zeta (disch := omega) only [chkP_some, iteB_true, iteB_false, add_mk, Nat.zero_add, Nat.add_zero, Nat.mul_one, Nat.reduceAdd, Int.toNat_natCast, ex_int, ex_slice, ex_ptr, ex_bool, ex_str, ex_flt, ex_any, bnd_in, List.getElem?_cons_zero, List.getElem?_cons_succ, List.set_cons_zero, List.set_cons_succ, List.cons_append, List.nil_append, bne_self_eq_false, beq_self_eq_true, Bool.not_true, Bool.not_false, Option.isNone_some, Option.isNone_none, eq_self, true_and, and_true, and_self, s2.rd0, s2.rd1, s2.rd2, s2.rd3, intN_get hrn, intN_get hrn2]
        exact iteB_intro (fun _ => J2 r2 r hrn2 hrn hr2 hr (fun e => hne e.symm) (by rw [jc]; funext k; exact joinF_comm _ _ _)) (fun _ => J2 r r2 hrn hrn2 hr hr2 hne jc)
      clear_value j
      refine iteB_neg (decide_eq_false (by omega)) (iteB_neg (decide_eq_false (by omega)) (iteB_intro (fun e => none ?_) (fun e => J ?_)))
      · have e : r = r2 := by have e : (r : Int) = r2 := by simpa using e
                              omega
        unfold twoF
        have : C w = C w2 := by rw [← hc, ← hc2, e]
        simp [this]
      · have e : ¬ (r : Int) = r2 := by simpa using e
        omega
    · intro j
      clear_value j
      refine iteB_neg (decide_eq_false (by omega)) (iteB_pos rfl (none ?_))
      unfold twoF; rw [decide_eq_false hv]; simp
  · intro j
    clear_value j
    refine iteB_pos rfl (none ?_)
    unfold twoF; rw [decide_eq_false hv]; simp
theorem DJoin_nil {K : Bool → Heap → Prop} {h : Heap} {u v : Int} (hk : K false h) : dsu_Classes_Join none u v h K := by
  unfold dsu_Classes_Join
  refine callP1.self (root_nil (callP1.self (root_nil ?_)))
  intro j
  clear_value j
  exact iteB_pos rfl hk
theorem DOf_nil {K : Int → Heap → Prop} {h : Heap} {v : Int} (hk : K (-1) h) : dsu_Classes_Of none v h K := by
  unfold dsu_Classes_Of; exact callP1.self (root_nil (iteB_pos rfl hk))
theorem DSame_nil {K : Bool → Heap → Prop} {h : Heap} {u v : Int} (hk : K false h) : dsu_Classes_Same none u v h K := by
  unfold dsu_Classes_Same; exact callP1.self (root_nil (callP1.self (root_nil (iteB_neg rfl hk))))
end
end Go.Proofs.YtbhndlpjfncliaaGreat

namespace Go.Proofs.YtbhndlpjfncliaaGreat
set_option linter.unusedVariables false
set_option linter.unusedSimpArgs false
set_option linter.unnecessarySimpa false
open Go.Hp Go.RowKit
attribute [local irreducible] Go.Hp.iteB Go.Hp.stC Go.Hp.newP

def nums (l : List Nat) : List Value := l.map fun v : Nat => Value.int .i64 (v : Int)
theorem nums_len (l : List Nat) : (nums l).length = l.length := by simp [nums]
theorem nums_get {l : List Nat} {i v : Nat} (h : l[i]? = some v) : (nums l)[i]? = some (.int .i64 (v : Int)) := by simp [nums, h]
theorem nums_app (l m : List Nat) : nums (l ++ m) = nums l ++ nums m := by simp [nums]
theorem nums_one (v : Nat) : nums [v] = [.int .i64 (v : Int)] := rfl
theorem intN_nums (n : Nat) (f : Nat → Nat) : intN n f = nums ((List.range n).map f) := by
  unfold intN nums; rw [ints_vals, List.map_map, List.map_map]; rfl
theorem range_map_succ (f : Nat → Nat) (i : Nat) : (List.range (i + 1)).map f = (List.range i).map f ++ [f i] := by rw [List.range_succ, List.map_append]; rfl
theorem filter_succ (p : Nat → Bool) (i : Nat) : (List.range (i + 1)).filter p = (List.range i).filter p ++ (if p i = true then [i] else []) := by
  rw [List.range_succ, List.filter_append]; cases h : p i <;> simp [h]
theorem filter_le (p : Nat → Bool) (i : Nat) : ((List.range i).filter p).length ≤ i := by
  have := List.length_filter_le p (List.range i); simpa using this

section
variable {h0 : Base} {R : Rws} {C : Nat → Nat} {n c : Nat} {q : Option Addr}

theorem RRoom_of {h : Heap} {m : Int} {K : Int → Heap → Prop} (hk : K (roomN m : Int) h) : straitref09_Room m h K := by
  unfold straitref09_Room
  refine bindV_intro fun x hx => ?_
  have : x = (roomN m : Int) := by rw [hx]; unfold roomN; (repeat' split) <;> omega
  rw [this]; exact hk

theorem rnew_l0 {K2 : Heap → Prop} {m : Int} {b2 b3 : Nat} (hn : roomN m = n)
    (hk : ∀ h' q c X, Own q c (nums (List.range n)) X → St h0 h' ((b3, [.slice q n c]) :: (X ++ (b2, [.slice none 0 0]) :: R)) → K2 h') :
    ∀ (d i : Nat) (h : Heap) (q : Option Addr) (c : Nat) (X : Rws), i + d = n → Own q c (nums (List.range i)) X → St h0 h ((b3, [.slice q i c]) :: (X ++ (b2, [.slice none 0 0]) :: R)) → straitref10_New.l0 K2 (d + 1) m ⟨b2, 0, none⟩ ⟨b3, 0, none⟩ (i : Int) h
  | d, i, h, q, c, X, hi, o, s => by
    have hr := roomN_le m
    unfold straitref10_New.l0 straitref10_New.b0
    refine qcallP1.of (roomN m : Int) (fun Q hQ => RRoom_of hQ) ?_
    refine iteB_intro (fun e => ?_) (fun e => ?_)
    · have e : i < n := by have := of_decide_eq_true e; omega
      cases d with
      | zero => omega
      | succ d =>
      try simp -zeta (disch := omega) only [chkP_some, iteB_true, iteB_false, add_mk, Nat.zero_add, Nat.add_zero, Nat.mul_one, Nat.reduceAdd, Int.toNat_natCast, ex_int, ex_slice, ex_ptr, ex_bool, ex_str, ex_flt, ex_any, bnd_in, List.getElem?_cons_zero, List.getElem?_cons_succ, List.set_cons_zero, List.set_cons_succ, List.cons_append, List.nil_append, bne_self_eq_false, beq_self_eq_true, Bool.not_true, Bool.not_false, Option.isNone_some, Option.isNone_none, eq_self, true_and, and_true, and_self, s.rd0]
      have s' : St h0 h (X ++ (b3, [.slice q i c]) :: (b2, [.slice none 0 0]) :: R) := (St.re s (by intro a; simp only [cntR_append, cntR_cons, cntR_nil, List.cons_append, List.nil_append, List.set_cons_zero, List.set_cons_succ]; omega))
      refine Own.push1 o s' (by rw [nums_len, List.length_range]) rfl (by rw [nums_len, List.length_range]; omega) fun q2 c3 X2 h2 o2 s2 => ?_
      have s2 : St h0 h2 ((b3, [.slice q i c]) :: (X2 ++ (b2, [.slice none 0 0]) :: R)) := (St.re s2 (by intro a; simp only [cntR_append, cntR_cons, cntR_nil, List.cons_append, List.nil_append, List.set_cons_zero, List.set_cons_succ]; omega))
      rw [nums_len, List.length_range]
      refine s2.st0 (by simp) fun h3 s3 => ?_
      rw [wrap64 (by omega) (by omega)]
      exact rnew_l0 hn hk d (i + 1) h3 q2 c3 X2 (by omega) (by rw [List.range_succ, nums_app]; exact o2) s3
    · have e : i = n := by have := of_decide_eq_false e; omega
      subst e
      exact hk h q c X o s
theorem RcNew_of {h : Heap} {m : Int} {K : Option Addr → Nat → Nat → Heap → Prop} (s : St h0 h R)
    (hk : ∀ q c X h', Own q c (intN (roomN m) fun v => v) X → St h0 h' (X ++ R) → K q (roomN m) c h') : straitref10_New m h K := by
  unfold straitref10_New
  refine s.new_ fun b2 h1 s1 => s1.new_ fun b3 h2 s2 => ⟨roomN m + 1, ?_⟩
  refine rnew_l0 rfl (fun h3 q c X o s3 => ?_) (roomN m) 0 h2 none 0 [] (by omega) (by simpa [nums] using Own.nil) s2
  try simp -zeta (disch := omega) only [chkP_some, iteB_true, iteB_false, add_mk, Nat.zero_add, Nat.add_zero, Nat.mul_one, Nat.reduceAdd, Int.toNat_natCast, ex_int, ex_slice, ex_ptr, ex_bool, ex_str, ex_flt, ex_any, bnd_in, List.getElem?_cons_zero, List.getElem?_cons_succ, List.set_cons_zero, List.set_cons_succ, List.cons_append, List.nil_append, bne_self_eq_false, beq_self_eq_true, Bool.not_true, Bool.not_false, Option.isNone_some, Option.isNone_none, eq_self, true_and, and_true, and_self, s3.rd0]
  have s3 : St h0 h3 ((b2, [.slice none 0 0]) :: (b3, [.slice q (roomN m) c]) :: (X ++ R)) := (St.re s3 (by intro a; simp only [cntR_append, cntR_cons, cntR_nil, List.cons_append, List.nil_append, List.set_cons_zero, List.set_cons_succ]; omega))
  refine s3.st0 (by simp) fun h4 s4 => ?_
  try simp -zeta (disch := omega) only [chkP_some, iteB_true, iteB_false, add_mk, Nat.zero_add, Nat.add_zero, Nat.mul_one, Nat.reduceAdd, Int.toNat_natCast, ex_int, ex_slice, ex_ptr, ex_bool, ex_str, ex_flt, ex_any, bnd_in, List.getElem?_cons_zero, List.getElem?_cons_succ, List.set_cons_zero, List.set_cons_succ, List.cons_append, List.nil_append, bne_self_eq_false, beq_self_eq_true, Bool.not_true, Bool.not_false, Option.isNone_some, Option.isNone_none, eq_self, true_and, and_true, and_self, s4.rd0]
  exact hk q c X h4 (by rw [intN_nums]; simpa using o) ((St.re s4 (by intro a; simp only [cntR_append, cntR_cons, cntR_nil, List.cons_append, List.nil_append, List.set_cons_zero, List.set_cons_succ]; omega)))

theorem Rin_of {h : Heap} {v : Int} {K : Bool → Heap → Prop} (s : St h0 h R) (hk : ∀ h', St h0 h' R → K (decide (0 ≤ v ∧ v < n)) h') : straitref10_Classes_in q n c v h K := by
  unfold straitref10_Classes_in
  refine s.new_ fun b h1 s1 => ?_
  have := hk h1 s1.tail
  refine iteB_intro (fun e => ?_) (fun e => ?_)
  · have e := of_decide_eq_true e
    try simp -zeta (disch := omega) only [chkP_some, iteB_true, iteB_false, add_mk, Nat.zero_add, Nat.add_zero, Nat.mul_one, Nat.reduceAdd, Int.toNat_natCast, ex_int, ex_slice, ex_ptr, ex_bool, ex_str, ex_flt, ex_any, bnd_in, List.getElem?_cons_zero, List.getElem?_cons_succ, List.set_cons_zero, List.set_cons_succ, List.cons_append, List.nil_append, bne_self_eq_false, beq_self_eq_true, Bool.not_true, Bool.not_false, Option.isNone_some, Option.isNone_none, eq_self, true_and, and_true, and_self, s1.rd0]
    have e2 : decide (0 ≤ v ∧ v < (n : Int)) = decide (v < (n : Int)) := decide_eq_decide.2 ⟨fun h => h.2, fun h => ⟨e, h⟩⟩
    rwa [e2] at this
  · have e := of_decide_eq_false e
    rwa [decide_eq_false (by omega)] at this
theorem RSame_of {h : Heap} {u v : Int} {K : Bool → Heap → Prop} (kq : Keeps h0 R q (intN n C)) (s : St h0 h R) (hk : ∀ h', St h0 h' R → K (sameF C n u v) h') : straitref10_Classes_Same q n c u v h K := by
  unfold straitref10_Classes_Same
  refine s.new_ fun b h1 s1 => ?_
  try simp -zeta (disch := omega) only [chkP_some, iteB_true, iteB_false, add_mk, Nat.zero_add, Nat.add_zero, Nat.mul_one, Nat.reduceAdd, Int.toNat_natCast, ex_int, ex_slice, ex_ptr, ex_bool, ex_str, ex_flt, ex_any, bnd_in, List.getElem?_cons_zero, List.getElem?_cons_succ, List.set_cons_zero, List.set_cons_succ, List.cons_append, List.nil_append, bne_self_eq_false, beq_self_eq_true, Bool.not_true, Bool.not_false, Option.isNone_some, Option.isNone_none, eq_self, true_and, and_true, and_self, s1.rd0]
  refine callP1.self (Rin_of s1 fun h2 s2 => ?_)
  refine iteB_intro (fun e => ?_) (fun e => ?_)
  · try simp -zeta (disch := omega) only [chkP_some, iteB_true, iteB_false, add_mk, Nat.zero_add, Nat.add_zero, Nat.mul_one, Nat.reduceAdd, Int.toNat_natCast, ex_int, ex_slice, ex_ptr, ex_bool, ex_str, ex_flt, ex_any, bnd_in, List.getElem?_cons_zero, List.getElem?_cons_succ, List.set_cons_zero, List.set_cons_succ, List.cons_append, List.nil_append, bne_self_eq_false, beq_self_eq_true, Bool.not_true, Bool.not_false, Option.isNone_some, Option.isNone_none, eq_self, true_and, and_true, and_self, s2.rd0]
    refine callP1.self (Rin_of s2 fun h3 s3 => ?_)
    have k3 := hk h3 s3.tail
    unfold sameF at k3
    refine iteB_intro (fun e2 => ?_) (fun e2 => ?_)
    · rw [e, e2, Bool.true_and, Bool.true_and] at k3
      have e := of_decide_eq_true e; have e2 := of_decide_eq_true e2
      obtain ⟨u, rfl⟩ := Int.eq_ofNat_of_zero_le e.1
      obtain ⟨v, rfl⟩ := Int.eq_ofNat_of_zero_le e2.1
      have vq := kq.atC s3
      have gu := intN_get (f := C) (show u < n by omega)
      have gv := intN_get (f := C) (show v < n by omega)
      try simp -zeta (disch := omega) only [chkP_some, iteB_true, iteB_false, add_mk, Nat.zero_add, Nat.add_zero, Nat.mul_one, Nat.reduceAdd, Int.toNat_natCast, ex_int, ex_slice, ex_ptr, ex_bool, ex_str, ex_flt, ex_any, bnd_in, List.getElem?_cons_zero, List.getElem?_cons_succ, List.set_cons_zero, List.set_cons_succ, List.cons_append, List.nil_append, bne_self_eq_false, beq_self_eq_true, Bool.not_true, Bool.not_false, Option.isNone_some, Option.isNone_none, eq_self, true_and, and_true, and_self, s3.rd0, vals_int vq gu, vals_int vq gv]
      have e3 : decide (C (u : Int).toNat = C (v : Int).toNat) = (((C u : Nat) : Int) == ((C v : Nat) : Int)) := by
        rw [Bool.eq_iff_iff]; simp; omega
      rwa [e3] at k3
    · rw [e, e2] at k3; exact k3
  · have k2 := hk h2 s2.tail
    unfold sameF at k2
    rw [e] at k2; exact k2
def cntT (C : Nat → Nat) (n : Nat) (v : Int) (i : Nat) : Nat := if 0 ≤ v ∧ v < n then ((List.range i).filter fun u => C u == C v.toNat).length else 0
theorem cntT_le (C : Nat → Nat) (n : Nat) (v : Int) (i : Nat) : cntT C n v i ≤ i := by unfold cntT; split; exact filter_le _ _; omega
theorem cntT_succ {v : Int} {i : Nat} (hi : i < n) : cntT C n v (i + 1) = cntT C n v i + (if sameF C n (i : Int) v = true then 1 else 0) := by
  have e : sameF C n (i : Int) v = (decide (0 ≤ v ∧ v < n) && decide (C i = C v.toNat)) := by
    unfold sameF
    have d1 : decide (0 ≤ (i : Int) ∧ (i : Int) < n) = true := decide_eq_true (by omega)
    rw [d1, Bool.true_and, Int.toNat_natCast]
  rw [e]
  unfold cntT
  by_cases c : 0 ≤ v ∧ v < (n : Int)
  · rw [if_pos c, if_pos c, filter_succ, List.length_append, decide_eq_true c, Bool.true_and]
    by_cases d : C i = C v.toNat <;> simp [d]
  · rw [if_neg c, if_neg c, decide_eq_false c]; simp
theorem rjoin_l0 {K2 : Heap → Prop} {x y : Nat} {b1 b2 b3 : Nat} (hn : n ≤ 4096) (kq : Keeps h0 R q (intN n C))
    (hk : ∀ h' q' c' X, Own q' c' (nums ((List.range n).map fun v => joinF x y (C v))) X → St h0 h' ((b3, [.slice q' n c']) :: (X ++ (b1, [.slice q n c]) :: (b2, [.slice none 0 0]) :: R)) → K2 h') :
    ∀ (d i : Nat) (h : Heap) (q' : Option Addr) (c' : Nat) (X : Rws), i + d = n → Own q' c' (nums ((List.range i).map fun v => joinF x y (C v))) X → St h0 h ((b3, [.slice q' i c']) :: (X ++ (b1, [.slice q n c]) :: (b2, [.slice none 0 0]) :: R)) → straitref10_Classes_Join.l0 K2 (d + 1) ⟨b1, 0, none⟩ ⟨b2, 0, none⟩ (x : Int) (y : Int) ⟨b3, 0, none⟩ (i : Int) h
  | d, i, h, q', c', X, hi, o, s => by
    unfold straitref10_Classes_Join.l0 straitref10_Classes_Join.b0
    have r1 : ∀ j, cell h ⟨b1, j, none⟩ = [Value.slice q n c][j]? := s.rd (by simp)
    simp -zeta (disch := omega) only [chkP_some, iteB_true, iteB_false, add_mk, Nat.zero_add, Nat.add_zero, Nat.mul_one, Nat.reduceAdd, Int.toNat_natCast, ex_int, ex_slice, ex_ptr, ex_bool, ex_str, ex_flt, ex_any, bnd_in, List.getElem?_cons_zero, List.getElem?_cons_succ, List.set_cons_zero, List.set_cons_succ, List.cons_append, List.nil_append, bne_self_eq_false, beq_self_eq_true, Bool.not_true, Bool.not_false, Option.isNone_some, Option.isNone_none, eq_self, true_and, and_true, and_self, r1]
    refine iteB_intro (fun e => ?_) (fun e => ?_)
    · have e : i < n := by have := of_decide_eq_true e; omega
      cases d with
      | zero => omega
      | succ d =>
      have vq : valsAt h q (intN n C) := kq _ _ s fun z hz => by simp [hz]
      have gi := intN_get (f := C) e
      simp -zeta (disch := omega) only [chkP_some, iteB_true, iteB_false, add_mk, Nat.zero_add, Nat.add_zero, Nat.mul_one, Nat.reduceAdd, Int.toNat_natCast, ex_int, ex_slice, ex_ptr, ex_bool, ex_str, ex_flt, ex_any, bnd_in, List.getElem?_cons_zero, List.getElem?_cons_succ, List.set_cons_zero, List.set_cons_succ, List.cons_append, List.nil_append, bne_self_eq_false, beq_self_eq_true, Bool.not_true, Bool.not_false, Option.isNone_some, Option.isNone_none, eq_self, true_and, and_true, and_self, r1, vals_int vq gi]
      intro j
      have J : ∀ w : Nat, w = joinF x y (C i) → j (w : Int) := by
        intro w hw
        simp -zeta only [j]
        try simp -zeta (disch := omega) only [chkP_some, iteB_true, iteB_false, add_mk, Nat.zero_add, Nat.add_zero, Nat.mul_one, Nat.reduceAdd, Int.toNat_natCast, ex_int, ex_slice, ex_ptr, ex_bool, ex_str, ex_flt, ex_any, bnd_in, List.getElem?_cons_zero, List.getElem?_cons_succ, List.set_cons_zero, List.set_cons_succ, List.cons_append, List.nil_append, bne_self_eq_false, beq_self_eq_true, Bool.not_true, Bool.not_false, Option.isNone_some, Option.isNone_none, eq_self, true_and, and_true, and_self, s.rd0]
        have s' : St h0 h (X ++ (b3, [.slice q' i c']) :: (b1, [.slice q n c]) :: (b2, [.slice none 0 0]) :: R) := (St.re s (by intro a; simp only [cntR_append, cntR_cons, cntR_nil, List.cons_append, List.nil_append, List.set_cons_zero, List.set_cons_succ]; omega))
        refine Own.push1 o s' (by simp [nums_len]) rfl (by simp [nums_len]; omega) fun q2 c3 X2 h2 o2 s2 => ?_
        have s2 : St h0 h2 ((b3, [.slice q' i c']) :: (X2 ++ (b1, [.slice q n c]) :: (b2, [.slice none 0 0]) :: R)) := (St.re s2 (by intro a; simp only [cntR_append, cntR_cons, cntR_nil, List.cons_append, List.nil_append, List.set_cons_zero, List.set_cons_succ]; omega))
        have el : (nums ((List.range i).map fun v => joinF x y (C v))).length = i := by simp [nums_len]
        rw [el]
        refine s2.st0 (by simp) fun h3 s3 => ?_
        rw [wrap64 (by omega) (by omega)]
        refine rjoin_l0 hn kq hk d (i + 1) h3 q2 c3 X2 (by omega) ?_ s3
        rw [range_map_succ, nums_app, ← hw]; exact o2
      clear_value j
      have mn : (if (y : Int) < (x : Int) then (y : Int) else (x : Int)) = ((min x y : Nat) : Int) := by split <;> omega
      refine iteB_intro (fun e2 => ?_) (fun e2 => ?_)
      · have e2 : C i = x := by have e2 : ((C i : Nat) : Int) = x := by simpa using e2
                                omega
        rw [mn]; exact J _ (joinF_in (.inl e2)).symm
      · have e2 : ¬ C i = x := by have e2 : ¬ ((C i : Nat) : Int) = x := by simpa using e2
                                  omega
        refine iteB_intro (fun e3 => ?_) (fun e3 => ?_)
        · have e3 : C i = y := by have e3 : ((C i : Nat) : Int) = y := by simpa using e3
                                  omega
          rw [mn]; exact J _ (joinF_in (.inr e3)).symm
        · have e3 : ¬ C i = y := by have e3 : ¬ ((C i : Nat) : Int) = y := by simpa using e3
                                    omega
          exact J _ (joinF_out (by rintro (h | h) <;> contradiction)).symm
    · have e : i = n := by have := of_decide_eq_false e; omega
      subst e
      exact hk h q' c' X o s

/-- What it is afterwards: another slice, or the same. -/
theorem RJoin_of {h : Heap} {u v : Int} {Y : Rws} {K : Option Addr → Nat → Nat → Heap → Prop} (hn : n ≤ 4096) (kY : Keeps h0 Y q (intN n C)) (hY : ∀ x ∈ Y, x ∈ R) (s : St h0 h R)
    (hk : ∀ q' c' X h', Keeps h0 (X ++ Y) q' (intN n (joinC C n u v)) → St h0 h' (X ++ R) → K q' n c' h') : straitref10_Classes_Join q n c u v h K := by
  have kq : Keeps h0 R q (intN n C) := kY.sub hY
  unfold straitref10_Classes_Join
  refine s.new_ fun b1 h1 s1 => s1.new_ fun b2 h2 s2 => ?_
  intro j
  have J : (0 ≤ u ∧ u < (n : Int)) → (0 ≤ v ∧ v < (n : Int)) → ∀ h', St h0 h' ((b2, [.slice none 0 0]) :: (b1, [.slice q n c]) :: R) → j h' := by
    intro hu hv h' s
    simp -zeta only [j]
    have e : joinC C n u v = fun x => joinF (C u.toNat) (C v.toNat) (C x) := by funext x; unfold joinC; rw [if_pos ⟨hu, hv⟩]
    rw [e] at hk
    obtain ⟨u, rfl⟩ := Int.eq_ofNat_of_zero_le hu.1
    obtain ⟨v, rfl⟩ := Int.eq_ofNat_of_zero_le hv.1
    have vq : valsAt h' q (intN n C) := kq _ _ s fun z hz => by simp [hz]
    have gu := intN_get (f := C) (show u < n by omega)
    have gv := intN_get (f := C) (show v < n by omega)
    try simp -zeta (disch := omega) only [chkP_some, iteB_true, iteB_false, add_mk, Nat.zero_add, Nat.add_zero, Nat.mul_one, Nat.reduceAdd, Int.toNat_natCast, ex_int, ex_slice, ex_ptr, ex_bool, ex_str, ex_flt, ex_any, bnd_in, List.getElem?_cons_zero, List.getElem?_cons_succ, List.set_cons_zero, List.set_cons_succ, List.cons_append, List.nil_append, bne_self_eq_false, beq_self_eq_true, Bool.not_true, Bool.not_false, Option.isNone_some, Option.isNone_none, eq_self, true_and, and_true, and_self, s.rd0, s.rd1, vals_int vq gu, vals_int vq gv]
    refine s.new_ fun b3 h3 s3 => ⟨n + 1, ?_⟩
    refine rjoin_l0 (c := c) (x := C u) (y := C v) hn kq (fun h4 q' c' X o s4 => ?_) n 0 h3 none 0 [] (by omega) (by simpa [nums] using Own.nil) ((St.re s3 (by intro a; simp only [cntR_append, cntR_cons, cntR_nil, List.cons_append, List.nil_append, List.set_cons_zero, List.set_cons_succ]; omega)))
    try simp -zeta (disch := omega) only [chkP_some, iteB_true, iteB_false, add_mk, Nat.zero_add, Nat.add_zero, Nat.mul_one, Nat.reduceAdd, Int.toNat_natCast, ex_int, ex_slice, ex_ptr, ex_bool, ex_str, ex_flt, ex_any, bnd_in, List.getElem?_cons_zero, List.getElem?_cons_succ, List.set_cons_zero, List.set_cons_succ, List.cons_append, List.nil_append, bne_self_eq_false, beq_self_eq_true, Bool.not_true, Bool.not_false, Option.isNone_some, Option.isNone_none, eq_self, true_and, and_true, and_self, s4.rd0]
    have s4 : St h0 h4 ((b2, [.slice none 0 0]) :: (b3, [.slice q' n c']) :: (X ++ (b1, [.slice q n c]) :: R)) := (St.re s4 (by intro a; simp only [cntR_append, cntR_cons, cntR_nil, List.cons_append, List.nil_append, List.set_cons_zero, List.set_cons_succ]; omega))
    refine s4.st0 (by simp) fun h5 s5 => ?_
    try simp -zeta (disch := omega) only [chkP_some, iteB_true, iteB_false, add_mk, Nat.zero_add, Nat.add_zero, Nat.mul_one, Nat.reduceAdd, Int.toNat_natCast, ex_int, ex_slice, ex_ptr, ex_bool, ex_str, ex_flt, ex_any, bnd_in, List.getElem?_cons_zero, List.getElem?_cons_succ, List.set_cons_zero, List.set_cons_succ, List.cons_append, List.nil_append, bne_self_eq_false, beq_self_eq_true, Bool.not_true, Bool.not_false, Option.isNone_some, Option.isNone_none, eq_self, true_and, and_true, and_self, s5.rd0]
    refine hk q' c' X h5 ?_ ((St.re s5 (by intro a; simp only [cntR_append, cntR_cons, cntR_nil, List.cons_append, List.nil_append, List.set_cons_zero, List.set_cons_succ]; omega)))
    rw [intN_nums]
    exact o.keeps fun z hz => by simp [hz]
  clear_value j
  have other : ¬ ((0 ≤ u ∧ u < (n : Int)) ∧ (0 ≤ v ∧ v < (n : Int))) → ∀ h', St h0 h' ((b2, [.slice q n c]) :: (b1, [.slice q n c]) :: R) → K q n c h' := by
    intro hno h' s
    have e : joinC C n u v = C := by funext x; unfold joinC; rw [if_neg hno]
    rw [e] at hk
    exact hk q c [] h' (by simpa using kY) ((St.re s (by intro a; simp only [cntR_append, cntR_cons, cntR_nil, List.cons_append, List.nil_append, List.set_cons_zero, List.set_cons_succ]; omega)))
  try simp -zeta (disch := omega) only [chkP_some, iteB_true, iteB_false, add_mk, Nat.zero_add, Nat.add_zero, Nat.mul_one, Nat.reduceAdd, Int.toNat_natCast, ex_int, ex_slice, ex_ptr, ex_bool, ex_str, ex_flt, ex_any, bnd_in, List.getElem?_cons_zero, List.getElem?_cons_succ, List.set_cons_zero, List.set_cons_succ, List.cons_append, List.nil_append, bne_self_eq_false, beq_self_eq_true, Bool.not_true, Bool.not_false, Option.isNone_some, Option.isNone_none, eq_self, true_and, and_true, and_self, s2.rd0, s2.rd1]
  refine callP1.self (Rin_of s2 fun h3 s3 => ?_)
  refine iteB_intro (fun e => ?_) (fun e => ?_)
  · have e : ¬ (0 ≤ u ∧ u < (n : Int)) := fun h => by rw [decide_eq_true h] at e; cases e
    try simp -zeta (disch := omega) only [chkP_some, iteB_true, iteB_false, add_mk, Nat.zero_add, Nat.add_zero, Nat.mul_one, Nat.reduceAdd, Int.toNat_natCast, ex_int, ex_slice, ex_ptr, ex_bool, ex_str, ex_flt, ex_any, bnd_in, List.getElem?_cons_zero, List.getElem?_cons_succ, List.set_cons_zero, List.set_cons_succ, List.cons_append, List.nil_append, bne_self_eq_false, beq_self_eq_true, Bool.not_true, Bool.not_false, Option.isNone_some, Option.isNone_none, eq_self, true_and, and_true, and_self, s3.rd0, s3.rd1]
    refine s3.st0 (by simp) fun h4 s4 => ?_
    try simp -zeta (disch := omega) only [chkP_some, iteB_true, iteB_false, add_mk, Nat.zero_add, Nat.add_zero, Nat.mul_one, Nat.reduceAdd, Int.toNat_natCast, ex_int, ex_slice, ex_ptr, ex_bool, ex_str, ex_flt, ex_any, bnd_in, List.getElem?_cons_zero, List.getElem?_cons_succ, List.set_cons_zero, List.set_cons_succ, List.cons_append, List.nil_append, bne_self_eq_false, beq_self_eq_true, Bool.not_true, Bool.not_false, Option.isNone_some, Option.isNone_none, eq_self, true_and, and_true, and_self, s4.rd0, s4.rd1]
    exact other (fun h => e h.1) h4 s4
  · have e : 0 ≤ u ∧ u < (n : Int) := of_decide_eq_true (by simpa using e)
    try simp -zeta (disch := omega) only [chkP_some, iteB_true, iteB_false, add_mk, Nat.zero_add, Nat.add_zero, Nat.mul_one, Nat.reduceAdd, Int.toNat_natCast, ex_int, ex_slice, ex_ptr, ex_bool, ex_str, ex_flt, ex_any, bnd_in, List.getElem?_cons_zero, List.getElem?_cons_succ, List.set_cons_zero, List.set_cons_succ, List.cons_append, List.nil_append, bne_self_eq_false, beq_self_eq_true, Bool.not_true, Bool.not_false, Option.isNone_some, Option.isNone_none, eq_self, true_and, and_true, and_self, s3.rd0, s3.rd1]
    refine callP1.self (Rin_of s3 fun h4 s4 => ?_)
    refine iteB_intro (fun e2 => ?_) (fun e2 => ?_)
    · have e2 : ¬ (0 ≤ v ∧ v < (n : Int)) := fun h => by rw [decide_eq_true h] at e2; cases e2
      try simp -zeta (disch := omega) only [chkP_some, iteB_true, iteB_false, add_mk, Nat.zero_add, Nat.add_zero, Nat.mul_one, Nat.reduceAdd, Int.toNat_natCast, ex_int, ex_slice, ex_ptr, ex_bool, ex_str, ex_flt, ex_any, bnd_in, List.getElem?_cons_zero, List.getElem?_cons_succ, List.set_cons_zero, List.set_cons_succ, List.cons_append, List.nil_append, bne_self_eq_false, beq_self_eq_true, Bool.not_true, Bool.not_false, Option.isNone_some, Option.isNone_none, eq_self, true_and, and_true, and_self, s4.rd0, s4.rd1]
      refine s4.st0 (by simp) fun h5 s5 => ?_
      try simp -zeta (disch := omega) only [chkP_some, iteB_true, iteB_false, add_mk, Nat.zero_add, Nat.add_zero, Nat.mul_one, Nat.reduceAdd, Int.toNat_natCast, ex_int, ex_slice, ex_ptr, ex_bool, ex_str, ex_flt, ex_any, bnd_in, List.getElem?_cons_zero, List.getElem?_cons_succ, List.set_cons_zero, List.set_cons_succ, List.cons_append, List.nil_append, bne_self_eq_false, beq_self_eq_true, Bool.not_true, Bool.not_false, Option.isNone_some, Option.isNone_none, eq_self, true_and, and_true, and_self, s5.rd0, s5.rd1]
      exact other (fun h => e2 h.2) h5 s5
    · have e2 : 0 ≤ v ∧ v < (n : Int) := of_decide_eq_true (by simpa using e2)
      exact J e e2 h4 s4
end
end Go.Proofs.YtbhndlpjfncliaaGreat

namespace Go.Proofs.YtbhndlpjfncliaaGreat
set_option linter.unusedVariables false
set_option linter.unusedSimpArgs false
set_option linter.unnecessarySimpa false
open Go.Hp Go.RowKit
attribute [local irreducible] Go.Hp.iteB Go.Hp.stC Go.Hp.newP

/-- A slice value: where, how long, how much room. -/
abbrev SlT := Option Addr × Nat × Nat
def slV (qs : List SlT) : List Value := qs.map fun q => Value.slice q.1 q.2.1 q.2.2
theorem slV_len (qs : List SlT) : (slV qs).length = qs.length := by simp [slV]
theorem slV_get {qs : List SlT} {i : Nat} {q : SlT} (h : qs[i]? = some q) : (slV qs)[i]? = some (.slice q.1 q.2.1 q.2.2) := by simp [slV, h]
theorem slV_app (a b : List SlT) : slV (a ++ b) = slV a ++ slV b := by simp [slV]
/-- Slices that hold these lists of numbers. -/
def Sls (B : Base) (Y : Rws) (qs : List SlT) (ls : List (List Nat)) : Prop := qs.length = ls.length ∧ ∀ (i : Nat) (q : SlT) l, qs[i]? = some q → ls[i]? = some l → q.2.1 = l.length ∧ Keeps B Y q.1 (nums l)
theorem Sls.nil {B : Base} {Y : Rws} : Sls B Y [] [] := ⟨rfl, fun i q l h => by simp at h⟩
theorem Sls.sub {B : Base} {Y Z : Rws} {qs : List SlT} {ls : List (List Nat)} (s : Sls B Y qs ls) (h : ∀ x ∈ Y, x ∈ Z) : Sls B Z qs ls := ⟨s.1, fun i q l h1 h2 => ⟨(s.2 i q l h1 h2).1, (s.2 i q l h1 h2).2.sub h⟩⟩
theorem Sls.snoc {B : Base} {Y : Rws} {qs : List SlT} {ls : List (List Nat)} {q : Option Addr} {c : Nat} {l : List Nat} (s : Sls B Y qs ls) (k : Keeps B Y q (nums l)) : Sls B Y (qs ++ [(q, l.length, c)]) (ls ++ [l]) := by
  refine ⟨by simp [s.1], fun i p m h1 h2 => ?_⟩
  rcases Nat.lt_or_ge i qs.length with hi | hi
  · rw [List.getElem?_append_left hi] at h1
    rw [List.getElem?_append_left (by rw [← s.1]; exact hi)] at h2
    exact s.2 i p m h1 h2
  · rw [List.getElem?_append_right hi] at h1
    rw [List.getElem?_append_right (by rw [← s.1]; exact hi)] at h2
    have h0 : i - qs.length = 0 := by
      rcases Nat.eq_zero_or_pos (i - qs.length) with h | h
      · exact h
      · rw [List.getElem?_eq_none (by simp; omega)] at h1; cases h1
    rw [← s.1] at h2
    rw [h0] at h1 h2
    simp at h1 h2
    subst h1; subst h2
    exact ⟨rfl, k⟩

/-- All classes, by their names. -/
def clsT (C : Nat → Nat) (n i : Nat) : List (List Nat) := ((List.range i).filter fun v => C v == v).map fun c => clsF C n c
def clsL (C : Nat → Nat) (n : Nat) : List (List Nat) := clsT C n n
theorem clsL_len (C : Nat → Nat) (n : Nat) : (clsL C n).length = (headF C n).length := by simp [clsL, clsT, headF]
theorem clsT_le (C : Nat → Nat) (n i : Nat) : (clsT C n i).length ≤ i := by unfold clsT; rw [List.length_map]; exact filter_le _ _
theorem clsT_succ (C : Nat → Nat) (n i : Nat) : clsT C n (i + 1) = clsT C n i ++ (if (C i == i) = true then [clsF C n i] else []) := by
  unfold clsT; rw [filter_succ, List.map_append]; split <;> rfl

section
variable {h0 : Base} {R : Rws} {C : Nat → Nat} {n c : Nat} {q : Option Addr}

theorem rlist_l1 {K4 : Option Addr → Nat → Nat → Heap → Prop} {v b l3 c3 : Nat} {q3 : Option Addr} {S : Rws} (hn : n ≤ 4096) (kq : Keeps h0 S q (intN n C)) (hm : (b, [Value.slice q n c]) ∈ S)
    (hk : ∀ h' q1 c1 X, Own q1 c1 (nums (clsF C n v)) X → St h0 h' (X ++ S) → K4 q1 (clsF C n v).length c1 h') :
    ∀ (d u : Nat) (h : Heap) (q1 : Option Addr) (c1 : Nat) (X : Rws), u + d = n → Own q1 c1 (nums ((List.range u).filter fun x => C x == v)) X → St h0 h (X ++ S) →
      straitref10_Classes_List.l1 K4 (d + 1) ⟨b, 0, none⟩ q3 l3 c3 (v : Int) q1 ((List.range u).filter fun x => C x == v).length c1 (u : Int) h
  | d, u, h, q1, c1, X, hu, o, s => by
    unfold straitref10_Classes_List.l1 straitref10_Classes_List.b1
    have rb : ∀ j, cell h ⟨b, j, none⟩ = [Value.slice q n c][j]? := s.rd (by simp [hm])
    have fl := filter_le (fun x => C x == v) u
    simp -zeta (disch := omega) only [chkP_some, iteB_true, iteB_false, add_mk, Nat.zero_add, Nat.add_zero, Nat.mul_one, Nat.reduceAdd, Int.toNat_natCast, ex_int, ex_slice, ex_ptr, ex_bool, ex_str, ex_flt, ex_any, bnd_in, List.getElem?_cons_zero, List.getElem?_cons_succ, List.set_cons_zero, List.set_cons_succ, List.cons_append, List.nil_append, bne_self_eq_false, beq_self_eq_true, Bool.not_true, Bool.not_false, Option.isNone_some, Option.isNone_none, eq_self, true_and, and_true, and_self, rb]
    refine iteB_intro (fun e => ?_) (fun e => ?_)
    · have e : u < n := by have := of_decide_eq_true e; omega
      cases d with
      | zero => omega
      | succ d =>
      have vq : valsAt h q (intN n C) := kq _ _ s fun z hz => by simp [hz]
      have gu := intN_get (f := C) e
      have fs := filter_succ (fun x => C x == v) u
      simp -zeta (disch := omega) only [chkP_some, iteB_true, iteB_false, add_mk, Nat.zero_add, Nat.add_zero, Nat.mul_one, Nat.reduceAdd, Int.toNat_natCast, ex_int, ex_slice, ex_ptr, ex_bool, ex_str, ex_flt, ex_any, bnd_in, List.getElem?_cons_zero, List.getElem?_cons_succ, List.set_cons_zero, List.set_cons_succ, List.cons_append, List.nil_append, bne_self_eq_false, beq_self_eq_true, Bool.not_true, Bool.not_false, Option.isNone_some, Option.isNone_none, eq_self, true_and, and_true, and_self, rb, vals_int vq gu]
      refine iteB_intro (fun e2 => ?_) (fun e2 => ?_)
      · have e2 : (C u == v) = true := by have e2 : ((C u : Nat) : Int) = v := by simpa using e2
                                          rw [beq_iff_eq]; omega
        rw [if_pos e2] at fs
        refine Own.push1 o s (nums_len _).symm rfl (by rw [nums_len]; omega) fun q2 c2 X2 h2 o2 s2 => ?_
        rw [wrap64 (by omega) (by omega), nums_len]
        have := rlist_l1 (q3 := q3) (l3 := l3) (c3 := c3) hn kq hm hk d (u + 1) h2 q2 c2 X2 (by omega) (by rw [fs, nums_app]; exact o2) s2
        rw [fs] at this; simpa using this
      · have e2 : ¬ (C u == v) = true := by have e2 : ¬ ((C u : Nat) : Int) = v := by simpa using e2
                                            rw [beq_iff_eq]; omega
        rw [if_neg e2, List.append_nil] at fs
        rw [wrap64 (by omega) (by omega)]
        have := rlist_l1 (q3 := q3) (l3 := l3) (c3 := c3) hn kq hm hk d (u + 1) h q1 c1 X (by omega) (by rw [fs]; exact o) s
        rw [fs] at this; exact this
    · have e : u = n := by have := of_decide_eq_false e; omega
      subst e
      exact hk h q1 c1 X o s

theorem rlist_l0 {K2 : Option Addr → Nat → Nat → Heap → Prop} {b : Nat} (hn : n ≤ 4096) (kq : Keeps h0 R q (intN n C))
    (hk : ∀ h' qo co qs Y, Keeps h0 Y qo (slV qs) → Sls h0 Y qs (clsL C n) → St h0 h' (Y ++ R) → K2 qo (clsL C n).length co h') :
    ∀ (d v : Nat) (h : Heap) (qo : Option Addr) (co : Nat) (qs : List SlT) (Xo Z : Rws), v + d = n → Own qo co (slV qs) Xo → Sls h0 Z qs (clsT C n v) → St h0 h (Xo ++ (Z ++ (b, [.slice q n c]) :: R)) →
      straitref10_Classes_List.l0 K2 (d + 1) ⟨b, 0, none⟩ qo (clsT C n v).length co (v : Int) h
  | d, v, h, qo, co, qs, Xo, Z, hv, o, ss, s => by
    unfold straitref10_Classes_List.l0 straitref10_Classes_List.b0
    have rb : ∀ j, cell h ⟨b, j, none⟩ = [Value.slice q n c][j]? := s.rd (by simp)
    have cl := clsT_le C n v
    simp -zeta (disch := omega) only [chkP_some, iteB_true, iteB_false, add_mk, Nat.zero_add, Nat.add_zero, Nat.mul_one, Nat.reduceAdd, Int.toNat_natCast, ex_int, ex_slice, ex_ptr, ex_bool, ex_str, ex_flt, ex_any, bnd_in, List.getElem?_cons_zero, List.getElem?_cons_succ, List.set_cons_zero, List.set_cons_succ, List.cons_append, List.nil_append, bne_self_eq_false, beq_self_eq_true, Bool.not_true, Bool.not_false, Option.isNone_some, Option.isNone_none, eq_self, true_and, and_true, and_self, rb]
    refine iteB_intro (fun e => ?_) (fun e => ?_)
    · have e : v < n := by have := of_decide_eq_true e; omega
      cases d with
      | zero => omega
      | succ d =>
      have vq : valsAt h q (intN n C) := kq _ _ s fun z hz => by simp [hz]
      have gv := intN_get (f := C) e
      have fs := clsT_succ C n v
      simp -zeta (disch := omega) only [chkP_some, iteB_true, iteB_false, add_mk, Nat.zero_add, Nat.add_zero, Nat.mul_one, Nat.reduceAdd, Int.toNat_natCast, ex_int, ex_slice, ex_ptr, ex_bool, ex_str, ex_flt, ex_any, bnd_in, List.getElem?_cons_zero, List.getElem?_cons_succ, List.set_cons_zero, List.set_cons_succ, List.cons_append, List.nil_append, bne_self_eq_false, beq_self_eq_true, Bool.not_true, Bool.not_false, Option.isNone_some, Option.isNone_none, eq_self, true_and, and_true, and_self, rb, vals_int vq gv]
      refine iteB_intro (fun e2 => ?_) (fun e2 => ?_)
      · have e2 : (C v == v) = true := by have e2 : ((C v : Nat) : Int) = v := by simpa using e2
                                          rw [beq_iff_eq]; omega
        rw [if_pos e2] at fs
        refine ⟨n + 1, rlist_l1 (c := c) (S := Xo ++ (Z ++ (b, [.slice q n c]) :: R)) hn (kq.sub fun x hx => by simp [hx]) (by simp) (fun h1 q1 c1 X1 o1 s1 => ?_) n 0 h none 0 [] (by omega) (by simpa [nums] using Own.nil) s⟩
        have s1 : St h0 h1 (Xo ++ ((X1 ++ Z) ++ (b, [.slice q n c]) :: R)) := (St.re s1 (by intro a; simp only [cntR_append, cntR_cons, cntR_nil, List.cons_append, List.nil_append, List.set_cons_zero, List.set_cons_succ]; omega))
        refine Own.push1 o s1 (by rw [slV_len, ss.1]) rfl (by rw [slV_len, ss.1]; omega) fun q2 c2 X2 h2 o2 s2 => ?_
        rw [wrap64 (by omega) (by omega)]
        have := rlist_l0 hn kq hk d (v + 1) h2 q2 c2 (qs ++ [(q1, (clsF C n v).length, c1)]) X2 (X1 ++ Z) (by omega) (by rw [slV_app]; exact o2) (by rw [fs]; exact (ss.sub fun x hx => by simp [hx]).snoc (o1.keeps fun x hx => by simp [hx])) s2
        rw [fs] at this; rw [slV_len, ss.1]; simpa using this
      · have e2 : ¬ (C v == v) = true := by have e2 : ¬ ((C v : Nat) : Int) = v := by simpa using e2
                                            rw [beq_iff_eq]; omega
        rw [if_neg e2, List.append_nil] at fs
        rw [wrap64 (by omega) (by omega)]
        have := rlist_l0 hn kq hk d (v + 1) h qo co qs Xo Z (by omega) o (by rw [fs]; exact ss) s
        rw [fs] at this; exact this
    · have e : v = n := by have := of_decide_eq_false e; omega
      subst e
      exact hk h qo co qs (Xo ++ Z) (o.keeps fun x hx => by simp [hx]) (ss.sub fun x hx => by simp [hx]) ((St.re s (by intro a; simp only [cntR_append, cntR_cons, cntR_nil, List.cons_append, List.nil_append, List.set_cons_zero, List.set_cons_succ]; omega)))

theorem RList_of {h : Heap} {K : Option Addr → Nat → Nat → Heap → Prop} (hn : n ≤ 4096) (kq : Keeps h0 R q (intN n C)) (s : St h0 h R)
    (hk : ∀ h' qo co qs Y, Keeps h0 Y qo (slV qs) → Sls h0 Y qs (clsL C n) → St h0 h' (Y ++ R) → K qo (clsL C n).length co h') : straitref10_Classes_List q n c h K := by
  unfold straitref10_Classes_List
  refine s.new_ fun b h1 s1 => ⟨n + 1, ?_⟩
  exact rlist_l0 hn kq hk n 0 h1 none 0 [] [] [] (by omega) (by simpa [slV] using Own.nil) Sls.nil s1
end
end Go.Proofs.YtbhndlpjfncliaaGreat

namespace Go.Proofs.YtbhndlpjfncliaaGreat
set_option linter.unusedVariables false
set_option linter.unusedSimpArgs false
set_option linter.unnecessarySimpa false
open Go.Hp Go.RowKit
attribute [local irreducible] Go.Hp.iteB Go.Hp.stC Go.Hp.newP

/-- What a class has so far. -/
structure Ent where
  key : Nat
  q : Option Addr
  cap : Nat
  mem : List Nat
  X : Rws
abbrev Ent.sl (e : Ent) : SlT := (e.q, e.mem.length, e.cap)
def kvE (E : List Ent) : KV := E.map fun e => (Value.int .i64 (e.key : Int), .slice e.q e.mem.length e.cap)
def rowsE (E : List Ent) : Rws := E.flatMap (·.X)
def okE (E : List Ent) : Prop := ∀ e ∈ E, Own e.q e.cap (nums e.mem) e.X
theorem kvE_len (E : List Ent) : (kvE E).length = E.length := by simp [kvE]
theorem kvE_key (E : List Ent) : ∀ e ∈ kvE E, isKey (.int .i64) e.1 = true := by
  intro e he
  obtain ⟨x, _, rfl⟩ := List.mem_map.1 he
  rfl
/-- What the classes among the first i are. -/
def entT (C : Nat → Nat) (i : Nat) : List (Nat × List Nat) := ((List.range i).filter fun v => C v == v).map fun c => (c, (List.range i).filter fun u => C u == c)
def km (E : List Ent) : List (Nat × List Nat) := E.map fun e => (e.key, e.mem)
theorem keys_nodup {C : Nat → Nat} {i : Nat} {E : List Ent} (h : km E = entT C i) : (E.map (·.key)).Nodup := by
  have : E.map (·.key) = (km E).map (·.1) := by simp [km]
  rw [this, h]
  have : (entT C i).map (·.1) = (List.range i).filter fun v => C v == v := by unfold entT; rw [List.map_map]; exact List.map_id _
  rw [this]; exact List.nodup_range.filter _
theorem mem_entT {C : Nat → Nat} {i : Nat} {E : List Ent} (h : km E = entT C i) {e : Ent} (he : e ∈ E) : e.key < i ∧ C e.key = e.key ∧ e.mem = (List.range i).filter fun u => C u == e.key := by
  have : (e.key, e.mem) ∈ entT C i := by rw [← h]; exact List.mem_map.2 ⟨e, he, rfl⟩
  obtain ⟨c, hc, e1⟩ := List.mem_map.1 this
  rw [List.mem_filter, List.mem_range] at hc
  obtain ⟨e2, e3⟩ := Prod.mk.inj e1
  subst e2
  exact ⟨hc.1, by simpa using hc.2, e3.symm⟩
/-- One comes to a class that there is. -/
theorem entT_old {C : Nat → Nat} {n i : Nat} (hn : Names n C) (hi : i < n) (hc : C i ≠ i) {A B : List Ent} {e : Ent} {q : Option Addr} {cap : Nat} {X : Rws} (h : km (A ++ e :: B) = entT C i) (hk : e.key = C i) :
    km (A ++ ⟨C i, q, cap, e.mem ++ [i], X⟩ :: B) = entT C (i + 1) := by
  have nd := keys_nodup h
  have e1 : entT C (i + 1) = (entT C i).map fun p => if p.1 = C i then (p.1, p.2 ++ [i]) else p := by
    unfold entT
    rw [filter_succ (fun v => C v == v), if_neg (by simpa using hc), List.append_nil, List.map_map]
    refine List.map_congr_left fun c _ => ?_
    rw [filter_succ]
    simp only [Function.comp_apply]
    by_cases d : c = C i
    · rw [if_pos d, if_pos (by simp [d])]
    · rw [if_neg d, if_neg (by simp; exact fun h => d h.symm), List.append_nil]
  have ne : ∀ x, x ∈ A ∨ x ∈ B → x.key ≠ C i := fun x hx e2 => by
    rw [List.map_append, List.map_cons, List.nodup_append, List.nodup_cons] at nd
    rcases hx with hx | hx
    · exact nd.2.2 _ (List.mem_map.2 ⟨x, hx, rfl⟩) e.key (by simp) (by rw [e2, hk])
    · exact nd.2.1.1 (by rw [hk, ← e2]; exact List.mem_map.2 ⟨x, hx, rfl⟩)
  rw [e1, ← h]
  unfold km
  rw [List.map_append, List.map_append, List.map_append, List.map_cons, List.map_cons, List.map_cons, List.map_map, List.map_map]
  congr 1
  · refine List.map_congr_left fun x hx => ?_
    simp only [Function.comp_apply]
    rw [if_neg (ne x (.inl hx))]
  · congr 1
    · simp [hk]
    · refine List.map_congr_left fun x hx => ?_
      simp only [Function.comp_apply]
      rw [if_neg (ne x (.inr hx))]
/-- One is the first of its class. -/
theorem entT_new {C : Nat → Nat} {n i : Nat} (hn : Names n C) (hi : i < n) (hc : C i = i) {E : List Ent} {q : Option Addr} {cap : Nat} {X : Rws} (h : km E = entT C i) :
    km (E ++ [⟨i, q, cap, [i], X⟩]) = entT C (i + 1) := by
  have e0 : ((List.range i).filter fun u => C u == i) = [] := List.filter_eq_nil_iff.2 fun u hu => by
    have hu := List.mem_range.1 hu
    have := hn.le u (by omega)
    simp; omega
  unfold entT
  rw [filter_succ (fun v => C v == v), if_pos (by simpa using hc), List.map_append]
  unfold km at h ⊢
  rw [List.map_append, h]
  unfold entT
  congr 1
  · refine List.map_congr_left fun c hc2 => ?_
    have hc3 := List.mem_range.1 (List.mem_filter.1 hc2).1
    rw [filter_succ, if_neg (by simp; omega), List.append_nil]
  · simp only [List.map_cons, List.map_nil]
    rw [filter_succ, if_pos (by simpa using hc), e0]; rfl

theorem keyEq_int {a b : Nat} : keyEq (.int .i64 (a : Int)) (.int .i64 (b : Int)) = (a == b) := by
  unfold keyEq; rw [Bool.eq_iff_iff]; simp; omega

section
variable {h0 : Base} {R : Rws} {C : Nat → Nat} {z : DS} {a : DA}
theorem dlist_l0 {K2 : Heap → Prop} {b : Nat} (hf : Base.free h0 b) (hn : z.n ≤ 4096)
    (hk : ∀ h' U E, DInv { z with up := U } C → km E = entT C z.n → okE E → St (h0.with b (mapObj (kvE E))) h' (rowsE E ++ (({ z with up := U } : DS).rows a ++ R)) → K2 h') :
    ∀ (d i : Nat) (h : Heap) (U : Nat → Nat) (E : List Ent), i + d = z.n → DInv { z with up := U } C → km E = entT C i → okE E → St (h0.with b (mapObj (kvE E))) h (rowsE E ++ (({ z with up := U } : DS).rows a ++ R)) →
      dsu_Classes_List.l0 K2 (d + 1) (some ⟨a.b, 0, none⟩) (some b) (z.n : Int) (i : Int) h
  | 0, i, h, U, E, hi, iv, hm, ho, s => by
    unfold dsu_Classes_List.l0 dsu_Classes_List.b0
    have e : i = z.n := by omega
    subst e
    exact iteB_neg (decide_eq_false (by omega)) (hk h U E iv hm ho s)
  | d + 1, i, h, U, E, hi, iv, hm, ho, s => by
    unfold dsu_Classes_List.l0 dsu_Classes_List.b0
    have hin : i < z.n := by omega
    have na : Names z.n C := iv.names
    refine iteB_pos (decide_eq_true (by omega)) ?_
    have s' : St (h0.with b (mapObj (kvE E))) h (({ z with up := U } : DS).rows a ++ (rowsE E ++ R)) := s.flip
    refine callP1.self (DOf_of (v := (i : Int)) iv s' fun h1 U1 iv1 s1 => ?_)
    have hof : ofF C z.n (i : Int) = (C i : Int) := by unfold ofF; rw [if_pos (by omega), Int.toNat_natCast]
    show chkM (some b) _
    rw [chkM_some]
    rw [show ofF C ({ z with up := U } : DS).n (i : Int) = (C i : Int) from hof]
    refine ⟨kvE E, ⟨s1.mapAt, kvE_key E⟩, ?_⟩
    by_cases hc : C i = i
    · -- a new class
      have hne : ∀ e ∈ kvE E, keyEq (.int .i64 (C i : Int)) e.1 = false := fun e he => by
        obtain ⟨x, hx, rfl⟩ := List.mem_map.1 he
        have := mem_entT hm hx
        show keyEq _ (.int .i64 (x.key : Int)) = false
        rw [keyEq_int]; simp; omega
      rw [getM_none hne]
      refine ⟨none, 0, 0, rfl, ?_⟩
      refine Own.push1 (X := []) Own.nil (show St _ h1 ([] ++ (({ z with up := U1 } : DS).rows a ++ (rowsE E ++ R))) from s1) rfl rfl (by simp) fun q2 c2 X2 h2 o2 s2 => ?_
      show chkM (some b) _
      rw [chkM_some]
      refine ⟨kvE E, ⟨s2.mapAt, kvE_key E⟩, ?_⟩
      rw [putM_none hne]
      refine bindV_intro fun h3 e3 => ?_
      have s3 := s2.setO (o' := mapObj (kvE E ++ [(Value.int .i64 (C i : Int), .slice q2 ([] : List Value).length.succ c2)])) hf rfl
      rw [wrap64 (by omega) (by omega)]
      refine dlist_l0 hf hn hk d (i + 1) h3 U1 (E ++ [⟨i, q2, c2, [i], X2⟩]) (by omega) iv1 (entT_new na hin hc hm) (fun e he => ?_) ?_
      · rcases List.mem_append.1 he with he | he
        · exact ho e he
        · simp only [List.mem_singleton] at he; subst he; simpa [nums] using o2
      · have ek : kvE (E ++ [⟨i, q2, c2, [i], X2⟩]) = kvE E ++ [(Value.int .i64 (C i : Int), .slice q2 ([] : List Value).length.succ c2)] := by
          unfold kvE; rw [List.map_append]; simp [hc]
        have er : rowsE (E ++ [⟨i, q2, c2, [i], X2⟩]) = rowsE E ++ X2 := by unfold rowsE; rw [List.flatMap_append]; simp
        rw [ek, er, e3]
        exact (St.re s3 (by intro a; simp only [cntR_append, cntR_cons, cntR_nil, List.cons_append, List.nil_append, List.set_cons_zero, List.set_cons_succ]; omega))
    · -- a class that there is
      have hlt : C i < i := by have := na.le i hin; omega
      have hcm : (C i, (List.range i).filter fun u => C u == C i) ∈ km E := by
        rw [hm]; exact List.mem_map.2 ⟨C i, List.mem_filter.2 ⟨List.mem_range.2 hlt, by simpa using na.idem i hin⟩, rfl⟩
      obtain ⟨e, heE, hke⟩ := List.mem_map.1 hcm
      obtain ⟨A, B, rfl⟩ := List.append_of_mem heE
      have hek : e.key = C i := (Prod.mk.inj hke).1
      have hA : ∀ x ∈ kvE A, keyEq (.int .i64 (C i : Int)) x.1 = false := fun x hx => by
        obtain ⟨y, hy, rfl⟩ := List.mem_map.1 hx
        show keyEq _ (.int .i64 (y.key : Int)) = false
        rw [keyEq_int]
        have nd := keys_nodup hm
        rw [List.map_append, List.map_cons, List.nodup_append] at nd
        have := nd.2.2 y.key (List.mem_map.2 ⟨y, hy, rfl⟩) e.key (by simp)
        simp; omega
      have ek : kvE (A ++ e :: B) = kvE A ++ (Value.int .i64 (e.key : Int), Value.slice e.q e.mem.length e.cap) :: kvE B := by unfold kvE; rw [List.map_append, List.map_cons]
      have hke2 : keyEq (.int .i64 (C i : Int)) (.int .i64 (e.key : Int)) = true := by rw [keyEq_int]; simp [hek]
      have er : rowsE (A ++ e :: B) = rowsE A ++ (e.X ++ rowsE B) := by unfold rowsE; rw [List.flatMap_append, List.flatMap_cons]
      rw [ek, getM_mid hA hke2]
      refine ⟨e.q, e.mem.length, e.cap, rfl, ?_⟩
      rw [ek, er] at s1
      have s1 : St (h0.with b (mapObj (kvE A ++ (Value.int .i64 (e.key : Int), Value.slice e.q e.mem.length e.cap) :: kvE B))) h1 (e.X ++ (rowsE A ++ (rowsE B ++ (({ z with up := U1 } : DS).rows a ++ R)))) := (St.re s1 (by intro a; simp only [cntR_append, cntR_cons, cntR_nil, List.cons_append, List.nil_append, List.set_cons_zero, List.set_cons_succ]; omega))
      have ml : e.mem.length ≤ i := by rw [(mem_entT hm heE).2.2]; exact filter_le _ _
      refine Own.push1 (ho e heE) s1 (nums_len _).symm rfl (by rw [nums_len]; omega) fun q2 c2 X2 h2 o2 s2 => ?_
      show chkM (some b) _
      rw [chkM_some]
      have kk := kvE_key (A ++ e :: B)
      rw [ek] at kk
      refine ⟨_, ⟨s2.mapAt, kk⟩, ?_⟩
      rw [putM_mid hA hke2, nums_len]
      refine bindV_intro fun h3 e3 => ?_
      have s3 := s2.setO (o' := mapObj (kvE A ++ (Value.int .i64 (C i : Int), Value.slice q2 (e.mem.length + 1) c2) :: kvE B)) hf rfl
      rw [wrap64 (by omega) (by omega)]
      refine dlist_l0 hf hn hk d (i + 1) h3 U1 (A ++ ⟨C i, q2, c2, e.mem ++ [i], X2⟩ :: B) (by omega) iv1 (entT_old na hin hc hm hek) (fun x hx => ?_) ?_
      · rcases List.mem_append.1 hx with hx | hx
        · exact ho x (by simp [hx])
        · rcases List.mem_cons.1 hx with rfl | hx
          · simpa [nums_app, nums_one] using o2
          · exact ho x (by simp [hx])
      · have ek2 : kvE (A ++ ⟨C i, q2, c2, e.mem ++ [i], X2⟩ :: B) = kvE A ++ (Value.int .i64 (C i : Int), Value.slice q2 (e.mem.length + 1) c2) :: kvE B := by
          unfold kvE; rw [List.map_append, List.map_cons]; simp
        have er2 : rowsE (A ++ ⟨C i, q2, c2, e.mem ++ [i], X2⟩ :: B) = rowsE A ++ (X2 ++ rowsE B) := by unfold rowsE; rw [List.flatMap_append, List.flatMap_cons]
        rw [ek2, er2, e3]
        exact (St.re s3 (by intro a; simp only [cntR_append, cntR_cons, cntR_nil, List.cons_append, List.nil_append, List.set_cons_zero, List.set_cons_succ]; omega))
end
end Go.Proofs.YtbhndlpjfncliaaGreat

namespace Go.Proofs.YtbhndlpjfncliaaGreat
set_option linter.unusedVariables false
set_option linter.unusedSimpArgs false
set_option linter.unnecessarySimpa false
open Go.Hp Go.RowKit Go.Sort
attribute [local irreducible] Go.Hp.iteB Go.Hp.stC Go.Hp.newP

theorem clsF_head {C : Nat → Nat} {n c : Nat} (hn : Names n C) (hc : c < n) (hcc : C c = c) : ∃ r, clsF C n c = c :: r := by
  obtain ⟨k, rfl⟩ : ∃ k, n = c + (k + 1) := ⟨n - c - 1, by omega⟩
  unfold clsF
  rw [List.range_add, List.filter_append, List.filter_eq_nil_iff.2 (fun u hu => by
    have hu := List.mem_range.1 hu
    have := hn.le u (by omega)
    simp; omega), List.nil_append, List.range_succ_eq_map, List.map_cons, List.filter_cons]
  simp [hcc]

/-- How two are compared. -/
def cf3 (x y : Nat) : Int := if x < y then -1 else if x > y then 1 else 0
theorem compare3_of {x y : Nat} {h : Heap} {K : Int → Heap → Prop} (hk : K (cf3 x y) h) : cmp_Compare_int (x : Int) (y : Int) h K := by
  unfold cmp_Compare_int
  refine qcallP1.of false (fun R hR => by unfold cmp_isNaN_int; simpa using hR) ?_
  refine qcallP1.of false (fun R hR => by unfold cmp_isNaN_int; simpa using hR) ?_
  refine iteB_neg rfl (iteB_neg rfl ?_)
  unfold cf3 at hk
  refine iteB_intro (fun e => ?_) (fun e => ?_)
  · have e := of_decide_eq_true e
    rwa [if_pos (by omega)] at hk
  · have e := of_decide_eq_false e
    rw [if_neg (by omega)] at hk
    refine iteB_intro (fun e2 => ?_) (fun e2 => ?_)
    · have e2 := of_decide_eq_true e2
      rwa [if_pos (by omega)] at hk
    · have e2 := of_decide_eq_false e2
      rwa [if_neg (by omega)] at hk

section
variable {E : List Ent}
abbrev EE (E : List Ent) := { e : Ent // e ∈ E }
def encE (x : EE E) : Value := .slice x.1.q x.1.mem.length x.1.cap
def cfE (x y : EE E) : Int := cf3 x.1.key y.1.key
theorem ltE (x y : EE E) : ltOf cfE x y = decide (x.1.key < y.1.key) := by
  unfold ltOf cfE cf3
  refine decide_eq_decide.2 ?_
  split
  · rename_i h; simp [h]
  · split <;> simp <;> omega
theorem swoE : SWO (ltOf (cfE (E := E))) where
  irrefl x := by rw [ltE]; simp
  trans x y z := by simp only [ltE, decide_eq_true_eq]; omega
  ntrans x y z := by simp only [ltE, decide_eq_false_iff_not]; omega

variable {B : Base} {R : Rws}
theorem keepsE (ho : okE E) {e : Ent} (he : e ∈ E) : Keeps B (rowsE E ++ R) e.q (nums e.mem) := by
  refine (ho e he).keeps fun x hx => ?_
  rw [List.mem_append]; left
  exact List.mem_flatMap.2 ⟨e, he, hx⟩
theorem cmpE [Inhabited (EE E)] (ho : okE E) (hm : ∀ e ∈ E, ∃ r, e.mem = e.key :: r) {b n : Nat} {d : Array (EE E)} {z : List Value} {w : World} (s : St B w.heap ((b, d.toList.map encE ++ z) :: (rowsE E ++ R))) (hd : d.size = n) : CmpLays1 Tryz.prog 84 #[] (encE (E := E)) cfE b 0 n w := fun m os dk hdk x y => by
  letI : DKc := ⟨True⟩
  have s2 := s.sorted (n := m) (d' := dk) (os := os) (by omega)
  have one : ∀ x : EE E, ∃ r, x.1.mem = x.1.key :: r ∧ valsAt (sortWorld encE w b 0 m dk os).heap x.1.q (nums (x.1.key :: r)) := fun x => by
    obtain ⟨r, hr⟩ := hm x.1 x.2
    exact ⟨r, hr, by rw [← hr]; exact (keepsE ho x.2).atC s2⟩
  obtain ⟨rx, ex, vx⟩ := one x
  obtain ⟨ry, ey, vy⟩ := one y
  have hc := (dsu_Classes_List_c1.calls (a1 := x.1.q) (a1l := x.1.mem.length) (a1c := x.1.cap) (a2 := y.1.q) (a2l := y.1.mem.length) (a2c := y.1.cap) (h := (sortWorld encE w b 0 m dk os).heap) (K := fun r h' => r = cfE x y ∧ h' = (sortWorld encE w b 0 m dk os).heap) (by
    unfold dsu_Classes_List_c1
    rw [ex, ey]
    have gx : (nums (x.1.key :: rx))[0]? = some (.int .i64 (x.1.key : Int)) := rfl
    have gy : (nums (y.1.key :: ry))[0]? = some (.int .i64 (y.1.key : Int)) := rfl
    obtain ⟨ax, hax, hcx⟩ := vx 0 _ gx
    obtain ⟨ay, hay, hcy⟩ := vy 0 _ gy
    rw [hax, hay, chkP_some]
    refine ⟨⟨by omega, by simp⟩, _, hcx, ?_⟩
    rw [chkP_some]
    refine ⟨⟨by omega, by simp⟩, _, hcy, ?_⟩
    exact qcallP1.of (cfE x y) (fun Q hQ => compare3_of hQ) ⟨rfl, rfl⟩) _ rfl).2
  refine hc.mono ?_
  rintro e w' ⟨v, rfl, ho2, hr⟩
  have hv := dsu_Classes_List_c1.ret_elim (K' := fun v h' => v = .int .i64 (cfE x y) ∧ h' = (sortWorld encE w b 0 m dk os).heap) (by rintro r h' ⟨rfl, rfl⟩; exact ⟨rfl, rfl⟩) hr
  exact ⟨by rw [hv.1], _, #[], (ho2.drewN trivial hv.2).trans (Go.Sort.grow_empty _).symm⟩

theorem SortE_of {h : Heap} {q : Option Addr} {c n : Nat} {d F : List Ent} {X : Rws} {K : Heap → Prop} (ho : okE E) (hm : ∀ e ∈ E, ∃ r, e.mem = e.key :: r) (hi : ∀ x ∈ E, ∀ y ∈ E, x.key = y.key → x = y) (hd : ∀ e ∈ d, e ∈ E) (hn : d.length = n) (hn2 : n < 2 ^ 40)
    (hF : F.Perm d) (hFs : F.Pairwise fun x y => x.key < y.key) (o : Own q c (slV (d.map Ent.sl)) X) (s : St B h (X ++ (rowsE E ++ R)))
    (hk : ∀ X' h', Own q c (slV (F.map Ent.sl)) X' → St B h' (X' ++ (rowsE E ++ R)) → K h') : slices_SortFunc_LLint_Lint_dsu_Classes_List_c1 q n c h K := by
  intro w hw
  subst hw
  refine ⟨enters_of Tryz.func83 (by kernel_rfl) rfl _ _, ?_⟩
  by_cases h0 : d = []
  · subst h0
    have hn : n = 0 := by simpa using hn.symm
    subst hn
    have : F = [] := List.Perm.eq_nil hF
    subst this
    refine (AnyF.slices_SortFunc_none Tryz.sortF0 _ _ _ w).mono ?_
    rintro e w' ⟨rfl, rfl⟩
    exact ⟨_, rfl, Out.refl _, hk X _ o s⟩
  obtain ⟨e0, he0⟩ := List.exists_mem_of_ne_nil d h0
  haveI : Inhabited (EE E) := ⟨⟨e0, hd e0 he0⟩⟩
  rcases o with ⟨rfl, rfl, hl, rfl⟩ | ⟨b, zz, rfl, hc2, rfl⟩
  · have : d = [] := by simpa [slV] using hl
    exact absurd this h0
  obtain ⟨d', hd'⟩ : ∃ d' : List (EE E), d'.map (·.1) = d := ⟨d.attach.map fun x => ⟨x.1, hd _ x.2⟩, by simp⟩
  have hd2 : d'.toArray.toList.map encE = slV (d.map Ent.sl) := by rw [← hd']; simp [encE, slV, Function.comp_def]
  have hsz : d'.toArray.size = n := by rw [← hn, ← hd']; simp
  have s' : St B w.heap ((b, d'.toArray.toList.map encE ++ zz) :: (rowsE E ++ R)) := by rw [hd2]; exact s
  have hH := holds_row (enc := encE) (d := d'.toArray) (z := zz) (s'.rows (b, d'.toArray.toList.map encE ++ zz) (by simp))
  have hlt := (s'.rows (b, d'.toArray.toList.map encE ++ zz) (by simp)).lt
  have HC := Any.slices_SortFunc_total Tryz.sortF encE (fun x => rfl) cfE swoE 84 #[] b 0 c d'.toArray w (fun _ _ => enters_of Tryz.func84 (by kernel_rfl) rfl _ _) (cmpE ho hm s' rfl) hH hlt (by omega) (fun x y h1 h2 => by
    rw [ltE] at h1 h2
    have h1 := of_decide_eq_false h1; have h2 := of_decide_eq_false h2
    exact Subtype.ext (hi _ x.2 _ y.2 (by omega)))
  rw [hsz] at HC
  refine HC.mono ?_
  rintro e w' ⟨rfl, m, os, rfl⟩
  refine ⟨_, rfl, out_sorted, ?_⟩
  have e2 : (d'.mergeSort fun x y => !(ltOf cfE) y x).map (·.1) = F := by
    have p1 : (d'.mergeSort fun x y => !(ltOf cfE) y x).Perm d' := List.mergeSort_perm ..
    have p2 : ((d'.mergeSort fun x y => !(ltOf cfE) y x).map (·.1)).Perm F := by
      have := p1.map (·.1); rw [hd'] at this; exact this.trans hF.symm
    have srt := List.pairwise_mergeSort (le := fun x y : EE E => !(ltOf cfE) y x) (fun x y z h1 h2 => by
      simp only [ltE, Bool.not_eq_true', decide_eq_false_iff_not] at *; omega) (fun x y => by simp only [ltE, Bool.or_eq_true, Bool.not_eq_true', decide_eq_false_iff_not]; omega) d'
    refine List.Perm.eq_of_pairwise (le := fun x y : Ent => x.key ≤ y.key) (fun x y hx hy h1 h2 => ?_) ?_ (hFs.imp fun h => Nat.le_of_lt h) p2
    · have hx' : x ∈ E := by obtain ⟨t, _, rfl⟩ := List.mem_map.1 hx; exact t.2
      have hy' : y ∈ E := hd y (hF.mem_iff.1 hy)
      exact hi x hx' y hy' (by omega)
    · refine List.pairwise_map.2 (srt.imp fun {x y} h => ?_)
      simp only [ltE, Bool.not_eq_true', decide_eq_false_iff_not] at h; omega
  have e1 : ((d'.mergeSort fun x y => !(ltOf cfE) y x).toArray.toList.map encE) = slV (F.map Ent.sl) := by rw [← e2]; simp [encE, slV, Function.comp_def]
  have s2 := s'.sorted (n := m) (d' := (d'.toArray.toList.mergeSort fun x y => !(ltOf cfE) y x).toArray) (os := os) (by simp)
  rw [e1] at s2
  refine hk [(b, slV (F.map Ent.sl) ++ zz)] _ (.inr ⟨b, zz, rfl, ?_, rfl⟩) s2
  rw [hc2, List.length_append, List.length_append, slV_len, slV_len, List.length_map, List.length_map, hF.length_eq]
end

/-! ### The range over the map -/
section
variable {B : Base} {R : Rws} {E : List Ent}
theorem seen_perm {n : Nat} {s : List Nat} (hd : s.Nodup) (hb : ∀ i ∈ s, i < n) (hall : ∀ i, i < n → i ∈ s) : s.Perm (List.range n) := by
  refine (List.perm_ext_iff_of_nodup hd List.nodup_range).2 fun i => ?_
  rw [List.mem_range]; exact ⟨hb i, hall i⟩
theorem dlist_l1 {K4 : Option Addr → Nat → Nat → Heap → Prop} {b r : Nat} (hb : B.free b) (hr : (B.with b (mapObj (kvE E))).free r) (hn : E.length ≤ 4096)
    (hk : ∀ (h' : Heap) (seen : List Nat) (q : Option Addr) (c : Nat) (X : Rws), seen.Perm (List.range E.length) → Own q c (slV (seen.map fun i => (E.getD i ⟨0, none, 0, [], []⟩).sl)) X → St B h' (X ++ R) → K4 q E.length c h') :
    ∀ (d : Nat) (seen : List Nat) (h : Heap) (q : Option Addr) (c : Nat) (X : Rws), seen.length + d = E.length → seen.Nodup → (∀ i ∈ seen, i < E.length) → Own q c (slV (seen.map fun i => (E.getD i ⟨0, none, 0, [], []⟩).sl)) X →
      St ((B.with b (mapObj (kvE E))).with r (.mapIter (some b) (kvE E).length seen.toArray (kvE E).length)) h (X ++ R) → dsu_Classes_List.l1 K4 (d + 1) q seen.length c ⟨r, 0, none⟩ h
  | d, seen, h, q, c, X, hsd, hnd, hlt, o, s => by
    unfold dsu_Classes_List.l1 dsu_Classes_List.b1
    intro j
    have hkl := kvE_len E
    have step : d ≠ 0 → ∀ i h', i < E.length → i ∉ seen → St ((B.with b (mapObj (kvE E))).with r (.mapIter (some b) (kvE E).length (seen ++ [i]).toArray (kvE E).length)) h' (X ++ R) → j true h' := by
      intro hd0 i h' hi hno s2
      obtain ⟨d, rfl⟩ := Nat.exists_eq_succ_of_ne_zero hd0
      simp -zeta only [j]
      obtain ⟨e, he⟩ := get_lt hi
      have hge : (kvE E)[i]? = some (Value.int .i64 (e.key : Int), Value.slice e.q e.mem.length e.cap) := by unfold kvE; rw [List.getElem?_map, he]; rfl
      refine iteB_pos rfl ⟨by simp, b, kvE E, seen, i, _, ⟨s2.obj, s2.dropO.mapAt, hge⟩, e.q, e.mem.length, e.cap, rfl, ?_⟩
      refine Own.push1 o s2 (by rw [slV_len, List.length_map]) rfl (by rw [slV_len, List.length_map]; omega) fun q2 c2 X2 h2 o2 s3 => ?_
      have := dlist_l1 hb hr hn hk d (seen ++ [i]) h2 q2 c2 X2 (by simp; omega) (by
        refine List.nodup_append.2 ⟨hnd, by simp, fun x hx y hy e => ?_⟩
        simp only [List.mem_singleton] at hy
        exact hno (hy ▸ e ▸ hx)) (fun x hx => by
        rcases List.mem_append.1 hx with hx | hx
        · exact hlt x hx
        · simp only [List.mem_singleton] at hx; subst hx; exact hi) (by
        rw [List.map_append, slV_app]
        have : slV ([i].map fun i => (E.getD i ⟨0, none, 0, [], []⟩).sl) = [Value.slice e.q e.mem.length e.cap] := by simp [slV, List.getD, he]
        rw [this]; exact o2) s3
      rw [slV_len, List.length_map]
      simpa using this
    have fin : (∀ i, i < E.length → i ∈ seen) → j false h := by
      intro hall
      simp -zeta only [j]
      refine iteB_neg rfl ?_
      have p := seen_perm hnd hlt hall
      have hl := p.length_eq
      rw [List.length_range] at hl
      rw [hl]
      exact hk h seen q c X p o s.dropO.dropO
    clear_value j
    refine ⟨⟨rfl, rfl⟩, b, kvE E, seen, ⟨s.obj, s.dropO.mapAt⟩, fun hall => fin (fun i hi => hall i (by omega)), fun i e hi hno => ?_⟩
    have hil := lt_get hi
    refine bindV_intro fun h2 e2 => step (fun hd0 => ?_) i h2 (by omega) hno ?_
    · -- all have come
      have hsub : seen.length = E.length := by omega
      have : i ∈ seen := by
        refine Classical.byContradiction fun hni => ?_
        have h1 : (i :: seen).Nodup := List.nodup_cons.2 ⟨hni, hnd⟩
        have h2 : (i :: seen) ⊆ List.range E.length := fun x hx => by
          rcases List.mem_cons.1 hx with rfl | hx
          · exact List.mem_range.2 (by omega)
          · exact List.mem_range.2 (hlt x hx)
        have := h1.length_le_of_subset h2
        simp at this; omega
      exact hno this
    · rw [e2]; exact s.setO hr rfl

theorem range_getD {α : Type} (l : List α) (x : α) : (List.range l.length).map (fun i => l.getD i x) = l := by
  apply List.ext_getElem?
  intro i
  by_cases h : i < l.length
  · simp [h, List.getD]
  · rw [List.getElem?_eq_none (by simp; omega), List.getElem?_eq_none (by omega)]

/-- Behind the loop that fills the map. -/
theorem dlist_tail {K : Option Addr → Nat → Nat → Heap → Prop} {C : Nat → Nat} {n b : Nat} {h : Heap} (na : Names n C) (hn : n ≤ 4096) (hb : B.free b) (hm : km E = entT C n) (ho : okE E) (s : St (B.with b (mapObj (kvE E))) h (rowsE E ++ R))
    (hk : ∀ h' q c qs Y, Keeps B Y q (slV qs) → Sls B Y qs (clsL C n) → St B h' (Y ++ R) → K q (clsL C n).length c h') :
    (chkM (some b) fun b7 => ∃ m8, mapAt h b7 m8 ∧ (0 ≤ (0 : Int) ∧ (0 : Int) ≤ (m8.length : Int) ∧ (m8.length : Int) * (24 : Nat) ≤ 2 ^ 47 ∧ (m8.length : Int) ≤ 2 ^ 47) ∧ newP h (.cells (zeroRow [(.slice none 0 0)] (m8.length : Int).toNat).toArray 33) fun a9 h10 => (chkM (some b) fun b11 => ∃ m12, mapAt h10 b11 m12 ∧ newP h10 (.mapIter (some b11) m12.length #[] m12.length) fun a13 h14 => (∃ m17, dsu_Classes_List.l1 (fun z15 z15l z15c h16 => ((callP0 (slices_SortFunc_LLint_Lint_dsu_Classes_List_c1 z15 z15l z15c h16) fun h18 => K z15 z15l z15c h18))) m17 (some a9) ((0 : Int).toNat) ((m8.length : Int).toNat) a13 h14))) := by
  rw [chkM_some]
  have hkl := kvE_len E
  have hl1 : E.length = (clsL C n).length := by
    have : (km E).length = (entT C n).length := by rw [hm]
    simpa [km, entT, clsL, clsT] using this
  have hl2 : E.length ≤ 4096 := by rw [hl1]; exact Nat.le_trans (clsT_le C n n) hn
  have nd := keys_nodup hm
  have hmem : ∀ e ∈ E, e.mem = clsF C n e.key ∧ e.key < n ∧ C e.key = e.key := fun e he => ⟨(mem_entT hm he).2.2, (mem_entT hm he).1, (mem_entT hm he).2.1⟩
  refine ⟨kvE E, s.mapAt, ⟨by omega, by omega, by omega, by omega⟩, ?_⟩
  refine s.new_ fun bo h1 s1 => ?_
  rw [chkM_some]
  refine ⟨kvE E, s1.mapAt, St.newO rfl s1 fun r h2 hr s2 => ⟨E.length + 1, ?_⟩⟩
  have ozz : Own (some ⟨bo, 0, none⟩) (kvE E).length (slV (([] : List Nat).map fun i => (E.getD i ⟨0, none, 0, [], []⟩).sl)) [(bo, zeroRow [Value.slice none 0 0] (kvE E).length)] :=
    .inr ⟨bo, zeroRow [Value.slice none 0 0] (kvE E).length, rfl, by simp [slV, length_zeroRow], by simp [slV]⟩
  have := dlist_l1 (R := rowsE E ++ R) (K4 := fun z15 z15l z15c h16 => callP0 (slices_SortFunc_LLint_Lint_dsu_Classes_List_c1 z15 z15l z15c h16) fun h18 => K z15 z15l z15c h18) hb hr hl2 (fun h3 seen q c X hp o s3 => ?_) E.length [] h2 _ _ _ (by simp) (by simp) (by simp) ozz (by simpa using s2)
  · simpa using this
  · obtain ⟨D, hD⟩ : ∃ D : List Ent, D = seen.map fun i => E.getD i ⟨0, none, 0, [], []⟩ := ⟨_, rfl⟩
    have hDp : D.Perm E := by
      have := hp.map fun i => E.getD i ⟨0, none, 0, [], []⟩
      rw [range_getD, ← hD] at this; exact this
    have o : Own q c (slV (D.map Ent.sl)) X := by rw [hD, List.map_map]; exact o
    refine callP0.self (SortE_of (F := E) ho (fun e he => ?_) (fun x hx y hy e => ?_) (fun e he => hDp.mem_iff.1 he) hDp.length_eq (by omega) hDp.symm ?_ o s3 fun X' h4 o4 s4 => ?_)
    · obtain ⟨h1, h2, h3⟩ := hmem e he
      rw [h1]; exact clsF_head na h2 h3
    · obtain ⟨i, hi⟩ := List.mem_iff_getElem?.1 hx
      obtain ⟨k, hk⟩ := List.mem_iff_getElem?.1 hy
      have g1 : (E.map (·.key))[i]? = some x.key := by rw [List.getElem?_map, hi]; rfl
      have g2 : (E.map (·.key))[k]? = some x.key := by rw [List.getElem?_map, hk, e]; rfl
      obtain ⟨l1, g1⟩ := List.getElem?_eq_some_iff.1 g1
      obtain ⟨l2, g2⟩ := List.getElem?_eq_some_iff.1 g2
      have := (List.getElem_inj (h₀ := l1) (h₁ := l2) nd).1 (g1.trans g2.symm)
      subst this
      rw [hi] at hk; exact Option.some.inj hk
    · have : (E.map (·.key)).Pairwise (· < ·) := by
        have e1 : E.map (·.key) = (km E).map (·.1) := by simp [km]
        rw [e1, hm]
        have e2 : (entT C n).map (·.1) = (List.range n).filter fun v => C v == v := by unfold entT; rw [List.map_map]; exact List.map_id _
        rw [e2]; exact List.pairwise_lt_range.filter _
      exact List.pairwise_map.1 this
    · rw [hl1]
      refine hk h4 q c (E.map Ent.sl) (X' ++ rowsE E) (o4.keeps fun x hx => by simp [hx]) ⟨by rw [List.length_map, hl1], fun i p l h1 h2 => ?_⟩ ((St.re s4 (by intro a; simp only [cntR_append, cntR_cons, cntR_nil, List.cons_append, List.nil_append, List.set_cons_zero, List.set_cons_succ]; omega)))
      have hlt : i < E.length := by have := lt_get h1; simpa using this
      obtain ⟨e, he⟩ := get_lt hlt
      have heE := List.mem_of_getElem? he
      rw [List.getElem?_map, he] at h1
      have h1 := Option.some.inj h1
      have e3 : clsL C n = E.map (·.mem) := by
        have e1 : E.map (·.mem) = (km E).map (·.2) := by simp [km]
        rw [e1, hm]
        unfold clsL clsT entT clsF; rw [List.map_map]; rfl
      rw [e3, List.getElem?_map, he] at h2
      have h2 := Option.some.inj h2
      subst h1; subst h2
      exact ⟨rfl, (ho e heE).keeps fun x hx => by rw [List.mem_append]; right; exact List.mem_flatMap.2 ⟨e, heE, hx⟩⟩
end

section
variable {h0 : Base} {R : Rws} {C : Nat → Nat} {z : DS} {a : DA}
theorem DList_of {K : Option Addr → Nat → Nat → Heap → Prop} {h : Heap} (iv : DInv z C) (s : St h0 h (z.rows a ++ R))
    (hk : ∀ h' U q c qs Y, DInv { z with up := U } C → Keeps h0 Y q (slV qs) → Sls h0 Y qs (clsL C z.n) → St h0 h' (Y ++ (({ z with up := U } : DS).rows a ++ R)) → K q (clsL C z.n).length c h') : dsu_Classes_List (some ⟨a.b, 0, none⟩) h K := by
  unfold dsu_Classes_List
  refine St.newO rfl s fun b h1 hb s1 => ?_
  refine qcallP1.of (z.n : Int) (fun Q hQ => DRoom_of s1 hQ) ⟨z.n + 1, ?_⟩
  refine dlist_l0 hb iv.n (fun h2 U E iv2 hm ho s2 => ?_) z.n 0 h1 z.up [] (by omega) iv rfl (fun e he => by cases he) s1
  exact dlist_tail iv.names iv.n hb hm ho s2 fun h3 q c qs Y k1 k2 s3 => hk h3 U q c qs Y iv2 k1 k2 s3
theorem DList_nil {K : Option Addr → Nat → Nat → Heap → Prop} {h : Heap} (s : St h0 h R) (hk : ∀ h' q c, St h0 h' R → K q 0 c h') : dsu_Classes_List none h K := by
  unfold dsu_Classes_List
  refine St.newO rfl s fun b h1 hb s1 => ?_
  refine qcallP1.of 0 (fun Q hQ => DRoom_nil hQ) ⟨1, ?_⟩
  unfold dsu_Classes_List.l0 dsu_Classes_List.b0
  refine iteB_neg rfl ?_
  exact dlist_tail (C := fun v => v) (n := 0) (E := []) (Names.id 0) (by omega) hb rfl (fun e he => by cases he) s1 fun h3 q c qs Y k1 k2 s3 => hk h3 q c s3.drop
end
end Go.Proofs.YtbhndlpjfncliaaGreat

namespace Go.Proofs.YtbhndlpjfncliaaGreat
set_option linter.unusedVariables false
set_option linter.unusedSimpArgs false
set_option linter.unnecessarySimpa false
open Go.Hp Go.RowKit
attribute [local irreducible] Go.Hp.iteB Go.Hp.stC Go.Hp.newP

section
variable {h : Heap} {p1 p2 : Option Addr} {c1 c2 n n1 n2 : Nat} {K0 : Bool → Heap → Prop} {K2 : Heap → Prop} {K : Bool → Heap → Prop}
theorem ints_l0 {l1 l2 : List Int} (v1 : valsAt h p1 (l1.map (Value.int .i64))) (v2 : valsAt h p2 (l2.map (Value.int .i64))) (h1 : l1.length = n) (h2 : l2.length = n) (hn : n < 9223372036854775808) (hk0 : l1 ≠ l2 → K0 false h) (hk2 : l1 = l2 → K2 h) :
    ∀ (d i : Nat), i + d = n → l1.take i = l2.take i → straitref09_Ints.l0 K0 K2 (d + 1) p1 n c1 p2 n c2 (i : Int) h
  | 0, i, hi, he => by
    unfold straitref09_Ints.l0 straitref09_Ints.b0
    refine iteB_neg (decide_eq_false (by omega)) (hk2 ?_)
    rwa [List.take_of_length_le (by omega), List.take_of_length_le (by omega)] at he
  | d + 1, i, hi, he => by
    unfold straitref09_Ints.l0 straitref09_Ints.b0
    obtain ⟨x, hx⟩ := get_lt (l := l1) (i := i) (by omega)
    obtain ⟨y, hy⟩ := get_lt (l := l2) (i := i) (by omega)
    refine iteB_pos (decide_eq_true (by omega)) ?_
    simp -zeta (disch := omega) only [chkP_some, iteB_true, iteB_false, add_mk, Nat.zero_add, Nat.add_zero, Nat.mul_one, Nat.reduceAdd, Int.toNat_natCast, ex_int, ex_slice, ex_ptr, ex_bool, ex_str, ex_flt, ex_any, bnd_in, List.getElem?_cons_zero, List.getElem?_cons_succ, List.set_cons_zero, List.set_cons_succ, List.cons_append, List.nil_append, bne_self_eq_false, beq_self_eq_true, Bool.not_true, Bool.not_false, Option.isNone_some, Option.isNone_none, eq_self, true_and, and_true, and_self, vals_int v1 (show (l1.map (Value.int .i64))[i]? = some (.int .i64 x) by simp [hx]), vals_int v2 (show (l2.map (Value.int .i64))[i]? = some (.int .i64 y) by simp [hy])]
    refine iteB_intro (fun c => hk0 ?_) (fun c => ?_)
    · rintro rfl; rw [hx] at hy; cases hy; simp at c
    · have c : x = y := by simpa using c
      rw [wrap64 (by omega) (by omega)]
      exact ints_l0 v1 v2 h1 h2 hn hk0 hk2 d (i + 1) (by omega) (by rw [take_snoc hx, take_snoc hy, he, c])
theorem Ints_of {l1 l2 : List Int} (v1 : valsAt h p1 (l1.map (Value.int .i64))) (v2 : valsAt h p2 (l2.map (Value.int .i64))) (h1 : n1 = l1.length) (h2 : n2 = l2.length) (hn : n1 < 9223372036854775808) (hk : K (decide (l1 = l2)) h) : straitref09_Ints p1 n1 c1 p2 n2 c2 h K := by
  unfold straitref09_Ints
  subst h1 h2
  by_cases e : l1.length = l2.length
  · refine iteB_neg (by simp; omega) ⟨l1.length + 1, ?_⟩
    rw [← e]
    exact ints_l0 v1 v2 rfl e.symm hn (fun hne => by rw [decide_eq_false hne] at hk; exact hk) (fun he => by rw [decide_eq_true he] at hk; exact hk) l1.length 0 (by omega) rfl
  · refine iteB_pos (by simp; omega) ?_
    rw [decide_eq_false (fun h => e (by rw [h]))] at hk; exact hk
theorem nums_map (l : List Nat) : nums l = (l.map fun v : Nat => (v : Int)).map (Value.int .i64) := by simp [nums]
theorem IntsN_of {l : List Nat} (v1 : valsAt h p1 (nums l)) (v2 : valsAt h p2 (nums l)) (h1 : n1 = l.length) (h2 : n2 = l.length) (hn : l.length < 2 ^ 40) (hk : K true h) : straitref09_Ints p1 n1 c1 p2 n2 c2 h K := by
  rw [nums_map] at v1 v2
  exact Ints_of v1 v2 (by simpa using h1) (by simpa using h2) (by omega) (by rw [decide_eq_true rfl]; exact hk)

theorem val_slice {q q' : Option Addr} {i l c : Nat} {vs : List Value} {G : Option Addr → Nat → Nat → Prop} (hv : valsAt h q vs) (hx : vs[i]? = some (.slice q' l c)) : (chkP q fun a => ∃ (x : Option Addr) (xl xc : Nat), cell h (a.add i) = some (.slice x xl xc) ∧ G x xl xc) = G q' l c := by
  obtain ⟨a, rfl, ha⟩ := hv i _ hx
  rw [chkP_some, ha]; exact ex_slice

theorem lists_l0 {B : Base} {L Y1 Y2 : Rws} {qs1 qs2 : List SlT} {ls : List (List Nat)} (s : St B h L) (k1 : valsAt h p1 (slV qs1)) (k2 : valsAt h p2 (slV qs2)) (s1 : Sls B Y1 qs1 ls) (s2 : Sls B Y2 qs2 ls) (hy1 : ∀ x ∈ Y1, x ∈ L) (hy2 : ∀ x ∈ Y2, x ∈ L) (hn : ls.length = n) (hb : n < 2 ^ 40) (hl : ∀ l ∈ ls, l.length < 2 ^ 40) (hk2 : K2 h) :
    ∀ (d i : Nat), i + d = n → straitref10_Lists.l0 K0 K2 (d + 1) p1 n c1 p2 n c2 (i : Int) h
  | 0, i, hi => by
    unfold straitref10_Lists.l0 straitref10_Lists.b0
    exact iteB_neg (decide_eq_false (by omega)) hk2
  | d + 1, i, hi => by
    unfold straitref10_Lists.l0 straitref10_Lists.b0
    obtain ⟨l, hx⟩ := get_lt (l := ls) (i := i) (by omega)
    obtain ⟨a, ha⟩ := get_lt (l := qs1) (i := i) (by rw [s1.1]; omega)
    obtain ⟨b, hb2⟩ := get_lt (l := qs2) (i := i) (by rw [s2.1]; omega)
    obtain ⟨a1, a2⟩ := s1.2 i a l ha hx
    obtain ⟨b1, b2⟩ := s2.2 i b l hb2 hx
    refine iteB_pos (decide_eq_true (by omega)) ?_
    simp -zeta (disch := omega) only [chkP_some, iteB_true, iteB_false, add_mk, Nat.zero_add, Nat.add_zero, Nat.mul_one, Nat.reduceAdd, Int.toNat_natCast, ex_int, ex_slice, ex_ptr, ex_bool, ex_str, ex_flt, ex_any, bnd_in, List.getElem?_cons_zero, List.getElem?_cons_succ, List.set_cons_zero, List.set_cons_succ, List.cons_append, List.nil_append, bne_self_eq_false, beq_self_eq_true, Bool.not_true, Bool.not_false, Option.isNone_some, Option.isNone_none, eq_self, true_and, and_true, and_self, val_slice k1 (slV_get ha), val_slice k2 (slV_get hb2)]
    refine qcallP1.of true (fun Q hQ => IntsN_of (a2 h L s hy1) (b2 h L s hy2) a1 b1 (hl l (List.mem_of_getElem? hx)) hQ) (iteB_neg rfl ?_)
    rw [wrap64 (by omega) (by omega)]
    exact lists_l0 s k1 k2 s1 s2 hy1 hy2 hn hb hl hk2 d (i + 1) (by omega)
theorem Lists_of {B : Base} {L Y1 Y2 : Rws} {qs1 qs2 : List SlT} {ls : List (List Nat)} (s : St B h L) (k1 : Keeps B Y1 p1 (slV qs1)) (k2 : Keeps B Y2 p2 (slV qs2)) (s1 : Sls B Y1 qs1 ls) (s2 : Sls B Y2 qs2 ls) (hy1 : ∀ x ∈ Y1, x ∈ L) (hy2 : ∀ x ∈ Y2, x ∈ L) (hb : ls.length < 2 ^ 40) (hl : ∀ l ∈ ls, l.length < 2 ^ 40) (hk : K true h) :
    straitref10_Lists p1 ls.length c1 p2 ls.length c2 h K := by
  unfold straitref10_Lists
  exact iteB_neg (by simp) ⟨ls.length + 1, lists_l0 s (k1 h L s hy1) (k2 h L s hy2) s1 s2 hy1 hy2 rfl hb hl hk ls.length 0 (by omega)⟩
theorem clsL_small {C : Nat → Nat} {n : Nat} (hn : n ≤ 4096) : (clsL C n).length < 2 ^ 40 ∧ ∀ l ∈ clsL C n, l.length < 2 ^ 40 := by
  refine ⟨by have := clsT_le C n n; unfold clsL; omega, fun l hl => ?_⟩
  obtain ⟨c, _, rfl⟩ := List.mem_map.1 hl
  have := clsF_le C n c; omega
end
end Go.Proofs.YtbhndlpjfncliaaGreat
