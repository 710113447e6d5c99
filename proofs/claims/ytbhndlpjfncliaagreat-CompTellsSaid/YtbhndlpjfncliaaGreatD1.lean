/-
  Classes that are joined, in plain words: what is called how, and a forest that stands for it.
-/
import Derived.Test.YtbhndlpjfncliaaGreatMp
namespace Go.Proofs.YtbhndlpjfncliaaGreat
set_option linter.unusedVariables false
set_option linter.unusedSimpArgs false
set_option linter.unnecessarySimpa false
open Go.Hp Go.RowKit

/-- Names: each class is called by its least. -/
structure Names (n : Nat) (C : Nat → Nat) : Prop where
  le : ∀ v, v < n → C v ≤ v
  idem : ∀ v, v < n → C (C v) = C v
theorem Names.lt {n : Nat} {C : Nat → Nat} (h : Names n C) {v : Nat} (hv : v < n) : C v < n := Nat.lt_of_le_of_lt (h.le v hv) hv
theorem Names.id (n : Nat) : Names n fun v => v := ⟨fun _ _ => Nat.le_refl _, fun _ _ => rfl⟩
/-- Who is called so. -/
def clsF (C : Nat → Nat) (n c : Nat) : List Nat := (List.range n).filter fun u => C u == c
def headF (C : Nat → Nat) (n : Nat) : List Nat := (List.range n).filter fun v => C v == v

/-- Two are one. -/
def joinF (cu cv c : Nat) : Nat := if c = cu ∨ c = cv then min cu cv else c
theorem joinF_in {cu cv c : Nat} (h : c = cu ∨ c = cv) : joinF cu cv c = min cu cv := if_pos h
theorem joinF_out {cu cv c : Nat} (h : ¬ (c = cu ∨ c = cv)) : joinF cu cv c = c := if_neg h
theorem min_or (a b : Nat) : min a b = a ∨ min a b = b := by omega
theorem joinF_idem (cu cv c : Nat) : joinF cu cv (joinF cu cv c) = joinF cu cv c := by
  by_cases h : c = cu ∨ c = cv
  · rw [joinF_in h, joinF_in (min_or cu cv)]
  · rw [joinF_out h, joinF_out h]
theorem joinF_le {cu cv c : Nat} : joinF cu cv c ≤ c := by
  by_cases h : c = cu ∨ c = cv
  · rw [joinF_in h]; rcases h with rfl | rfl <;> omega
  · rw [joinF_out h]; exact Nat.le_refl _
theorem joinF_same (c x : Nat) : joinF c c x = x := by
  by_cases h : x = c ∨ x = c
  · rw [joinF_in h]; rcases h with rfl | rfl <;> omega
  · exact joinF_out h
theorem Names.join {n : Nat} {C : Nat → Nat} (h : Names n C) {u v : Nat} (hu : u < n) (hv : v < n) : Names n fun x => joinF (C u) (C v) (C x) := by
  refine ⟨fun x hx => Nat.le_trans joinF_le (h.le x hx), fun x hx => ?_⟩
  show joinF _ _ (C (joinF _ _ (C x))) = joinF _ _ (C x)
  have e : C (joinF (C u) (C v) (C x)) = joinF (C u) (C v) (C x) := by
    by_cases c : C x = C u ∨ C x = C v
    · rw [joinF_in c]
      rcases min_or (C u) (C v) with e | e <;> rw [e]
      · exact h.idem u hu
      · exact h.idem v hv
    · rw [joinF_out c]; exact h.idem x hx
  rw [e, joinF_idem]

theorem filter_or_len {α : Type} (p q r : α → Bool) (hr : ∀ x, r x = (p x || q x)) (hd : ∀ x, ¬ (p x = true ∧ q x = true)) : ∀ l : List α, (l.filter r).length = (l.filter p).length + (l.filter q).length
  | [] => rfl
  | x :: l => by
    have ih := filter_or_len p q r hr hd l
    have := hd x
    have h2 := hr x
    cases hp : p x <;> cases hq : q x <;> simp_all <;> omega

/-- A forest. -/
structure DS where
  n : Nat
  up : Nat → Nat
  size : Nat → Nat
  least : Nat → Nat
  cnt : Nat
structure DInv (z : DS) (C : Nat → Nat) : Prop where
  n : z.n ≤ 4096
  names : Names z.n C
  up : ∀ v, v < z.n → z.up v < z.n ∧ C (z.up v) = C v
  rank : ∃ d : Nat → Nat, ∀ v, v < z.n → z.up v ≠ v → d (z.up v) < d v
  root : ∀ v, v < z.n → z.up v = v → z.least v = C v ∧ z.size v = (clsF C z.n (C v)).length
  uniq : ∀ u v, u < z.n → v < z.n → z.up u = u → z.up v = v → C u = C v → u = v
  cnt : z.cnt = (headF C z.n).length
theorem clsF_le (C : Nat → Nat) (n c : Nat) : (clsF C n c).length ≤ n := by
  have := List.length_filter_le (fun u => C u == c) (List.range n); simpa [clsF] using this
theorem headF_le (C : Nat → Nat) (n : Nat) : (headF C n).length ≤ n := by
  have := List.length_filter_le (fun u => C u == u) (List.range n); simpa [headF] using this

theorem filter_one {n v : Nat} (hv : v < n) : (List.range n).filter (fun u => u == v) = [v] := by
  induction n with
  | zero => omega
  | succ n ih =>
    rw [List.range_succ, List.filter_append]
    by_cases h : v = n
    · subst h
      rw [List.filter_eq_nil_iff.2 (fun x hx => by have := List.mem_range.1 hx; simp; omega)]; simp
    · rw [ih (by omega)]; simp; omega
def DS.new (n : Nat) : DS := ⟨n, fun v => v, fun _ => 1, fun v => v, n⟩
theorem DInv.new {n : Nat} (hn : n ≤ 4096) : DInv (DS.new n) fun v => v where
  n := hn
  names := Names.id n
  up := fun v hv => ⟨hv, rfl⟩
  rank := ⟨fun _ => 0, fun v _ h => absurd rfl h⟩
  root := fun v hv _ => ⟨rfl, by
    have hv : v < n := hv
    show 1 = ((List.range n).filter fun u => u == v).length
    rw [filter_one hv]; rfl⟩
  uniq := fun u v _ _ _ _ h => h
  cnt := by
    show n = ((List.range n).filter fun v => v == v).length
    rw [List.filter_eq_self.2 (fun x _ => by simp), List.length_range]

/-- A way that is shorter. -/
theorem DInv.half {z : DS} {C : Nat → Nat} (iv : DInv z C) {v : Nat} (hv : v < z.n) (hne : z.up v ≠ v) : DInv { z with up := upd z.up v (z.up (z.up v)) } C := by
  obtain ⟨h1, h2⟩ := iv.up v hv
  obtain ⟨h3, h4⟩ := iv.up _ h1
  obtain ⟨d, hd⟩ := iv.rank
  have dy : d (z.up (z.up v)) < d v := by
    by_cases c : z.up (z.up v) = z.up v
    · rw [c]; exact hd v hv hne
    · have := hd _ h1 c; have := hd v hv hne; omega
  have ny : z.up (z.up v) ≠ v := fun e => by rw [e] at dy; omega
  have rt : ∀ {w}, upd z.up v (z.up (z.up v)) w = w → z.up w = w := fun {w} hw => by
    by_cases c : w = v
    · subst c; rw [upd_same] at hw; exact absurd hw ny
    · rwa [upd_ne _ _ c] at hw
  refine ⟨iv.n, iv.names, fun w hw => ?_, ⟨d, fun w hw hwn => ?_⟩, fun w hw hwr => iv.root w hw (rt hwr), fun a b ha hb ra rb e => iv.uniq a b ha hb (rt ra) (rt rb) e, iv.cnt⟩
  · by_cases c : w = v
    · subst c; show upd _ _ _ _ < _ ∧ C (upd _ _ _ _) = _; rw [upd_same]; exact ⟨h3, by rw [h4, h2]⟩
    · show upd _ _ _ _ < _ ∧ C (upd _ _ _ _) = _; rw [upd_ne _ _ c]; exact iv.up w hw
  · show d (upd _ _ _ _) < _
    have hwn : upd z.up v (z.up (z.up v)) w ≠ w := hwn
    by_cases c : w = v
    · subst c; rw [upd_same]; exact dy
    · rw [upd_ne _ _ c] at hwn ⊢; exact hd w hw hwn

/-- Two roots: the second one below the first. -/
def DS.link (z : DS) (a b : Nat) : DS := { z with up := upd z.up b a, size := upd z.size a (z.size a + z.size b), least := upd z.least a (min (z.least a) (z.least b)), cnt := z.cnt - 1 }
theorem DInv.link {z : DS} {C : Nat → Nat} (iv : DInv z C) {a b : Nat} (ha : a < z.n) (hb : b < z.n) (ra : z.up a = a) (rb : z.up b = b) (hne : a ≠ b) : DInv (z.link a b) fun x => joinF (C a) (C b) (C x) := by
  have hc : C a ≠ C b := fun e => hne (iv.uniq a b ha hb ra rb e)
  obtain ⟨d, hd⟩ := iv.rank
  have rt : ∀ {w}, upd z.up b a w = w → w ≠ b ∧ z.up w = w := fun {w} hw => by
    by_cases c : w = b
    · subst c; rw [upd_same] at hw; exact absurd hw hne
    · rw [upd_ne _ _ c] at hw; exact ⟨c, hw⟩
  have out : ∀ {w}, w < z.n → w ≠ a → w ≠ b → z.up w = w → ¬ (C w = C a ∨ C w = C b) := fun {w} hw h1 h2 hr h => by
    rcases h with h | h
    · exact h1 (iv.uniq w a hw ha hr ra h)
    · exact h2 (iv.uniq w b hw hb hr rb h)
  have na := iv.names
  refine ⟨iv.n, na.join ha hb, fun w hw => ?_, ⟨fun x => if C x = C b then d x + d a + 1 else d x, fun w hw hwn => ?_⟩, fun w hw hwr => ?_, fun u v hu hv ru rv e => ?_, ?_⟩
  · show upd z.up b a w < z.n ∧ joinF _ _ (C (upd z.up b a w)) = _
    by_cases c : w = b
    · subst c; rw [upd_same]; exact ⟨ha, by rw [joinF_in (.inl rfl), joinF_in (.inr rfl)]⟩
    · rw [upd_ne _ _ c]; obtain ⟨h1, h2⟩ := iv.up w hw; exact ⟨h1, by rw [h2]⟩
  · have hwn : upd z.up b a w ≠ w := hwn
    show (if C (upd z.up b a w) = C b then d (upd z.up b a w) + d a + 1 else d (upd z.up b a w)) < (if C w = C b then d w + d a + 1 else d w)
    by_cases c : w = b
    · subst c; rw [upd_same, if_neg hc, if_pos rfl]; omega
    · rw [upd_ne _ _ c] at hwn ⊢
      rw [(iv.up w hw).2]
      have := hd w hw hwn
      split <;> omega
  · obtain ⟨h1, h2⟩ := rt hwr
    show upd z.least a _ w = joinF _ _ (C w) ∧ upd z.size a _ w = (clsF (fun x => joinF (C a) (C b) (C x)) z.n (joinF (C a) (C b) (C w))).length
    obtain ⟨l1, l2⟩ := iv.root w hw h2
    by_cases c : w = a
    · subst c
      obtain ⟨l3, l4⟩ := iv.root b hb rb
      rw [upd_same, upd_same, joinF_in (.inl rfl), l1, l3, l2, l4]
      refine ⟨rfl, ?_⟩
      unfold clsF
      refine (filter_or_len (fun u => C u == C w) (fun u => C u == C b) _ (fun x => ?_) (fun x h => ?_) _).symm
      · rw [Bool.eq_iff_iff]
        simp only [beq_iff_eq, Bool.or_eq_true]
        constructor
        · intro h
          by_cases k : C x = C w ∨ C x = C b
          · exact k
          · rw [joinF_out k] at h
            rcases min_or (C w) (C b) with e | e
            · exact .inl (by rw [h, e])
            · exact .inr (by rw [h, e])
        · intro h; exact joinF_in h
      · simp only [beq_iff_eq] at h; exact hc (h.1.symm.trans h.2)
    · have o := out hw c h1 h2
      rw [upd_ne _ _ c, upd_ne _ _ c, joinF_out o]
      refine ⟨l1, l2.trans ?_⟩
      unfold clsF
      congr 1
      refine List.filter_congr fun x _ => ?_
      rw [Bool.eq_iff_iff]
      simp only [beq_iff_eq]
      constructor
      · intro h; rw [h]; exact joinF_out o
      · intro h
        by_cases k : C x = C a ∨ C x = C b
        · rw [joinF_in k] at h
          refine absurd ?_ o
          rcases min_or (C a) (C b) with e | e
          · exact .inl (by rw [← h, e])
          · exact .inr (by rw [← h, e])
        · rwa [joinF_out k] at h
  · obtain ⟨u1, u2⟩ := rt ru
    obtain ⟨v1, v2⟩ := rt rv
    by_cases cu : u = a <;> by_cases cv : v = a
    · rw [cu, cv]
    · subst cu
      have o := out hv cv v1 v2
      simp only [joinF_in (.inl rfl : C u = C u ∨ C u = C b), joinF_out o] at e
      refine absurd ?_ o
      rcases min_or (C u) (C b) with k | k
      · exact .inl (by rw [← e, k])
      · exact .inr (by rw [← e, k])
    · subst cv
      have o := out hu cu u1 u2
      simp only [joinF_in (.inl rfl : C v = C v ∨ C v = C b), joinF_out o] at e
      refine absurd ?_ o
      rcases min_or (C v) (C b) with k | k
      · exact .inl (by rw [e, k])
      · exact .inr (by rw [e, k])
    · have o1 := out hu cu u1 u2
      have o2 := out hv cv v1 v2
      simp only [joinF_out o1, joinF_out o2] at e
      exact iv.uniq u v hu hv u2 v2 e
  · show z.cnt - 1 = (headF (fun x => joinF (C a) (C b) (C x)) z.n).length
    have hM : max (C a) (C b) ∈ headF C z.n := by
      unfold headF
      have one : ∀ x, x < z.n → C x ∈ (List.range z.n).filter fun v => C v == v := fun x hx => List.mem_filter.2 ⟨List.mem_range.2 (na.lt hx), by simpa using na.idem x hx⟩
      rcases (show max (C a) (C b) = C a ∨ max (C a) (C b) = C b by omega) with e | e
      · rw [e]; exact one a ha
      · rw [e]; exact one b hb
    have e1 : headF (fun x => joinF (C a) (C b) (C x)) z.n = (headF C z.n).erase (max (C a) (C b)) := by
      rw [List.Nodup.erase_eq_filter (show (headF C z.n).Nodup from List.nodup_range.filter _)]
      unfold headF
      rw [List.filter_filter]
      refine List.filter_congr fun x hx => ?_
      have hx := List.mem_range.1 hx
      rw [Bool.eq_iff_iff]
      simp only [beq_iff_eq, Bool.and_eq_true, bne_iff_ne, ne_eq]
      constructor
      · intro h
        by_cases k : C x = C a ∨ C x = C b
        · rw [joinF_in k] at h
          have hx2 : C x = x := by
            rw [← h]
            rcases min_or (C a) (C b) with e | e
            · rw [e]; exact na.idem _ ha
            · rw [e]; exact na.idem _ hb
          exact ⟨by omega, hx2⟩
        · rw [joinF_out k] at h
          refine ⟨fun e => k ?_, h⟩
          rw [h, e]; omega
      · rintro ⟨h1, h2⟩
        by_cases k : C x = C a ∨ C x = C b
        · rw [joinF_in k]; omega
        · rw [joinF_out k]; exact h2
    rw [e1, List.length_erase_of_mem hM, iv.cnt]
end Go.Proofs.YtbhndlpjfncliaaGreat
