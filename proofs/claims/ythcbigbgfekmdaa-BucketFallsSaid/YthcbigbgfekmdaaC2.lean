/-
  Rows of buckets: the plain law of their links.
-/
import Derived.Test.YthcbigbgfekmdaaC1
namespace Go.Proofs.Ythcbigbgfekmdaa
set_option linter.unusedVariables false
set_option linter.unusedSimpArgs false
open Go.Hp Go.RowKit

abbrev Bq := List (Nat × Nat)

def hd : List Nat → Int → Int
  | [], x => x
  | v :: _, _ => v
def lst : List Nat → Int → Int
  | [], p => p
  | v :: r, _ => lst r v
def bk (q : Bq) (l : Nat) : List Nat := (q.filter fun x => x.2 == l).map (·.1)

/-- A piece of a bucket: who is ahead of it is p, who is behind it x. -/
def dseg (z : BS) (l : Nat) : Int → List Nat → Int → Prop
  | _, [], _ => True
  | p, v :: r, x => z.L v = l ∧ z.P v = p ∧ z.N v = hd r x ∧ dseg z l v r x

theorem hd_append (A B : List Nat) (x : Int) : hd (A ++ B) x = hd A (hd B x) := by cases A <;> rfl
theorem dseg_append {z : BS} {l : Nat} : ∀ {A B : List Nat} {p x : Int}, dseg z l p (A ++ B) x ↔ dseg z l p A (hd B x) ∧ dseg z l (lst A p) B x
  | [], B, p, x => by simp [dseg, lst]
  | v :: A, B, p, x => by
    have ih := dseg_append (z := z) (l := l) (A := A) (B := B) (p := v) (x := x)
    simp only [List.cons_append, dseg, lst, hd_append, ih]
    constructor <;> (intro h; simp_all)
theorem dseg_congr {z z' : BS} {l : Nat} : ∀ {A : List Nat} {p x : Int}, (∀ v ∈ A, z.L v = z'.L v ∧ z.P v = z'.P v ∧ z.N v = z'.N v) → dseg z l p A x → dseg z' l p A x
  | [], p, x, _, _ => trivial
  | v :: A, p, x, h, ⟨h1, h2, h3, h4⟩ => by
    obtain ⟨a, b, c⟩ := h v (by simp)
    exact ⟨a ▸ h1, b ▸ h2, c ▸ h3, dseg_congr (fun u hu => h u (by simp [hu])) h4⟩
theorem dseg_L {z : BS} {l : Nat} : ∀ {A : List Nat} {p x : Int}, dseg z l p A x → ∀ v ∈ A, z.L v = l
  | [], p, x, _, v, hv => absurd hv (by simp)
  | u :: A, p, x, ⟨h1, _, _, h4⟩, v, hv => by
    rcases List.mem_cons.1 hv with rfl | hv
    · exact h1
    · exact dseg_L h4 v hv
theorem lst_snoc : ∀ (A : List Nat) (u : Nat) (p : Int), lst (A ++ [u]) p = u
  | [], u, p => rfl
  | v :: A, u, p => lst_snoc A u v
theorem lst_mem : ∀ {A : List Nat} {p : Int}, A ≠ [] → ∃ u ∈ A, lst A p = u
  | [], _, h => absurd rfl h
  | [u], p, _ => ⟨u, by simp, rfl⟩
  | u :: w :: A, p, _ => by
    obtain ⟨x, hx, e⟩ := lst_mem (A := w :: A) (p := u) (by simp)
    exact ⟨x, by simp [List.mem_cons.1 hx], e⟩

structure Inv (z : BS) (q : Bq) : Prop where
  n : z.n ≤ 4096
  mem : ∀ x ∈ q, x.1 < z.n ∧ x.2 < 2 * z.n + 1
  nd : (q.map (·.1)).Nodup
  F : ∀ l, l < 2 * z.n + 1 → z.F l = hd (bk q l) (-1)
  C : ∀ l, l < 2 * z.n + 1 → z.C l = (bk q l).length
  seg : ∀ l, l < 2 * z.n + 1 → dseg z l (-1) (bk q l) (-1)
  off : ∀ i, i < z.n → i ∉ q.map (·.1) → z.L i = -1 ∧ z.P i = -1 ∧ z.N i = -1
  hi : 0 ≤ z.hi ∧ z.hi < (2 * z.n + 1 : Nat)
  top : ∀ x ∈ q, (x.2 : Int) ≤ z.hi
  cnt : z.cnt = q.length

theorem mem_bk {q : Bq} {v l : Nat} : v ∈ bk q l ↔ (v, l) ∈ q := by
  simp only [bk, List.mem_map, List.mem_filter, beq_iff_eq, Prod.exists, exists_and_right, exists_eq_right]
  first | done | (constructor
                  · rintro ⟨b, h, rfl⟩; exact h
                  · intro h; exact ⟨l, h, rfl⟩)
theorem bk_nodup {q : Bq} (h : (q.map (·.1)).Nodup) (l : Nat) : (bk q l).Nodup :=
  h.sublist ((List.filter_sublist).map _)
theorem bk_length_le (q : Bq) (l : Nat) : (bk q l).length ≤ q.length := by simp [bk]; exact List.length_filter_le ..
theorem one_label {q : Bq} (h : (q.map (·.1)).Nodup) {v l l' : Nat} (h1 : (v, l) ∈ q) (h2 : (v, l') ∈ q) : l = l' := by
  induction q with
  | nil => simp at h1
  | cons x q ih =>
    rw [List.map_cons, List.nodup_cons] at h
    rcases List.mem_cons.1 h1 with e1 | g1 <;> rcases List.mem_cons.1 h2 with e2 | g2
    · rw [← e1] at e2; exact (Prod.mk.inj e2).2.symm
    · have := List.mem_map_of_mem (f := (·.1)) g2; rw [← e1] at h; exact absurd this h.1
    · have := List.mem_map_of_mem (f := (·.1)) g1; rw [← e2] at h; exact absurd this h.1
    · exact ih h.2 g1 g2

theorem length_le_of_nodup {n : Nat} {l : List Nat} (h : l.Nodup) (hl : ∀ x ∈ l, x < n) : l.length ≤ n := by
  have := List.Nodup.length_le_of_subset h (l₂ := List.range n) (fun x hx => List.mem_range.2 (hl x hx))
  simpa using this
theorem Inv.len {z : BS} {q : Bq} (iv : Inv z q) : q.length ≤ z.n := by
  have := length_le_of_nodup iv.nd (n := z.n) (fun x hx => by
    obtain ⟨y, hy, rfl⟩ := List.mem_map.1 hx; exact (iv.mem y hy).1)
  simpa using this
theorem Inv.at_ {z : BS} {q : Bq} (iv : Inv z q) {v l : Nat} (h : (v, l) ∈ q) : z.L v = l :=
  dseg_L (iv.seg l (iv.mem _ h).2) v (mem_bk.2 h)
theorem Inv.in_ {z : BS} {q : Bq} (iv : Inv z q) {v : Nat} (hv : v < z.n) : z.L v ≠ -1 ↔ v ∈ q.map (·.1) := by
  constructor
  · intro h; exact Classical.byContradiction fun hn => h (iv.off v hv hn).1
  · intro h
    obtain ⟨⟨u, l⟩, hx, rfl⟩ := List.mem_map.1 h
    rw [iv.at_ hx]; omega

theorem dseg_link {z : BS} {l n : Nat} : ∀ {A : List Nat} {p x : Int}, (∀ v ∈ A, v < n) → link n p → link n x → dseg z l p A x → ∀ v ∈ A, link n (z.P v) ∧ link n (z.N v)
  | [], _, _, _, _, _, _, v, hv => absurd hv (by simp)
  | u :: A, p, x, hA, hp, hx, ⟨_, h2, h3, h4⟩, v, hv => by
    rcases List.mem_cons.1 hv with rfl | hv
    · refine ⟨h2 ▸ hp, ?_⟩
      rw [h3]
      cases A with
      | nil => exact hx
      | cons w A => exact .inr ⟨by simp [hd], by have := hA w (by simp); simp [hd]; exact this⟩
    · exact dseg_link (fun w hw => hA w (by simp [hw])) (.inr ⟨by omega, by have := hA u (by simp); omega⟩) hx h4 v hv

theorem Inv.OK {z : BS} {q : Bq} (iv : Inv z q) : z.OK where
  n := iv.n
  on i hi h := by
    have h := (iv.in_ hi).1 h
    obtain ⟨⟨u, l⟩, hx, rfl⟩ := List.mem_map.1 h
    have hm := iv.mem _ hx
    refine ⟨?_, dseg_link (fun v hv => (iv.mem _ (mem_bk.1 hv)).1) (.inl rfl) (.inl rfl) (iv.seg l hm.2) u (mem_bk.2 hx)⟩
    rw [iv.at_ hx]; simp only at hm; omega
  off i hi h := (iv.off i hi (fun hn => (iv.in_ hi).2 hn h)).2
  F l hl := by
    rw [iv.F l hl]
    cases hb : bk q l with
    | nil => exact .inl rfl
    | cons v A => exact .inr ⟨by simp [hd], by have := (iv.mem _ (mem_bk.1 (by rw [hb]; simp : v ∈ bk q l))).1; simp [hd]; exact this⟩
  C l hl := by
    rw [iv.C l hl]; have := bk_length_le q l; have := iv.len; have := iv.n; omega
  hi := iv.hi
  cnt := by rw [iv.cnt]; have := iv.len; have := iv.n; omega

def rm (q : Bq) (v : Nat) : Bq := q.filter fun x => x.1 != v
theorem bk_rm (q : Bq) (v l : Nat) : bk (rm q v) l = (bk q l).filter (· != v) := by
  simp only [bk, rm, List.filter_filter, List.filter_map]
  congr 1
  apply List.filter_congr
  intro x _
  simp [Bool.and_comm]
theorem mem_rm {q : Bq} {v : Nat} {x : Nat × Nat} : x ∈ rm q v ↔ x ∈ q ∧ x.1 ≠ v := by simp [rm]
theorem length_rm {q : Bq} {v l : Nat} (h : (q.map (·.1)).Nodup) (hm : (v, l) ∈ q) : (rm q v).length + 1 = q.length := by
  induction q with
  | nil => simp at hm
  | cons x q ih =>
    rw [List.map_cons, List.nodup_cons] at h
    rcases List.mem_cons.1 hm with rfl | hm
    · have : rm q v = q := by
        apply List.filter_eq_self.2
        intro y hy
        simp only [bne_iff_ne, ne_eq]
        rintro rfl
        exact h.1 (List.mem_map_of_mem (f := (·.1)) hy)
      simp only [rm, List.filter_cons, bne_self_eq_false, Bool.false_eq_true, if_false, List.length_cons] at this ⊢
      rw [this]
    · have hx : x.1 ≠ v := by
        rintro rfl; exact h.1 (List.mem_map_of_mem (f := (·.1)) hm)
      have := ih h.2 hm
      simp only [rm, List.filter_cons, bne_iff_ne, ne_eq, hx, not_false_eq_true, if_true, List.length_cons] at this ⊢
      omega
theorem filter_mid {A B : List Nat} {v : Nat} (h : (A ++ v :: B).Nodup) : (A ++ v :: B).filter (· != v) = A ++ B := by
  rw [List.nodup_append] at h
  obtain ⟨_, h2, h3⟩ := h
  rw [List.nodup_cons] at h2
  rw [List.filter_append, List.filter_cons]
  simp only [bne_self_eq_false, Bool.false_eq_true, if_false]
  congr 1
  · apply List.filter_eq_self.2; intro x hx; have := h3 x hx v (by simp); simpa using this
  · apply List.filter_eq_self.2; intro x hx; simp only [bne_iff_ne, ne_eq]; rintro rfl; exact h2.1 hx

theorem drop_n (z : BS) (v : Nat) : (z.drop v).n = z.n := by unfold BS.drop BS.drop3 BS.drop2 BS.drop1; split <;> split <;> rfl
theorem drop_hi (z : BS) (v : Nat) : (z.drop v).hi = z.hi := by unfold BS.drop BS.drop3 BS.drop2 BS.drop1; split <;> split <;> rfl
theorem drop_cnt (z : BS) (v : Nat) : (z.drop v).cnt = z.cnt - 1 := by unfold BS.drop BS.drop3 BS.drop2 BS.drop1; split <;> split <;> rfl
theorem drop_C (z : BS) (v : Nat) : (z.drop v).C = upd z.C (z.L v).toNat (z.C (z.L v).toNat - 1) := by unfold BS.drop BS.drop3 BS.drop2 BS.drop1; split <;> split <;> rfl
theorem drop_F (z : BS) (v : Nat) : (z.drop v).F = if z.P v = -1 then upd z.F (z.L v).toNat (z.N v) else z.F := by unfold BS.drop BS.drop3 BS.drop2 BS.drop1; split <;> split <;> rfl
theorem drop_L (z : BS) (v : Nat) : (z.drop v).L = upd z.L v (-1) := by unfold BS.drop BS.drop3 BS.drop2 BS.drop1; split <;> split <;> rfl
theorem drop_N (z : BS) (v : Nat) : (z.drop v).N = upd (if z.P v = -1 then z.N else upd z.N (z.P v).toNat (z.N v)) v (-1) := by unfold BS.drop BS.drop3 BS.drop2 BS.drop1; split <;> split <;> rfl
theorem drop_P (z : BS) (v : Nat) : (z.drop v).P = upd (if z.N v = -1 then z.P else upd z.P (z.N v).toNat (z.P v)) v (-1) := by unfold BS.drop BS.drop3 BS.drop2 BS.drop1; split <;> split <;> rfl

/-- Another one behind. -/
theorem dseg_behind {z z' : BS} {l : Nat} {x y : Int} : ∀ {A : List Nat} {p : Int}, A.Nodup → (∀ v ∈ A, z.L v = z'.L v ∧ z.P v = z'.P v ∧ z'.N v = if (v : Int) = lst A p then y else z.N v) → (∀ v ∈ A, (v : Int) = p → lst A p ≠ p) → dseg z l p A x → dseg z' l p A y
  | [], p, _, _, _, _ => trivial
  | [v], p, hn, h, _, ⟨h1, h2, h3, h4⟩ => by
    obtain ⟨a, b, c⟩ := h v (by simp)
    exact ⟨a ▸ h1, b ▸ h2, by rw [c]; simp [lst, hd], trivial⟩
  | v :: w :: A, p, hn, h, hp, ⟨h1, h2, h3, h4⟩ => by
    obtain ⟨a, b, c⟩ := h v (by simp)
    rw [List.nodup_cons] at hn
    obtain ⟨u, hu, e⟩ := lst_mem (A := w :: A) (p := v) (by simp)
    have hne : ¬ (v : Int) = lst (v :: w :: A) p := by
      show ¬ (v : Int) = lst (w :: A) v
      rw [e]; intro h; exact hn.1 (by rw [show v = u by omega]; exact hu)
    rw [if_neg hne] at c
    refine ⟨a ▸ h1, b ▸ h2, by rw [c]; exact h3, ?_⟩
    refine dseg_behind (A := w :: A) (p := v) hn.2 (fun t ht => h t (by simp [List.mem_cons.1 ht])) (fun t ht e2 => ?_) h4
    exfalso; exact hn.1 (by rw [show v = t by omega]; exact ht)
/-- Another one ahead. -/
theorem dseg_ahead {z z' : BS} {l : Nat} {p q x : Int} : ∀ {B : List Nat}, B.Nodup → (∀ v ∈ B, z.L v = z'.L v ∧ z.N v = z'.N v ∧ z'.P v = if (v : Int) = hd B (-1) then q else z.P v) → dseg z l p B x → dseg z' l q B x
  | [], _, _, _ => trivial
  | v :: B, hn, h, ⟨h1, h2, h3, h4⟩ => by
    obtain ⟨a, b, c⟩ := h v (by simp)
    rw [List.nodup_cons] at hn
    refine ⟨a ▸ h1, by rw [c]; simp [hd], b ▸ h3, dseg_congr (fun u hu => ?_) h4⟩
    obtain ⟨a, b, c⟩ := h u (by simp [hu])
    have : ¬ (u : Int) = hd (v :: B) (-1) := by
      show ¬ (u : Int) = v
      intro e; exact hn.1 (by rw [show v = u by omega]; exact hu)
    rw [if_neg this] at c
    exact ⟨a, c.symm, b⟩

theorem Inv.drop {z : BS} {q : Bq} (iv : Inv z q) {v l : Nat} (hm : (v, l) ∈ q) : Inv (z.drop v) (rm q v) := by
  have hvl := iv.mem _ hm
  simp only at hvl
  obtain ⟨A, B, hAB⟩ := List.append_of_mem (mem_bk.2 hm)
  have hnd := bk_nodup iv.nd l
  have hL := iv.at_ hm
  have hseg := iv.seg l hvl.2
  rw [hAB] at hseg hnd
  rw [dseg_append] at hseg
  obtain ⟨hA, _, hP, hN, hB⟩ := hseg
  have hnd' := List.nodup_append.1 hnd
  obtain ⟨ndA, ndB, hdis⟩ := hnd'
  rw [List.nodup_cons] at ndB
  have hltA : ∀ u ∈ A, u < z.n := fun u hu => (iv.mem _ (mem_bk.1 (by rw [hAB]; simp [hu] : u ∈ bk q l))).1
  have hltB : ∀ u ∈ B, u < z.n := fun u hu => (iv.mem _ (mem_bk.1 (by rw [hAB]; simp [hu] : u ∈ bk q l))).1
  have hvA : v ∉ A := fun h => hdis v h v (by simp) rfl
  have hAB0 : ∀ u ∈ A, u ∉ B := fun u hu hb => hdis u hu u (by simp [hb]) rfl
  have hLl : (z.L v).toNat = l := by rw [hL]; simp
  -- who is ahead, and who behind
  have hpA : (A = [] ∧ z.P v = -1) ∨ ∃ u ∈ A, z.P v = (u : Int) := by
    cases hA0 : A with
    | nil => left; rw [hP, hA0]; exact ⟨rfl, rfl⟩
    | cons w A' => right; obtain ⟨u, hu, e⟩ := lst_mem (A := A) (p := -1) (by rw [hA0]; simp); rw [← hA0]; exact ⟨u, hu, by rw [hP, e]⟩
  have hnB : (B = [] ∧ z.N v = -1) ∨ ∃ u ∈ B, z.N v = (u : Int) := by
    cases hB0 : B with
    | nil => left; rw [hN, hB0]; exact ⟨rfl, rfl⟩
    | cons w B' => right; exact ⟨w, by simp, by rw [hN, hB0]; rfl⟩
  have gN : ∀ u, u ≠ v → (z.drop v).N u = if (u : Int) = lst A (-1) then z.N v else z.N u := by
    intro u hu
    rw [drop_N, upd_ne _ _ hu, ← hP]
    rcases hpA with ⟨_, e⟩ | ⟨w, hw, e⟩
    · rw [if_pos e, e, if_neg (by omega)]
    · rw [if_neg (by omega), e]; unfold upd
      by_cases c : u = w
      · subst c; simp
      · rw [if_neg (by simpa using c), if_neg (by omega)]
  have gP : ∀ u, u ≠ v → (z.drop v).P u = if (u : Int) = z.N v then z.P v else z.P u := by
    intro u hu
    rw [drop_P, upd_ne _ _ hu]
    rcases hnB with ⟨_, e⟩ | ⟨w, hw, e⟩
    · rw [if_pos e, e, if_neg (by omega)]
    · rw [if_neg (by omega), e]; unfold upd
      by_cases c : u = w
      · subst c; simp
      · rw [if_neg (by simpa using c), if_neg (by omega)]
  have gL : ∀ u, u ≠ v → (z.drop v).L u = z.L u := fun u hu => by rw [drop_L, upd_ne _ _ hu]
  refine ⟨by rw [drop_n]; exact iv.n, fun x hx => by rw [drop_n]; exact iv.mem x (mem_rm.1 hx).1, ?_, ?_, ?_, ?_, ?_, by rw [drop_hi, drop_n]; exact iv.hi, fun x hx => by rw [drop_hi]; exact iv.top x (mem_rm.1 hx).1, ?_⟩
  · exact iv.nd.sublist ((List.filter_sublist).map _)
  · intro k hk
    rw [drop_n] at hk
    rw [drop_F, bk_rm, hLl]
    by_cases e : k = l
    · subst e
      rw [hAB, filter_mid hnd, hd_append]
      rcases hpA with ⟨a, e⟩ | ⟨w, hw, e⟩
      · rw [if_pos e, upd_same, a, hN]; rfl
      · rw [if_neg (by omega), iv.F k hk, hAB, hd_append]
        cases A with
        | nil => simp at hw
        | cons a A => rfl
    · have : (bk q k).filter (· != v) = bk q k := by
        apply List.filter_eq_self.2; intro u hu; simp only [bne_iff_ne, ne_eq]; rintro rfl; exact e (one_label iv.nd (mem_bk.1 hu) hm)
      rw [this]
      split
      · rw [upd_ne _ _ e, iv.F k hk]
      · exact iv.F k hk
  · intro k hk
    rw [drop_n] at hk
    rw [drop_C, bk_rm, hLl]
    by_cases e : k = l
    · subst e
      rw [hAB, filter_mid hnd, upd_same, iv.C k hk, hAB]
      simp; omega
    · have : (bk q k).filter (· != v) = bk q k := by
        apply List.filter_eq_self.2; intro u hu; simp only [bne_iff_ne, ne_eq]; rintro rfl; exact e (one_label iv.nd (mem_bk.1 hu) hm)
      rw [this, upd_ne _ _ e, iv.C k hk]
  · intro k hk
    rw [drop_n] at hk
    rw [bk_rm]
    by_cases e : k = l
    · subst e
      rw [hAB, filter_mid hnd, dseg_append]
      constructor
      · refine dseg_behind ndA (fun u hu => ?_) (fun u _ e => by omega) hA
        have huv : u ≠ v := fun e => hvA (e ▸ hu)
        have hne : ¬ (u : Int) = z.N v := by
          rcases hnB with ⟨_, e⟩ | ⟨w, hw, e⟩
          · omega
          · rw [e]; intro h; exact hAB0 u hu (by rw [show u = w by omega]; exact hw)
        rw [gN u huv, gP u huv, gL u huv, if_neg hne, hN]
        exact ⟨rfl, rfl, rfl⟩
      · refine dseg_ahead ndB.2 (fun u hu => ?_) hB
        have huv : u ≠ v := fun e => ndB.1 (e ▸ hu)
        have hne : ¬ (u : Int) = lst A (-1) := by
          rw [← hP]
          rcases hpA with ⟨_, e⟩ | ⟨w, hw, e⟩
          · omega
          · rw [e]; intro h; exact hAB0 w hw (by rw [show w = u by omega]; exact hu)
        rw [gN u huv, gP u huv, gL u huv, if_neg hne, hN, hP]
        exact ⟨rfl, rfl, rfl⟩
    · have hne : ∀ u ∈ bk q k, u ≠ v := by rintro u hu rfl; exact e (one_label iv.nd (mem_bk.1 hu) hm)
      have : (bk q k).filter (· != v) = bk q k := by
        apply List.filter_eq_self.2; intro u hu; simpa using hne u hu
      rw [this]
      refine dseg_congr (fun u hu => ?_) (iv.seg k hk)
      have hno : u ∉ bk q l := fun h => e (one_label iv.nd (mem_bk.1 hu) (mem_bk.1 h))
      rw [hAB] at hno
      rw [gN u (hne u hu), gP u (hne u hu), gL u (hne u hu), if_neg, if_neg]
      · exact ⟨rfl, rfl, rfl⟩
      · rw [← hP]
        rcases hpA with ⟨_, e⟩ | ⟨w, hw, e⟩
        · omega
        · rw [e]; intro h; exact hno (by rw [show u = w by omega]; simp [hw])
      · rcases hnB with ⟨_, e⟩ | ⟨w, hw, e⟩
        · omega
        · rw [e]; intro h; exact hno (by rw [show u = w by omega]; simp [hw])
  · intro i hi hni
    rw [drop_n] at hi
    by_cases e : i = v
    · subst e
      rw [drop_L, drop_P, drop_N]; simp only [upd_same]; exact ⟨trivial, trivial, trivial⟩
    · have hi' : i ∉ q.map (·.1) := by
        intro h; obtain ⟨x, hx, rfl⟩ := List.mem_map.1 h
        exact hni (List.mem_map_of_mem (f := (·.1)) (mem_rm.2 ⟨hx, e⟩))
      have hno : ∀ u, u ∈ bk q l → i ≠ u := by
        rintro u hu rfl; exact hi' (List.mem_map_of_mem (f := (·.1)) (mem_bk.1 hu))
      rw [gN i e, gP i e, gL i e, if_neg, if_neg]
      · exact iv.off i hi hi'
      · rw [← hP]
        rcases hpA with ⟨_, e⟩ | ⟨w, hw, e⟩
        · omega
        · rw [e]; intro h; exact hno w (by rw [hAB]; simp [hw]) (by omega)
      · rcases hnB with ⟨_, e⟩ | ⟨w, hw, e⟩
        · omega
        · rw [e]; intro h; exact hno w (by rw [hAB]; simp [hw]) (by omega)
  · rw [drop_cnt, iv.cnt]; have := length_rm iv.nd hm; omega

theorem put_n (z : BS) (v k : Nat) : (z.put v k).n = z.n := by unfold BS.put BS.put3 BS.put2 BS.put1; split <;> rfl
theorem put_hi (z : BS) (v k : Nat) : (z.put v k).hi = if (k : Int) > z.hi then (k : Int) else z.hi := by unfold BS.put BS.put3 BS.put2 BS.put1; split <;> rfl
theorem put_cnt (z : BS) (v k : Nat) : (z.put v k).cnt = z.cnt + 1 := by unfold BS.put BS.put3 BS.put2 BS.put1; split <;> rfl
theorem put_C (z : BS) (v k : Nat) : (z.put v k).C = upd z.C k (z.C k + 1) := by unfold BS.put BS.put3 BS.put2 BS.put1; split <;> rfl
theorem put_F (z : BS) (v k : Nat) : (z.put v k).F = upd z.F k v := by unfold BS.put BS.put3 BS.put2 BS.put1; split <;> rfl
theorem put_L (z : BS) (v k : Nat) : (z.put v k).L = upd z.L v k := by unfold BS.put BS.put3 BS.put2 BS.put1; split <;> rfl
theorem put_N (z : BS) (v k : Nat) : (z.put v k).N = upd z.N v (z.F k) := by unfold BS.put BS.put3 BS.put2 BS.put1; split <;> rfl
theorem put_P (z : BS) (v k : Nat) : (z.put v k).P = if z.F k = -1 then upd z.P v (-1) else upd (upd z.P v (-1)) (z.F k).toNat v := by unfold BS.put BS.put3 BS.put2 BS.put1; split <;> rfl

theorem bk_cons (q : Bq) (v k l : Nat) : bk ((v, k) :: q) l = if k = l then v :: bk q l else bk q l := by
  simp only [bk, List.filter_cons]
  by_cases e : k = l
  · subst e; simp
  · rw [if_neg (by simpa using e), if_neg e]

theorem Inv.put {z : BS} {q : Bq} (iv : Inv z q) {v k : Nat} (hv : v < z.n) (hk : k < 2 * z.n + 1) (hm : v ∉ q.map (·.1)) : Inv (z.put v k) ((v, k) :: q) := by
  have hF := iv.F k hk
  have hvb : ∀ l, v ∉ bk q l := fun l h => hm (List.mem_map_of_mem (f := (·.1)) (mem_bk.1 h))
  have gP : ∀ u, u ≠ v → (z.put v k).P u = if (u : Int) = z.F k then (v : Int) else z.P u := by
    intro u hu
    rw [put_P]
    split
    · rename_i e; rw [upd_ne _ _ hu, e, if_neg (by omega)]
    · rename_i e
      have : 0 ≤ z.F k := by
        rw [hF] at e ⊢
        cases hb : bk q k with
        | nil => rw [hb] at e; exact absurd rfl e
        | cons w B => simp only [hd]; omega
      unfold upd
      by_cases c : (u : Int) = z.F k
      · rw [if_pos c, if_pos (by omega)]
      · rw [if_neg c, if_neg (by omega), if_neg hu]
  have gPv : (z.put v k).P v = -1 := by
    rw [put_P]
    split
    · exact upd_same ..
    · rename_i e
      rw [upd_ne, upd_same]
      rw [hF] at e ⊢
      cases hb : bk q k with
      | nil => rw [hb] at e; exact absurd rfl e
      | cons w B => intro h; simp [hd] at h; exact hvb k (by rw [hb, h]; simp)
  have gN : ∀ u, u ≠ v → (z.put v k).N u = z.N u := fun u hu => by rw [put_N, upd_ne _ _ hu]
  have gL : ∀ u, u ≠ v → (z.put v k).L u = z.L u := fun u hu => by rw [put_L, upd_ne _ _ hu]
  refine ⟨by rw [put_n]; exact iv.n, ?_, ?_, ?_, ?_, ?_, ?_, ?_, ?_, ?_⟩
  · intro x hx
    rw [put_n]
    rcases List.mem_cons.1 hx with rfl | hx
    · exact ⟨hv, hk⟩
    · exact iv.mem x hx
  · rw [List.map_cons, List.nodup_cons]; exact ⟨hm, iv.nd⟩
  · intro l hl
    rw [put_n] at hl
    rw [put_F, bk_cons]
    by_cases e : k = l
    · subst e; rw [if_pos rfl, upd_same]; rfl
    · rw [if_neg e, upd_ne _ _ (fun h => e h.symm)]; exact iv.F l hl
  · intro l hl
    rw [put_n] at hl
    rw [put_C, bk_cons]
    by_cases e : k = l
    · subst e; rw [if_pos rfl, upd_same, iv.C k hk]; simp
    · rw [if_neg e, upd_ne _ _ (fun h => e h.symm)]; exact iv.C l hl
  · intro l hl
    rw [put_n] at hl
    rw [bk_cons]
    by_cases e : k = l
    · subst e
      rw [if_pos rfl]
      refine ⟨by rw [put_L, upd_same], gPv, by rw [put_N, upd_same, hF], ?_⟩
      refine dseg_ahead (bk_nodup iv.nd k) (fun u hu => ?_) (iv.seg k hk)
      have huv : u ≠ v := fun h => hvb k (h ▸ hu)
      rw [gL u huv, gN u huv, gP u huv, hF]
      exact ⟨rfl, rfl, rfl⟩
    · rw [if_neg e]
      refine dseg_congr (fun u hu => ?_) (iv.seg l hl)
      have huv : u ≠ v := fun h => hvb l (h ▸ hu)
      have : ¬ (u : Int) = z.F k := by
        rw [hF]
        cases hb : bk q k with
        | nil => simp only [hd]; omega
        | cons w B =>
          simp only [hd]; intro h
          have : w ∈ bk q k := by rw [hb]; simp
          exact e (one_label iv.nd (mem_bk.1 this) (mem_bk.1 (by rw [show w = u by omega]; exact hu)))
      rw [gL u huv, gN u huv, gP u huv, if_neg this]
      exact ⟨rfl, rfl, rfl⟩
  · intro i hi hni
    rw [put_n] at hi
    rw [List.map_cons, List.mem_cons, not_or] at hni
    have huv : i ≠ v := hni.1
    have : ¬ (i : Int) = z.F k := by
      rw [hF]
      cases hb : bk q k with
      | nil => simp only [hd]; omega
      | cons w B =>
        simp only [hd]; intro h
        have : w ∈ bk q k := by rw [hb]; simp
        exact hni.2 (List.mem_map_of_mem (f := (·.1)) (mem_bk.1 (by rw [show i = w by omega]; exact this)))
    rw [gL i huv, gN i huv, gP i huv, if_neg this]
    exact iv.off i hi hni.2
  · rw [put_hi, put_n]; have := iv.hi; split <;> omega
  · intro x hx
    rw [put_hi]
    rcases List.mem_cons.1 hx with rfl | hx
    · simp only; split <;> omega
    · have := iv.top x hx; split <;> omega
  · rw [put_cnt, iv.cnt]; simp

theorem Inv.dropIf {z : BS} {q : Bq} (iv : Inv z q) (v : Int) : Inv (z.dropIf v) (q.filter fun x => (x.1 : Int) != v) ∧ (z.dropIf v).n = z.n ∧ z.in_ v = decide ((q.filter fun x => (x.1 : Int) != v).length < q.length) := by
  unfold BS.dropIf
  cases hin : z.in_ v with
  | true =>
    have h := hin
    unfold BS.in_ at h
    simp only [Bool.and_eq_true, decide_eq_true_eq, Bool.not_eq_true', beq_eq_false_iff_ne] at h
    obtain ⟨i, rfl⟩ : ∃ i : Nat, v = i := ⟨v.toNat, by omega⟩
    obtain ⟨⟨_, hi⟩, hne⟩ := h
    rw [Int.toNat_natCast] at hne ⊢
    obtain ⟨⟨u, l⟩, hx, hu⟩ := List.mem_map.1 ((iv.in_ (by omega)).1 hne)
    simp only at hu; subst hu
    have e : (q.filter fun x => (x.1 : Int) != (u : Int)) = rm q u := List.filter_congr fun x _ => by
      rw [Bool.eq_iff_iff]; simp; omega
    rw [e, if_pos rfl]
    have := length_rm iv.nd hx
    exact ⟨iv.drop hx, drop_n .., (decide_eq_true (by omega)).symm⟩
  | false =>
    have e : (q.filter fun x => (x.1 : Int) != v) = q := by
      apply List.filter_eq_self.2
      intro x hx
      simp only [bne_iff_ne, ne_eq]
      rintro rfl
      have hxn := (iv.mem x hx).1
      have := (iv.in_ hxn).2 (List.mem_map_of_mem hx)
      unfold BS.in_ at hin
      simp [hxn] at hin
      exact this hin
    rw [e]
    exact ⟨iv, rfl, by simp⟩
end Go.Proofs.Ythcbigbgfekmdaa
