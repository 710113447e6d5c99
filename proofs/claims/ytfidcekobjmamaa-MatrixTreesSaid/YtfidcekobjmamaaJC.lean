/-
  Ranks: the document's order of keys, and its unlike ones.
-/
import Derived.Test.YtfidcekobjmamaaJB
import Derived.Test.YtfidcekobjmamaaK0
namespace Go.Proofs.Ytfidcekobjmamaa
set_option linter.unusedVariables false
set_option linter.unusedSimpArgs false
set_option linter.unnecessarySimpa false
open Go.Hp Go.RowKit
attribute [local irreducible] Go.Hp.iteB Go.Hp.stC Go.Hp.newP

def keyI (l : List Int) (v : Nat) : Int := l.getD v 0
/-- The order of keys. -/
def byL (l : List Int) : List Nat := srt (keyI l) (List.range l.length)
theorem byL_len (l : List Int) : (byL l).length = l.length := by rw [byL, srt_len, List.length_range]


theorem byL_perm (l : List Int) : (byL l).Perm (List.range l.length) := srt_perm _
theorem byL_nodup (l : List Int) : (byL l).Nodup := (byL_perm l).nodup_iff.2 List.nodup_range
theorem byL_mem (l : List Int) (x : Nat) : x ∈ byL l ↔ x < l.length := by rw [(byL_perm l).mem_iff, List.mem_range]
theorem byL_up (l : List Int) : (byL l).Pairwise (leK (keyI l)) := srt_up _
/-- The least one that has not come is the next. -/
theorem byL_next {l : List Int} {m x : Nat} (hm : m < l.length) (hx : x < l.length) (hn : x ∉ (byL l).take m) (hle : ∀ y, y < l.length → y ∉ (byL l).take m → leK (keyI l) x y) : (byL l)[m]? = some x := by
  obtain ⟨z, hz⟩ := get_lt (l := byL l) (i := m) (by rw [byL_len]; exact hm)
  rw [hz]
  have hzm : m < (byL l).length := lt_get hz
  have hzv : (byL l)[m] = z := (List.getElem?_eq_some_iff.1 hz).2
  have zn : z ∉ (byL l).take m := fun h => by
    obtain ⟨j, hj, e⟩ := List.getElem_of_mem h
    rw [List.length_take] at hj
    rw [List.getElem_take] at e
    have := (List.getElem_inj (h₀ := by omega) (h₁ := hzm) (byL_nodup l)).1 (e.trans hzv.symm)
    omega
  have h1 := hle z ((byL_mem l z).1 (List.mem_of_getElem? hz)) zn
  obtain ⟨j, hj, e⟩ := List.getElem_of_mem ((byL_mem l x).2 hx)
  have hmj : m ≤ j := by
    rcases Nat.lt_or_ge j m with h | h
    · exact absurd (List.mem_of_getElem? (i := j) (by rw [List.getElem?_take, if_pos h, List.getElem?_eq_getElem hj, e])) hn
    · exact h
  rcases Nat.lt_or_ge m j with h | h
  · have h2 := List.pairwise_iff_getElem.1 (byL_up l) m j hzm hj h
    rw [hzv, e] at h2
    rw [leK_antisymm h1 h2]
  · have : j = m := by omega
    subst this
    rw [← e, ← hzv]


def boolV (n : Nat) (f : Nat → Bool) : List Value := (List.range n).map fun i => Value.bool (f i)
theorem boolV_len (n : Nat) (f : Nat → Bool) : (boolV n f).length = n := by simp [boolV]
theorem boolV_get {n i : Nat} {f : Nat → Bool} (h : i < n) : (boolV n f)[i]? = some (.bool (f i)) := by simp [boolV, h]

/-- The least one of the first i that has not come, or -1. -/
def Best (l : List Int) (f : Nat → Bool) (i : Nat) (at_ : Int) : Prop :=
  (at_ = -1 ∧ ∀ j, j < i → f j = true) ∨ ∃ x : Nat, at_ = x ∧ x < i ∧ f x = false ∧ ∀ j, j < i → f j = false → leK (keyI l) x j
theorem Best.skip {l : List Int} {f : Nat → Bool} {i : Nat} {a : Int} (h : Best l f i a) (hf : f i = true) : Best l f (i + 1) a := by
  rcases h with ⟨h1, h2⟩ | ⟨x, h1, h2, h3, h4⟩
  · refine .inl ⟨h1, fun j hj => ?_⟩
    rcases Nat.lt_or_ge j i with c | c
    · exact h2 j c
    · have : j = i := by omega
      subst this; exact hf
  · refine .inr ⟨x, h1, by omega, h3, fun j hj hfj => ?_⟩
    rcases Nat.lt_or_ge j i with c | c
    · exact h4 j c hfj
    · have : j = i := by omega
      subst this; rw [hf] at hfj; exact absurd hfj (by decide)
theorem Best.take {l : List Int} {f : Nat → Bool} {i : Nat} {a : Int} (h : Best l f i a) (hf : f i = false) (hlt : ∀ x : Nat, a = x → keyI l i < keyI l x) : Best l f (i + 1) (i : Int) := by
  refine .inr ⟨i, rfl, by omega, hf, fun j hj hfj => ?_⟩
  rw [leK_iff]
  rcases h with ⟨h1, h2⟩ | ⟨x, h1, h2, h3, h4⟩
  · rcases Nat.lt_or_ge j i with c | c
    · have := h2 j c; rw [hfj] at this; exact absurd this (by decide)
    · have : j = i := by omega
      subst this; exact .inr ⟨rfl, Nat.le_refl _⟩
  · rcases Nat.lt_or_ge j i with c | c
    · have h5 := h4 j c hfj
      rw [leK_iff] at h5
      have := hlt x h1
      omega
    · have : j = i := by omega
      subst this; exact .inr ⟨rfl, Nat.le_refl _⟩
theorem Best.keep {l : List Int} {f : Nat → Bool} {i x : Nat} (h : Best l f i (x : Int)) (hge : keyI l x ≤ keyI l i) : Best l f (i + 1) (x : Int) := by
  rcases h with ⟨h1, h2⟩ | ⟨y, h1, h2, h3, h4⟩
  · omega
  · have : x = y := by omega
    subst this
    refine .inr ⟨x, rfl, by omega, h3, fun j hj hfj => ?_⟩
    rcases Nat.lt_or_ge j i with c | c
    · exact h4 j c hfj
    · have : j = i := by omega
      subst this; rw [leK_iff]; omega

section
variable {h0 : Base} {RR : Rws}
theorem rby_l1 {K4 : Int → Heap → Prop} {q qo : Option Addr} {n c lo co bc cc : Nat} {m : Int} {l : List Int} {f : Nat → Bool} {h : Heap} (hl : l.length = n) (hn : n ≤ 2 ^ 20) (vq : valsAt h q (l.map (Value.int .i64))) (s : St h0 h RR) (mc : (bc, boolV n f) ∈ RR)
    (hk : ∀ a, Best l f n a → K4 a h) :
    ∀ (d i : Nat) (a : Int), i + d = n → Best l f i a → straitref14_By.l1 K4 (d + 1) q n c qo lo co ⟨bc, 0, none⟩ n cc m a (i : Int) h
  | 0, i, a, hi, hb => by
    unfold straitref14_By.l1 straitref14_By.b1
    have hin : i = n := by omega
    subst hin
    exact iteB_neg (decide_eq_false (by omega)) (hk a hb)
  | d + 1, i, a, hi, hb => by
    unfold straitref14_By.l1 straitref14_By.b1
    have rc := s.rd mc
    have gc := boolV_get (f := f) (show i < n by omega)
    have gk : ∀ {z : Nat}, z < n → (l.map (Value.int .i64))[z]? = some (.int .i64 (keyI l z)) := fun {z} hz => by simp [keyI, List.getD, show z < l.length by omega]
    refine iteB_pos (decide_eq_true (by omega)) ?_
    intro j
    have J : ∀ a', Best l f (i + 1) a' → j a' := by
      intro a' hb'
      simp -zeta only [j]
      rw [wrap64 (by omega) (by omega)]
      exact rby_l1 hl hn vq s mc hk d (i + 1) a' (by omega) hb'
    clear_value j
    simp -zeta (disch := omega) only [chkP_some, iteB_true, iteB_false, add_mk, Nat.zero_add, Nat.add_zero, Nat.mul_one, Nat.reduceAdd, Int.toNat_natCast, ex_int, ex_slice, ex_ptr, ex_bool, ex_str, ex_flt, ex_any, bnd_in, List.getElem?_cons_zero, List.getElem?_cons_succ, List.set_cons_zero, List.set_cons_succ, List.cons_append, List.nil_append, bne_self_eq_false, beq_self_eq_true, Bool.not_true, Bool.not_false, Option.isNone_some, Option.isNone_none, eq_self, true_and, and_true, and_self, rc, gc]
    refine iteB_intro (fun e => ?_) (fun e => J a (hb.skip (by simpa using e)))
    have e : f i = false := by simpa using e
    refine iteB_intro (fun e2 => J _ (hb.take e fun x hx => ?_)) (fun e2 => ?_)
    · have := of_decide_eq_true e2; omega
    · have e2 := of_decide_eq_false e2
      obtain ⟨x, rfl⟩ := Int.eq_ofNat_of_zero_le (show 0 ≤ a by omega)
      have hxi : x < i := by
        rcases hb with ⟨h1, _⟩ | ⟨y, h1, h2, _⟩ <;> omega
      simp -zeta (disch := omega) only [chkP_some, iteB_true, iteB_false, add_mk, Nat.zero_add, Nat.add_zero, Nat.mul_one, Nat.reduceAdd, Int.toNat_natCast, ex_int, ex_slice, ex_ptr, ex_bool, ex_str, ex_flt, ex_any, bnd_in, List.getElem?_cons_zero, List.getElem?_cons_succ, List.set_cons_zero, List.set_cons_succ, List.cons_append, List.nil_append, bne_self_eq_false, beq_self_eq_true, Bool.not_true, Bool.not_false, Option.isNone_some, Option.isNone_none, eq_self, true_and, and_true, and_self, vals_int vq (gk (z := i) (by omega)), vals_int vq (gk (z := x) (by omega))]
      refine iteB_intro (fun e3 => J _ (hb.take e fun y hy => ?_)) (fun e3 => J _ (hb.keep ?_))
      · have : x = y := by omega
        subst this; exact of_decide_eq_true e3
      · have := of_decide_eq_false e3; omega
end


theorem boolV_set {n i : Nat} {f : Nat → Bool} {x : Bool} : (boolV n f).set i (.bool x) = boolV n (upd f i x) := by
  apply List.ext_getElem?
  intro j
  by_cases h : i = j
  · subst h
    by_cases hj : i < n
    · rw [List.getElem?_set_self (by rw [boolV_len]; exact hj), boolV_get hj, upd_same]
    · rw [List.getElem?_eq_none (by rw [List.length_set, boolV_len]; omega), List.getElem?_eq_none (by rw [boolV_len]; omega)]
  · rw [List.getElem?_set_ne h]
    simp [boolV, List.getElem?_map, List.getElem?_range]
    by_cases hj : j < n
    · simp [hj, upd_ne _ _ (fun e : j = i => h e.symm)]
    · simp [hj]
theorem boolV_congr {n : Nat} {f g : Nat → Bool} (h : ∀ i, i < n → f i = g i) : boolV n f = boolV n g := by
  unfold boolV; exact List.map_congr_left fun i hi => by rw [h i (List.mem_range.1 hi)]
theorem boolV_zero : ∀ n, zeroRow [Value.bool false] n = boolV n fun _ => false
  | 0 => rfl
  | n + 1 => by
    rw [zeroRow, boolV_zero n]
    simp [boolV, List.map_const', List.replicate_succ]

/-- Who came. -/
def cameF (l : List Int) (m x : Nat) : Bool := decide (x ∈ (byL l).take m)
theorem best_next {l : List Int} {m : Nat} {a : Int} (hm : m < l.length) (h : Best l (cameF l m) l.length a) : ∃ x : Nat, a = x ∧ x < l.length ∧ (byL l)[m]? = some x := by
  rcases h with ⟨h1, h2⟩ | ⟨x, h1, h2, h3, h4⟩
  · exfalso
    obtain ⟨z, hz⟩ := get_lt (l := byL l) (i := m) (by rw [byL_len]; exact hm)
    have hzl := (byL_mem l z).1 (List.mem_of_getElem? hz)
    have h5 := of_decide_eq_true (h2 z hzl)
    obtain ⟨j, hj, e⟩ := List.getElem_of_mem h5
    rw [List.length_take] at hj
    rw [List.getElem_take] at e
    have hzm : m < (byL l).length := lt_get hz
    have hzv : (byL l)[m] = z := (List.getElem?_eq_some_iff.1 hz).2
    have := (List.getElem_inj (h₀ := by omega) (h₁ := hzm) (byL_nodup l)).1 (e.trans hzv.symm)
    omega
  · exact ⟨x, h1, h2, byL_next hm h2 (of_decide_eq_false h3) fun y hy hyn => h4 y hy (decide_eq_false hyn)⟩

section
variable {h0 : Base} {R : Rws}
theorem rby_l0 {K2 : Option Addr → Nat → Nat → Heap → Prop} {q : Option Addr} {n c bc cc : Nat} {l : List Int} (hl : l.length = n) (hn : n ≤ 2 ^ 20) (kq : Keeps h0 R q (l.map (Value.int .i64)))
    (hk : ∀ qo co X h', Own qo co (natV (byL l)) X → St h0 h' (X ++ R) → K2 qo n co h') :
    ∀ (d m : Nat) (qo : Option Addr) (co : Nat) (X : Rws) (h : Heap), m + d = n → Own qo co (natV ((byL l).take m)) X → St h0 h (X ++ (bc, boolV n (cameF l m)) :: R) →
      straitref14_By.l0 K2 (d + 1) q n c qo m co ⟨bc, 0, none⟩ n cc (m : Int) h
  | 0, m, qo, co, X, h, hi, o, s => by
    unfold straitref14_By.l0 straitref14_By.b0
    have hin : m = n := by omega
    subst hin
    rw [List.take_of_length_le (by rw [byL_len]; omega)] at o
    exact iteB_neg (decide_eq_false (by omega)) (hk qo co X h o s.mid.tail)
  | d + 1, m, qo, co, X, h, hi, o, s => by
    unfold straitref14_By.l0 straitref14_By.b0
    have vq : valsAt h q (l.map (Value.int .i64)) := kq _ _ s (fun y hy => by simp [hy])
    refine iteB_pos (decide_eq_true (by omega)) ⟨n + 1, rby_l1 (f := cameF l m) (bc := bc) hl hn vq s (by simp) (fun a hb => ?_) n 0 (-1) (by omega) (.inl ⟨rfl, fun j hj => by omega⟩)⟩
    subst hl
    obtain ⟨x, rfl, hx, hxm⟩ := best_next (by omega) hb
    refine ⟨⟨by omega, by omega⟩, ?_⟩
    have s1 : St h0 h ((bc, boolV l.length (cameF l m)) :: (X ++ R)) := (St.re s (by intro a; simp only [cntR_append, cntR_cons, cntR_nil, List.cons_append, List.nil_append, List.set_cons_zero, List.set_cons_succ]; omega))
    have hlen : ((byL l).take m).length = m := by rw [List.length_take, byL_len]; omega
    try simp -zeta (disch := omega) only [chkP_some, iteB_true, iteB_false, add_mk, Nat.zero_add, Nat.add_zero, Nat.mul_one, Nat.reduceAdd, Int.toNat_natCast, ex_int, ex_slice, ex_ptr, ex_bool, ex_str, ex_flt, ex_any, bnd_in, List.getElem?_cons_zero, List.getElem?_cons_succ, List.set_cons_zero, List.set_cons_succ, List.cons_append, List.nil_append, bne_self_eq_false, beq_self_eq_true, Bool.not_true, Bool.not_false, Option.isNone_some, Option.isNone_none, eq_self, true_and, and_true, and_self, s1.rd0]
    refine s1.st0 (by rw [boolV_len]; exact hx) fun h2 s2 => ?_
    rw [boolV_set, boolV_congr (g := cameF l (m + 1)) fun k hk => ?_] at s2
    · have s3 : St h0 h2 (X ++ (bc, boolV l.length (cameF l (m + 1))) :: R) := (St.re s2 (by intro a; simp only [cntR_append, cntR_cons, cntR_nil, List.cons_append, List.nil_append, List.set_cons_zero, List.set_cons_succ]; omega))
      refine Own.push1 o s3 (by rw [natV_len, hlen]) rfl (by rw [natV_len]; omega) fun q2 c2 X2 h3 o2 s4 => ?_
      rw [wrap64 (by omega) (by omega)]
      have ih := rby_l0 (c := c) (cc := cc) rfl hn kq hk d (m + 1) q2 c2 X2 h3 (by omega) (by rw [take_snoc hxm]; simpa [natV] using o2) s4
      simpa [natV_len, hlen] using ih
    · unfold Hp.upd cameF
      rw [take_snoc hxm]
      by_cases ck : k = x
      · subst ck; simp
      · rw [if_neg ck]; simp [ck]

theorem RBy_of {h : Heap} {n c : Nat} {q : Option Addr} {l : List Int} {K : Option Addr → Nat → Nat → Heap → Prop} (hl : l.length = n) (hn : n ≤ 2 ^ 20) (kq : Keeps h0 R q (l.map (Value.int .i64))) (s : St h0 h R)
    (hk : ∀ qo co X h', Own qo co (natV (byL l)) X → St h0 h' (X ++ R) → K qo n co h') : straitref14_By q n c h K := by
  unfold straitref14_By
  refine ⟨⟨by omega, by omega, by omega, by omega⟩, ?_⟩
  rw [Int.toNat_natCast]
  refine s.new_ fun bc h1 s1 => ?_
  rw [boolV_zero] at s1
  refine ⟨n + 1, rby_l0 hl hn kq hk n 0 none 0 [] h1 (by omega) (by simpa [natV] using Own.nil) ?_⟩
  rw [boolV_congr (g := cameF l 0) fun k hk => by simp [cameF]] at s1
  simpa using s1
end


/-- Of the first k those that differ from the one ahead. -/
def comp (l : List Int) : Nat → List Int
  | 0 => []
  | k + 1 => comp l k ++ (if k = 0 ∨ l.getD k 0 ≠ l.getD (k - 1) 0 then [l.getD k 0] else [])
theorem comp_succ (l : List Int) (k : Nat) : comp l (k + 1) = comp l k ++ (if k = 0 ∨ l.getD k 0 ≠ l.getD (k - 1) 0 then [l.getD k 0] else []) := rfl
theorem comp_le (l : List Int) : ∀ k, (comp l k).length ≤ k
  | 0 => Nat.le_refl _
  | k + 1 => by
    have := comp_le l k
    unfold comp; rw [List.length_append]; split <;> simp <;> omega
theorem comp_pos (l : List Int) {k : Nat} (h : 0 < k) : 0 < (comp l k).length := by
  induction k with
  | zero => omega
  | succ k ih =>
    unfold comp; rw [List.length_append]
    rcases Nat.eq_zero_or_pos k with rfl | hk
    · simp
    · have := ih hk; omega
theorem comp_all {l : List Int} : ∀ {k : Nat}, k ≤ l.length → (∀ i, 0 < i → i < k → l.getD i 0 ≠ l.getD (i - 1) 0) → comp l k = l.take k
  | 0, _, _ => by simp [comp]
  | k + 1, hk, h => by
    unfold comp
    rw [comp_all (by omega) (fun i h0 hi => h i h0 (by omega))]
    obtain ⟨x, hx⟩ := get_lt (l := l) (i := k) (by omega)
    rw [take_snoc hx]
    congr 1
    rw [if_pos]
    · simp [List.getD, hx]
    · rcases Nat.eq_zero_or_pos k with rfl | hk
      · exact .inl rfl
      · exact .inr (h k hk (by omega))



theorem map_range_get (l : List Int) : (List.range l.length).map (keyI l) = l := by
  apply List.ext_getElem?
  intro i
  by_cases h : i < l.length
  · simp [h, keyI, List.getD]
  · rw [List.getElem?_eq_none (by simp; omega), List.getElem?_eq_none (by omega)]
theorem sortI_by (l : List Int) : sortI l = (byL l).map (keyI l) := by
  refine sortI_one ?_ ?_
  · have := (byL_perm l).map (keyI l)
    rw [map_range_get] at this; exact this.symm
  · refine List.pairwise_map.2 ((byL_up l).imp fun h => ?_)
    rw [leK_iff] at h; omega
theorem sortI_at {l : List Int} {i v : Nat} (h : (byL l)[i]? = some v) : (sortI l)[i]? = some (keyI l v) := by rw [sortI_by, List.getElem?_map, h]; rfl

section
variable {h0 : Base} {R : Rws}
theorem rdist_l0 {K2 : Option Addr → Nat → Nat → Heap → Prop} {n c cp : Nat} {qk qp : Option Addr} {l : List Int} (hl : l.length = n) (hn : n ≤ 2 ^ 20) (kk : Keeps h0 R qk (l.map (Value.int .i64))) (kp : Keeps h0 R qp (natV (byL l)))
    (hk : ∀ q co X h', Own q co ((comp (sortI l) n).map (Value.int .i64)) X → St h0 h' (X ++ R) → K2 q (comp (sortI l) n).length co h') :
    ∀ (d i : Nat) (q : Option Addr) (co : Nat) (X : Rws) (h : Heap), i + d = n → Own q co ((comp (sortI l) i).map (Value.int .i64)) X → St h0 h (X ++ R) → straitref14_Distinct.l0 K2 (d + 1) qk n c q (comp (sortI l) i).length co qp n cp (i : Int) h
  | 0, i, q, co, X, h, hi, o, s => by
    unfold straitref14_Distinct.l0 straitref14_Distinct.b0
    have e : i = n := by omega
    subst e
    exact iteB_neg (decide_eq_false (by omega)) (hk q co X h o s)
  | d + 1, i, q, co, X, h, hi, o, s => by
    unfold straitref14_Distinct.l0 straitref14_Distinct.b0
    have hbl := byL_len l
    obtain ⟨v, hv⟩ := get_lt (l := byL l) (i := i) (by omega)
    have hvl : v < l.length := (byL_mem l v).1 (List.mem_of_getElem? hv)
    have vp := kp.at1 (X := X) s
    have vk := kk.at1 (X := X) s
    have gp : (natV (byL l))[i]? = some (.int .i64 (v : Int)) := by simp [natV, hv]
    have gk : (l.map (Value.int .i64))[v]? = some (.int .i64 (keyI l v)) := by simp [keyI, List.getD, hvl]
    have cl := comp_le (sortI l) i
    have ex : (sortI l).getD i 0 = keyI l v := by simp [List.getD, sortI_at hv]
    refine iteB_pos (decide_eq_true (by omega)) ?_
    intro j
    have J : ∀ t : Bool, comp (sortI l) (i + 1) = comp (sortI l) i ++ (if t = true then [keyI l v] else []) → j t := by
      intro t ht
      simp -zeta only [j]
      refine iteB_intro (fun e => ?_) (fun e => ?_)
      · rw [if_pos e] at ht
        simp -zeta (disch := omega) only [chkP_some, iteB_true, iteB_false, add_mk, Nat.zero_add, Nat.add_zero, Nat.mul_one, Nat.reduceAdd, Int.toNat_natCast, ex_int, ex_slice, ex_ptr, ex_bool, ex_str, ex_flt, ex_any, bnd_in, List.getElem?_cons_zero, List.getElem?_cons_succ, List.set_cons_zero, List.set_cons_succ, List.cons_append, List.nil_append, bne_self_eq_false, beq_self_eq_true, Bool.not_true, Bool.not_false, Option.isNone_some, Option.isNone_none, eq_self, true_and, and_true, and_self, vals_int vp gp, vals_int vk gk]
        refine Own.push1 o s (by simp) rfl (by simp; omega) fun q2 c3 X2 h2 o2 s2 => ?_
        rw [wrap64 (by omega) (by omega)]
        have := rdist_l0 (c := c) (cp := cp) hl hn kk kp hk d (i + 1) q2 c3 X2 h2 (by omega) (by rw [ht]; simpa using o2) s2
        rw [ht] at this; simpa using this
      · rw [if_neg (by simp [e]), List.append_nil] at ht
        rw [wrap64 (by omega) (by omega)]
        have := rdist_l0 (c := c) (cp := cp) hl hn kk kp hk d (i + 1) q co X h (by omega) (by rw [ht]; exact o) s
        rw [ht] at this; exact this
    clear_value j
    refine iteB_intro (fun e => J true ?_) (fun e => ?_)
    · have e : i = 0 := by have : (i : Int) = 0 := by simpa using e
                           omega
      rw [comp_succ, ex, if_pos (.inl e)]; rfl
    · have e : ¬ i = 0 := by have : ¬ (i : Int) = 0 := by simpa using e
                             omega
      obtain ⟨u, hu⟩ := get_lt (l := byL l) (i := i - 1) (by omega)
      have hul : u < l.length := (byL_mem l u).1 (List.mem_of_getElem? hu)
      have gp2 : (natV (byL l))[i - 1]? = some (.int .i64 (u : Int)) := by simp [natV, hu]
      have gk2 : (l.map (Value.int .i64))[u]? = some (.int .i64 (keyI l u)) := by simp [keyI, List.getD, hul]
      have ey : (sortI l).getD (i - 1) 0 = keyI l u := by simp [List.getD, sortI_at hu]
      rw [wrap64 (x := (i : Int) - 1) (by omega) (by omega), show (i : Int) - 1 = ((i - 1 : Nat) : Int) by omega]
      simp -zeta (disch := omega) only [chkP_some, iteB_true, iteB_false, add_mk, Nat.zero_add, Nat.add_zero, Nat.mul_one, Nat.reduceAdd, Int.toNat_natCast, ex_int, ex_slice, ex_ptr, ex_bool, ex_str, ex_flt, ex_any, bnd_in, List.getElem?_cons_zero, List.getElem?_cons_succ, List.set_cons_zero, List.set_cons_succ, List.cons_append, List.nil_append, bne_self_eq_false, beq_self_eq_true, Bool.not_true, Bool.not_false, Option.isNone_some, Option.isNone_none, eq_self, true_and, and_true, and_self, vals_int vp gp, vals_int vk gk, vals_int vp gp2, vals_int vk gk2]
      refine J _ ?_
      rw [comp_succ, ex, ey]
      have : (i = 0 ∨ keyI l v ≠ keyI l u) ↔ (keyI l v != keyI l u) = true := by simp [e]
      simp only [this]

theorem RDistinct_of {h : Heap} {n c : Nat} {q : Option Addr} {l : List Int} {K : Option Addr → Nat → Nat → Heap → Prop} (hl : l.length = n) (hn : n ≤ 2 ^ 20) (kq : Keeps h0 R q (l.map (Value.int .i64))) (s : St h0 h R)
    (hk : ∀ q co X h', Own q co ((comp (sortI l) n).map (Value.int .i64)) X → St h0 h' (X ++ R) → K q (comp (sortI l) n).length co h') : straitref14_Distinct q n c h K := by
  unfold straitref14_Distinct
  refine callP3.self (RBy_of hl hn kq s fun q1 c1 X1 h1 o s1 => ?_)
  refine ⟨n + 1, rdist_l0 (R := X1 ++ R) hl hn kq.app (o.keeps (fun z hz => by simp [hz])) (fun q2 co X h' o2 s2 => hk q2 co X h' o2 ((St.re s2 (by intro a; simp only [cntR_append, cntR_cons, cntR_nil, List.cons_append, List.nil_append, List.set_cons_zero, List.set_cons_succ]; omega)))) n 0 none 0 [] h1 (by omega) (by simpa [comp] using Own.nil) s1⟩
end
end Go.Proofs.Ytfidcekobjmamaa
