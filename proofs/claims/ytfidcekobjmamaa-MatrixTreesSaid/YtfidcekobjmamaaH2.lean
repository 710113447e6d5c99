/-
  The document's trees: ways, what is below; depths (turned from the trees' texts).
-/
import Derived.Test.YtfidcekobjmamaaH1
namespace Go.Proofs.Ytfidcekobjmamaa
set_option linter.unusedVariables false
set_option linter.unusedSimpArgs false
set_option linter.unnecessarySimpa false
open Go.Hp Go.RowKit
attribute [local irreducible] Go.Hp.iteB Go.Hp.stC Go.Hp.newP

section
variable {U : Nat → Int} {n : Nat}
/-- The way up from a vertex. -/
abbrev ways (U : Nat → Int) (n v : Nat) : List Nat := upL U n (n + 1) (v : Int)
theorem upL_fuel : ∀ {d f v : Nat}, hasD U n d v → d < f → upL U n f (v : Int) = upL U n (d + 1) (v : Int)
  | 0, f + 1, v, h, hf => by
    unfold upL
    rw [if_pos ⟨by omega, by have := h.1; omega⟩, if_pos ⟨by omega, by have := h.1; omega⟩, Int.toNat_natCast, h.2, upL_neg (by decide), upL_neg (by decide)]
  | d + 1, f + 1, v, h, hf => by
    obtain ⟨hv, u, hu, hd⟩ := h
    unfold upL
    rw [if_pos ⟨by omega, by omega⟩, if_pos ⟨by omega, by omega⟩, Int.toNat_natCast, hu, upL_fuel hd (by omega)]
theorem ways_root {v : Nat} (h : hasD U n 0 v) : ways U n v = [v] := by
  have := h.1
  unfold ways upL
  rw [if_pos ⟨by omega, by omega⟩, Int.toNat_natCast, h.2, upL_neg (by decide)]
theorem ways_cons {d v f : Nat} (h : hasD U n (d + 1) v) (hf : U v = (f : Int)) : ways U n v = v :: ways U n f := by
  obtain ⟨e, he, hd⟩ := h.up hf
  have : e = d := by omega
  subst this
  have h1 := h.lt; have h2 := h.lt_n
  unfold ways
  conv => lhs; unfold upL
  rw [if_pos ⟨by omega, by omega⟩, Int.toNat_natCast, hf, upL_fuel hd (by omega), upL_fuel hd (f := n + 1) (by omega)]
theorem ways_deep : ∀ {d v : Nat}, hasD U n d v → ∀ x ∈ ways U n v, ∃ e, hasD U n e x ∧ (x = v ∨ e < d)
  | 0, v, h, x, hx => by
    rw [ways_root h] at hx
    have : x = v := by simpa using hx
    subst this; exact ⟨0, h, .inl rfl⟩
  | d + 1, v, h, x, hx => by
    have h' := h
    obtain ⟨_, f, hf, hd⟩ := h
    rw [ways_cons h' hf] at hx
    rcases List.mem_cons.1 hx with rfl | hx
    · exact ⟨d + 1, h', .inl rfl⟩
    · obtain ⟨e, he, hc⟩ := ways_deep hd x hx
      refine ⟨e, he, .inr ?_⟩
      rcases hc with rfl | hc
      · have := he.uniq hd; omega
      · omega
theorem ways_self {d v : Nat} (h : hasD U n d v) : v ∈ ways U n v := by
  cases d with
  | zero => rw [ways_root h]; simp
  | succ d => obtain ⟨_, f, hf, _⟩ := id h; rw [ways_cons h hf]; simp
theorem ways_nodup : ∀ {d v : Nat}, hasD U n d v → (ways U n v).Nodup
  | 0, v, h => by rw [ways_root h]; simp
  | d + 1, v, h => by
    have h' := h
    obtain ⟨_, f, hf, hd⟩ := h
    rw [ways_cons h' hf]
    refine List.nodup_cons.2 ⟨fun hx => ?_, ways_nodup hd⟩
    obtain ⟨e, he, hc⟩ := ways_deep hd v hx
    have := he.uniq h'
    rcases hc with rfl | hc
    · have := he.uniq hd; omega
    · omega
theorem ways_lt {v x : Nat} (h : x ∈ ways U n v) : x < n := upL_lt x h

/-- Where two ways meet: what lies ahead of that on each is not on the other one. -/
structure Meets (a b a1 : List Nat) (top : Nat) (b1 : List Nat) : Prop where
  ex : ∃ r, a = a1 ++ top :: r ∧ b = b1 ++ top :: r
  na : ∀ x ∈ a1, x ∉ b
  nb : ∀ x ∈ b1, x ∉ a
theorem Meets.swap {a b a1 b1 : List Nat} {top : Nat} (h : Meets a b a1 top b1) : Meets b a b1 top a1 := by
  obtain ⟨⟨r, h1, h2⟩, h3, h4⟩ := h
  exact ⟨⟨r, h2, h1⟩, h4, h3⟩
theorem split_uniq {p : Nat → Prop} : ∀ {a1 a1' r r' : List Nat} {t t' : Nat}, a1 ++ t :: r = a1' ++ t' :: r' → (∀ x ∈ a1, ¬ p x) → (∀ x ∈ a1', ¬ p x) → p t → p t' → a1 = a1' ∧ t = t'
  | [], [], _, _, _, _, h, _, _, _, _ => ⟨rfl, by simpa using (List.cons.inj h).1⟩
  | [], x :: l, _, _, _, _, h, _, h2, h3, _ => by
    have := (List.cons.inj h).1
    subst this; exact absurd h3 (h2 _ (by simp))
  | x :: l, [], _, _, _, _, h, h1, _, _, h4 => by
    have := (List.cons.inj h).1
    subst this; exact absurd h4 (h1 _ (by simp))
  | x :: l, y :: m, _, _, _, _, h, h1, h2, h3, h4 => by
    obtain ⟨rfl, h⟩ := List.cons.inj h
    have g := split_uniq (a1 := l) (a1' := m) (by simpa using h) (fun z hz => h1 z (by simp [hz])) (fun z hz => h2 z (by simp [hz])) h3 h4
    exact ⟨by rw [g.1], g.2⟩
theorem Meets.uniq {a b a1 b1 a1' b1' : List Nat} {top top' : Nat} (h : Meets a b a1 top b1) (h' : Meets a b a1' top' b1') : a1 = a1' ∧ top = top' ∧ b1 = b1' := by
  obtain ⟨⟨r, e1, e2⟩, h3, h4⟩ := h
  obtain ⟨⟨r', g1, g2⟩, h3', h4'⟩ := h'
  obtain ⟨q1, q2⟩ := split_uniq (p := (· ∈ b)) (e1.symm.trans g1) h3 h3' (by rw [e2]; simp) (by rw [g2]; simp)
  obtain ⟨q3, _⟩ := split_uniq (p := (· ∈ a)) (e2.symm.trans g2) h4 h4' (by rw [e1]; simp) (by rw [g1]; simp)
  exact ⟨q1, q2, q3⟩
end

theorem in_l0 {K0 : Bool → Heap → Prop} {K2 : Heap → Prop} {h : Heap} {q : Option Addr} {c n : Nat} {l : List Nat} {v : Int} (hl : l.length = n) (hn : n < 2 ^ 40) (vq : valsAt h q (natV l)) (hk0 : v ∈ l.map (fun x : Nat => (x : Int)) → K0 true h) (hk2 : v ∉ l.map (fun x : Nat => (x : Int)) → K2 h) :
    ∀ (d i : Nat), i + d = n → v ∉ (l.take i).map (fun x : Nat => (x : Int)) → straitref21_In.l0 K0 K2 (d + 1) q n c v (i : Int) h
  | 0, i, hi, hno => by
    unfold straitref21_In.l0 straitref21_In.b0
    rw [List.take_of_length_le (by omega)] at hno
    exact iteB_neg (decide_eq_false (by omega)) (hk2 hno)
  | d + 1, i, hi, hno => by
    unfold straitref21_In.l0 straitref21_In.b0
    obtain ⟨x, hx⟩ := get_lt (l := l) (i := i) (by omega)
    have gx : (natV l)[i]? = some (.int .i64 (x : Int)) := by simp [natV, hx]
    refine iteB_pos (decide_eq_true (by omega)) ?_
    simp -zeta (disch := omega) only [chkP_some, iteB_true, iteB_false, add_mk, Nat.zero_add, Nat.add_zero, Nat.mul_one, Nat.reduceAdd, Int.toNat_natCast, ex_int, ex_slice, ex_ptr, ex_bool, ex_str, ex_flt, ex_any, bnd_in, List.getElem?_cons_zero, List.getElem?_cons_succ, List.set_cons_zero, List.set_cons_succ, List.cons_append, List.nil_append, bne_self_eq_false, beq_self_eq_true, Bool.not_true, Bool.not_false, Option.isNone_some, Option.isNone_none, eq_self, true_and, and_true, and_self, vals_int vq gx]
    refine iteB_intro (fun e => hk0 ?_) (fun e => ?_)
    · have e : (x : Int) = v := by simpa using e
      exact List.mem_map.2 ⟨x, List.mem_of_getElem? hx, e⟩
    · have e : ¬ (x : Int) = v := by simpa using e
      rw [wrap_id (by omega) (by omega)]
      refine in_l0 hl hn vq hk0 hk2 d (i + 1) (by omega) ?_
      rw [take_snoc hx, List.map_append, List.mem_append]
      intro h
      rcases h with h | h
      · exact hno h
      · simp only [List.map_cons, List.map_nil, List.mem_singleton] at h; exact e h.symm
theorem In_of {h : Heap} {q : Option Addr} {c n : Nat} {l : List Nat} {v : Int} {K : Bool → Heap → Prop} (hl : l.length = n) (hn : n < 2 ^ 40) (vq : valsAt h q (natV l)) (hk : K (decide (v ∈ l.map (fun x : Nat => (x : Int)))) h) : straitref21_In q n c v h K := by
  unfold straitref21_In
  exact ⟨n + 1, in_l0 hl hn vq (fun h => by rw [decide_eq_true h] at hk; exact hk) (fun h => by rw [decide_eq_false h] at hk; exact hk) n 0 (by omega) (by simp)⟩
theorem mem_cast {l : List Nat} {v : Nat} : (v : Int) ∈ l.map (fun x : Nat => (x : Int)) ↔ v ∈ l := by
  rw [List.mem_map]
  constructor
  · rintro ⟨x, hx, e⟩
    have : x = v := by omega
    subst this; exact hx
  · exact fun h => ⟨v, h, rfl⟩

def isB (up : List Int) (v u : Nat) : Bool := decide (v ∈ ways (UU up) up.length u)
open Classical in
noncomputable def belL (up w : List Int) (v : Int) : List Nat := if RightT up w ∧ 0 ≤ v ∧ v < (up.length : Int) then (List.range up.length).filter (isB up v.toNat) else []
theorem belL_le (up w : List Int) (v : Int) : (belL up w v).length ≤ up.length := by
  unfold belL; split
  · have := List.length_filter_le (isB up v.toNat) (List.range up.length); simpa using this
  · simp

theorem filter1 {α : Type} (p : α → Bool) (i : α) : [i].filter p = if p i = true then [i] else [] := by cases h : p i <;> simp [h]
/-- How deep a vertex is, by the way up. -/
def dN (up : List Int) (v : Nat) : Nat := (upL (UU up) up.length (up.length + 1) (v : Int)).length - 1
open Classical in
noncomputable def depL (up w : List Int) : List Nat := if RightT up w then (List.range up.length).map (dN up) else []
theorem dN_deep {up : List Int} {d v : Nat} (h : hasD (UU up) up.length d v) : dN up v = d := by
  unfold dN; rw [upL_deep h (by have := h.lt_n; omega)]; rfl
theorem natV_ints (l : List Nat) : natV l = (l.map fun v : Nat => (v : Int)).map (Value.int .i64) := by simp [natV]
theorem natV_range (n : Nat) (f : Nat → Nat) : natV ((List.range n).map f) = ints n fun v => (f v : Int) := by rw [ints_vals, natV_ints]; simp
theorem rt_deep {up w : List Int} (r : RightT up w) {v : Nat} (hv : v < up.length) : ∃ d, hasD (UU up) up.length d v := r.deep v hv

section
variable {h0 : Base} {R : Rws} {n : Nat} {up w : List Int} {qU qW : Option Addr} {cU cW : Nat}
open Classical in
theorem in_of {h : Heap} {m : Nat} {v : Int} {K : Bool → Heap → Prop} (hup : up.length = n) (hw : w.length = m) (kU : Keeps h0 R qU (up.map (Value.int .i64))) (kW : Keeps h0 R qW (w.map (Value.int .i64))) (s : St h0 h R)
    (hk : ∀ h', St h0 h' R → K (decide (RightT up w ∧ 0 ≤ v ∧ v < (n : Int))) h') : straitref29_in qU n cU qW m cW v h K := by
  unfold straitref29_in
  refine s.new_ fun t h1 s1 => ?_
  try simp -zeta (disch := omega) only [chkP_some, iteB_true, iteB_false, add_mk, Nat.zero_add, Nat.add_zero, Nat.mul_one, Nat.reduceAdd, Int.toNat_natCast, ex_int, ex_slice, ex_ptr, ex_bool, ex_str, ex_flt, ex_any, bnd_in, List.getElem?_cons_zero, List.getElem?_cons_succ, List.set_cons_zero, List.set_cons_succ, List.cons_append, List.nil_append, bne_self_eq_false, beq_self_eq_true, Bool.not_true, Bool.not_false, Option.isNone_some, Option.isNone_none, eq_self, true_and, and_true, and_self, s1.rd0]
  refine callP1.self (Right_of hup hw kU.cons kW.cons s1 fun h2 s2 => ?_)
  have H := hk h2 s2.tail
  refine iteB_intro (fun e => ?_) (fun e => ?_)
  · have e : RightT up w := by simpa using e
    refine iteB_intro (fun e2 => ?_) (fun e2 => ?_)
    · have e2 : 0 ≤ v := by simpa using e2
      try simp -zeta (disch := omega) only [chkP_some, iteB_true, iteB_false, add_mk, Nat.zero_add, Nat.add_zero, Nat.mul_one, Nat.reduceAdd, Int.toNat_natCast, ex_int, ex_slice, ex_ptr, ex_bool, ex_str, ex_flt, ex_any, bnd_in, List.getElem?_cons_zero, List.getElem?_cons_succ, List.set_cons_zero, List.set_cons_succ, List.cons_append, List.nil_append, bne_self_eq_false, beq_self_eq_true, Bool.not_true, Bool.not_false, Option.isNone_some, Option.isNone_none, eq_self, true_and, and_true, and_self, s2.rd0]
      rw [show decide (RightT up w ∧ 0 ≤ v ∧ v < (n : Int)) = decide (v < (n : Int)) from decide_eq_decide.2 ⟨fun h => h.2.2, fun h => ⟨e, e2, h⟩⟩] at H
      exact H
    · have e2 : v < 0 := by simpa using e2
      rw [decide_eq_false (by intro h; omega)] at H; exact H
  · have e : ¬ RightT up w := by simpa using e
    rw [decide_eq_false (fun h => e h.1)] at H; exact H

open Classical in
theorem PDepths_of {h : Heap} {m : Nat} {K : Option Addr → Nat → Nat → Heap → Prop} (hup : up.length = n) (hw : w.length = m) (kU : Keeps h0 R qU (up.map (Value.int .i64))) (kW : Keeps h0 R qW (w.map (Value.int .i64))) (s : St h0 h R)
    (hk : ∀ q c X h', Own q c (natV (depL up w)) X → St h0 h' (X ++ R) → K q (depL up w).length c h') : tree_Depths qU n cU qW m cW h K := by
  unfold tree_Depths
  refine s.new_ fun t h1 s1 => ?_
  try simp -zeta (disch := omega) only [chkP_some, iteB_true, iteB_false, add_mk, Nat.zero_add, Nat.add_zero, Nat.mul_one, Nat.reduceAdd, Int.toNat_natCast, ex_int, ex_slice, ex_ptr, ex_bool, ex_str, ex_flt, ex_any, bnd_in, List.getElem?_cons_zero, List.getElem?_cons_succ, List.set_cons_zero, List.set_cons_succ, List.cons_append, List.nil_append, bne_self_eq_false, beq_self_eq_true, Bool.not_true, Bool.not_false, Option.isNone_some, Option.isNone_none, eq_self, true_and, and_true, and_self, s1.rd0]
  refine callP4.self (depths_of hup hw kU.cons kW.cons s1 (fun hno h' s' => ?_) (fun r h' b D hD s' => ?_))
  · have := hk none 0 [] h' (by rw [depL, if_neg hno]; exact Own.nil) s'.tail
    rw [depL, if_neg hno] at this; exact this
  · have hl : (depL up w).length = n := by rw [depL, if_pos r]; simp [hup]
    have he : ints n D = natV (depL up w) := by
      rw [depL, if_pos r, natV_range, hup]
      refine ints_congr fun v hv => ?_
      obtain ⟨d, h1, h2⟩ := hD v hv
      rw [h1, dN_deep (by rw [hup]; exact h2)]
    rw [he] at s'
    have := hk (some ⟨b, 0, none⟩) (natV (depL up w)).length [(b, natV (depL up w))] h' (Own.made b _) (by have := s'.pull1; simpa using this.tail)
    rw [natV_len, hl] at this; exact this

theorem rbel_l0 {K2 : Option Addr → Nat → Nat → Heap → Prop} {t m v : Nat} (hup : up.length = n) (hn : n ≤ 4096) (kU : Keeps h0 R qU (up.map (Value.int .i64)))
    (hk : ∀ q c X h', Own q c (natV ((List.range n).filter (isB up v))) X → St h0 h' (X ++ (t, [.slice qU n cU, .slice qW m cW]) :: R) → K2 q ((List.range n).filter (isB up v)).length c h') :
    ∀ (d i : Nat) (q : Option Addr) (c : Nat) (X : Rws) (h : Heap), i + d = n → Own q c (natV ((List.range i).filter (isB up v))) X → St h0 h (X ++ (t, [.slice qU n cU, .slice qW m cW]) :: R) →
      straitref29_Below.l0 K2 (d + 1) (v : Int) ⟨t, 0, none⟩ q ((List.range i).filter (isB up v)).length c (i : Int) h
  | d, i, q, c, X, h, hi, o, s => by
    unfold straitref29_Below.l0 straitref29_Below.b0
    have rt : ∀ j, cell h ⟨t, j, none⟩ = [.slice qU n cU, .slice qW m cW][j]? := s.rd (by simp)
    simp -zeta (disch := omega) only [chkP_some, iteB_true, iteB_false, add_mk, Nat.zero_add, Nat.add_zero, Nat.mul_one, Nat.reduceAdd, Int.toNat_natCast, ex_int, ex_slice, ex_ptr, ex_bool, ex_str, ex_flt, ex_any, bnd_in, List.getElem?_cons_zero, List.getElem?_cons_succ, List.set_cons_zero, List.set_cons_succ, List.cons_append, List.nil_append, bne_self_eq_false, beq_self_eq_true, Bool.not_true, Bool.not_false, Option.isNone_some, Option.isNone_none, eq_self, true_and, and_true, and_self, rt]
    refine iteB_intro (fun e => ?_) (fun e => ?_)
    · have e : i < n := by have e : (i : Int) < n := by simpa using e
                           omega
      cases d with
      | zero => omega
      | succ d =>
        have hfl : ((List.range i).filter (isB up v)).length ≤ i := by
          have := List.length_filter_le (isB up v) (List.range i); simpa using this
        refine callP3.self (Up_of (mW := m) (R := X ++ (t, [.slice qU n cU, .slice qW m cW]) :: R) hup hn kU.cons.app s fun q3 c3 X3 h3 o3 s3 => ?_)
        have hle := upL_le (UU up) n (n + 1) (i : Int)
        refine qcallP1.of (isB up v i) (fun Q hQ => In_of rfl (by omega) (o3.vals s3) (by rw [decide_eq_decide.2 mem_cast]; unfold isB at hQ; rw [hup] at hQ; exact hQ)) ?_
        have s4 := s3.drop
        have er : (List.range (i + 1)).filter (isB up v) = (List.range i).filter (isB up v) ++ (if isB up v i then [i] else []) := by
          rw [List.range_succ, List.filter_append, filter1]
        refine iteB_intro (fun e2 => ?_) (fun e2 => ?_)
        · rw [if_pos e2] at er
          refine Own.push1 o s4 (natV_len _).symm rfl (by rw [natV_len]; omega) fun q2 c2 X2 h2 o2 s2 => ?_
          rw [natV_len, wrap_id (by omega) (by omega)]
          have ih := rbel_l0 hup hn kU hk d (i + 1) q2 c2 X2 h2 (by omega) (by rw [er]; simpa [natV] using o2) s2
          rw [er, List.length_append, List.length_singleton] at ih
          exact ih
        · rw [if_neg (by simp [e2]), List.append_nil] at er
          rw [wrap_id (by omega) (by omega)]
          have ih := rbel_l0 hup hn kU hk d (i + 1) q c X h3 (by omega) (by rw [er]; exact o) s4
          rw [er] at ih; exact ih
    · have e : n ≤ i := by have e : (n : Int) ≤ i := by simpa using e
                           omega
      have hin : i = n := by omega
      subst hin
      exact hk q c X h o s
open Classical in
theorem RBelow_of {h : Heap} {m : Nat} {v : Int} {K : Option Addr → Nat → Nat → Heap → Prop} (hup : up.length = n) (hw : w.length = m) (hn : n ≤ 4096) (kU : Keeps h0 R qU (up.map (Value.int .i64))) (kW : Keeps h0 R qW (w.map (Value.int .i64))) (s : St h0 h R)
    (hk : ∀ q c X h', Own q c (natV (belL up w v)) X → St h0 h' (X ++ R) → K q (belL up w v).length c h') : straitref29_Below qU n cU qW m cW v h K := by
  unfold straitref29_Below
  refine s.new_ fun t h1 s1 => ?_
  try simp -zeta (disch := omega) only [chkP_some, iteB_true, iteB_false, add_mk, Nat.zero_add, Nat.add_zero, Nat.mul_one, Nat.reduceAdd, Int.toNat_natCast, ex_int, ex_slice, ex_ptr, ex_bool, ex_str, ex_flt, ex_any, bnd_in, List.getElem?_cons_zero, List.getElem?_cons_succ, List.set_cons_zero, List.set_cons_succ, List.cons_append, List.nil_append, bne_self_eq_false, beq_self_eq_true, Bool.not_true, Bool.not_false, Option.isNone_some, Option.isNone_none, eq_self, true_and, and_true, and_self, s1.rd0]
  refine callP1.self (in_of hup hw kU.cons kW.cons s1 fun h2 s2 => ?_)
  by_cases e : RightT up w ∧ 0 ≤ v ∧ v < (n : Int)
  · rw [decide_eq_true e]
    have hb : belL up w v = (List.range n).filter (isB up v.toNat) := by unfold belL; rw [hup, if_pos e]
    obtain ⟨v, rfl⟩ := Int.eq_ofNat_of_zero_le e.2.1
    rw [Int.toNat_natCast] at hb
    rw [hb] at hk
    exact iteB_neg rfl ⟨n + 1, rbel_l0 hup hn kU (fun q c X h' o s' => hk q c X h' o (by simpa using St.drop (L := [(t, _)]) (s'.mid))) n 0 none 0 [] h2 (by omega) (by simpa [natV] using Own.nil) (by simpa using s2)⟩
  · rw [decide_eq_false e]
    have hb : belL up w v = [] := by unfold belL; rw [hup, if_neg e]
    rw [hb] at hk
    exact iteB_pos rfl (hk none 0 [] h2 Own.nil s2.tail)
end
end Go.Proofs.Ytfidcekobjmamaa
