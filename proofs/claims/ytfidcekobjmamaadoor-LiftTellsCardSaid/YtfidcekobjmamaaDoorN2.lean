/-
  The document's trees: ways, what is below, the way between two (turned from the trees' texts to the table of jumps).
-/
import Derived.Test.YtfidcekobjmamaaDoorN1
namespace Go.Proofs.YtfidcekobjmamaaDoor
set_option linter.unusedVariables false
set_option linter.unusedSimpArgs false
set_option linter.unnecessarySimpa false
open Go.Hp Go.RowKit
attribute [local irreducible] Go.Hp.iteB Go.Hp.stC Go.Hp.newP

section
variable {U : Nat → Int} {n : Nat}
/-- The way up from a vertex. -/
abbrev ways (U : Nat → Int) (n v : Nat) : List Nat := upL U n (n + 1) (v : Int)
theorem upL_fuel : ∀ {d f v : Nat}, hasD U n d v → d < f → upL U n f (v : Int) = upL U n (d + 1) (v : Int)
  | 0, f + 1, v, h, hf => by
    unfold upL
    rw [if_pos ⟨by omega, by have := h.1; omega⟩, if_pos ⟨by omega, by have := h.1; omega⟩, Int.toNat_natCast, h.2, upL_neg (by decide), upL_neg (by decide)]
  | d + 1, f + 1, v, h, hf => by
    obtain ⟨hv, u, hu, hd⟩ := h
    unfold upL
    rw [if_pos ⟨by omega, by omega⟩, if_pos ⟨by omega, by omega⟩, Int.toNat_natCast, hu, upL_fuel hd (by omega)]
theorem ways_root {v : Nat} (h : hasD U n 0 v) : ways U n v = [v] := by
  have := h.1
  unfold ways upL
  rw [if_pos ⟨by omega, by omega⟩, Int.toNat_natCast, h.2, upL_neg (by decide)]
theorem ways_cons {d v f : Nat} (h : hasD U n (d + 1) v) (hf : U v = (f : Int)) : ways U n v = v :: ways U n f := by
  obtain ⟨e, he, hd⟩ := h.up hf
  have : e = d := by omega
  subst this
  have h1 := h.lt; have h2 := h.lt_n
  unfold ways
  conv => lhs; unfold upL
  rw [if_pos ⟨by omega, by omega⟩, Int.toNat_natCast, hf, upL_fuel hd (by omega), upL_fuel hd (f := n + 1) (by omega)]
theorem ways_deep : ∀ {d v : Nat}, hasD U n d v → ∀ x ∈ ways U n v, ∃ e, hasD U n e x ∧ (x = v ∨ e < d)
  | 0, v, h, x, hx => by
    rw [ways_root h] at hx
    have : x = v := by simpa using hx
    subst this; exact ⟨0, h, .inl rfl⟩
  | d + 1, v, h, x, hx => by
    have h' := h
    obtain ⟨_, f, hf, hd⟩ := h
    rw [ways_cons h' hf] at hx
    rcases List.mem_cons.1 hx with rfl | hx
    · exact ⟨d + 1, h', .inl rfl⟩
    · obtain ⟨e, he, hc⟩ := ways_deep hd x hx
      refine ⟨e, he, .inr ?_⟩
      rcases hc with rfl | hc
      · have := he.uniq hd; omega
      · omega
theorem ways_self {d v : Nat} (h : hasD U n d v) : v ∈ ways U n v := by
  cases d with
  | zero => rw [ways_root h]; simp
  | succ d => obtain ⟨_, f, hf, _⟩ := id h; rw [ways_cons h hf]; simp
theorem ways_nodup : ∀ {d v : Nat}, hasD U n d v → (ways U n v).Nodup
  | 0, v, h => by rw [ways_root h]; simp
  | d + 1, v, h => by
    have h' := h
    obtain ⟨_, f, hf, hd⟩ := h
    rw [ways_cons h' hf]
    refine List.nodup_cons.2 ⟨fun hx => ?_, ways_nodup hd⟩
    obtain ⟨e, he, hc⟩ := ways_deep hd v hx
    have := he.uniq h'
    rcases hc with rfl | hc
    · have := he.uniq hd; omega
    · omega
theorem ways_lt {v x : Nat} (h : x ∈ ways U n v) : x < n := upL_lt x h

/-- Where two ways meet: what lies ahead of that on each is not on the other one. -/
structure Meets (a b a1 : List Nat) (top : Nat) (b1 : List Nat) : Prop where
  ex : ∃ r, a = a1 ++ top :: r ∧ b = b1 ++ top :: r
  na : ∀ x ∈ a1, x ∉ b
  nb : ∀ x ∈ b1, x ∉ a
theorem Meets.swap {a b a1 b1 : List Nat} {top : Nat} (h : Meets a b a1 top b1) : Meets b a b1 top a1 := by
  obtain ⟨⟨r, h1, h2⟩, h3, h4⟩ := h
  exact ⟨⟨r, h2, h1⟩, h4, h3⟩
theorem split_uniq {p : Nat → Prop} : ∀ {a1 a1' r r' : List Nat} {t t' : Nat}, a1 ++ t :: r = a1' ++ t' :: r' → (∀ x ∈ a1, ¬ p x) → (∀ x ∈ a1', ¬ p x) → p t → p t' → a1 = a1' ∧ t = t'
  | [], [], _, _, _, _, h, _, _, _, _ => ⟨rfl, by simpa using (List.cons.inj h).1⟩
  | [], x :: l, _, _, _, _, h, _, h2, h3, _ => by
    have := (List.cons.inj h).1
    subst this; exact absurd h3 (h2 _ (by simp))
  | x :: l, [], _, _, _, _, h, h1, _, _, h4 => by
    have := (List.cons.inj h).1
    subst this; exact absurd h4 (h1 _ (by simp))
  | x :: l, y :: m, _, _, _, _, h, h1, h2, h3, h4 => by
    obtain ⟨rfl, h⟩ := List.cons.inj h
    have g := split_uniq (a1 := l) (a1' := m) (by simpa using h) (fun z hz => h1 z (by simp [hz])) (fun z hz => h2 z (by simp [hz])) h3 h4
    exact ⟨by rw [g.1], g.2⟩
theorem Meets.uniq {a b a1 b1 a1' b1' : List Nat} {top top' : Nat} (h : Meets a b a1 top b1) (h' : Meets a b a1' top' b1') : a1 = a1' ∧ top = top' ∧ b1 = b1' := by
  obtain ⟨⟨r, e1, e2⟩, h3, h4⟩ := h
  obtain ⟨⟨r', g1, g2⟩, h3', h4'⟩ := h'
  obtain ⟨q1, q2⟩ := split_uniq (p := (· ∈ b)) (e1.symm.trans g1) h3 h3' (by rw [e2]; simp) (by rw [g2]; simp)
  obtain ⟨q3, _⟩ := split_uniq (p := (· ∈ a)) (e2.symm.trans g2) h4 h4' (by rw [e1]; simp) (by rw [g1]; simp)
  exact ⟨q1, q2, q3⟩
end

theorem in_l0 {K0 : Bool → Heap → Prop} {K2 : Heap → Prop} {h : Heap} {q : Option Addr} {c n : Nat} {l : List Nat} {v : Int} (hl : l.length = n) (hn : n < 2 ^ 40) (vq : valsAt h q (natV l)) (hk0 : v ∈ l.map (fun x : Nat => (x : Int)) → K0 true h) (hk2 : v ∉ l.map (fun x : Nat => (x : Int)) → K2 h) :
    ∀ (d i : Nat), i + d = n → v ∉ (l.take i).map (fun x : Nat => (x : Int)) → straitref21_In.l0 K0 K2 (d + 1) q n c v (i : Int) h
  | 0, i, hi, hno => by
    unfold straitref21_In.l0 straitref21_In.b0
    rw [List.take_of_length_le (by omega)] at hno
    exact iteB_neg (decide_eq_false (by omega)) (hk2 hno)
  | d + 1, i, hi, hno => by
    unfold straitref21_In.l0 straitref21_In.b0
    obtain ⟨x, hx⟩ := get_lt (l := l) (i := i) (by omega)
    have gx : (natV l)[i]? = some (.int .i64 (x : Int)) := by simp [natV, hx]
    refine iteB_pos (decide_eq_true (by omega)) ?_
    simp -zeta (disch := omega) only [chkP_some, iteB_true, iteB_false, add_mk, Nat.zero_add, Nat.add_zero, Nat.mul_one, Nat.reduceAdd, Int.toNat_natCast, ex_int, ex_slice, ex_ptr, ex_bool, ex_str, ex_flt, ex_any, bnd_in, List.getElem?_cons_zero, List.getElem?_cons_succ, List.set_cons_zero, List.set_cons_succ, List.cons_append, List.nil_append, bne_self_eq_false, beq_self_eq_true, Bool.not_true, Bool.not_false, Option.isNone_some, Option.isNone_none, eq_self, true_and, and_true, and_self, vals_int vq gx]
    refine iteB_intro (fun e => hk0 ?_) (fun e => ?_)
    · have e : (x : Int) = v := by simpa using e
      exact List.mem_map.2 ⟨x, List.mem_of_getElem? hx, e⟩
    · have e : ¬ (x : Int) = v := by simpa using e
      rw [wrap_id (by omega) (by omega)]
      refine in_l0 hl hn vq hk0 hk2 d (i + 1) (by omega) ?_
      rw [take_snoc hx, List.map_append, List.mem_append]
      intro h
      rcases h with h | h
      · exact hno h
      · simp only [List.map_cons, List.map_nil, List.mem_singleton] at h; exact e h.symm
theorem In_of {h : Heap} {q : Option Addr} {c n : Nat} {l : List Nat} {v : Int} {K : Bool → Heap → Prop} (hl : l.length = n) (hn : n < 2 ^ 40) (vq : valsAt h q (natV l)) (hk : K (decide (v ∈ l.map (fun x : Nat => (x : Int)))) h) : straitref21_In q n c v h K := by
  unfold straitref21_In
  exact ⟨n + 1, in_l0 hl hn vq (fun h => by rw [decide_eq_true h] at hk; exact hk) (fun h => by rw [decide_eq_false h] at hk; exact hk) n 0 (by omega) (by simp)⟩
theorem mem_cast {l : List Nat} {v : Nat} : (v : Int) ∈ l.map (fun x : Nat => (x : Int)) ↔ v ∈ l := by
  rw [List.mem_map]
  constructor
  · rintro ⟨x, hx, e⟩
    have : x = v := by omega
    subst this; exact hx
  · exact fun h => ⟨v, h, rfl⟩

def isB (up : List Int) (v u : Nat) : Bool := decide (v ∈ ways (UU up) up.length u)
open Classical in
noncomputable def belL (up w : List Int) (v : Int) : List Nat := if RightT up w ∧ 0 ≤ v ∧ v < (up.length : Int) then (List.range up.length).filter (isB up v.toNat) else []
theorem belL_le (up w : List Int) (v : Int) : (belL up w v).length ≤ up.length := by
  unfold belL; split
  · have := List.length_filter_le (isB up v.toNat) (List.range up.length); simpa using this
  · simp

theorem filter1 {α : Type} (p : α → Bool) (i : α) : [i].filter p = if p i = true then [i] else [] := by cases h : p i <;> simp [h]
section
variable {h0 : Base} {R : Rws} {n : Nat} {up w : List Int} {qU qW : Option Addr} {cU cW : Nat}
open Classical in
theorem Din_of {h : Heap} {m : Nat} {v : Int} {K : Bool → Heap → Prop} (hup : up.length = n) (hw : w.length = m) (kU : Keeps h0 R qU (up.map (Value.int .i64))) (kW : Keeps h0 R qW (w.map (Value.int .i64))) (s : St h0 h R)
    (hk : ∀ h', St h0 h' R → K (decide (RightT up w ∧ 0 ≤ v ∧ v < (n : Int))) h') : straitref29_in qU n cU qW m cW v h K := by
  unfold straitref29_in
  refine s.new_ fun t h1 s1 => ?_
  try simp -zeta (disch := omega) only [chkP_some, iteB_true, iteB_false, add_mk, Nat.zero_add, Nat.add_zero, Nat.mul_one, Nat.reduceAdd, Int.toNat_natCast, ex_int, ex_slice, ex_ptr, ex_bool, ex_str, ex_flt, ex_any, bnd_in, List.getElem?_cons_zero, List.getElem?_cons_succ, List.set_cons_zero, List.set_cons_succ, List.cons_append, List.nil_append, bne_self_eq_false, beq_self_eq_true, Bool.not_true, Bool.not_false, Option.isNone_some, Option.isNone_none, eq_self, true_and, and_true, and_self, s1.rd0]
  refine callP1.self (Right_of hup hw kU.cons kW.cons s1 fun h2 s2 => ?_)
  have H := hk h2 s2.tail
  refine iteB_intro (fun e => ?_) (fun e => ?_)
  · have e : RightT up w := by simpa using e
    refine iteB_intro (fun e2 => ?_) (fun e2 => ?_)
    · have e2 : 0 ≤ v := by simpa using e2
      try simp -zeta (disch := omega) only [chkP_some, iteB_true, iteB_false, add_mk, Nat.zero_add, Nat.add_zero, Nat.mul_one, Nat.reduceAdd, Int.toNat_natCast, ex_int, ex_slice, ex_ptr, ex_bool, ex_str, ex_flt, ex_any, bnd_in, List.getElem?_cons_zero, List.getElem?_cons_succ, List.set_cons_zero, List.set_cons_succ, List.cons_append, List.nil_append, bne_self_eq_false, beq_self_eq_true, Bool.not_true, Bool.not_false, Option.isNone_some, Option.isNone_none, eq_self, true_and, and_true, and_self, s2.rd0]
      rw [show decide (RightT up w ∧ 0 ≤ v ∧ v < (n : Int)) = decide (v < (n : Int)) from decide_eq_decide.2 ⟨fun h => h.2.2, fun h => ⟨e, e2, h⟩⟩] at H
      exact H
    · have e2 : v < 0 := by simpa using e2
      rw [decide_eq_false (by intro h; omega)] at H; exact H
  · have e : ¬ RightT up w := by simpa using e
    rw [decide_eq_false (fun h => e h.1)] at H; exact H

theorem rbel_l0 {K2 : Option Addr → Nat → Nat → Heap → Prop} {t m v : Nat} (hup : up.length = n) (hn : n ≤ 4096) (kU : Keeps h0 R qU (up.map (Value.int .i64)))
    (hk : ∀ q c X h', Own q c (natV ((List.range n).filter (isB up v))) X → St h0 h' (X ++ (t, [.slice qU n cU, .slice qW m cW]) :: R) → K2 q ((List.range n).filter (isB up v)).length c h') :
    ∀ (d i : Nat) (q : Option Addr) (c : Nat) (X : Rws) (h : Heap), i + d = n → Own q c (natV ((List.range i).filter (isB up v))) X → St h0 h (X ++ (t, [.slice qU n cU, .slice qW m cW]) :: R) →
      straitref29_Below.l0 K2 (d + 1) (v : Int) ⟨t, 0, none⟩ q ((List.range i).filter (isB up v)).length c (i : Int) h
  | d, i, q, c, X, h, hi, o, s => by
    unfold straitref29_Below.l0 straitref29_Below.b0
    have rt : ∀ j, cell h ⟨t, j, none⟩ = [.slice qU n cU, .slice qW m cW][j]? := s.rd (by simp)
    simp -zeta (disch := omega) only [chkP_some, iteB_true, iteB_false, add_mk, Nat.zero_add, Nat.add_zero, Nat.mul_one, Nat.reduceAdd, Int.toNat_natCast, ex_int, ex_slice, ex_ptr, ex_bool, ex_str, ex_flt, ex_any, bnd_in, List.getElem?_cons_zero, List.getElem?_cons_succ, List.set_cons_zero, List.set_cons_succ, List.cons_append, List.nil_append, bne_self_eq_false, beq_self_eq_true, Bool.not_true, Bool.not_false, Option.isNone_some, Option.isNone_none, eq_self, true_and, and_true, and_self, rt]
    refine iteB_intro (fun e => ?_) (fun e => ?_)
    · have e : i < n := by have e : (i : Int) < n := by simpa using e
                           omega
      cases d with
      | zero => omega
      | succ d =>
        have hfl : ((List.range i).filter (isB up v)).length ≤ i := by
          have := List.length_filter_le (isB up v) (List.range i); simpa using this
        refine callP3.self (DUp_of (mW := m) (R := X ++ (t, [.slice qU n cU, .slice qW m cW]) :: R) hup hn kU.cons.app s fun q3 c3 X3 h3 o3 s3 => ?_)
        have hle := upL_le (UU up) n (n + 1) (i : Int)
        refine qcallP1.of (isB up v i) (fun Q hQ => In_of rfl (by omega) (o3.vals s3) (by rw [decide_eq_decide.2 mem_cast]; unfold isB at hQ; rw [hup] at hQ; exact hQ)) ?_
        have s4 := s3.drop
        have er : (List.range (i + 1)).filter (isB up v) = (List.range i).filter (isB up v) ++ (if isB up v i then [i] else []) := by
          rw [List.range_succ, List.filter_append, filter1]
        refine iteB_intro (fun e2 => ?_) (fun e2 => ?_)
        · rw [if_pos e2] at er
          refine Own.push1 o s4 (natV_len _).symm rfl (by rw [natV_len]; omega) fun q2 c2 X2 h2 o2 s2 => ?_
          rw [natV_len, wrap_id (by omega) (by omega)]
          have ih := rbel_l0 hup hn kU hk d (i + 1) q2 c2 X2 h2 (by omega) (by rw [er]; simpa [natV] using o2) s2
          rw [er, List.length_append, List.length_singleton] at ih
          exact ih
        · rw [if_neg (by simp [e2]), List.append_nil] at er
          rw [wrap_id (by omega) (by omega)]
          have ih := rbel_l0 hup hn kU hk d (i + 1) q c X h3 (by omega) (by rw [er]; exact o) s4
          rw [er] at ih; exact ih
    · have e : n ≤ i := by have e : (n : Int) ≤ i := by simpa using e
                           omega
      have hin : i = n := by omega
      subst hin
      exact hk q c X h o s
open Classical in
theorem RBelow_of {h : Heap} {m : Nat} {v : Int} {K : Option Addr → Nat → Nat → Heap → Prop} (hup : up.length = n) (hw : w.length = m) (hn : n ≤ 4096) (kU : Keeps h0 R qU (up.map (Value.int .i64))) (kW : Keeps h0 R qW (w.map (Value.int .i64))) (s : St h0 h R)
    (hk : ∀ q c X h', Own q c (natV (belL up w v)) X → St h0 h' (X ++ R) → K q (belL up w v).length c h') : straitref29_Below qU n cU qW m cW v h K := by
  unfold straitref29_Below
  refine s.new_ fun t h1 s1 => ?_
  try simp -zeta (disch := omega) only [chkP_some, iteB_true, iteB_false, add_mk, Nat.zero_add, Nat.add_zero, Nat.mul_one, Nat.reduceAdd, Int.toNat_natCast, ex_int, ex_slice, ex_ptr, ex_bool, ex_str, ex_flt, ex_any, bnd_in, List.getElem?_cons_zero, List.getElem?_cons_succ, List.set_cons_zero, List.set_cons_succ, List.cons_append, List.nil_append, bne_self_eq_false, beq_self_eq_true, Bool.not_true, Bool.not_false, Option.isNone_some, Option.isNone_none, eq_self, true_and, and_true, and_self, s1.rd0]
  refine callP1.self (Din_of hup hw kU.cons kW.cons s1 fun h2 s2 => ?_)
  by_cases e : RightT up w ∧ 0 ≤ v ∧ v < (n : Int)
  · rw [decide_eq_true e]
    have hb : belL up w v = (List.range n).filter (isB up v.toNat) := by unfold belL; rw [hup, if_pos e]
    obtain ⟨v, rfl⟩ := Int.eq_ofNat_of_zero_le e.2.1
    rw [Int.toNat_natCast] at hb
    rw [hb] at hk
    exact iteB_neg rfl ⟨n + 1, rbel_l0 hup hn kU (fun q c X h' o s' => hk q c X h' o (by simpa using St.drop (L := [(t, _)]) (s'.mid))) n 0 none 0 [] h2 (by omega) (by simpa [natV] using Own.nil) (by simpa using s2)⟩
  · rw [decide_eq_false e]
    have hb : belL up w v = [] := by unfold belL; rw [hup, if_neg e]
    rw [hb] at hk
    exact iteB_pos rfl (hk none 0 [] h2 Own.nil s2.tail)
end


def outA (a : List Nat) (x : Nat) : Bool := !decide (x ∈ a)
theorem Meets.rest {a b a1 b1 : List Nat} {top : Nat} (h : Meets a b a1 top b1) : b.reverse.filter (outA a) = b1.reverse := by
  obtain ⟨⟨r, h1, h2⟩, h3, h4⟩ := h
  rw [h2, List.reverse_append, List.filter_append]
  have e1 : (top :: r).reverse.filter (outA a) = [] := List.filter_eq_nil_iff.2 fun x hx => by
    have : x ∈ a := by rw [h1]; simp at hx ⊢; rcases hx with h | h <;> simp [h]
    simp [outA, this]
  have e2 : b1.reverse.filter (outA a) = b1.reverse := List.filter_eq_self.2 fun x hx => by
    simp [outA, h4 x (by simpa using hx)]
  rw [e1, e2, List.nil_append]

section
variable {h0 : Base} {R : Rws} {n : Nat} {up w : List Int} {qU qW : Option Addr} {cU cW : Nat}

theorem rpath_l1 {K4 : Option Addr → Nat → Nat → Heap → Prop} {a b : List Nat} {qa qb : Option Addr} {ca cb : Nat} (ha : a.length ≤ 5000) (hb : b.length ≤ 5000) (ka : Keeps h0 R qa (natV a)) (kb : Keeps h0 R qb (natV b)) {acc : List Nat} (hacc : acc.length ≤ 10000)
    (hk : ∀ q c X h', Own q c (natV (acc ++ b.reverse.filter (outA a))) X → St h0 h' (X ++ R) → K4 q (acc ++ b.reverse.filter (outA a)).length c h') :
    ∀ (k : Nat) (q : Option Addr) (c : Nat) (X : Rws) (h : Heap), k ≤ b.length → Own q c (natV (acc ++ (b.drop k).reverse.filter (outA a))) X → St h0 h (X ++ R) →
      straitref29_Path.l1 K4 (k + 1) q (acc ++ (b.drop k).reverse.filter (outA a)).length c qa a.length ca qb b.length cb ((k : Int) - 1) h
  | 0, q, c, X, h, hkl, o, s => by
    unfold straitref29_Path.l1 straitref29_Path.b1
    rw [List.drop_zero] at o ⊢
    exact iteB_neg (by decide) (hk q c X h o s)
  | k + 1, q, c, X, h, hkl, o, s => by
    unfold straitref29_Path.l1 straitref29_Path.b1
    obtain ⟨x, hx⟩ := get_lt (l := b) (i := k) (by omega)
    have gx : (natV b)[k]? = some (.int .i64 (x : Int)) := by simp [natV, hx]
    have er : (b.drop k).reverse.filter (outA a) = (b.drop (k + 1)).reverse.filter (outA a) ++ (if outA a x then [x] else []) := by
      rw [drop_cons hx, List.reverse_cons, List.filter_append, filter1]
    have hfl : ((b.drop (k + 1)).reverse.filter (outA a)).length ≤ 5000 := by
      have := List.length_filter_le (outA a) (b.drop (k + 1)).reverse; rw [List.length_reverse, List.length_drop] at this; omega
    refine iteB_pos (decide_eq_true (by omega)) ?_
    rw [show ((k + 1 : Nat) : Int) - 1 = (k : Int) by omega]
    simp -zeta (disch := omega) only [chkP_some, iteB_true, iteB_false, add_mk, Nat.zero_add, Nat.add_zero, Nat.mul_one, Nat.reduceAdd, Int.toNat_natCast, ex_int, ex_slice, ex_ptr, ex_bool, ex_str, ex_flt, ex_any, bnd_in, List.getElem?_cons_zero, List.getElem?_cons_succ, List.set_cons_zero, List.set_cons_succ, List.cons_append, List.nil_append, bne_self_eq_false, beq_self_eq_true, Bool.not_true, Bool.not_false, Option.isNone_some, Option.isNone_none, eq_self, true_and, and_true, and_self, vals_int (kb.at1 s) gx]
    refine qcallP1.of (decide (x ∈ a)) (fun Q hQ => In_of rfl (by omega) (ka.at1 s) (by rw [decide_eq_decide.2 mem_cast]; exact hQ)) ?_
    refine iteB_intro (fun e => ?_) (fun e => ?_)
    · have e : outA a x = true := e
      rw [if_pos e] at er
      try simp -zeta (disch := omega) only [chkP_some, iteB_true, iteB_false, add_mk, Nat.zero_add, Nat.add_zero, Nat.mul_one, Nat.reduceAdd, Int.toNat_natCast, ex_int, ex_slice, ex_ptr, ex_bool, ex_str, ex_flt, ex_any, bnd_in, List.getElem?_cons_zero, List.getElem?_cons_succ, List.set_cons_zero, List.set_cons_succ, List.cons_append, List.nil_append, bne_self_eq_false, beq_self_eq_true, Bool.not_true, Bool.not_false, Option.isNone_some, Option.isNone_none, eq_self, true_and, and_true, and_self, vals_int (kb.at1 s) gx]
      refine Own.push1 o s (natV_len _).symm rfl (by rw [natV_len]; simp only [List.length_append]; omega) fun q2 c2 X2 h2 o2 s2 => ?_
      rw [natV_len, wrap_id (by omega) (by omega)]
      have ih := rpath_l1 (ca := ca) (cb := cb) ha hb ka kb hacc hk k q2 c2 X2 h2 (by omega) (by rw [er]; simpa [natV] using o2) s2
      rw [er, ← List.append_assoc, List.length_append, List.length_singleton] at ih
      exact ih
    · have e : outA a x = false := e
      rw [e] at er
      simp only [Bool.false_eq_true, if_false, List.append_nil] at er
      rw [wrap_id (by omega) (by omega)]
      have ih := rpath_l1 (ca := ca) (cb := cb) ha hb ka kb hacc hk k q c X h (by omega) (by rw [er]; exact o) s
      rw [er] at ih; exact ih

theorem rpath_l0 {K0 K2 : Option Addr → Nat → Nat → Heap → Prop} {a b a1 b1 : List Nat} {top : Nat} (M : Meets a b a1 top b1) {qa qb : Option Addr} {ca cb : Nat} (ha : a.length ≤ 5000) (hb : b.length ≤ 5000) (ka : Keeps h0 R qa (natV a)) (kb : Keeps h0 R qb (natV b))
    (hk : ∀ q c X h', Own q c (natV (a1 ++ [top] ++ b1.reverse)) X → St h0 h' (X ++ R) → K0 q (a1 ++ [top] ++ b1.reverse).length c h') :
    ∀ (d i : Nat) (q : Option Addr) (c : Nat) (X : Rws) (h : Heap), i + d = a1.length → Own q c (natV (a1.take i)) X → St h0 h (X ++ R) → straitref29_Path.l0 K0 K2 (d + 1) q (a1.take i).length c qa a.length ca qb b.length cb (i : Int) h
  | d, i, q, c, X, h, hi, o, s => by
    unfold straitref29_Path.l0 straitref29_Path.b0
    obtain ⟨r, ea, eb⟩ := M.ex
    have hal : a.length = a1.length + (r.length + 1) := by rw [ea]; simp
    obtain ⟨x, hx⟩ := get_lt (l := a) (i := i) (by omega)
    have gx : (natV a)[i]? = some (.int .i64 (x : Int)) := by simp [natV, hx]
    refine iteB_pos (decide_eq_true (by omega)) ?_
    simp -zeta (disch := omega) only [chkP_some, iteB_true, iteB_false, add_mk, Nat.zero_add, Nat.add_zero, Nat.mul_one, Nat.reduceAdd, Int.toNat_natCast, ex_int, ex_slice, ex_ptr, ex_bool, ex_str, ex_flt, ex_any, bnd_in, List.getElem?_cons_zero, List.getElem?_cons_succ, List.set_cons_zero, List.set_cons_succ, List.cons_append, List.nil_append, bne_self_eq_false, beq_self_eq_true, Bool.not_true, Bool.not_false, Option.isNone_some, Option.isNone_none, eq_self, true_and, and_true, and_self, vals_int (ka.at1 s) gx]
    have hl : (a1.take i).length = i := by simp; omega
    refine Own.push1 o s (natV_len _).symm rfl (by rw [natV_len]; omega) fun q2 c2 X2 h2 o2 s2 => ?_
    simp -zeta (disch := omega) only [chkP_some, iteB_true, iteB_false, add_mk, Nat.zero_add, Nat.add_zero, Nat.mul_one, Nat.reduceAdd, Int.toNat_natCast, ex_int, ex_slice, ex_ptr, ex_bool, ex_str, ex_flt, ex_any, bnd_in, List.getElem?_cons_zero, List.getElem?_cons_succ, List.set_cons_zero, List.set_cons_succ, List.cons_append, List.nil_append, bne_self_eq_false, beq_self_eq_true, Bool.not_true, Bool.not_false, Option.isNone_some, Option.isNone_none, eq_self, true_and, and_true, and_self, vals_int (ka.at1 s2) gx]
    refine qcallP1.of (decide (x ∈ b)) (fun Q hQ => In_of rfl (by omega) (kb.at1 s2) (by rw [decide_eq_decide.2 mem_cast]; exact hQ)) ?_
    rw [natV_len]
    cases d with
    | zero =>
      have hia : i = a1.length := by omega
      subst hia
      have hxt : x = top := by
        rw [ea, lget_at rfl] at hx; exact (Option.some.inj hx).symm
      subst hxt
      rw [List.take_of_length_le (Nat.le_refl _)] at *
      refine iteB_pos (decide_eq_true (by rw [eb]; simp)) ⟨b.length + 1, ?_⟩
      rw [wrap_id (by omega) (by omega)]
      have H := rpath_l1 (ca := ca) (cb := cb) (acc := a1 ++ [x]) (K4 := fun z1022 z1022l z1022c h1023 => K0 z1022 z1022l z1022c h1023) ha hb ka kb (by simp; omega) (fun q3 c3 X3 h3 o3 s3 => by
        rw [M.rest] at o3 ⊢
        exact hk q3 c3 X3 h3 o3 s3) b.length q2 c2 X2 h2 (Nat.le_refl _) (by simpa [natV] using o2) s2
      simpa using H
    | succ d =>
      have hx1 : a1[i]? = some x := by rw [ea, List.getElem?_append_left (by omega)] at hx; exact hx
      refine iteB_neg (decide_eq_false (M.na x (List.mem_of_getElem? hx1))) ?_
      rw [wrap_id (by omega) (by omega)]
      have ih := rpath_l0 (K2 := K2) (ca := ca) (cb := cb) M ha hb ka kb hk d (i + 1) q2 c2 X2 h2 (by omega) (by rw [take_snoc hx1]; simpa [natV] using o2) s2
      rw [take_snoc hx1, List.length_append, List.length_singleton] at ih
      exact ih

open Classical in
theorem RPath_of {h : Heap} {m : Nat} {u v : Int} {K : Option Addr → Nat → Nat → Heap → Prop} (hup : up.length = n) (hw : w.length = m) (hn : n ≤ 4096) (kU : Keeps h0 R qU (up.map (Value.int .i64))) (kW : Keeps h0 R qW (w.map (Value.int .i64))) (s : St h0 h R)
    (hk0 : ¬ (RightT up w ∧ 0 ≤ u ∧ u < n ∧ 0 ≤ v ∧ v < n) → ∀ h', St h0 h' R → K none 0 0 h')
    (hk1 : ∀ (x y : Nat), RightT up w → u = x → v = y → x < n → y < n → ∃ a1 top b1, Meets (ways (UU up) n x) (ways (UU up) n y) a1 top b1 ∧ ∀ h' p c X, Own p c (natV (a1 ++ [top] ++ b1.reverse)) X → St h0 h' (X ++ R) → K p (a1 ++ [top] ++ b1.reverse).length c h') :
    straitref29_Path qU n cU qW m cW u v h K := by
  unfold straitref29_Path
  refine s.new_ fun t h1 s1 => ?_
  intro j
  try simp -zeta (disch := omega) only [chkP_some, iteB_true, iteB_false, add_mk, Nat.zero_add, Nat.add_zero, Nat.mul_one, Nat.reduceAdd, Int.toNat_natCast, ex_int, ex_slice, ex_ptr, ex_bool, ex_str, ex_flt, ex_any, bnd_in, List.getElem?_cons_zero, List.getElem?_cons_succ, List.set_cons_zero, List.set_cons_succ, List.cons_append, List.nil_append, bne_self_eq_false, beq_self_eq_true, Bool.not_true, Bool.not_false, Option.isNone_some, Option.isNone_none, eq_self, true_and, and_true, and_self, s1.rd0]
  refine callP1.self (Din_of hup hw kU.cons kW.cons s1 fun h2 s2 => ?_)
  refine iteB_intro (fun e => hk0 (fun hh => ?_) h2 s2.tail) (fun e => ?_)
  · rw [decide_eq_true ⟨hh.1, hh.2.1, hh.2.2.1⟩] at e; exact absurd e (by decide)
  have e : RightT up w ∧ 0 ≤ u ∧ u < (n : Int) := by simpa using e
  try simp -zeta (disch := omega) only [chkP_some, iteB_true, iteB_false, add_mk, Nat.zero_add, Nat.add_zero, Nat.mul_one, Nat.reduceAdd, Int.toNat_natCast, ex_int, ex_slice, ex_ptr, ex_bool, ex_str, ex_flt, ex_any, bnd_in, List.getElem?_cons_zero, List.getElem?_cons_succ, List.set_cons_zero, List.set_cons_succ, List.cons_append, List.nil_append, bne_self_eq_false, beq_self_eq_true, Bool.not_true, Bool.not_false, Option.isNone_some, Option.isNone_none, eq_self, true_and, and_true, and_self, s2.rd0]
  refine callP1.self (Din_of hup hw kU.cons kW.cons s2 fun h3 s3 => ?_)
  refine iteB_intro (fun e => hk0 (fun hh => ?_) h3 s3.tail) (fun e2 => ?_)
  · rw [decide_eq_true ⟨hh.1, hh.2.2.2⟩] at e; exact absurd e (by decide)
  have e2 : RightT up w ∧ 0 ≤ v ∧ v < (n : Int) := by simpa using e2
  simp -zeta only [j]
  clear j
  obtain ⟨x, rfl⟩ := Int.eq_ofNat_of_zero_le e.2.1
  obtain ⟨y, rfl⟩ := Int.eq_ofNat_of_zero_le e2.2.1
  obtain ⟨a1, top, b1, M, hK⟩ := hk1 x y e.1 rfl rfl (by omega) (by omega)
  try simp -zeta (disch := omega) only [chkP_some, iteB_true, iteB_false, add_mk, Nat.zero_add, Nat.add_zero, Nat.mul_one, Nat.reduceAdd, Int.toNat_natCast, ex_int, ex_slice, ex_ptr, ex_bool, ex_str, ex_flt, ex_any, bnd_in, List.getElem?_cons_zero, List.getElem?_cons_succ, List.set_cons_zero, List.set_cons_succ, List.cons_append, List.nil_append, bne_self_eq_false, beq_self_eq_true, Bool.not_true, Bool.not_false, Option.isNone_some, Option.isNone_none, eq_self, true_and, and_true, and_self, s3.rd0]
  refine callP3.self (DUp_of (mW := m) (R := (t, [.slice qU n cU, .slice qW m cW]) :: R) hup hn kU.cons s3 fun q4 c4 X4 h4 o4 s4 => ?_)
  have rt4 : ∀ j, cell h4 ⟨t, j, none⟩ = [.slice qU n cU, .slice qW m cW][j]? := s4.rd (by simp)
  simp -zeta (disch := omega) only [chkP_some, iteB_true, iteB_false, add_mk, Nat.zero_add, Nat.add_zero, Nat.mul_one, Nat.reduceAdd, Int.toNat_natCast, ex_int, ex_slice, ex_ptr, ex_bool, ex_str, ex_flt, ex_any, bnd_in, List.getElem?_cons_zero, List.getElem?_cons_succ, List.set_cons_zero, List.set_cons_succ, List.cons_append, List.nil_append, bne_self_eq_false, beq_self_eq_true, Bool.not_true, Bool.not_false, Option.isNone_some, Option.isNone_none, eq_self, true_and, and_true, and_self, rt4]
  refine callP3.self (DUp_of (mW := m) (R := X4 ++ (t, [.slice qU n cU, .slice qW m cW]) :: R) hup hn kU.cons.app s4 fun q5 c5 X5 h5 o5 s5 => ?_)
  have l1 : (ways (UU up) n x).length ≤ n + 1 := upL_le (UU up) n (n + 1) (x : Int)
  have l2 : (ways (UU up) n y).length ≤ n + 1 := upL_le (UU up) n (n + 1) (y : Int)
  refine ⟨a1.length + 1, rpath_l0 (R := X5 ++ (X4 ++ (t, [.slice qU n cU, .slice qW m cW]) :: R)) M (by omega) (by omega) (o4.keeps (fun z hz => by simp [hz])) (o5.keeps (fun z hz => by simp [hz])) (fun q c X h' o s' => ?_) a1.length 0 none 0 [] h5 (by omega) (by simpa [natV] using Own.nil) (by simpa using s5)⟩
  exact hK h' q c X o ((St.re s' (by intro a; simp only [cntR_append, cntR_cons, cntR_nil, List.cons_append, List.nil_append, List.set_cons_zero, List.set_cons_succ]; omega)))
end
end Go.Proofs.YtfidcekobjmamaaDoor
