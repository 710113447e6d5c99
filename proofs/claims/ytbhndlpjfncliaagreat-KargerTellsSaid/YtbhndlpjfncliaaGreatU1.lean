/-
  A cut by chance: the plain laws of what is drawn.
-/
import Derived.Test.YtbhndlpjfncliaaGreatS6
import Derived.Test.YtbhndlpjfncliaaGreatDD
import Derived.Test.YtbhndlpjfncliaaGreatYB
namespace Go.Proofs.YtbhndlpjfncliaaGreat
set_option linter.unusedVariables false
set_option linter.unusedSimpArgs false
set_option linter.unnecessarySimpa false
open Go Go.Hp Go.RowKit

/-- Edges between classes. -/
def looseL (C : Nat → Nat) (n : Nat) (L : List Ed) : List Ed := L.filter fun e => !sameF C n e.1 e.2.1
def wall (L : List Ed) : Int := tsum (fun e => e.2.2) L
theorem wall_nil : wall [] = 0 := rfl
theorem wall_cons (e : Ed) (L : List Ed) : wall (e :: L) = e.2.2 + wall L := tsum_cons ..
theorem wall_snoc (L : List Ed) (e : Ed) : wall (L ++ [e]) = wall L + e.2.2 := by
  induction L with
  | nil => rw [List.nil_append, wall_cons, wall_nil]; omega
  | cons x L ih => rw [List.cons_append, wall_cons, wall_cons, ih]; omega
theorem wall_pos : ∀ {L : List Ed}, (∀ e ∈ L, 0 < e.2.2) → 0 ≤ wall L ∧ (L ≠ [] → 0 < wall L)
  | [], _ => ⟨Int.le_refl _, fun h => absurd rfl h⟩
  | e :: L, h => by
    have h1 := h e (by simp)
    have h2 := (wall_pos (L := L) fun x hx => h x (by simp [hx])).1
    rw [wall_cons]
    exact ⟨by omega, fun _ => by omega⟩
theorem wall_filter (p : Ed → Bool) : ∀ {L : List Ed}, (∀ e ∈ L, 0 < e.2.2) → wall (L.filter p) ≤ wall L
  | [], _ => Int.le_refl _
  | e :: L, h => by
    have ih := wall_filter p (L := L) fun x hx => h x (by simp [hx])
    have h1 := h e (by simp)
    by_cases c : p e = true
    · rw [List.filter_cons_of_pos c, wall_cons, wall_cons]; omega
    · rw [List.filter_cons_of_neg c, wall_cons]; omega
/-- The edge that is hit. -/
def hitE : Int → List Ed → Option Ed
  | _, [] => none
  | x, e :: l => if x ≥ e.2.2 then hitE (x - e.2.2) l else some e
theorem hitE_some : ∀ {l : List Ed} {x : Int}, 0 ≤ x → x < wall l → ∃ e, hitE x l = some e ∧ e ∈ l
  | [], x, h0, h => by rw [wall_nil] at h; omega
  | e :: l, x, h0, h => by
    rw [wall_cons] at h
    unfold hitE
    by_cases c : x ≥ e.2.2
    · rw [if_pos c]
      obtain ⟨e', h1, h2⟩ := hitE_some (l := l) (x := x - e.2.2) (by omega) (by omega)
      exact ⟨e', h1, by simp [h2]⟩
    · rw [if_neg c]; exact ⟨e, rfl, by simp⟩
/-- What is drawn: classes, edges, and how many picks were taken. -/
structure Drw where
  C : Nat → Nat
  L : List Ed
  t : Nat
def pickF (p : List Int) (t : Nat) : Int := if t > p.length then 0 else p.getD (t - 1) 0
def h01 (C : Nat → Nat) (n : Nat) : Int × Int := (((headF C n).getD 0 0 : Nat), ((headF C n).getD 1 0 : Nat))
def stepK (n : Nat) (p : List Int) (s : Drw) : Drw :=
  let L' := looseL s.C n s.L
  if L' = [] then ⟨joinC s.C n (h01 s.C n).1 (h01 s.C n).2, L', s.t⟩
  else match hitE ((pickF p (s.t + 1)).tmod (wall L')) L' with
    | some e => ⟨joinC s.C n e.1 e.2.1, L', s.t + 1⟩
    | none => ⟨s.C, L', s.t + 1⟩
def groupsD (n : Nat) (k : Int) (p : List Int) : Nat → Drw → Drw
  | 0, s => s
  | m + 1, s => if ((headF s.C n).length : Int) > k then groupsD n k p m (stepK n p s) else s
/-- Two classes joined are one less. -/
theorem headF_join {n : Nat} {C : Nat → Nat} (hn : n ≤ 4096) (na : Names n C) {u v : Int} (ht : twoF C n u v = true) : (headF (joinC C n u v) n).length + 1 = (headF C n).length := by
  unfold twoF at ht
  rw [Bool.and_eq_true, Bool.and_eq_true, decide_eq_true_eq, decide_eq_true_eq, Bool.not_eq_true', decide_eq_false_iff_not] at ht
  obtain ⟨⟨hu, hv⟩, hc⟩ := ht
  obtain ⟨a, rfl⟩ := Int.eq_ofNat_of_zero_le hu.1
  obtain ⟨b, rfl⟩ := Int.eq_ofNat_of_zero_le hv.1
  rw [Int.toNat_natCast, Int.toNat_natCast] at hc
  have ha : a < n := by omega
  have hb : b < n := by omega
  have iv : DInv ⟨n, C, fun v => (clsF C n (C v)).length, C, (headF C n).length⟩ C :=
    { n := hn, names := na, up := fun v hv => ⟨na.lt hv, na.idem v hv⟩, rank := ⟨fun v => if C v = v then 0 else 1, fun v hv hne => by
        have hne : C v ≠ v := hne
        show (if C (C v) = C v then 0 else 1) < (if C v = v then 0 else 1)
        rw [if_pos (na.idem v hv), if_neg hne]; omega⟩,
      root := fun v hv hr => ⟨rfl, rfl⟩, uniq := fun u v _ _ hu hv e => by
        have hu : C u = u := hu
        have hv : C v = v := hv
        rw [← hu, ← hv]; exact e, cnt := rfl }
  have ia := na.idem a ha
  have ib := na.idem b hb
  have l := (iv.link (a := C a) (b := C b) (na.lt ha) (na.lt hb) ia ib hc).cnt
  have l : (headF C n).length - 1 = (headF (fun x => joinF (C (C a)) (C (C b)) (C x)) n).length := l
  have e : joinC C n (a : Int) (b : Int) = fun x => joinF (C (C a)) (C (C b)) (C x) := by
    funext x; unfold joinC; rw [if_pos ⟨hu, hv⟩, Int.toNat_natCast, Int.toNat_natCast, ia, ib]
  rw [e, ← l]
  have : 0 < (headF C n).length := List.length_pos_of_mem (a := C a) (by unfold headF; rw [List.mem_filter, List.mem_range]; exact ⟨na.lt ha, by simpa using ia⟩)
  omega
theorem loose_two {C : Nat → Nat} {n : Nat} {e : Ed} (hs : sameF C n e.1 e.2.1 = false) (h1 : 0 ≤ e.1 ∧ e.1 < n) (h2 : 0 ≤ e.2.1 ∧ e.2.1 < n) : twoF C n e.1 e.2.1 = true := by
  unfold sameF at hs
  unfold twoF
  rw [decide_eq_true h1, decide_eq_true h2] at hs ⊢
  simpa using hs
/-- The first two classes are two. -/
theorem two_h01 {C : Nat → Nat} {n : Nat} (hl : 2 ≤ (headF C n).length) : twoF C n (h01 C n).1 (h01 C n).2 = true := by
  have e0 : (headF C n)[0]? = some (headF C n)[0] := List.getElem?_eq_getElem (by omega)
  have e1 : (headF C n)[1]? = some (headF C n)[1] := List.getElem?_eq_getElem (by omega)
  have m0 := List.mem_of_getElem? e0
  have m1 := List.mem_of_getElem? e1
  have p : (headF C n).Pairwise (· < ·) := List.Pairwise.filter _ List.pairwise_lt_range
  have lt : (headF C n)[0] < (headF C n)[1] := List.pairwise_iff_getElem.1 p 0 1 (by omega) (by omega) (by omega)
  have hd : ∀ x, x ∈ headF C n → x < n ∧ C x = x := fun x hx => by
    unfold headF at hx
    rw [List.mem_filter, List.mem_range] at hx
    exact ⟨hx.1, by simpa using hx.2⟩
  obtain ⟨a1, a2⟩ := hd _ m0
  obtain ⟨b1, b2⟩ := hd _ m1
  generalize (headF C n)[0] = x at *
  generalize (headF C n)[1] = y at *
  have eh : h01 C n = ((x : Int), (y : Int)) := by unfold h01; rw [List.getD_eq_getElem?_getD, List.getD_eq_getElem?_getD, e0, e1]; rfl
  rw [eh]
  have t3 : decide (C (x : Int).toNat = C (y : Int).toNat) = false := decide_eq_false (by rw [Int.toNat_natCast, Int.toNat_natCast, a2, b2]; omega)
  unfold twoF
  rw [decide_eq_true (show 0 ≤ ((x : Int), (y : Int)).1 ∧ ((x : Int), (y : Int)).1 < (n : Int) by simp only; omega), decide_eq_true (show 0 ≤ ((x : Int), (y : Int)).2 ∧ ((x : Int), (y : Int)).2 < (n : Int) by simp only; omega)]
  simpa using t3
structure DrwOk (n : Nat) (s : Drw) : Prop where
  na : Names n s.C
  ed : ∀ e ∈ s.L, 0 ≤ e.1 ∧ e.1 < n ∧ 0 ≤ e.2.1 ∧ e.2.1 < n ∧ 0 < e.2.2
  sum : wall s.L ≤ 2 ^ 52
  len : s.L.length ≤ 1048576
theorem looseL_sub {C : Nat → Nat} {n : Nat} {L : List Ed} {e : Ed} (h : e ∈ looseL C n L) : e ∈ L ∧ sameF C n e.1 e.2.1 = false := by
  obtain ⟨h1, h2⟩ := List.mem_filter.1 h
  exact ⟨h1, by simpa using h2⟩
theorem DrwOk.loose {n : Nat} {s : Drw} (o : DrwOk n s) : (∀ e ∈ looseL s.C n s.L, 0 ≤ e.1 ∧ e.1 < n ∧ 0 ≤ e.2.1 ∧ e.2.1 < n ∧ 0 < e.2.2) ∧ wall (looseL s.C n s.L) ≤ 2 ^ 52 ∧ (looseL s.C n s.L).length ≤ 1048576 :=
  ⟨fun e he => o.ed e (looseL_sub he).1, Int.le_trans (wall_filter _ fun e he => (o.ed e he).2.2.2.2) o.sum, Nat.le_trans (List.length_filter_le _ _) o.len⟩
theorem pick_range {n : Nat} {s : Drw} (o : DrwOk n s) (hne : looseL s.C n s.L ≠ []) {x : Int} (hx : 0 ≤ x) : 0 ≤ x.tmod (wall (looseL s.C n s.L)) ∧ x.tmod (wall (looseL s.C n s.L)) < wall (looseL s.C n s.L) := by
  have hp := (wall_pos (L := looseL s.C n s.L) fun e he => (o.loose.1 e he).2.2.2.2).2 hne
  exact ⟨Int.tmod_nonneg _ hx, Int.tmod_lt_of_pos _ hp⟩
theorem DrwOk.step {n : Nat} {p : List Int} {s : Drw} (hn : n ≤ 4096) (o : DrwOk n s) (hp : ∀ t, 0 ≤ pickF p t) (hl : 2 ≤ (headF s.C n).length) :
    DrwOk n (stepK n p s) ∧ (headF (stepK n p s).C n).length + 1 = (headF s.C n).length ∧ (stepK n p s).t ≤ s.t + 1 := by
  obtain ⟨l1, l2, l3⟩ := o.loose
  unfold stepK
  by_cases c : looseL s.C n s.L = []
  · simp only [c, if_true]
    exact ⟨⟨joinC_names o.na _ _, by simp, by rw [wall_nil]; decide, by simp⟩, headF_join hn o.na (two_h01 hl), by omega⟩
  · simp only [c, if_false]
    obtain ⟨x0, x1⟩ := pick_range o c (hp (s.t + 1))
    obtain ⟨e, he, hm⟩ := hitE_some x0 x1
    rw [he]
    have r := l1 e hm
    exact ⟨⟨joinC_names o.na _ _, l1, l2, l3⟩, headF_join hn o.na (loose_two (looseL_sub hm).2 ⟨r.1, r.2.1⟩ ⟨r.2.2.1, r.2.2.2.1⟩), Nat.le_refl _⟩
end Go.Proofs.YtbhndlpjfncliaaGreat
