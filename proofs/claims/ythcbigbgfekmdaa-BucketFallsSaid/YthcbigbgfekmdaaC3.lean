/-
  Rows of buckets: the program's other functions.
-/
import Derived.Test.YthcbigbgfekmdaaC2
import Derived.Test.YthcbigbgfekmdaaG1
namespace Go.Proofs.Ythcbigbgfekmdaa
set_option linter.unusedVariables false
set_option linter.unusedSimpArgs false
open Go.Hp Go.RowKit
attribute [local irreducible] Go.Hp.iteB

/-- The label of a vertex, or -1. -/
def labelQ : Bq → Int → Int
  | [], _ => -1
  | x :: r, v => if (x.1 : Int) = v then x.2 else labelQ r v

theorem labelQ_none {q : Bq} {v : Int} (h : ∀ x ∈ q, (x.1 : Int) ≠ v) : labelQ q v = -1 := by
  induction q with
  | nil => rfl
  | cons x r ih => unfold labelQ; rw [if_neg (h x (by simp))]; exact ih fun y hy => h y (by simp [hy])
theorem labelQ_mem {q : Bq} (hn : (q.map (·.1)).Nodup) {v l : Nat} (h : (v, l) ∈ q) : labelQ q v = l := by
  induction q with
  | nil => simp at h
  | cons x r ih =>
    rw [List.map_cons, List.nodup_cons] at hn
    unfold labelQ
    rcases List.mem_cons.1 h with rfl | h
    · rw [if_pos rfl]
    · rw [if_neg, ih hn.2 h]
      intro e
      exact hn.1 (by rw [show x.1 = v by omega]; exact List.mem_map_of_mem (f := (·.1)) h)

theorem Inv.label {z : BS} {q : Bq} (iv : Inv z q) (v : Int) : labelQ q v = if z.in_ v then z.L v.toNat else -1 := by
  cases hin : z.in_ v with
  | true =>
    unfold BS.in_ at hin
    simp only [Bool.and_eq_true, decide_eq_true_eq, Bool.not_eq_true', beq_eq_false_iff_ne] at hin
    obtain ⟨i, rfl⟩ : ∃ i : Nat, v = i := ⟨v.toNat, by omega⟩
    obtain ⟨⟨_, hi⟩, hne⟩ := hin
    rw [Int.toNat_natCast] at hne ⊢
    obtain ⟨⟨u, l⟩, hx, hu⟩ := List.mem_map.1 ((iv.in_ (by omega)).1 hne)
    simp only at hu; subst hu
    rw [labelQ_mem iv.nd hx, iv.at_ hx]; simp
  | false =>
    rw [if_neg (by simp)]
    apply labelQ_none
    rintro x hx rfl
    have hxn := (iv.mem x hx).1
    have := (iv.in_ hxn).2 (List.mem_map_of_mem hx)
    unfold BS.in_ at hin
    simp [hxn] at hin
    exact this hin

theorem Label_of {h0 h : Heap} {z : BS} {a : BA} {R : Rws} {q : Bq} {v : Int} {K : Int → Heap → Prop} (iv : Inv z q) (s : St h0 h (z.rows a ++ R))
    (hk : ∀ h', St h0 h' (z.rows a ++ R) → K (labelQ q v) h') : bucket_Row_Label (some ⟨a.b, 0, none⟩) v h K := by
  unfold bucket_Row_Label
  rw [iv.label] at hk
  refine callP1.self (seated_of iv.OK s fun h s => ?_)
  refine iteB_intro (fun c => ?_) (fun c => ?_)
  · have c : z.in_ v = false := by simpa using c
    rw [c] at hk; exact hk _ s
  · have c : z.in_ v = true := by simpa using c
    rw [c] at hk
    unfold BS.in_ at c
    simp only [Bool.and_eq_true, decide_eq_true_eq] at c
    obtain ⟨i, rfl⟩ : ∃ i : Nat, v = i := ⟨v.toNat, by omega⟩
    have hi : i < z.n := by omega
    try simp -zeta (disch := omega) only [chkP_some, iteB_true, iteB_false, add_mk, Nat.zero_add, Nat.add_zero, Nat.mul_one, Nat.reduceAdd, Int.toNat_natCast, ex_int, ex_slice, ex_ptr, ex_bool, ex_str, ex_flt, ex_any, bnd_in, List.getElem?_cons_zero, List.getElem?_cons_succ, List.set_cons_zero, List.set_cons_succ, List.cons_append, List.nil_append, bne_self_eq_false, beq_self_eq_true, Bool.not_true, Bool.not_false, Option.isNone_some, Option.isNone_none, eq_self, true_and, and_true, and_self, s.rd0, s.rd1, s.rd2, s.rd3, BS.rows, ints3_get0]
    exact hk _ s

theorem Len_of {h0 h : Heap} {z : BS} {a : BA} {R : Rws} {q : Bq} {K : Int → Heap → Prop} (iv : Inv z q) (s : St h0 h (z.rows a ++ R))
    (hk : K (q.length : Int) h) : bucket_Row_Len (some ⟨a.b, 0, none⟩) h K := by
  unfold bucket_Row_Len
  try simp -zeta (disch := omega) only [chkP_some, iteB_true, iteB_false, add_mk, Nat.zero_add, Nat.add_zero, Nat.mul_one, Nat.reduceAdd, Int.toNat_natCast, ex_int, ex_slice, ex_ptr, ex_bool, ex_str, ex_flt, ex_any, bnd_in, List.getElem?_cons_zero, List.getElem?_cons_succ, List.set_cons_zero, List.set_cons_succ, List.cons_append, List.nil_append, bne_self_eq_false, beq_self_eq_true, Bool.not_true, Bool.not_false, Option.isNone_some, Option.isNone_none, eq_self, true_and, and_true, and_self, s.rd0, s.rd1, s.rd2, s.rd3, BS.rows]
  rw [iv.cnt]; exact hk

theorem Count_of {h0 h : Heap} {z : BS} {a : BA} {R : Rws} {q : Bq} {l : Int} {K : Int → Heap → Prop} (iv : Inv z q) (s : St h0 h (z.rows a ++ R))
    (hk : K ((q.filter fun x => (x.2 : Int) == l).length : Int) h) : bucket_Row_Count (some ⟨a.b, 0, none⟩) l h K := by
  unfold bucket_Row_Count
  refine qcallP1.of _ (fun R hR => right_of s hR) ?_
  refine iteB_intro (fun c => ?_) (fun c => ?_)
  · have : (q.filter fun x => (x.2 : Int) == l) = [] := by
      apply List.filter_eq_nil_iff.2
      intro x hx
      have := (iv.mem x hx).2
      simp at c
      simp; omega
    rw [this] at hk; exact hk
  · have c : 0 ≤ l ∧ l < (2 * z.n + 1 : Nat) := by simpa using c
    obtain ⟨k, rfl⟩ : ∃ i : Nat, l = i := ⟨l.toNat, by omega⟩
    have hk' : k < 2 * z.n + 1 := by omega
    try simp -zeta (disch := omega) only [chkP_some, iteB_true, iteB_false, add_mk, Nat.zero_add, Nat.add_zero, Nat.mul_one, Nat.reduceAdd, Int.toNat_natCast, ex_int, ex_slice, ex_ptr, ex_bool, ex_str, ex_flt, ex_any, bnd_in, List.getElem?_cons_zero, List.getElem?_cons_succ, List.set_cons_zero, List.set_cons_succ, List.cons_append, List.nil_append, bne_self_eq_false, beq_self_eq_true, Bool.not_true, Bool.not_false, Option.isNone_some, Option.isNone_none, eq_self, true_and, and_true, and_self, s.rd0, s.rd1, s.rd2, s.rd3, BS.rows, ints_get]
    rw [iv.C k hk']
    have : (bk q k).length = (q.filter fun x => (x.2 : Int) == (k : Int)).length := by
      unfold bk; rw [List.length_map]; congr 1; apply List.filter_congr; intro x _; rw [Bool.eq_iff_iff]; simp; omega
    rw [this]; exact hk

/-- The one that comes first of those with the greatest label. -/
def best : Nat × Nat → Bq → Nat × Nat
  | b, [] => b
  | b, x :: r => best (if x.2 > b.2 then x else b) r
def topQ : Bq → Int × Int × Bool
  | [] => (0, 0, false)
  | x :: r => ((best x r).1, (best x r).2, true)

theorem best_spec (q : Bq) : ∀ (r pre : Bq) (b : Nat × Nat), q = pre ++ r → b ∈ pre → (∀ y ∈ pre, y.2 ≤ b.2) → hd (bk pre b.2) (-1) = b.1 →
    best b r ∈ q ∧ (∀ y ∈ q, y.2 ≤ (best b r).2) ∧ hd (bk q (best b r).2) (-1) = (best b r).1
  | [], pre, b, hq, hb, hy, hh => by rw [List.append_nil] at hq; subst hq; exact ⟨hb, hy, hh⟩
  | x :: r, pre, b, hq, hb, hy, hh => by
    unfold best
    refine best_spec q r (pre ++ [x]) _ (by rw [hq]; simp) ?_ ?_ ?_
    · split
      · simp
      · simp [hb]
    · intro y hy'
      rcases List.mem_append.1 hy' with h | h
      · have := hy y h; split <;> omega
      · have : y = x := by simpa using h
        subst this; split <;> omega
    · unfold bk at hh ⊢
      rw [List.filter_append, List.map_append, hd_append]
      split
      · rename_i c
        have : (pre.filter fun y => y.2 == x.2) = [] := by
          apply List.filter_eq_nil_iff.2; intro y hyp; have := hy y hyp; simp; omega
        rw [this]; simp [hd]
      · have : (bk pre b.2) ≠ [] := fun e => by
          have : b.1 ∈ bk pre b.2 := mem_bk.2 hb
          rw [e] at this; simp at this
        unfold bk at this
        cases hl : (pre.filter fun y => y.2 == b.2).map (·.1) with
        | nil => exact absurd hl this
        | cons w W => rw [hl] at hh; exact hh

theorem topQ_spec {q : Bq} (hq : q ≠ []) : ∃ v l, topQ q = (((v : Nat) : Int), ((l : Nat) : Int), true) ∧ (v, l) ∈ q ∧ (∀ y ∈ q, y.2 ≤ l) ∧ hd (bk q l) (-1) = (v : Int) := by
  cases q with
  | nil => exact absurd rfl hq
  | cons x r =>
    have := best_spec (x :: r) r [x] x rfl (by simp) (by simp) (by simp [bk, hd])
    exact ⟨_, _, rfl, this⟩

theorem high_l0 {h0 : Heap} {a : BA} {R : Rws} {q : Bq} {K2 : Heap → Prop} {l : Nat} (hl : ∀ y ∈ q, y.2 ≤ l) (hne : bk q l ≠ []) (n : Nat)
    (hk : ∀ h' z', z'.n = n → Inv z' q → z'.hi = (l : Int) → St h0 h' (z'.rows a ++ R) → K2 h') :
    ∀ (d : Nat) (z : BS) (h : Heap), z.n = n → Inv z q → z.hi = ((l + d : Nat) : Int) → St h0 h (z.rows a ++ R) → bucket_Row_Highest.l0 K2 (d + 1) (some ⟨a.b, 0, none⟩) h
  | 0, z, h, hn, iv, hhi, s => by
    unfold bucket_Row_Highest.l0 bucket_Row_Highest.b0
    have hlt : l < 2 * z.n + 1 := by have := iv.hi; omega
    have hF := iv.F l hlt
    try simp -zeta (disch := omega) only [chkP_some, iteB_true, iteB_false, add_mk, Nat.zero_add, Nat.add_zero, Nat.mul_one, Nat.reduceAdd, Int.toNat_natCast, ex_int, ex_slice, ex_ptr, ex_bool, ex_str, ex_flt, ex_any, bnd_in, List.getElem?_cons_zero, List.getElem?_cons_succ, List.set_cons_zero, List.set_cons_succ, List.cons_append, List.nil_append, bne_self_eq_false, beq_self_eq_true, Bool.not_true, Bool.not_false, Option.isNone_some, Option.isNone_none, eq_self, true_and, and_true, and_self, s.rd0, s.rd1, s.rd2, s.rd3, BS.rows, hhi, ints_get]
    refine iteB_neg ?_ (hk _ _ hn iv (by omega) s)
    rw [hF]
    cases hb : bk q l with
    | nil => exact absurd hb hne
    | cons w W => simp only [hd, beq_eq_false_iff_ne]; omega
  | d + 1, z, h, hn, iv, hhi, s => by
    unfold bucket_Row_Highest.l0 bucket_Row_Highest.b0
    have hhr := iv.hi
    have hn4 := iv.n
    have hlt : l + (d + 1) < 2 * z.n + 1 := by omega
    have hF := iv.F _ hlt
    have he : bk q (l + (d + 1)) = [] := by
      unfold bk
      rw [List.map_eq_nil_iff, List.filter_eq_nil_iff]
      intro y hy; have := hl y hy; simp; omega
    rw [he] at hF
    try simp -zeta (disch := omega) only [chkP_some, iteB_true, iteB_false, add_mk, Nat.zero_add, Nat.add_zero, Nat.mul_one, Nat.reduceAdd, Int.toNat_natCast, ex_int, ex_slice, ex_ptr, ex_bool, ex_str, ex_flt, ex_any, bnd_in, List.getElem?_cons_zero, List.getElem?_cons_succ, List.set_cons_zero, List.set_cons_succ, List.cons_append, List.nil_append, bne_self_eq_false, beq_self_eq_true, Bool.not_true, Bool.not_false, Option.isNone_some, Option.isNone_none, eq_self, true_and, and_true, and_self, s.rd0, s.rd1, s.rd2, s.rd3, BS.rows, hhi, ints_get, hF, hd]
    rw [wrap64 (by omega) (by omega)]
    refine s.st0 (by simp) fun h2 s => ?_
    refine high_l0 hl hne n hk d { z with hi := ((l + d : Nat) : Int) } h2 hn ⟨iv.n, iv.mem, iv.nd, iv.F, iv.C, fun k hk => dseg_congr (z := z) (fun _ _ => ⟨rfl, rfl, rfl⟩) (iv.seg k hk), iv.off, by simp only; omega, fun x hx => by have := hl x hx; simp only; omega, iv.cnt⟩ rfl ?_
    rw [show ((l + (d + 1) : Nat) : Int) - 1 = ((l + d : Nat) : Int) by omega] at s
    exact s

theorem Highest_of {h0 h : Heap} {z : BS} {a : BA} {R : Rws} {q : Bq} {K : Int → Int → Bool → Heap → Prop} (iv : Inv z q) (s : St h0 h (z.rows a ++ R))
    (hk : ∀ h' z', z'.n = z.n → Inv z' q → St h0 h' (z'.rows a ++ R) → K (topQ q).1 (topQ q).2.1 (topQ q).2.2 h') : bucket_Row_Highest (some ⟨a.b, 0, none⟩) h K := by
  unfold bucket_Row_Highest
  refine qcallP1.of _ (fun R hR => Len_of iv s hR) ?_
  by_cases hq : q = []
  · subst hq; exact iteB_pos rfl (hk _ _ rfl iv s)
  · have hl0 : q.length ≠ 0 := fun e => hq (List.length_eq_zero_iff.1 e)
    obtain ⟨v, l, ht, hm, hy, hh⟩ := topQ_spec hq
    rw [ht] at hk
    have htop := iv.top _ hm
    have hhi := iv.hi
    refine iteB_neg (by simpa using hl0) ⟨(z.hi.toNat - l) + 1, high_l0 (a := a) (R := R) (h0 := h0) hy (fun e => ?_) z.n (fun h' z' hn' iv' hhi' s' => ?_) (z.hi.toNat - l) z h rfl iv (by simp only at htop; omega) s⟩
    · have := mem_bk.2 hm; rw [e] at this; simp at this
    · have hlt : l < 2 * z'.n + 1 := by have := iv'.hi; omega
      have hF := iv'.F l hlt
      rw [hh] at hF
      simp -zeta (disch := omega) only [chkP_some, iteB_true, iteB_false, add_mk, Nat.zero_add, Nat.add_zero, Nat.mul_one, Nat.reduceAdd, Int.toNat_natCast, ex_int, ex_slice, ex_ptr, ex_bool, ex_str, ex_flt, ex_any, bnd_in, List.getElem?_cons_zero, List.getElem?_cons_succ, List.set_cons_zero, List.set_cons_succ, List.cons_append, List.nil_append, bne_self_eq_false, beq_self_eq_true, Bool.not_true, Bool.not_false, Option.isNone_some, Option.isNone_none, eq_self, true_and, and_true, and_self, s'.rd0, s'.rd1, s'.rd2, s'.rd3, BS.rows, hhi', ints_get, hF]
      exact hk _ _ hn' iv' s'

def aboveB (q : Bq) (l : Int) (v : Nat) : Bool := decide (labelQ q v ≠ -1) && decide (l < labelQ q v)
def aboveL (q : Bq) (l : Int) (n : Nat) : List Nat := (List.range n).filter (aboveB q l)

theorem above_l0 {h0 : Heap} {a : BA} {z : BS} {R : Rws} {q : Bq} {K2 : Option Addr → Nat → Nat → Heap → Prop} {l : Int} (iv : Inv z q)
    (hk : ∀ p c X h', Own p c ((aboveL q l z.n).map fun v : Nat => Value.int .i64 v) X → St h0 h' (X ++ (z.rows a ++ R)) →
      K2 p (aboveL q l z.n).length c h') :
    ∀ (d i : Nat) (h : Heap) (p : Option Addr) (c : Nat) (X : Rws), i + d = z.n → Own p c ((aboveL q l i).map fun v : Nat => Value.int .i64 v) X → St h0 h (X ++ (z.rows a ++ R)) →
      bucket_Row_Above.l0 K2 (d + 1) (some ⟨a.b, 0, none⟩) l p (aboveL q l i).length c (z.n : Int) (i : Int) h
  | 0, i, h, p, c, X, hi, o, s => by
    unfold bucket_Row_Above.l0 bucket_Row_Above.b0
    have : i = z.n := by omega
    subst this
    exact iteB_neg (decide_eq_false (by omega)) (hk _ _ _ _ o s)
  | d + 1, i, h, p, c, X, hi, o, s => by
    unfold bucket_Row_Above.l0 bucket_Row_Above.b0
    have hn := iv.n
    refine iteB_pos (decide_eq_true (by omega)) ?_
    intro j
    have hr : (aboveL q l (i + 1)) = (aboveL q l i) ++ if labelQ q i ≠ -1 ∧ l < labelQ q i then [i] else [] := by
      unfold aboveL
      rw [List.range_succ, List.filter_append]; congr 1
      by_cases c : labelQ q i ≠ -1 ∧ l < labelQ q i
      · rw [if_pos c]; simp [aboveB, c]
      · rw [if_neg c]; simp [aboveB]; simpa using c
    have hlen : (aboveL q l i).length ≤ i := by
      have := List.length_filter_le (aboveB q l) (List.range i); simpa [aboveL] using this
    have J : ∀ p c X h', Own p c ((aboveL q l (i + 1)).map fun v : Nat => Value.int .i64 v) X → St h0 h' (X ++ (z.rows a ++ R)) →
        j p (aboveL q l (i + 1)).length c h' := by
      intro p c X h' o s
      simp -zeta only [j]
      rw [wrap64 (by omega) (by omega)]
      exact above_l0 iv hk d (i + 1) h' p c X (by omega) o s
    rw [hr] at J
    have hlab := iv.label i
    refine callP1.self (seated_of iv.OK s.flip fun h s => ?_)
    have s := s.flip
    refine iteB_intro (fun c1 => ?_) (fun c1 => ?_)
    · rw [if_pos c1, Int.toNat_natCast] at hlab
      have hne : z.L i ≠ -1 := by
        intro e; unfold BS.in_ at c1; simp [e] at c1
      have s' := s.flip
      simp -zeta (disch := omega) only [chkP_some, iteB_true, iteB_false, add_mk, Nat.zero_add, Nat.add_zero, Nat.mul_one, Nat.reduceAdd, Int.toNat_natCast, ex_int, ex_slice, ex_ptr, ex_bool, ex_str, ex_flt, ex_any, bnd_in, List.getElem?_cons_zero, List.getElem?_cons_succ, List.set_cons_zero, List.set_cons_succ, List.cons_append, List.nil_append, bne_self_eq_false, beq_self_eq_true, Bool.not_true, Bool.not_false, Option.isNone_some, Option.isNone_none, eq_self, true_and, and_true, and_self, s'.rd0, s'.rd1, s'.rd2, s'.rd3, BS.rows, ints3_get0]
      refine iteB_intro (fun c2 => ?_) (fun c2 => ?_)
      · have c2 := of_decide_eq_true c2
        rw [if_pos ⟨by rw [hlab]; exact hne, by rw [hlab]; omega⟩] at J
        refine Own.push1 o s (by simp) rfl (by simp only [List.length_map]; omega) fun q' c' X' h' o' s' => ?_
        have := J q' c' X' h' (by simpa using o') s'
        simpa using this
      · have c2 := of_decide_eq_false c2
        rw [if_neg (by rw [hlab]; omega)] at J
        have := J p c X h (by simpa using o) s
        simpa using this
    · have c1 : z.in_ i = false := by simpa using c1
      rw [c1] at hlab
      rw [if_neg (by rw [hlab]; simp)] at J
      have := J p c X h (by simpa using o) s
      simpa using this

theorem Above_of {h0 h : Heap} {z : BS} {a : BA} {R : Rws} {q : Bq} {l : Int} {K : Option Addr → Nat → Nat → Heap → Prop} (iv : Inv z q) (s : St h0 h (z.rows a ++ R))
    (hk : ∀ p c X h', Own p c ((aboveL q l z.n).map fun v : Nat => Value.int .i64 v) X → St h0 h' (X ++ (z.rows a ++ R)) →
      K p (aboveL q l z.n).length c h') : bucket_Row_Above (some ⟨a.b, 0, none⟩) l h K := by
  unfold bucket_Row_Above
  try simp -zeta (disch := omega) only [chkP_some, iteB_true, iteB_false, add_mk, Nat.zero_add, Nat.add_zero, Nat.mul_one, Nat.reduceAdd, Int.toNat_natCast, ex_int, ex_slice, ex_ptr, ex_bool, ex_str, ex_flt, ex_any, bnd_in, List.getElem?_cons_zero, List.getElem?_cons_succ, List.set_cons_zero, List.set_cons_succ, List.cons_append, List.nil_append, bne_self_eq_false, beq_self_eq_true, Bool.not_true, Bool.not_false, Option.isNone_some, Option.isNone_none, eq_self, true_and, and_true, and_self, s.rd0, s.rd1, s.rd2, s.rd3, BS.rows]
  exact ⟨z.n + 1, above_l0 iv hk z.n 0 h none 0 [] (by omega) (by simpa [aboveL] using Own.nil) s⟩

/-- A row with nobody in it. -/
def BS.none (n : Nat) : BS := ⟨n, fun _ => -1, fun _ => -1, fun _ => -1, fun _ => -1, fun _ => 0, 0, 0⟩
theorem Inv.none {n : Nat} (hn : n ≤ 4096) : Inv (BS.none n) [] where
  n := hn
  mem := by simp
  nd := by simp
  F l _ := rfl
  C l _ := rfl
  seg l _ := trivial
  off i _ _ := ⟨rfl, rfl, rfl⟩
  hi := ⟨Int.le_refl _, by simp only [BS.none]; omega⟩
  top := by simp
  cnt := rfl

theorem new_l1 {h0 : Heap} {a : BA} {n : Nat} {L P N C : Nat → Int} {R : Rws} {K4 : Heap → Prop} (hn : n ≤ 4096)
    (hk : ∀ h', St h0 h' ((⟨n, L, P, N, fun _ => -1, C, 0, 0⟩ : BS).rows a ++ R) → K4 h') :
    ∀ (d i : Nat) (h : Heap), i + d = 2 * n + 1 → St h0 h ((⟨n, L, P, N, fun j => if j < i then -1 else 0, C, 0, 0⟩ : BS).rows a ++ R) → bucket_New.l1 K4 (d + 1) ⟨a.b, 0, none⟩ ((2 * n + 1 : Nat) : Int) (i : Int) h
  | 0, i, h, hi, s => by
    unfold bucket_New.l1 bucket_New.b1
    refine iteB_neg (decide_eq_false (by omega)) (hk _ ?_)
    simp only [BS.rows] at s ⊢
    rw [ints_congr (g := fun _ => -1) (fun j hj => if_pos (by omega))] at s
    exact s
  | d + 1, i, h, hi, s => by
    unfold bucket_New.l1 bucket_New.b1
    refine iteB_pos (decide_eq_true (by omega)) ?_
    try simp -zeta (disch := omega) only [chkP_some, iteB_true, iteB_false, add_mk, Nat.zero_add, Nat.add_zero, Nat.mul_one, Nat.reduceAdd, Int.toNat_natCast, ex_int, ex_slice, ex_ptr, ex_bool, ex_str, ex_flt, ex_any, bnd_in, List.getElem?_cons_zero, List.getElem?_cons_succ, List.set_cons_zero, List.set_cons_succ, List.cons_append, List.nil_append, bne_self_eq_false, beq_self_eq_true, Bool.not_true, Bool.not_false, Option.isNone_some, Option.isNone_none, eq_self, true_and, and_true, and_self, s.rd0, s.rd1, s.rd2, s.rd3, BS.rows]
    refine s.st2 (by rw [ints_length]; simp only; omega) fun h2 s => ?_
    rw [wrap64 (by omega) (by omega)]
    refine new_l1 hn hk d (i + 1) h2 (by omega) ?_
    simp only [ints_set] at s
    rw [ints_congr (g := fun j => if j < i + 1 then -1 else 0) (fun j hj => by unfold upd; split <;> split <;> simp <;> omega)] at s
    exact s

theorem new_l0 {h0 : Heap} {a : BA} {n : Nat} {F C : Nat → Int} {x : Int} {R : Rws} {K2 : Heap → Prop} (hn : n ≤ 4096)
    (hk : ∀ h', St h0 h' ((⟨n, fun _ => -1, fun _ => -1, fun _ => -1, F, C, 0, 0⟩ : BS).rows a ++ R) → K2 h') :
    ∀ (d i : Nat) (h : Heap), i + d = n → St h0 h ((⟨n, fun j => if j < i then -1 else 0, fun j => if j < i then -1 else 0, fun j => if j < i then -1 else 0, F, C, 0, 0⟩ : BS).rows a ++ R) → bucket_New.l0 K2 (d + 1) x ⟨a.b, 0, none⟩ (n : Int) (i : Int) h
  | 0, i, h, hi, s => by
    unfold bucket_New.l0 bucket_New.b0
    refine iteB_neg (decide_eq_false (by omega)) (hk _ ?_)
    simp only [BS.rows] at s ⊢
    rw [ints3_congr (f' := fun _ => -1) (g' := fun _ => -1) (k' := fun _ => -1) (fun j hj => ⟨if_pos (by omega), if_pos (by omega), if_pos (by omega)⟩)] at s
    exact s
  | d + 1, i, h, hi, s => by
    unfold bucket_New.l0 bucket_New.b0
    refine iteB_pos (decide_eq_true (by omega)) ?_
    try simp -zeta (disch := omega) only [chkP_some, iteB_true, iteB_false, add_mk, Nat.zero_add, Nat.add_zero, Nat.mul_one, Nat.reduceAdd, Int.toNat_natCast, ex_int, ex_slice, ex_ptr, ex_bool, ex_str, ex_flt, ex_any, bnd_in, List.getElem?_cons_zero, List.getElem?_cons_succ, List.set_cons_zero, List.set_cons_succ, List.cons_append, List.nil_append, bne_self_eq_false, beq_self_eq_true, Bool.not_true, Bool.not_false, Option.isNone_some, Option.isNone_none, eq_self, true_and, and_true, and_self, s.rd0, s.rd1, s.rd2, s.rd3, BS.rows]
    refine callP3.self (empty_of s fun h1 s => ?_)
    try simp -zeta (disch := omega) only [chkP_some, iteB_true, iteB_false, add_mk, Nat.zero_add, Nat.add_zero, Nat.mul_one, Nat.reduceAdd, Int.toNat_natCast, ex_int, ex_slice, ex_ptr, ex_bool, ex_str, ex_flt, ex_any, bnd_in, List.getElem?_cons_zero, List.getElem?_cons_succ, List.set_cons_zero, List.set_cons_succ, List.cons_append, List.nil_append, bne_self_eq_false, beq_self_eq_true, Bool.not_true, Bool.not_false, Option.isNone_some, Option.isNone_none, eq_self, true_and, and_true, and_self, s.rd0, s.rd1, s.rd2, s.rd3, BS.rows]
    have hi3 : i * 3 + 2 < n * 3 := by omega
    refine s.st1 (by rw [ints3_length]; simp only; omega) fun h2 s => s.st1 (by simp only [List.length_set, ints3_length]; omega) fun h3 s => s.st1 (by simp only [List.length_set, ints3_length]; omega) fun h4 s => ?_
    rw [wrap64 (by omega) (by omega)]
    refine new_l0 hn hk d (i + 1) h4 (by omega) ?_
    simp only [ints3_set0, ints3_set1, ints3_set2] at s
    rw [ints3_congr (f' := fun j => if j < i + 1 then -1 else 0) (g' := fun j => if j < i + 1 then -1 else 0) (k' := fun j => if j < i + 1 then -1 else 0) (fun j hj => by
      have : upd (fun j => if j < i then (-1 : Int) else 0) i (-1) j = if j < i + 1 then -1 else 0 := by unfold upd; split <;> split <;> simp <;> omega
      exact ⟨this, this, this⟩)] at s
    exact s

def room (n : Int) : Nat := (if 4096 < (if 0 > n then 0 else n) then 4096 else (if 0 > n then 0 else n)).toNat
theorem room_le (n : Int) : room n ≤ 4096 := by unfold room; split <;> split <;> omega

theorem New_of {h0 h : Heap} {R : Rws} {n : Int} {K : Option Addr → Heap → Prop} (s : St h0 h R)
    (hk : ∀ a h', St h0 h' ((BS.none (room n)).rows a ++ R) → K (some ⟨a.b, 0, none⟩) h') : bucket_New n h K := by
  have hr := room_le n
  unfold bucket_New
  refine bindV_intro fun n2 hn2 => ?_
  obtain ⟨m, rfl⟩ : ∃ m : Nat, n2 = m := ⟨n2.toNat, by split at hn2 <;> split at hn2 <;> omega⟩
  have hm : m = room n := by unfold room; rw [← hn2]; simp
  clear hn2
  rw [← hm] at hr hk
  intro j54
  have J : ∀ b f1 f2 f3 h', St h0 h' ((b, [.slice (some ⟨f1, 0, none⟩) m m, .slice (some ⟨f2, 0, none⟩) (2 * m + 1) (2 * m + 1), .slice (some ⟨f3, 0, none⟩) (2 * m + 1) (2 * m + 1), .int .i64 0, .int .i64 0]) ::
      (f1, zeroRow [.int .i64 0, .int .i64 0, .int .i64 0] m) :: (f2, zeroRow [.int .i64 0] (2 * m + 1)) :: (f3, zeroRow [.int .i64 0] (2 * m + 1)) :: R) → j54 ⟨b, 0, none⟩ h' := by
    intro b f1 f2 f3 h' s
    rw [ints3_zero, ints_zero] at s
    simp -zeta only [j54]
    refine ⟨m + 1, new_l0 (a := ⟨b, f1, f2, f3⟩) (F := fun _ => 0) (C := fun _ => 0) (R := R) (h0 := h0) hr (fun h2 s => ?_) m 0 h' (by omega) ?_⟩
    · refine bindV_intro fun n51 hn51 => ?_
      obtain rfl : n51 = ((2 * m + 1 : Nat) : Int) := by rw [hn51, wrap64 (x := 2 * (m : Int)) (by omega) (by omega), wrap64 (by omega) (by omega)]; omega
      refine ⟨2 * m + 1 + 1, new_l1 (a := ⟨b, f1, f2, f3⟩) (L := fun _ => -1) (P := fun _ => -1) (N := fun _ => -1) (C := fun _ => 0) (R := R) (h0 := h0) hr (fun h3 s => ?_) (2 * m + 1) 0 h2 (by omega) ?_⟩
      · exact hk ⟨b, f1, f2, f3⟩ h3 s
      · simpa using s
    · simpa [BS.rows] using s
  clear hk
  simp only [wrap64 (x := 2 * (m : Int)) (by omega) (by omega), wrap64 (x := ((2 * m + 1 : Nat) : Int)) (by omega) (by omega), bindV_eq, show 2 * (m : Int) + 1 = ((2 * m + 1 : Nat) : Int) by omega, Int.toNat_natCast]
  repeat' (first | refine s.new_ (fun _ _ s => ?_) | refine ⟨⟨by omega, by omega, by omega, by omega⟩, ?_⟩ | refine And.intro ?_ ?_)
  all_goals (first | exact J _ _ _ _ _ s | exact J _ _ _ _ _ s.pull2.pull3.pull3.pull3 | exact J _ _ _ _ _ s.pull3.pull2.pull3.pull3 | exact J _ _ _ _ _ s.pull1.pull3.pull3.pull3 | exact J _ _ _ _ _ s.pull2.pull2.pull3.pull3 | exact J _ _ _ _ _ s.pull1.pull2.pull3.pull3)
end Go.Proofs.Ythcbigbgfekmdaa
