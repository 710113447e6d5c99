/-
  Texts of this claim, put together.
-/
import Derived.Test.YtokemibmanjpmaaGreatDoorMp
import Derived.Test.YtokemibmanjpmaaGreatDoorB1
import Derived.Test.YtokemibmanjpmaaGreatDoorG5
import Derived.Test.YtokemibmanjpmaaGreatDoorSo2
import Derived.Test.YtokemibmanjpmaaGreatDoorShE
import Derived.Shelf.SlSortCmp.NoneTotal
import Derived.Test.YtokemibmanjpmaaGreatDoorSs0
import Derived.Test.YtokemibmanjpmaaGreatDoorShI
namespace Go.Hp
set_option linter.unusedVariables false
set_option linter.unusedSimpArgs false
set_option linter.unnecessarySimpa false

/-- Cells appended, some a thing. -/
theorem app_k {h0 : Base} {h : Heap} {q : Option Addr} {len cap k : Nat} {l news : List Value} {X R : Rws} {e : TypeId} {size bytes n : Nat} {zero : List Value} {K : Option Addr → Nat → Nat → Heap → Prop}
    (o : (q = none ∧ cap = 0 ∧ l = [] ∧ X = []) ∨ ∃ (b : Nat) (z : List Value), q = some ⟨b, 0, none⟩ ∧ (l ++ z).length = cap * k ∧ X = [(b, l ++ z)]) (s : St h0 h (X ++ R)) (hk0 : 0 < k) (hs : size = k) (hl : l.length = len * k) (hn : news.length = n * k) (hz : zero.length = k) (hf : ∀ v ∈ news, flat v = true) (hb : (len + n) * bytes ≤ 2 ^ 46 ∧ len + n ≤ 2 ^ 46)
    (hk : ∀ q' c' X' h', ((q' = none ∧ c' = 0 ∧ l ++ news = [] ∧ X' = []) ∨ ∃ (b : Nat) (z : List Value), q' = some ⟨b, 0, none⟩ ∧ (l ++ news ++ z).length = c' * k ∧ X' = [(b, l ++ news ++ z)]) → St h0 h' (X' ++ R) → K q' (len + n) c' h') : appP e size bytes zero q len cap n news h K := by
  subst hs
  have grow : ∀ olds, olds = l → ∀ c, len + n ≤ c →
      K (some ⟨h.size, 0, none⟩) (len + n) c (h.push (.cells (olds ++ news ++ zeroRow zero (c - (len + n))).toArray e)) := by
    rintro olds rfl c hc
    have s2 : St h0 h R := s.drop
    have := St.new_ (K := fun a h' => ∀ b, a = ⟨b, 0, none⟩ → St h0 h' ((b, olds ++ news ++ zeroRow zero (c - (len + n))) :: R)) (t := e) s2 (fun b h' s3 b' hb' => by cases hb'; exact s3)
    refine hk _ _ [(h.size, olds ++ news ++ zeroRow zero (c - (len + n)))] _ (.inr ⟨h.size, zeroRow zero (c - (len + n)), rfl, ?_, rfl⟩) (this h.size rfl)
    simp only [List.length_append, length_zeroRow, hz, hl, hn]
    rw [← Nat.add_mul, ← Nat.add_mul]; congr 1; omega
  rcases o with ⟨rfl, rfl, rfl, rfl⟩ | ⟨b, z, rfl, hcap, rfl⟩
  · have hl0 : len = 0 := by
      have : len * size = 0 := by simpa using hl.symm
      rcases Nat.mul_eq_zero.1 this with h | h
      · exact h
      · omega
    subst hl0
    refine ⟨fun hc => ?_, fun hc => ⟨hb.1, hb.2, [], ⟨by simp, fun j hj => absurd hj (by simp)⟩, grow _ rfl⟩⟩
    have hn0 : n = 0 := by omega
    subst hn0
    have hnn : news = [] := List.length_eq_zero_iff.1 (by simpa using hn)
    subst hnn
    exact hk none 0 [] h (.inl ⟨rfl, rfl, rfl, rfl⟩) s
  · refine ⟨fun hc => ?_, fun hc => ⟨hb.1, hb.2, l, ?_, grow _ rfl⟩⟩
    · show stL news h ((⟨b, 0, none⟩ : Addr).add (len * size)) 0 _
      rw [add_mk, Nat.zero_add, ← hl]
      have hzl : news.length ≤ z.length := by
        have h1 := Nat.mul_le_mul_right size hc
        rw [Nat.add_mul, ← hl, ← hn, ← hcap, List.length_append] at h1; omega
      have go : ∀ (ns l' z' : List Value) (h' : Heap) (i : Nat), i = l'.length → (∀ v ∈ ns, flat v = true) → ns.length ≤ z'.length → St h0 h' ((b, l ++ l' ++ z') :: R) → (l ++ l' ++ z').length = cap * size → l' ++ ns = news →
          stL ns h' ⟨b, l.length, none⟩ i (fun h'' => K (some ⟨b, 0, none⟩) (len + n) cap h'') := by
        intro ns
        induction ns with
        | nil =>
          intro l' z' h' i hi _ _ s' hlen hnews
          rw [List.append_nil] at hnews; subst hnews
          refine hk _ _ [(b, l ++ l' ++ z')] h' (.inr ⟨b, z', rfl, hlen, rfl⟩) s'
        | cons v ns ih =>
          intro l' z' h' i hi hfl hle s' hlen hnews
          obtain ⟨u, z'', rfl⟩ : ∃ u z'', z' = u :: z'' := by
            cases z' with
            | nil => simp at hle
            | cons u z'' => exact ⟨u, z'', rfl⟩
          unfold stL
          rw [hfl v (by simp)]
          simp only [add_mk]
          refine St.st0 s' (by simp; omega) fun h'' s'' => ih (l' ++ [v]) z'' h'' (i + 1) (by simp; omega) (fun x hx => hfl x (by simp [hx])) (by simpa using hle) ?_ ?_ (by simpa using hnews)
          · have : (l ++ l' ++ u :: z'').set (l.length + i) v = l ++ (l' ++ [v]) ++ z'' := by
              subst hi; simp [List.set_append]
            rw [this] at s''; exact s''
          · simpa using hlen
      exact go news [] z h 0 rfl hf hzl (by simpa using s) (by simpa using hcap) (by simp)
    · refine ⟨hl, fun j hj => ⟨_, rfl, ?_⟩⟩
      rw [add_mk, (s.rows (b, l ++ z) (by simp)).cell, Nat.zero_add, List.getElem?_append_left (by omega)]

/-! ### Edges -/
abbrev Ed := Int × Int × Int
def Ed.vs (e : Ed) : List Value := [.int .i64 e.1, .int .i64 e.2.1, .int .i64 e.2.2]
def eV (l : List Ed) : List Value := l.flatMap Ed.vs
theorem eV_len : ∀ l : List Ed, (eV l).length = l.length * 3
  | [] => rfl
  | e :: l => by
    have := eV_len l
    simp only [eV, List.flatMap_cons, List.length_append, List.length_cons, Ed.vs] at *
    simp only [List.length_nil]; omega
theorem eV_app (l m : List Ed) : eV (l ++ m) = eV l ++ eV m := by simp [eV]
theorem eV_one (e : Ed) : eV [e] = Ed.vs e := by simp [eV]
theorem eV_get : ∀ {l : List Ed} {i o : Nat} {e : Ed}, l[i]? = some e → o < 3 → (eV l)[i * 3 + o]? = (Ed.vs e)[o]?
  | [], i, o, e, h, ho => by simp at h
  | e0 :: l, 0, o, e, h, ho => by
    have h : e0 = e := by simpa using h
    subst h
    simp only [eV, List.flatMap_cons]
    rw [Nat.zero_mul, Nat.zero_add, List.getElem?_append_left (by simpa [Ed.vs] using ho)]
  | e0 :: l, i + 1, o, e, h, ho => by
    have h : l[i]? = some e := by simpa using h
    have ih := eV_get h ho
    show (Ed.vs e0 ++ eV l)[(i + 1) * 3 + o]? = _
    rw [List.getElem?_append_right (by simp [Ed.vs]; omega)]
    rw [show (i + 1) * 3 + o - (Ed.vs e0).length = i * 3 + o by simp [Ed.vs]; omega]
    exact ih
theorem eV_get0 {l : List Ed} {i : Nat} {u v w : Int} (h : l[i]? = some (u, v, w)) : (eV l)[i * 3]? = some (.int .i64 u) := eV_get (o := 0) h (by omega)
theorem eV_get1 {l : List Ed} {i : Nat} {u v w : Int} (h : l[i]? = some (u, v, w)) : (eV l)[i * 3 + 1]? = some (.int .i64 v) := eV_get (o := 1) h (by omega)
theorem eV_get2 {l : List Ed} {i : Nat} {u v w : Int} (h : l[i]? = some (u, v, w)) : (eV l)[i * 3 + 2]? = some (.int .i64 w) := eV_get (o := 2) h (by omega)
theorem eV_set3 {A B : List Ed} {e e' : Ed} {i : Nat} (hi : A.length = i) (z : List Value) : ((((eV (A ++ e :: B) ++ z).set (i * 3) (.int .i64 e'.1)).set (i * 3 + 1) (.int .i64 e'.2.1)).set (i * 3 + 2) (.int .i64 e'.2.2)) = eV (A ++ e' :: B) ++ z := by
  have hA : (eV A).length = i * 3 := by rw [eV_len, hi]
  have e1 : ∀ x : Ed, eV (A ++ x :: B) ++ z = eV A ++ (Value.int .i64 x.1 :: Value.int .i64 x.2.1 :: Value.int .i64 x.2.2 :: (eV B ++ z)) := fun x => by
    rw [eV_app, show x :: B = [x] ++ B from rfl, eV_app, eV_one]; simp [Ed.vs]
  rw [e1, e1]
  rw [List.set_append_right _ _ (by omega), show i * 3 - (eV A).length = 0 by omega, List.set_cons_zero]
  rw [List.set_append_right _ _ (by omega), show i * 3 + 1 - (eV A).length = 1 by omega]
  rw [List.set_append_right _ _ (by omega), show i * 3 + 2 - (eV A).length = 2 by omega]
  rfl
theorem eV_setW {A B : List Ed} {u v w w' : Int} {i : Nat} (hi : A.length = i) (z : List Value) : ((eV (A ++ (u, v, w) :: B) ++ z).set (i * 3 + 2) (.int .i64 w')) = eV (A ++ (u, v, w') :: B) ++ z := by
  have hA : (eV A).length = i * 3 := by rw [eV_len, hi]
  have e1 : ∀ x : Ed, eV (A ++ x :: B) ++ z = eV A ++ (Value.int .i64 x.1 :: Value.int .i64 x.2.1 :: Value.int .i64 x.2.2 :: (eV B ++ z)) := fun x => by
    rw [eV_app, show x :: B = [x] ++ B from rfl, eV_app, eV_one]; simp [Ed.vs]
  rw [e1, e1]
  rw [List.set_append_right _ _ (by omega), show i * 3 + 2 - (eV A).length = 2 by omega]
  rfl
theorem eV_flat (l : List Ed) : ∀ v ∈ eV l, flat v = true := by
  intro v hv
  obtain ⟨e, _, hv⟩ := List.mem_flatMap.1 hv
  simp only [Ed.vs, List.mem_cons, List.not_mem_nil, or_false] at hv
  rcases hv with rfl | rfl | rfl <;> rfl

theorem addr_add (a : Addr) (m n : Nat) : (a.add m).add n = a.add (m + n) := by
  unfold Addr.add
  by_cases h : m = 0
  · subst h; simp
  · by_cases h2 : n = 0
    · subst h2; simp
    · rw [if_neg h, if_neg h2, if_neg (by omega)]; simp [Nat.add_assoc]
section
variable {h : Heap} {q : Option Addr} {l : List Ed} {i : Nat}
theorem vals_edge {u v w : Int} {G : Int → Int → Int → Prop} (hv : valsAt h q (eV l)) (hx : l[i]? = some (u, v, w)) :
    (chkP q fun a => ∃ x : Int, cell h (a.add (i * 3)) = some (.int .i64 x) ∧ ∃ y : Int, cell h ((a.add (i * 3)).add 1) = some (.int .i64 y) ∧ ∃ z : Int, cell h ((a.add (i * 3)).add 2) = some (.int .i64 z) ∧ G x y z) = G u v w := by
  obtain ⟨a, rfl, h0⟩ := hv _ _ (eV_get0 hx)
  obtain ⟨a1, ha1, h1⟩ := hv _ _ (eV_get1 hx)
  obtain ⟨a2, ha2, h2⟩ := hv _ _ (eV_get2 hx)
  cases ha1; cases ha2
  rw [chkP_some, addr_add, addr_add, h0, h1, h2]
  simp
theorem vals_edge2 {u v w : Int} {G : Int → Prop} (hv : valsAt h q (eV l)) (hx : l[i]? = some (u, v, w)) :
    (chkP q fun a => ∃ z : Int, cell h ((a.add (i * 3)).add 2) = some (.int .i64 z) ∧ G z) = G w := by
  obtain ⟨a2, rfl, h2⟩ := hv _ _ (eV_get2 hx)
  rw [chkP_some, addr_add, h2]
  simp
end

/-- A slice of edges of one's own. -/
def Own3 (q : Option Addr) (cap : Nat) (l : List Ed) (X : Rws) : Prop :=
  (q = none ∧ cap = 0 ∧ l = [] ∧ X = []) ∨ ∃ (b : Nat) (z : List Value), q = some ⟨b, 0, none⟩ ∧ (eV l ++ z).length = cap * 3 ∧ X = [(b, eV l ++ z)]
theorem Own3.nil : Own3 none 0 [] [] := .inl ⟨rfl, rfl, rfl, rfl⟩
theorem Own3.keeps {h0 : Base} {q : Option Addr} {cap : Nat} {l : List Ed} {X R : Rws} (o : Own3 q cap l X) (hs : ∀ x ∈ X, x ∈ R) : Keeps h0 R q (eV l) := by
  rcases o with ⟨rfl, rfl, rfl, rfl⟩ | ⟨b, z, rfl, _, rfl⟩
  · exact Keeps.nil
  · exact Keeps.own (z := z) (hs _ (by simp))
theorem Own3.vals {h0 : Base} {h : Heap} {q : Option Addr} {cap : Nat} {l : List Ed} {X R : Rws} (o : Own3 q cap l X) (s : St h0 h (X ++ R)) : valsAt h q (eV l) := (o.keeps (R := X) fun x hx => hx).at0 s.keep
/-- One edge appended, out of a box. -/
theorem Own3.push1 {h0 : Base} {h : Heap} {q : Option Addr} {len cap : Nat} {l : List Ed} {u v w : Int} {X R : Rws} {t e : TypeId} {K : Option Addr → Nat → Nat → Heap → Prop}
    (o : Own3 q cap l X) (s : St h0 h (X ++ R)) (hl : len = l.length) (hb : len < 2 ^ 40)
    (hk : ∀ q' c' X' h', Own3 q' c' (l ++ [(u, v, w)]) X' → St h0 h' (X' ++ R) → K q' (len + 1) c' h') :
    newP h (.cells #[.int .i64 u, .int .i64 v, .int .i64 w] t) fun a h2 => ∃ n, cellsAt h2 (some a) (1 * 3) n ∧ appP e 3 24 [.int .i64 0, .int .i64 0, .int .i64 0] q len cap 1 n h2 K := by
  refine St.new_ (cs := Ed.vs (u, v, w)) s fun b h2 s2 => ⟨Ed.vs (u, v, w), ⟨rfl, fun j hj => ⟨_, rfl, ?_⟩⟩, ?_⟩
  · rw [add_mk, s2.rd0, Nat.zero_add]
  · refine app_k (k := 3) (l := eV l) (news := Ed.vs (u, v, w)) ?_ s2.tail (by omega) rfl (by rw [eV_len, hl]) rfl rfl (fun x hx => eV_flat [(u, v, w)] x (by rw [eV_one]; exact hx)) (by omega) fun q' c' X' h' o' s' => hk q' c' X' h' ?_ s'
    · rcases o with ⟨rfl, rfl, rfl, rfl⟩ | o
      · exact .inl ⟨rfl, rfl, rfl, rfl⟩
      · exact .inr o
    · have e1 : eV l ++ Ed.vs (u, v, w) = eV (l ++ [(u, v, w)]) := by rw [eV_app, eV_one]
      rw [e1] at o'
      rcases o' with ⟨_, _, h, _⟩ | o'
      · have := congrArg List.length h; rw [eV_len] at this; simp at this
      · exact .inr o'
end Go.Hp

namespace Go.Proofs.YtokemibmanjpmaaGreatDoor
set_option linter.unusedVariables false
set_option linter.unusedSimpArgs false
set_option linter.unnecessarySimpa false
open Go.Hp Go.RowKit
attribute [local irreducible] Go.Hp.iteB Go.Hp.stC Go.Hp.newP

theorem num_Add_of {a b : Int} {h : Heap} {K : Int → Bool → Heap → Prop} (ha : fits a) (hb : fits b) (hk : K (addR a b).1 (addR a b).2 h) : num_Add a b h K := by
  unfold num_Add
  simp only [bindV_eq]
  rw [add_over ha hb]
  unfold addR at hk
  by_cases hf : fits (a + b)
  · rw [if_pos hf] at hk; simp only [hf, decide_true, Bool.not_true, iteB_false]
    unfold fits at hf; rw [wrap_id (by omega) (by omega)]; exact hk
  · rw [if_neg hf] at hk; simp only [hf, decide_false, Bool.not_false, iteB_true]; exact hk

def normE (e : Ed) : Ed := if e.1 > e.2.1 then (e.2.1, e.1, e.2.2) else e
theorem normE_pos {e : Ed} (h : e.1 > e.2.1) : normE e = (e.2.1, e.1, e.2.2) := if_pos h
theorem normE_neg {e : Ed} (h : ¬ e.1 > e.2.1) : normE e = e := if_neg h
theorem normE_w (e : Ed) : (normE e).2.2 = e.2.2 := by unfold normE; split <;> rfl
theorem normE_le (e : Ed) : (normE e).1 ≤ (normE e).2.1 := by
  by_cases h : e.1 > e.2.1
  · rw [normE_pos h]; simp only; omega
  · rw [normE_neg h]; omega
theorem normE_eq (e : Ed) : (normE e).1 = (normE e).2.1 ↔ e.1 = e.2.1 := by
  by_cases h : e.1 > e.2.1
  · rw [normE_pos h]; simp only; omega
  · rw [normE_neg h]
theorem normE_idem {e : Ed} (h : e.1 ≤ e.2.1) : normE e = e := by unfold normE; rw [if_neg (by omega)]

section
variable {h0 : Base} {R : Rws}
theorem Normal_of {h : Heap} {e : Ed} {K : Int → Int → Int → Heap → Prop} (s : St h0 h R) (hk : ∀ h', St h0 h' R → K (normE e).1 (normE e).2.1 (normE e).2.2 h') : edge_Normal e.1 e.2.1 e.2.2 h K := by
  obtain ⟨u, v, w⟩ := e
  unfold edge_Normal
  refine s.new_ fun b1 h1 s1 => s1.new_ fun b2 h2 s2 => ?_
  intro j
  have J : ∀ h' x y z, St h0 h' ((b2, [.int .i64 0, .int .i64 0, .int .i64 0]) :: (b1, [.int .i64 x, .int .i64 y, .int .i64 z]) :: R) → normE (u, v, w) = (x, y, z) → j h' := by
    intro h' x y z s e
    simp -zeta only [j]
    try simp -zeta (disch := omega) only [chkP_some, iteB_true, iteB_false, add_mk, Nat.zero_add, Nat.add_zero, Nat.mul_one, Nat.reduceAdd, Int.toNat_natCast, ex_int, ex_slice, ex_ptr, ex_bool, ex_str, ex_flt, ex_any, bnd_in, List.getElem?_cons_zero, List.getElem?_cons_succ, List.set_cons_zero, List.set_cons_succ, List.cons_append, List.nil_append, bne_self_eq_false, beq_self_eq_true, Bool.not_true, Bool.not_false, Option.isNone_some, Option.isNone_none, eq_self, true_and, and_true, and_self, s.rd0, s.rd1]
    refine s.st0 (by simp) fun h3 s3 => ?_
    try simp -zeta (disch := omega) only [chkP_some, iteB_true, iteB_false, add_mk, Nat.zero_add, Nat.add_zero, Nat.mul_one, Nat.reduceAdd, Int.toNat_natCast, ex_int, ex_slice, ex_ptr, ex_bool, ex_str, ex_flt, ex_any, bnd_in, List.getElem?_cons_zero, List.getElem?_cons_succ, List.set_cons_zero, List.set_cons_succ, List.cons_append, List.nil_append, bne_self_eq_false, beq_self_eq_true, Bool.not_true, Bool.not_false, Option.isNone_some, Option.isNone_none, eq_self, true_and, and_true, and_self, s3.rd0, s3.rd1]
    refine s3.st0 (by simp) fun h4 s4 => ?_
    try simp -zeta (disch := omega) only [chkP_some, iteB_true, iteB_false, add_mk, Nat.zero_add, Nat.add_zero, Nat.mul_one, Nat.reduceAdd, Int.toNat_natCast, ex_int, ex_slice, ex_ptr, ex_bool, ex_str, ex_flt, ex_any, bnd_in, List.getElem?_cons_zero, List.getElem?_cons_succ, List.set_cons_zero, List.set_cons_succ, List.cons_append, List.nil_append, bne_self_eq_false, beq_self_eq_true, Bool.not_true, Bool.not_false, Option.isNone_some, Option.isNone_none, eq_self, true_and, and_true, and_self, s4.rd0, s4.rd1]
    refine s4.st0 (by simp) fun h5 s5 => ?_
    try simp -zeta (disch := omega) only [chkP_some, iteB_true, iteB_false, add_mk, Nat.zero_add, Nat.add_zero, Nat.mul_one, Nat.reduceAdd, Int.toNat_natCast, ex_int, ex_slice, ex_ptr, ex_bool, ex_str, ex_flt, ex_any, bnd_in, List.getElem?_cons_zero, List.getElem?_cons_succ, List.set_cons_zero, List.set_cons_succ, List.cons_append, List.nil_append, bne_self_eq_false, beq_self_eq_true, Bool.not_true, Bool.not_false, Option.isNone_some, Option.isNone_none, eq_self, true_and, and_true, and_self, s5.rd0, s5.rd1]
    have := hk h5 s5.tail.tail
    rw [e] at this; exact this
  clear_value j
  try simp -zeta (disch := omega) only [chkP_some, iteB_true, iteB_false, add_mk, Nat.zero_add, Nat.add_zero, Nat.mul_one, Nat.reduceAdd, Int.toNat_natCast, ex_int, ex_slice, ex_ptr, ex_bool, ex_str, ex_flt, ex_any, bnd_in, List.getElem?_cons_zero, List.getElem?_cons_succ, List.set_cons_zero, List.set_cons_succ, List.cons_append, List.nil_append, bne_self_eq_false, beq_self_eq_true, Bool.not_true, Bool.not_false, Option.isNone_some, Option.isNone_none, eq_self, true_and, and_true, and_self, s2.rd0, s2.rd1]
  refine iteB_intro (fun e => ?_) (fun e => ?_)
  · have e := of_decide_eq_true e
    try simp -zeta (disch := omega) only [chkP_some, iteB_true, iteB_false, add_mk, Nat.zero_add, Nat.add_zero, Nat.mul_one, Nat.reduceAdd, Int.toNat_natCast, ex_int, ex_slice, ex_ptr, ex_bool, ex_str, ex_flt, ex_any, bnd_in, List.getElem?_cons_zero, List.getElem?_cons_succ, List.set_cons_zero, List.set_cons_succ, List.cons_append, List.nil_append, bne_self_eq_false, beq_self_eq_true, Bool.not_true, Bool.not_false, Option.isNone_some, Option.isNone_none, eq_self, true_and, and_true, and_self, s2.rd0, s2.rd1]
    refine s2.st1 (by simp) fun h3 s3 => ?_
    try simp -zeta (disch := omega) only [chkP_some, iteB_true, iteB_false, add_mk, Nat.zero_add, Nat.add_zero, Nat.mul_one, Nat.reduceAdd, Int.toNat_natCast, ex_int, ex_slice, ex_ptr, ex_bool, ex_str, ex_flt, ex_any, bnd_in, List.getElem?_cons_zero, List.getElem?_cons_succ, List.set_cons_zero, List.set_cons_succ, List.cons_append, List.nil_append, bne_self_eq_false, beq_self_eq_true, Bool.not_true, Bool.not_false, Option.isNone_some, Option.isNone_none, eq_self, true_and, and_true, and_self, s3.rd0, s3.rd1]
    refine s3.st1 (by simp) fun h4 s4 => J h4 v u w s4 ?_
    unfold normE; rw [if_pos e]
  · have e := of_decide_eq_false e
    refine J h2 u v w s2 ?_
    unfold normE; rw [if_neg e]

/-! ### What comes together -/
def sameK (x e : Ed) : Prop := x.1 = e.1 ∧ x.2.1 = e.2.1
instance (x e : Ed) : Decidable (sameK x e) := by unfold sameK; exact inferInstance
def addP : List Ed → Ed → Option (List Ed)
  | [], e => some [e]
  | x :: r, e => if sameK x e then (if fits (x.2.2 + e.2.2) then some ((x.1, x.2.1, x.2.2 + e.2.2) :: r) else none) else (addP r e).map (x :: ·)
theorem addP_cons (x : Ed) (r : List Ed) (e : Ed) : addP (x :: r) e = if sameK x e then (if fits (x.2.2 + e.2.2) then some ((x.1, x.2.1, x.2.2 + e.2.2) :: r) else none) else (addP r e).map (x :: ·) := rfl
def stepP (o : Option (List Ed)) (x : Ed) : Option (List Ed) := match o with
  | none => none
  | some P => if (normE x).1 = (normE x).2.1 then some P else addP P (normE x)
def mergeP (l : List Ed) : Option (List Ed) := l.foldl stepP (some [])
theorem step_none : ∀ l : List Ed, l.foldl stepP none = none
  | [] => rfl
  | x :: l => step_none l
theorem mergeP_snoc (l : List Ed) (x : Ed) : mergeP (l ++ [x]) = stepP (mergeP l) x := by unfold mergeP; rw [List.foldl_append]; rfl
theorem mergeP_none {l : List Ed} {i : Nat} (h : mergeP (l.take i) = none) : mergeP l = none := by
  unfold mergeP at *
  rw [← List.take_append_drop i l, List.foldl_append, h, step_none]
theorem addP_none {e : Ed} : ∀ {P : List Ed}, (∀ x ∈ P, ¬ sameK x e) → addP P e = some (P ++ [e])
  | [], _ => rfl
  | x :: r, h => by rw [addP_cons, if_neg (h x (by simp)), addP_none fun y hy => h y (by simp [hy])]; rfl
theorem addP_mid {e x : Ed} : ∀ {A B : List Ed}, (∀ y ∈ A, ¬ sameK y e) → sameK x e → addP (A ++ x :: B) e = if fits (x.2.2 + e.2.2) then some (A ++ (x.1, x.2.1, x.2.2 + e.2.2) :: B) else none
  | [], B, _, hx => by rw [List.nil_append, addP_cons, if_pos hx]; rfl
  | y :: A, B, h, hx => by
    rw [List.cons_append, addP_cons]
    rw [if_neg (h y (by simp)), addP_mid (fun z hz => h z (by simp [hz])) hx]
    split <;> rfl
theorem split_key (e : Ed) : ∀ P : List Ed, (∀ x ∈ P, ¬ sameK x e) ∨ ∃ A x B, P = A ++ x :: B ∧ (∀ y ∈ A, ¬ sameK y e) ∧ sameK x e
  | [] => .inl (by simp)
  | x :: r => by
    by_cases c : sameK x e
    · exact .inr ⟨[], x, r, rfl, by simp, c⟩
    · rcases split_key e r with h | ⟨A, y, B, h1, h2, h3⟩
      · exact .inl fun z hz => by rcases List.mem_cons.1 hz with rfl | hz; exact c; exact h z hz
      · exact .inr ⟨x :: A, y, B, by rw [h1]; rfl, fun z hz => by rcases List.mem_cons.1 hz with rfl | hz; exact c; exact h2 z hz, h3⟩
/-- The map: where each pair stands. -/
def kvF : Nat → List Ed → KV
  | _, [] => []
  | i, e :: r => (.agg #[.int .i64 e.1, .int .i64 e.2.1], .int .i64 (i : Int)) :: kvF (i + 1) r
theorem kvF_app : ∀ (A B : List Ed) (i : Nat), kvF i (A ++ B) = kvF i A ++ kvF (i + A.length) B
  | [], B, i => by simp [kvF]
  | e :: A, B, i => by simp only [List.cons_append, kvF, kvF_app A B (i + 1), List.length_cons]; congr 3; omega
theorem kvF_key : ∀ (P : List Ed) (i : Nat), ∀ e ∈ kvF i P, isKey (.two .i64) e.1 = true
  | [], _, e, h => by simp [kvF] at h
  | x :: r, i, e, h => by
    simp only [kvF, List.mem_cons] at h
    rcases h with rfl | h
    · rfl
    · exact kvF_key r (i + 1) e h
theorem keyEq_two {a b c d : Int} : keyEq (.agg #[.int .i64 a, .int .i64 b]) (.agg #[.int .i64 c, .int .i64 d]) = (a == c && b == d) := rfl
theorem kvF_ne {e : Ed} : ∀ {P : List Ed} (i : Nat), (∀ x ∈ P, ¬ sameK x e) → ∀ y ∈ kvF i P, keyEq (.agg #[.int .i64 e.1, .int .i64 e.2.1]) y.1 = false
  | [], _, _, y, h => by simp [kvF] at h
  | x :: r, i, hx, y, h => by
    simp only [kvF, List.mem_cons] at h
    rcases h with rfl | h
    · rw [keyEq_two]
      have := hx x (by simp)
      rw [Bool.eq_false_iff]; simp only [ne_eq, Bool.and_eq_true, beq_iff_eq]
      rintro ⟨h1, h2⟩; exact this ⟨h1.symm, h2.symm⟩
    · exact kvF_ne (i + 1) (fun z hz => hx z (by simp [hz])) y h
theorem kvF_w {A B : List Ed} {u v w w' : Int} (i : Nat) : kvF i (A ++ (u, v, w) :: B) = kvF i (A ++ (u, v, w') :: B) := by rw [kvF_app, kvF_app]; rfl

def fitsL (P : List Ed) : Prop := ∀ e ∈ P, fits e.2.2
theorem addP_fits {e : Ed} (he : fits e.2.2) : ∀ {P Q : List Ed}, fitsL P → addP P e = some Q → fitsL Q ∧ Q.length ≤ P.length + 1
  | [], Q, _, h => by
    simp only [addP, Option.some.injEq] at h; subst h
    exact ⟨fun x hx => by simp only [List.mem_singleton] at hx; subst hx; exact he, by simp⟩
  | x :: r, Q, hP, h => by
    rw [addP_cons] at h
    split at h
    · split at h
      · rename_i hf
        simp only [Option.some.injEq] at h; subst h
        exact ⟨fun y hy => by rcases List.mem_cons.1 hy with rfl | hy; exact hf; exact hP y (by simp [hy]), by simp⟩
      · cases h
    · cases hr : addP r e with
      | none => rw [hr] at h; cases h
      | some Q' =>
        rw [hr] at h
        simp only [Option.map_some, Option.some.injEq] at h; subst h
        obtain ⟨h1, h2⟩ := addP_fits he (fun y hy => hP y (by simp [hy])) hr
        exact ⟨fun y hy => by rcases List.mem_cons.1 hy with rfl | hy; exact hP _ (by simp); exact h1 y hy, by simp; omega⟩

theorem merge_l0 {K0 : Option Addr → Nat → Nat → Bool → Heap → Prop} {K2 : Option Addr → Nat → Nat → Heap → Prop} {bm n cl : Nat} {ql : Option Addr} {l : List Ed} (hf : Base.free h0 bm) (hl : l.length = n) (hn : n < 2 ^ 30) (hw : fitsL l) (kl : Keeps h0 R ql (eV l))
    (hk0 : mergeP l = none → ∀ h', St h0 h' R → K0 none 0 0 false h')
    (hk2 : ∀ P, mergeP l = some P → ∀ h' q c X, fitsL P → P.length ≤ n → Own3 q c P X → St h0 h' (X ++ R) → K2 q P.length c h') :
    ∀ (d i : Nat) (h : Heap) (P : List Ed) (q : Option Addr) (c : Nat) (X : Rws), i + d = n → mergeP (l.take i) = some P → fitsL P → P.length ≤ i → Own3 q c P X → St (h0.with bm (mapObj (kvF 0 P))) h (X ++ R) →
      edge_Merge.l0 K0 K2 (d + 1) (some bm) q P.length c ql n cl (n : Int) (i : Int) h
  | 0, i, h, P, q, c, X, hi, hm, hfp, hpl, o, s => by
    unfold edge_Merge.l0 edge_Merge.b0
    have e : i = n := by omega
    subst e
    rw [List.take_of_length_le (by omega)] at hm
    exact iteB_neg (decide_eq_false (by omega)) (hk2 P hm h q c X hfp hpl o s.dropO)
  | d + 1, i, h, P, q, c, X, hi, hm, hfp, hpl, o, s => by
    unfold edge_Merge.l0 edge_Merge.b0
    obtain ⟨⟨u, v, w⟩, hx⟩ := get_lt (l := l) (i := i) (by omega)
    have hwx : fits w := hw _ (List.mem_of_getElem? hx)
    have vl : valsAt h ql (eV l) := kl.withO.at1 s
    have ms : mergeP (l.take (i + 1)) = stepP (some P) (u, v, w) := by rw [take_snoc hx, mergeP_snoc, hm]
    refine iteB_pos (decide_eq_true (by omega)) ?_
    simp -zeta (disch := omega) only [chkP_some, iteB_true, iteB_false, add_mk, Nat.zero_add, Nat.add_zero, Nat.mul_one, Nat.reduceAdd, Int.toNat_natCast, ex_int, ex_slice, ex_ptr, ex_bool, ex_str, ex_flt, ex_any, bnd_in, List.getElem?_cons_zero, List.getElem?_cons_succ, List.set_cons_zero, List.set_cons_succ, List.cons_append, List.nil_append, bne_self_eq_false, beq_self_eq_true, Bool.not_true, Bool.not_false, Option.isNone_some, Option.isNone_none, eq_self, true_and, and_true, and_self, vals_edge vl hx]
    refine s.new_ fun b1 h1 s1 => s1.st0 (by simp) fun h2 s2 => s2.st0 (by simp) fun h3 s3 => s3.st0 (by simp) fun h4 s4 => ?_
    try simp -zeta (disch := omega) only [chkP_some, iteB_true, iteB_false, add_mk, Nat.zero_add, Nat.add_zero, Nat.mul_one, Nat.reduceAdd, Int.toNat_natCast, ex_int, ex_slice, ex_ptr, ex_bool, ex_str, ex_flt, ex_any, bnd_in, List.getElem?_cons_zero, List.getElem?_cons_succ, List.set_cons_zero, List.set_cons_succ, List.cons_append, List.nil_append, bne_self_eq_false, beq_self_eq_true, Bool.not_true, Bool.not_false, Option.isNone_some, Option.isNone_none, eq_self, true_and, and_true, and_self, s4.rd0]
    refine callP3.self (Normal_of (e := (u, v, w)) s4 fun h5 s5 => ?_)
    obtain ⟨u', v', w', hne⟩ : ∃ u' v' w', normE (u, v, w) = (u', v', w') := ⟨_, _, _, rfl⟩
    have hw' : w' = w := by have := normE_w (u, v, w); rw [hne] at this; exact this
    have hwf : fits w' := by rw [hw']; exact hwx
    rw [hne]
    refine s5.new_ fun b2 h6 s6 => s6.st0 (by simp) fun h7 s7 => s7.st0 (by simp) fun h8 s8 => s8.st0 (by simp) fun h9 s9 => ?_
    try simp -zeta (disch := omega) only [chkP_some, iteB_true, iteB_false, add_mk, Nat.zero_add, Nat.add_zero, Nat.mul_one, Nat.reduceAdd, Int.toNat_natCast, ex_int, ex_slice, ex_ptr, ex_bool, ex_str, ex_flt, ex_any, bnd_in, List.getElem?_cons_zero, List.getElem?_cons_succ, List.set_cons_zero, List.set_cons_succ, List.cons_append, List.nil_append, bne_self_eq_false, beq_self_eq_true, Bool.not_true, Bool.not_false, Option.isNone_some, Option.isNone_none, eq_self, true_and, and_true, and_self, s9.rd0]
    rw [stepP, hne] at ms
    refine iteB_intro (fun e => ?_) (fun e => ?_)
    · have e : u' = v' := by simpa using e
      rw [if_pos e] at ms
      rw [wrap64 (by omega) (by omega)]
      exact merge_l0 hf hl hn hw kl hk0 hk2 d (i + 1) h9 P q c X (by omega) ms hfp (by omega) o s9.tail.tail
    · have e : ¬ u' = v' := by simpa using e
      rw [if_neg e] at ms
      refine s9.new_ fun b3 h10 s10 => s10.st0 (by simp) fun h11 s11 => s11.st0 (by simp) fun h12 s12 => ?_
      try simp -zeta (disch := omega) only [chkP_some, iteB_true, iteB_false, add_mk, Nat.zero_add, Nat.add_zero, Nat.mul_one, Nat.reduceAdd, Int.toNat_natCast, ex_int, ex_slice, ex_ptr, ex_bool, ex_str, ex_flt, ex_any, bnd_in, List.getElem?_cons_zero, List.getElem?_cons_succ, List.set_cons_zero, List.set_cons_succ, List.cons_append, List.nil_append, bne_self_eq_false, beq_self_eq_true, Bool.not_true, Bool.not_false, Option.isNone_some, Option.isNone_none, eq_self, true_and, and_true, and_self, s12.rd0, s12.rd1]
      rw [chkM_some]
      refine ⟨kvF 0 P, ⟨s12.mapAt, kvF_key P 0⟩, ?_⟩
      rcases split_key (u', v', w') P with hno | ⟨A, ⟨xu, xv, xw⟩, B, rfl, hA, hs⟩
      · -- a new pair
        rw [addP_none hno] at ms
        have hg := kvF_ne 0 hno
        rw [show getM (.agg #[.int .i64 u', .int .i64 v']) (kvF 0 P) = none from getM_none hg]
        refine ⟨0, rfl, iteB_pos rfl ?_⟩
        try simp -zeta (disch := omega) only [chkP_some, iteB_true, iteB_false, add_mk, Nat.zero_add, Nat.add_zero, Nat.mul_one, Nat.reduceAdd, Int.toNat_natCast, ex_int, ex_slice, ex_ptr, ex_bool, ex_str, ex_flt, ex_any, bnd_in, List.getElem?_cons_zero, List.getElem?_cons_succ, List.set_cons_zero, List.set_cons_succ, List.cons_append, List.nil_append, bne_self_eq_false, beq_self_eq_true, Bool.not_true, Bool.not_false, Option.isNone_some, Option.isNone_none, eq_self, true_and, and_true, and_self, s12.rd0, s12.rd1]
        rw [chkM_some]
        refine ⟨kvF 0 P, ⟨s12.mapAt, kvF_key P 0⟩, ?_⟩
        rw [show putM (.agg #[.int .i64 u', .int .i64 v']) (.int .i64 (P.length : Int)) (kvF 0 P) = kvF 0 (P ++ [(u', v', w')]) by rw [putM_none hg, kvF_app]; simp [kvF]]
        refine bindV_intro fun h13 e13 => ?_
        have s13 := s12.setO (o' := mapObj (kvF 0 (P ++ [(u', v', w')]))) hf rfl
        rw [← e13] at s13
        try simp -zeta (disch := omega) only [chkP_some, iteB_true, iteB_false, add_mk, Nat.zero_add, Nat.add_zero, Nat.mul_one, Nat.reduceAdd, Int.toNat_natCast, ex_int, ex_slice, ex_ptr, ex_bool, ex_str, ex_flt, ex_any, bnd_in, List.getElem?_cons_zero, List.getElem?_cons_succ, List.set_cons_zero, List.set_cons_succ, List.cons_append, List.nil_append, bne_self_eq_false, beq_self_eq_true, Bool.not_true, Bool.not_false, Option.isNone_some, Option.isNone_none, eq_self, true_and, and_true, and_self, s13.rd0, s13.rd1]
        have s13 : St _ h13 (X ++ R) := (St.re s13 (by intro a; simp only [cntR_append, cntR_cons, cntR_nil, List.cons_append, List.nil_append, List.set_cons_zero, List.set_cons_succ]; omega))
        refine Own3.push1 o s13 rfl (by omega) fun q2 c2 X2 h14 o2 s14 => ?_
        rw [wrap64 (by omega) (by omega)]
        have := merge_l0 (cl := cl) hf hl hn hw kl hk0 hk2 d (i + 1) h14 (P ++ [(u', v', w')]) q2 c2 X2 (by omega) ms (fun x hx => by
          rcases List.mem_append.1 hx with hx | hx
          · exact hfp x hx
          · simp only [List.mem_singleton] at hx; subst hx; exact hwf) (by simp; omega) o2 s14
        simpa using this
      · -- a pair that there is
        obtain ⟨hs1, hs2⟩ := hs
        simp only at hs1 hs2
        subst hs1; subst hs2
        rw [addP_mid (x := (xu, xv, xw)) hA ⟨rfl, rfl⟩] at ms
        have hg := kvF_ne 0 hA
        have ek : kvF 0 (A ++ (xu, xv, xw) :: B) = kvF 0 A ++ (.agg #[.int .i64 xu, .int .i64 xv], .int .i64 (A.length : Int)) :: kvF (A.length + 1) B := by rw [kvF_app]; simp [kvF]
        have hke : keyEq (.agg #[.int .i64 xu, .int .i64 xv]) (.agg #[.int .i64 xu, .int .i64 xv]) = true := by rw [keyEq_two]; simp
        rw [show getM (.agg #[.int .i64 xu, .int .i64 xv]) (kvF 0 (A ++ (xu, xv, xw) :: B)) = some (.int .i64 (A.length : Int)) by rw [ek]; exact getM_mid hg hke]
        refine ⟨(A.length : Int), rfl, iteB_neg rfl ?_⟩
        have hAl : A.length < (A ++ (xu, xv, xw) :: B).length := by simp
        have gx : (A ++ (xu, xv, xw) :: B)[A.length]? = some (xu, xv, xw) := by simp
        have s12 : St (h0.with bm (mapObj (kvF 0 (A ++ (xu, xv, xw) :: B)))) h12 (X ++ (b2, [Value.int .i64 xu, .int .i64 xv, .int .i64 w']) :: R) := (St.re s12 (by intro a; simp only [cntR_append, cntR_cons, cntR_nil, List.cons_append, List.nil_append, List.set_cons_zero, List.set_cons_succ]; omega))
        have vp := o.vals s12
        have r2 : ∀ j, cell h12 ⟨b2, j, none⟩ = [Value.int .i64 xu, .int .i64 xv, .int .i64 w'][j]? := s12.rd (by simp)
        simp -zeta (disch := omega) only [chkP_some, iteB_true, iteB_false, add_mk, Nat.zero_add, Nat.add_zero, Nat.mul_one, Nat.reduceAdd, Int.toNat_natCast, ex_int, ex_slice, ex_ptr, ex_bool, ex_str, ex_flt, ex_any, bnd_in, List.getElem?_cons_zero, List.getElem?_cons_succ, List.set_cons_zero, List.set_cons_succ, List.cons_append, List.nil_append, bne_self_eq_false, beq_self_eq_true, Bool.not_true, Bool.not_false, Option.isNone_some, Option.isNone_none, eq_self, true_and, and_true, and_self, vals_edge2 vp gx, r2]
        have hxf : fits xw := hfp (xu, xv, xw) (by simp)
        refine qcallP2.of _ _ (fun Q hQ => num_Add_of hxf hwf hQ) ?_
        unfold addR
        simp only at ms
        by_cases hfit : fits (xw + w')
        · rw [if_pos hfit]
          rw [if_pos hfit] at ms
          refine iteB_neg rfl ?_
          rcases o with ⟨_, _, hnil, _⟩ | ⟨b, zz, rfl, hcap, rfl⟩
          · simp at hnil
          simp -zeta (disch := omega) only [chkP_some, iteB_true, iteB_false, add_mk, Nat.zero_add, Nat.add_zero, Nat.mul_one, Nat.reduceAdd, Int.toNat_natCast, ex_int, ex_slice, ex_ptr, ex_bool, ex_str, ex_flt, ex_any, bnd_in, List.getElem?_cons_zero, List.getElem?_cons_succ, List.set_cons_zero, List.set_cons_succ, List.cons_append, List.nil_append, bne_self_eq_false, beq_self_eq_true, Bool.not_true, Bool.not_false, Option.isNone_some, Option.isNone_none, eq_self, true_and, and_true, and_self]
          have hlen : A.length * 3 + 2 < (eV (A ++ (xu, xv, xw) :: B) ++ zz).length := by rw [List.length_append, eV_len]; simp; omega
          refine St.st0 (by simpa using s12) hlen fun h13 s13 => ?_
          rw [eV_setW rfl] at s13
          rw [wrap64 (by omega) (by omega)]
          have o2 : Own3 (some ⟨b, 0, none⟩) c (A ++ (xu, xv, xw + w') :: B) [(b, eV (A ++ (xu, xv, xw + w') :: B) ++ zz)] := .inr ⟨b, zz, rfl, by rw [← hcap]; simp only [List.length_append, eV_len, List.length_cons], rfl⟩
          have s13 : St (h0.with bm (mapObj (kvF 0 (A ++ (xu, xv, xw + w') :: B)))) h13 ([(b, eV (A ++ (xu, xv, xw + w') :: B) ++ zz)] ++ R) := by
            rw [kvF_w (w' := xw)]; exact (St.re s13 (by intro a; simp only [cntR_append, cntR_cons, cntR_nil, List.cons_append, List.nil_append, List.set_cons_zero, List.set_cons_succ]; omega))
          have := merge_l0 (cl := cl) hf hl hn hw kl hk0 hk2 d (i + 1) h13 (A ++ (xu, xv, xw + w') :: B) _ c _ (by omega) ms (fun x hx => by
            rcases List.mem_append.1 hx with hx | hx
            · exact hfp x (by simp [hx])
            · rcases List.mem_cons.1 hx with rfl | hx
              · exact hfit
              · exact hfp x (by simp [hx])) (by simp at hpl ⊢; omega) o2 s13
          simpa using this
        · rw [if_neg hfit]
          rw [if_neg hfit] at ms
          exact iteB_pos rfl (hk0 (mergeP_none ms) h12 ((St.re s12.dropO (by intro a; simp only [cntR_append, cntR_cons, cntR_nil, List.cons_append, List.nil_append, List.set_cons_zero, List.set_cons_succ]; omega))))
end
end Go.Proofs.YtokemibmanjpmaaGreatDoor

namespace Go.Proofs.YtokemibmanjpmaaGreatDoor
set_option linter.unusedVariables false
set_option linter.unusedSimpArgs false
set_option linter.unnecessarySimpa false
open Go.Hp Go.RowKit Go.Sort
attribute [local irreducible] Go.Hp.iteB Go.Hp.stC Go.Hp.newP

/-- Many cells stored: what lies ahead stays. -/
theorem many3 {h0 : Base} {R : Rws} {b off : Nat} {K : Heap → Prop} {n : Nat} {fr : List Value} (hk : ∀ h' cs', cs'.length = n → cs'.take off = fr → St h0 h' ((b, cs') :: R) → K h') :
    ∀ (vs : List Value) (i : Nat) (cs : List Value) (h : Heap), St h0 h ((b, cs) :: R) → cs.length = n → cs.take off = fr → (∀ v ∈ vs, flat v = true) → off + i + vs.length ≤ n → stL vs h ⟨b, off, none⟩ i K
  | [], i, cs, h, s, hc, hf0, _, _ => by unfold stL; exact hk h cs hc hf0 s
  | v :: vs, i, cs, h, s, hc, hf0, hf, hl => by
    unfold stL
    rw [hf v (by simp)]
    simp only [add_mk]
    simp only [List.length_cons] at hl
    exact s.st0 (by omega) fun h2 s2 => many3 hk vs (i + 1) _ h2 s2 (by simpa using hc) (by rw [List.take_set_of_le (by omega)]; exact hf0) (fun x hx => hf x (by simp [hx])) (by omega)
theorem flat_zr3 {z : List Value} (hz : ∀ v ∈ z, flat v = true) : ∀ n, ∀ v ∈ zeroRow z n, flat v = true
  | 0, v, hv => by simp [zeroRow] at hv
  | n + 1, v, hv => by
    simp only [zeroRow, List.mem_append] at hv
    rcases hv with hv | hv
    · exact hz v hv
    · exact flat_zr3 hz n v hv
theorem clear3 {h0 : Base} {h : Heap} {R : Rws} {b off n : Nat} {cs : List Value} {K : Heap → Prop} (s : St h0 h ((b, cs) :: R)) (hl : off + n * 3 ≤ cs.length) (hk : ∀ h' cs', cs'.length = cs.length → cs'.take off = cs.take off → St h0 h' ((b, cs') :: R) → K h') :
    clearP [.int .i64 0, .int .i64 0, .int .i64 0] (some ⟨b, off, none⟩) n h K :=
  many3 hk (zeroRow [.int .i64 0, .int .i64 0, .int .i64 0] n) 0 cs h s rfl rfl (flat_zr3 (by simp [flat]) n) (by rw [length_zeroRow]; simp; omega)

def nz (e : Ed) : Bool := e.2.2 != 0
section
variable {h0 : Base} {R : Rws}
theorem mc1_of {h : Heap} {u v w : Int} {K : Bool → Heap → Prop} (s : St h0 h R) (hk : ∀ h', St h0 h' R → K (w == 0) h') : edge_Merge_c1 u v w h K := by
  unfold edge_Merge_c1
  refine s.new_ fun b h1 s1 => ?_
  try simp -zeta (disch := omega) only [chkP_some, iteB_true, iteB_false, add_mk, Nat.zero_add, Nat.add_zero, Nat.mul_one, Nat.reduceAdd, Int.toNat_natCast, ex_int, ex_slice, ex_ptr, ex_bool, ex_str, ex_flt, ex_any, bnd_in, List.getElem?_cons_zero, List.getElem?_cons_succ, List.set_cons_zero, List.set_cons_succ, List.cons_append, List.nil_append, bne_self_eq_false, beq_self_eq_true, Bool.not_true, Bool.not_false, Option.isNone_some, Option.isNone_none, eq_self, true_and, and_true, and_self, s1.rd0]
  exact hk h1 s1.tail
theorem index_l0 {K0 : Int → Heap → Prop} {K2 : Heap → Prop} {q : Option Addr} {n c : Nat} {P : List Ed} (hl : P.length = n) (hn : n < 2 ^ 40) (kp : Keeps h0 R q (eV P))
    (hk0 : ∀ h' i e, P[i]? = some e → nz e = false → (P.take i).filter nz = P.take i → St h0 h' R → K0 (i : Nat) h') (hk2 : P.filter nz = P → ∀ h', St h0 h' R → K2 h') :
    ∀ (d i : Nat) (h : Heap), i + d = n → (P.take i).filter nz = P.take i → St h0 h R → slices_IndexFunc_Lapi_Edge_api_Edge_edge_Merge_c1.l0 K0 K2 (d + 1) q n c (n : Int) (i : Int) h
  | 0, i, h, hi, hf, s => by
    unfold slices_IndexFunc_Lapi_Edge_api_Edge_edge_Merge_c1.l0 slices_IndexFunc_Lapi_Edge_api_Edge_edge_Merge_c1.b0
    rw [List.take_of_length_le (by omega)] at hf
    exact iteB_neg (decide_eq_false (by omega)) (hk2 hf h s)
  | d + 1, i, h, hi, hf, s => by
    unfold slices_IndexFunc_Lapi_Edge_api_Edge_edge_Merge_c1.l0 slices_IndexFunc_Lapi_Edge_api_Edge_edge_Merge_c1.b0
    obtain ⟨⟨u, v, w⟩, hx⟩ := get_lt (l := P) (i := i) (by omega)
    have vp := kp.at0 s
    refine iteB_pos (decide_eq_true (by omega)) ?_
    simp -zeta (disch := omega) only [chkP_some, iteB_true, iteB_false, add_mk, Nat.zero_add, Nat.add_zero, Nat.mul_one, Nat.reduceAdd, Int.toNat_natCast, ex_int, ex_slice, ex_ptr, ex_bool, ex_str, ex_flt, ex_any, bnd_in, List.getElem?_cons_zero, List.getElem?_cons_succ, List.set_cons_zero, List.set_cons_succ, List.cons_append, List.nil_append, bne_self_eq_false, beq_self_eq_true, Bool.not_true, Bool.not_false, Option.isNone_some, Option.isNone_none, eq_self, true_and, and_true, and_self, vals_edge vp hx]
    refine callP1.self (mc1_of s fun h2 s2 => iteB_intro (fun e => ?_) (fun e => ?_))
    · exact hk0 h2 i _ hx (by unfold nz; simp only [bne, e, Bool.not_true]) hf s2
    · rw [wrap64 (by omega) (by omega)]
      refine index_l0 hl hn kp hk0 hk2 d (i + 1) h2 (by omega) ?_ s2
      rw [take_snoc hx, List.filter_append, hf]
      have : nz (u, v, w) = true := by unfold nz; simp only [bne, e, Bool.not_false]
      simp [this]

theorem del_l0 {K2 : Int → Heap → Prop} {b n c : Nat} {P : List Ed} {z : List Value} (hl : P.length = n) (hc : n * 3 + z.length = c * 3) (hn : n < 2 ^ 40)
    (hk : ∀ h' cs', cs'.length = c * 3 → cs'.take ((P.filter nz).length * 3) = eV (P.filter nz) → St h0 h' ((b, cs') :: R) → K2 ((P.filter nz).length : Nat) h') :
    ∀ (d j : Nat) (h : Heap) (cs : List Value), j + d = n → cs.length = c * 3 → cs.take (((P.take j).filter nz).length * 3) = eV ((P.take j).filter nz) → ((P.take j).filter nz).length < j → (∀ k, j * 3 ≤ k → cs[k]? = (eV P ++ z)[k]?) → St h0 h ((b, cs) :: R) →
      slices_DeleteFunc_Lapi_Edge_api_Edge_edge_Merge_c1.l0 K2 (d + 1) (some ⟨b, 0, none⟩) n c (((P.take j).filter nz).length : Nat) (j : Int) h
  | 0, j, h, cs, hj, hcl, hct, hlt, hrest, s => by
    unfold slices_DeleteFunc_Lapi_Edge_api_Edge_edge_Merge_c1.l0 slices_DeleteFunc_Lapi_Edge_api_Edge_edge_Merge_c1.b0
    rw [List.take_of_length_le (l := P) (by omega)] at hct ⊢
    exact iteB_neg (decide_eq_false (by omega)) (hk h cs hcl hct s)
  | d + 1, j, h, cs, hj, hcl, hct, hlt, hrest, s => by
    unfold slices_DeleteFunc_Lapi_Edge_api_Edge_edge_Merge_c1.l0 slices_DeleteFunc_Lapi_Edge_api_Edge_edge_Merge_c1.b0
    obtain ⟨⟨u, v, w⟩, hx⟩ := get_lt (l := P) (i := j) (by omega)
    have el := eV_len P
    have rest : ∀ o, o < 3 → cs[j * 3 + o]? = (Ed.vs (u, v, w))[o]? := fun o ho => by
      rw [hrest _ (by omega), List.getElem?_append_left (by omega)]; exact eV_get hx ho
    have g0 : cell h ⟨b, j * 3, none⟩ = some (.int .i64 u) := by rw [s.rd0]; exact rest 0 (by omega)
    have g1 : cell h ⟨b, j * 3 + 1, none⟩ = some (.int .i64 v) := by rw [s.rd0]; exact rest 1 (by omega)
    have g2 : cell h ⟨b, j * 3 + 2, none⟩ = some (.int .i64 w) := by rw [s.rd0]; exact rest 2 (by omega)
    refine iteB_pos (decide_eq_true (by omega)) ?_
    simp -zeta (disch := omega) only [chkP_some, iteB_true, iteB_false, add_mk, Nat.zero_add, Nat.add_zero, Nat.mul_one, Nat.reduceAdd, Int.toNat_natCast, ex_int, ex_slice, ex_ptr, ex_bool, ex_str, ex_flt, ex_any, bnd_in, List.getElem?_cons_zero, List.getElem?_cons_succ, List.set_cons_zero, List.set_cons_succ, List.cons_append, List.nil_append, bne_self_eq_false, beq_self_eq_true, Bool.not_true, Bool.not_false, Option.isNone_some, Option.isNone_none, eq_self, true_and, and_true, and_self, g0, g1, g2]
    refine s.new_ fun b2 h1 s1 => s1.st0 (by simp) fun h2 s2 => s2.st0 (by simp) fun h3 s3 => s3.st0 (by simp) fun h4 s4 => ?_
    try simp -zeta (disch := omega) only [chkP_some, iteB_true, iteB_false, add_mk, Nat.zero_add, Nat.add_zero, Nat.mul_one, Nat.reduceAdd, Int.toNat_natCast, ex_int, ex_slice, ex_ptr, ex_bool, ex_str, ex_flt, ex_any, bnd_in, List.getElem?_cons_zero, List.getElem?_cons_succ, List.set_cons_zero, List.set_cons_succ, List.cons_append, List.nil_append, bne_self_eq_false, beq_self_eq_true, Bool.not_true, Bool.not_false, Option.isNone_some, Option.isNone_none, eq_self, true_and, and_true, and_self, s4.rd0]
    refine callP1.self (mc1_of s4 fun h5 s5 => ?_)
    have ft : (P.take (j + 1)).filter nz = (P.take j).filter nz ++ (if nz (u, v, w) = true then [(u, v, w)] else []) := by
      rw [take_snoc hx, List.filter_append]; congr 1; cases hz : nz (u, v, w) <;> simp [hz]
    refine iteB_intro (fun e => ?_) (fun e => ?_)
    · have hz : nz (u, v, w) = true := by unfold nz; simp only [bne]; exact e
      rw [if_pos hz] at ft
      try simp -zeta (disch := omega) only [chkP_some, iteB_true, iteB_false, add_mk, Nat.zero_add, Nat.add_zero, Nat.mul_one, Nat.reduceAdd, Int.toNat_natCast, ex_int, ex_slice, ex_ptr, ex_bool, ex_str, ex_flt, ex_any, bnd_in, List.getElem?_cons_zero, List.getElem?_cons_succ, List.set_cons_zero, List.set_cons_succ, List.cons_append, List.nil_append, bne_self_eq_false, beq_self_eq_true, Bool.not_true, Bool.not_false, Option.isNone_some, Option.isNone_none, eq_self, true_and, and_true, and_self, s5.rd0]
      have hb3 : ((P.take j).filter nz).length * 3 + 3 ≤ cs.length := by omega
      refine s5.st1 (by omega) fun h6 s6 => ?_
      refine s6.st1 (by simp; omega) fun h7 s7 => ?_
      refine s7.st1 (by simp; omega) fun h8 s8 => ?_
      rw [wrap64 (by omega) (by omega), wrap64 (by omega) (by omega)]
      have hfl : ((P.take (j + 1)).filter nz).length = ((P.take j).filter nz).length + 1 := by rw [ft]; simp
      have hev : (eV ((P.take j).filter nz)).length = ((P.take j).filter nz).length * 3 := eV_len _
      generalize hF : (P.take j).filter nz = F at *
      have r := del_l0 (K2 := K2) hl hc hn hk d (j + 1) h8 (((cs.set (F.length * 3) (.int .i64 u)).set (F.length * 3 + 1) (.int .i64 v)).set (F.length * 3 + 2) (.int .i64 w)) (by omega) (by simpa using hcl) (by
        rw [hfl, ft, eV_app, eV_one, ← hct]
        apply List.ext_getElem?
        intro k
        rw [List.getElem?_take]
        by_cases k3 : k < (F.length + 1) * 3
        · rw [if_pos k3]
          by_cases k0 : k < F.length * 3
          · rw [List.getElem?_append_left (by rw [List.length_take]; omega), List.getElem?_take, if_pos k0]
            rw [List.getElem?_set_ne (by omega), List.getElem?_set_ne (by omega), List.getElem?_set_ne (by omega)]
          · rw [List.getElem?_append_right (by rw [List.length_take]; omega), List.length_take, Nat.min_eq_left (by omega)]
            have : k = F.length * 3 ∨ k = F.length * 3 + 1 ∨ k = F.length * 3 + 2 := by omega
            rcases this with rfl | rfl | rfl
            · rw [List.getElem?_set_ne (by omega), List.getElem?_set_ne (by omega), List.getElem?_set_self (by omega), Nat.sub_self]; rfl
            · rw [List.getElem?_set_ne (by omega), List.getElem?_set_self (by simp; omega), show F.length * 3 + 1 - F.length * 3 = 1 by omega]; rfl
            · rw [List.getElem?_set_self (by simp; omega), show F.length * 3 + 2 - F.length * 3 = 2 by omega]; rfl
        · rw [if_neg k3, List.getElem?_eq_none (by rw [List.length_append, List.length_take]; simp [Ed.vs]; omega)]) (by rw [hfl]; omega) (fun k hk => by
        rw [List.getElem?_set_ne (by omega), List.getElem?_set_ne (by omega), List.getElem?_set_ne (by omega)]; exact hrest k (by omega)) ((St.re s8 (by intro a; simp only [cntR_append, cntR_cons, cntR_nil, List.cons_append, List.nil_append, List.set_cons_zero, List.set_cons_succ]; omega)))
      rw [hfl] at r
      exact r
    · have hz : ¬ nz (u, v, w) = true := by unfold nz; simp only [bne]; rw [e]; simp
      rw [if_neg hz, List.append_nil] at ft
      rw [wrap64 (by omega) (by omega)]
      have r := del_l0 (K2 := K2) hl hc hn hk d (j + 1) h5 cs (by omega) hcl (by rw [ft]; exact hct) (by rw [ft]; omega) (fun k hk => hrest k (by omega)) s5.tail
      rw [ft] at r
      exact r

theorem Delete_of {h : Heap} {q : Option Addr} {n c : Nat} {P : List Ed} {X : Rws} {K : Option Addr → Nat → Nat → Heap → Prop} (hl : P.length = n) (hn : n < 2 ^ 40) (o : Own3 q c P X) (s : St h0 h (X ++ R))
    (hk : ∀ h' X', Own3 q c (P.filter nz) X' → St h0 h' (X' ++ R) → K q (P.filter nz).length c h') : slices_DeleteFunc_Lapi_Edge_api_Edge_edge_Merge_c1 q n c h K := by
  unfold slices_DeleteFunc_Lapi_Edge_api_Edge_edge_Merge_c1
  refine callP1.self ?_
  unfold slices_IndexFunc_Lapi_Edge_api_Edge_edge_Merge_c1
  have kp : Keeps h0 (X ++ R) q (eV P) := o.keeps fun x hx => by simp [hx]
  refine ⟨n + 1, index_l0 hl hn kp (fun h1 i e hx hz hf s1 => ?_) (fun hf h1 s1 => ?_) n 0 h (by omega) (by simp) s⟩
  · refine iteB_neg (by simp) ?_
    have hi := lt_get hx
    rcases o with ⟨_, _, rfl, _⟩ | ⟨b, z, rfl, hcap, rfl⟩
    · simp at hi
    have el := eV_len P
    rw [wrap64 (by omega) (by omega)]
    have hft : (P.take (i + 1)).filter nz = P.take i := by rw [take_snoc hx, List.filter_append, hf]; simp [hz]
    have hfl : ((P.take (i + 1)).filter nz).length = i := by rw [hft, List.length_take]; omega
    refine ⟨n - i - 1 + 1, ?_⟩
    have r := del_l0 (K2 := fun z4 h5 => (0 ≤ z4 ∧ z4 ≤ (n : Int)) ∧ clearP [(.int .i64 0), (.int .i64 0), (.int .i64 0)] (if c = z4.toNat then (some ⟨b, 0, none⟩) else (some (⟨b, 0, none⟩ : Addr)).map (·.add (z4.toNat * 3))) (n - z4.toNat) h5 fun h7 => ((0 ≤ z4 ∧ z4 ≤ (c : Int)) ∧ (K (if c = 0 then (some ⟨b, 0, none⟩) else (some (⟨b, 0, none⟩ : Addr)).map (·.add (0 * 3))) z4.toNat c h7)))
      (b := b) (c := c) (P := P) (z := z) hl (by rw [← hcap, List.length_append, el, hl]) hn (fun h2 cs' e1 e2 s2 => ?_) (n - i - 1) (i + 1) h1 (eV P ++ z) (by omega) hcap (by
        rw [hfl, hft, List.take_append_of_le_length (by omega)]
        have : P = P.take i ++ P.drop i := (List.take_append_drop i P).symm
        conv => lhs; rw [this, eV_app]
        rw [List.take_append_of_le_length (by rw [eV_len, List.length_take]; omega), List.take_of_length_le (by rw [eV_len, List.length_take]; omega)]) (by rw [hfl]; omega) (fun _ _ => rfl) s1
    · rw [hfl] at r
      exact r
    · have fl : (P.filter nz).length < n := by
        have h1 : (P.filter nz).length ≤ n := by rw [← hl]; exact List.length_filter_le _ _
        rcases Nat.lt_or_ge (P.filter nz).length n with h | h
        · exact h
        · have : P.filter nz = P := List.filter_eq_self.2 (by
            have := List.length_filter_eq_length_iff.1 (show (P.filter nz).length = P.length by omega)
            exact this)
          have := (List.filter_eq_self.1 this) e (List.mem_of_getElem? hx)
          rw [hz] at this; cases this
      rw [Int.toNat_natCast]
      have hcap2 : P.length * 3 + z.length = c * 3 := by rw [← hcap, List.length_append, el]
      rw [if_neg (by omega), if_neg (by omega)]
      simp only [Option.map_some, add_mk, Nat.zero_add, Nat.zero_mul]
      refine ⟨by omega, clear3 s2 (by omega) fun h3 cs3 e3 t3 s3 => ⟨by omega, ?_⟩⟩
      have e4 : cs3 = eV (P.filter nz) ++ cs3.drop ((P.filter nz).length * 3) := by rw [← e2, ← t3]; exact (List.take_append_drop _ _).symm
      refine hk h3 [(b, eV (P.filter nz) ++ cs3.drop ((P.filter nz).length * 3))] (.inr ⟨b, _, rfl, ?_, rfl⟩) ?_
      · rw [← e4]; omega
      · rw [← e4]; exact s3
  · refine iteB_pos rfl ?_
    have := hk h1 X (by rw [hf]; exact o) s1
    rw [hf, hl] at this; exact this
end
end Go.Proofs.YtokemibmanjpmaaGreatDoor

namespace Go.Proofs.YtokemibmanjpmaaGreatDoor
set_option linter.unusedVariables false
set_option linter.unusedSimpArgs false
set_option linter.unnecessarySimpa false
open Go.Hp Go.RowKit Go.Sort
attribute [local irreducible] Go.Hp.iteB Go.Hp.stC Go.Hp.newP

def cfI (x y : Int) : Int := if x < y then -1 else if x > y then 1 else 0
theorem cfI_zero {x y : Int} : cfI x y = 0 ↔ x = y := by unfold cfI; split <;> (try split) <;> omega
theorem cfI_neg {x y : Int} : cfI x y < 0 ↔ x < y := by unfold cfI; split <;> (try split) <;> omega
theorem compare_of {x y : Int} {h : Heap} {K : Int → Heap → Prop} (hk : K (cfI x y) h) : cmp_Compare_int x y h K := by
  unfold cmp_Compare_int
  refine qcallP1.of false (fun R hR => by unfold cmp_isNaN_int; simpa using hR) ?_
  refine qcallP1.of false (fun R hR => by unfold cmp_isNaN_int; simpa using hR) ?_
  refine iteB_neg rfl (iteB_neg rfl ?_)
  unfold cfI at hk
  refine iteB_intro (fun e => ?_) (fun e => ?_)
  · rwa [if_pos (of_decide_eq_true e)] at hk
  · rw [if_neg (of_decide_eq_false e)] at hk
    refine iteB_intro (fun e2 => ?_) (fun e2 => ?_)
    · rwa [if_pos (of_decide_eq_true e2)] at hk
    · rwa [if_neg (of_decide_eq_false e2)] at hk
theorem compare64_of {x y : Int} {h : Heap} {K : Int → Heap → Prop} (hk : K (cfI x y) h) : cmp_Compare_int64 x y h K := by
  unfold cmp_Compare_int64
  refine qcallP1.of false (fun R hR => by unfold cmp_isNaN_int64; simpa using hR) ?_
  refine qcallP1.of false (fun R hR => by unfold cmp_isNaN_int64; simpa using hR) ?_
  refine iteB_neg rfl (iteB_neg rfl ?_)
  unfold cfI at hk
  refine iteB_intro (fun e => ?_) (fun e => ?_)
  · rwa [if_pos (of_decide_eq_true e)] at hk
  · rw [if_neg (of_decide_eq_false e)] at hk
    refine iteB_intro (fun e2 => ?_) (fun e2 => ?_)
    · rwa [if_pos (of_decide_eq_true e2)] at hk
    · rwa [if_neg (of_decide_eq_false e2)] at hk
def cmpEd (e f : Ed) : Int := if cfI e.1 f.1 ≠ 0 then cfI e.1 f.1 else if cfI e.2.1 f.2.1 ≠ 0 then cfI e.2.1 f.2.1 else cfI e.2.2 f.2.2
def ltEd (e f : Ed) : Prop := e.1 < f.1 ∨ (e.1 = f.1 ∧ (e.2.1 < f.2.1 ∨ (e.2.1 = f.2.1 ∧ e.2.2 < f.2.2)))
instance (e f : Ed) : Decidable (ltEd e f) := by unfold ltEd; exact inferInstance
theorem cmpEd_neg {e f : Ed} : cmpEd e f < 0 ↔ ltEd e f := by
  unfold cmpEd ltEd cfI
  (repeat' split) <;> omega
theorem cmpEd_zero {e f : Ed} : cmpEd e f = 0 ↔ e = f := by
  obtain ⟨a, b, c⟩ := e; obtain ⟨x, y, z⟩ := f
  have h1 := @cfI_zero a x
  have h2 := @cfI_zero b y
  have h3 := @cfI_zero c z
  simp only [cmpEd, Prod.mk.injEq]
  by_cases c1 : cfI a x = 0
  · by_cases c2 : cfI b y = 0
    · rw [if_neg (by simp [c1]), if_neg (by simp [c2]), h3]
      exact ⟨fun h => ⟨h1.1 c1, h2.1 c2, h⟩, fun h => h.2.2⟩
    · rw [if_neg (by simp [c1]), if_pos c2]
      exact ⟨fun h => absurd h c2, fun h => h2.2 h.2.1⟩
  · rw [if_pos c1]
    exact ⟨fun h => absurd h c1, fun h => h1.2 h.1⟩
theorem ltOfE (e f : Ed) : ltOf cmpEd e f = decide (ltEd e f) := by unfold ltOf; exact decide_eq_decide.2 cmpEd_neg
theorem swoEd : SWO (ltOf cmpEd) where
  irrefl x := by rw [ltOfE]; unfold ltEd; simp
  trans x y z := by simp only [ltOfE, decide_eq_true_eq]; unfold ltEd; omega
  ntrans x y z := by simp only [ltOfE, decide_eq_false_iff_not]; unfold ltEd; omega
theorem totEd (e f : Ed) : ltOf cmpEd e f = false → ltOf cmpEd f e = false → e = f := by
  simp only [ltOfE, decide_eq_false_iff_not]
  obtain ⟨a, b, c⟩ := e; obtain ⟨x, y, z⟩ := f
  unfold ltEd; simp only [Prod.mk.injEq]
  intro h1 h2
  omega

section
variable {h0 : Base} {R : Rws}
theorem or3_of {h : Heap} {b : Nat} {x y z : Int} {K : Int → Heap → Prop} (hr : row h b [.int .i64 x, .int .i64 y, .int .i64 z]) (hk : K (if x ≠ 0 then x else if y ≠ 0 then y else z) h) : cmp_Or_int (some ⟨b, 0, none⟩) 3 3 h K := by
  unfold cmp_Or_int
  have r0 : cell h ⟨b, 0, none⟩ = some (.int .i64 x) := by rw [hr.cell]; rfl
  have r1 : cell h ⟨b, 1, none⟩ = some (.int .i64 y) := by rw [hr.cell]; rfl
  have r2 : cell h ⟨b, 2, none⟩ = some (.int .i64 z) := by rw [hr.cell]; rfl
  refine ⟨4, ?_⟩
  unfold cmp_Or_int.l0 cmp_Or_int.b0
  refine iteB_pos rfl ⟨⟨by omega, by omega⟩, x, r0, ?_⟩
  refine iteB_intro (fun e => ?_) (fun e => ?_)
  · rwa [if_pos (by simpa using e)] at hk
  rw [if_neg (by simpa using e)] at hk
  rw [wrap64 (by omega) (by omega)]
  unfold cmp_Or_int.l0 cmp_Or_int.b0
  refine iteB_pos rfl ⟨⟨by omega, by omega⟩, y, r1, ?_⟩
  refine iteB_intro (fun e => ?_) (fun e => ?_)
  · rwa [if_pos (by simpa using e)] at hk
  rw [if_neg (by simpa using e)] at hk
  rw [wrap64 (by omega) (by omega)]
  unfold cmp_Or_int.l0 cmp_Or_int.b0
  refine iteB_pos rfl ⟨⟨by omega, by omega⟩, z, r2, ?_⟩
  refine iteB_intro (fun e => hk) (fun e => ?_)
  have e : z = 0 := by simpa using e
  subst e
  rw [wrap64 (by omega) (by omega)]
  unfold cmp_Or_int.l0 cmp_Or_int.b0
  exact iteB_neg rfl hk
theorem Cmp_of {h : Heap} {e f : Ed} {K : Int → Heap → Prop} (s : St h0 h R) (hk : ∀ h', St h0 h' R → K (cmpEd e f) h') : edge_Cmp e.1 e.2.1 e.2.2 f.1 f.2.1 f.2.2 h K := by
  unfold edge_Cmp
  refine s.new_ fun b1 h1 s1 => s1.new_ fun b2 h2 s2 => ?_
  try simp -zeta (disch := omega) only [chkP_some, iteB_true, iteB_false, add_mk, Nat.zero_add, Nat.add_zero, Nat.mul_one, Nat.reduceAdd, Int.toNat_natCast, ex_int, ex_slice, ex_ptr, ex_bool, ex_str, ex_flt, ex_any, bnd_in, List.getElem?_cons_zero, List.getElem?_cons_succ, List.set_cons_zero, List.set_cons_succ, List.cons_append, List.nil_append, bne_self_eq_false, beq_self_eq_true, Bool.not_true, Bool.not_false, Option.isNone_some, Option.isNone_none, eq_self, true_and, and_true, and_self, s2.rd0, s2.rd1]
  refine qcallP1.of _ (fun Q hQ => compare_of hQ) ?_
  try simp -zeta (disch := omega) only [chkP_some, iteB_true, iteB_false, add_mk, Nat.zero_add, Nat.add_zero, Nat.mul_one, Nat.reduceAdd, Int.toNat_natCast, ex_int, ex_slice, ex_ptr, ex_bool, ex_str, ex_flt, ex_any, bnd_in, List.getElem?_cons_zero, List.getElem?_cons_succ, List.set_cons_zero, List.set_cons_succ, List.cons_append, List.nil_append, bne_self_eq_false, beq_self_eq_true, Bool.not_true, Bool.not_false, Option.isNone_some, Option.isNone_none, eq_self, true_and, and_true, and_self, s2.rd0, s2.rd1]
  refine qcallP1.of _ (fun Q hQ => compare_of hQ) ?_
  try simp -zeta (disch := omega) only [chkP_some, iteB_true, iteB_false, add_mk, Nat.zero_add, Nat.add_zero, Nat.mul_one, Nat.reduceAdd, Int.toNat_natCast, ex_int, ex_slice, ex_ptr, ex_bool, ex_str, ex_flt, ex_any, bnd_in, List.getElem?_cons_zero, List.getElem?_cons_succ, List.set_cons_zero, List.set_cons_succ, List.cons_append, List.nil_append, bne_self_eq_false, beq_self_eq_true, Bool.not_true, Bool.not_false, Option.isNone_some, Option.isNone_none, eq_self, true_and, and_true, and_self, s2.rd0, s2.rd1]
  refine qcallP1.of _ (fun Q hQ => compare64_of hQ) ?_
  refine s2.new_ fun b3 h3 s3 => ?_
  refine qcallP1.of (cmpEd e f) (fun Q hQ => or3_of (s3.rows (b3, _) (by simp)) hQ) ?_
  exact hk h3 s3.tail.tail.tail
end

/-! ### The library's sort, at edges -/
def sortEd (l : List Ed) : List Ed := l.mergeSort fun x y => !decide (ltEd y x)
theorem sortEd_len (l : List Ed) : (sortEd l).length = l.length := List.length_mergeSort ..
theorem sortEd_perm (l : List Ed) : (sortEd l).Perm l := List.mergeSort_perm ..
theorem sortEd_up (l : List Ed) : (sortEd l).Pairwise fun x y => ¬ ltEd y x := by
  have := List.pairwise_mergeSort (le := fun x y : Ed => !decide (ltEd y x)) (fun a b c h1 h2 => by
    simp only [Bool.not_eq_true', decide_eq_false_iff_not] at *; unfold ltEd at *; omega) (fun a b => by
    simp only [Bool.or_eq_true, Bool.not_eq_true', decide_eq_false_iff_not]; unfold ltEd; omega) l
  exact this.imp fun h => by simpa using h
theorem sortEd_one {l m : List Ed} (p : l.Perm m) (hm : m.Pairwise fun x y => ¬ ltEd y x) : sortEd l = m := by
  refine List.Perm.eq_of_pairwise (le := fun x y => ¬ ltEd y x) (fun a b _ _ h1 h2 => totEd a b (by rw [ltOfE]; exact decide_eq_false h2) (by rw [ltOfE]; exact decide_eq_false h1)) (sortEd_up l) hm ((sortEd_perm l).trans p)

instance : Inhabited Ed := ⟨(0, 0, 0)⟩
theorem flatK_eV (l : List Ed) : (flatK Ed.vs 3 l.toArray).toList = eV l := by
  apply List.ext_getElem?
  intro t
  by_cases h : t < l.length * 3
  · have h3 : t / 3 < l.length := by omega
    obtain ⟨e, he⟩ := get_lt h3
    have e1 := eV_get (o := t % 3) he (by omega)
    rw [show t / 3 * 3 + t % 3 = t by omega] at e1
    rw [e1]
    have e2 : l.toArray[t / 3]! = e := by
      rw [getElem!_pos l.toArray (t / 3) (by simpa using h3)]
      obtain ⟨_, he⟩ := List.getElem?_eq_some_iff.1 he
      simpa using he
    unfold flatK
    simp only [List.size_toArray, Array.toList_map, Array.toList_range, List.getElem?_map, List.getElem?_range h, Option.map_some, e2]
    have hl : t % 3 < (Ed.vs e).length := by simp [Ed.vs]; omega
    rw [getElem!_pos (Ed.vs e) (t % 3) hl, List.getElem?_eq_getElem hl]
  · rw [List.getElem?_eq_none (by rw [Array.length_toList, size_flatK]; simp; omega), List.getElem?_eq_none (by rw [eV_len]; omega)]
theorem ext_append {h h' : Heap} (e : Ext h h') : ∃ os : Array Obj, h' = h ++ os := by
  refine ⟨h'.extract h.size h'.size, ?_⟩
  apply Array.ext_getElem?
  intro i
  rcases Nat.lt_or_ge i h.size with hi | hi
  · rw [Array.getElem?_append_left hi, e.at_ i hi]
  · rw [Array.getElem?_append_right hi, Array.getElem?_extract]
    have := e.size
    rcases Nat.lt_or_ge i h'.size with h2 | h2
    · rw [if_pos (by omega), show h.size + (i - h.size) = i by omega]
    · rw [Array.getElem?_eq_none (by omega), if_neg (by omega)]
theorem out_ext [DKc] {w w' : World} (d : DK) (o : Out w w') (e : Ext w.heap w'.heap) : ∃ q os', w' = grow (w.drewN q) os' := by
  obtain ⟨os, ho⟩ := ext_append e
  obtain ⟨h1, h2, h3, h4⟩ := o
  have h4 := h4 d
  refine ⟨w'.drawn - w.drawn, os, ?_⟩
  cases w; cases w'
  simp only [World.drewN, grow] at *
  subst ho h1 h2 h3
  congr 1
  omega

theorem cmpLaysE {b n : Nat} {w : World} : CmpLays Tryz.prog 89 #[] Ed.vs 3 cmpEd b 0 n w := fun m os dk hdk x y => by
  letI : DKc := ⟨True⟩
  have hc := (edge_Cmp.calls (a1 := x.1) (a2 := x.2.1) (a3 := x.2.2) (a4 := y.1) (a5 := y.2.1) (a6 := y.2.2) (h := (sortWorldK Ed.vs 3 w b 0 m dk os).heap) (K := fun r h' => r = cmpEd x y ∧ Ext (sortWorldK Ed.vs 3 w b 0 m dk os).heap h')
    (Cmp_of (e := x) (f := y) (St.refl _) fun h' s => ⟨rfl, s.ext⟩) _ rfl).2
  refine hc.mono ?_
  rintro e w' ⟨v, rfl, ho2, hr⟩
  have hv := edge_Cmp.ret_elim (K' := fun v h' => v = .int .i64 (cmpEd x y) ∧ Ext (sortWorldK Ed.vs 3 w b 0 m dk os).heap h') (by rintro r h' ⟨rfl, e⟩; exact ⟨rfl, e⟩) hr
  exact ⟨by rw [hv.1], out_ext trivial ho2 hv.2⟩
theorem infoEd : (Tryz.prog.info? 27).map (·.size) = some 3 := by kernel_rfl
theorem SortEd_of {h0 : Base} {h : Heap} {R : Rws} {q : Option Addr} {c n : Nat} {l : List Ed} {X : Rws} {K : Heap → Prop} (hn : l.length = n) (hn2 : n < 2 ^ 40) (o : Own3 q c l X) (s : St h0 h (X ++ R))
    (hk : ∀ X' h', Own3 q c (sortEd l) X' → St h0 h' (X' ++ R) → K h') : slices_SortFunc_Lapi_Edge_api_Edge_edge_Cmp q n c h K := by
  intro w hw
  subst hw
  refine ⟨enters_of Tryz.func88 (by kernel_rfl) rfl _ _, ?_⟩
  rcases o with ⟨rfl, rfl, rfl, rfl⟩ | ⟨b, z, rfl, hc2, rfl⟩
  · have hn : n = 0 := by simpa using hn.symm
    subst hn
    refine (AnyF.slices_SortFunc_none Tryz.sortE _ _ _ w).mono ?_
    rintro e w' ⟨rfl, rfl⟩
    exact ⟨_, rfl, Out.refl _, hk [] _ (by simpa [sortEd] using Own3.nil) s⟩
  have hd2 : (flatK Ed.vs 3 l.toArray).toList.map id = eV l := by rw [List.map_id, flatK_eV]
  have s' : St h0 w.heap ((b, (flatK Ed.vs 3 l.toArray).toList.map id ++ z) :: R) := by rw [hd2]; exact s
  have hH : HoldsK Ed.vs 3 w b 0 l.toArray := holds_row (enc := id) (d := flatK Ed.vs 3 l.toArray) (z := z) (s'.rows (b, (flatK Ed.vs 3 l.toArray).toList.map id ++ z) (by simp))
  have hlt := (s'.rows (b, (flatK Ed.vs 3 l.toArray).toList.map id ++ z) (by simp)).lt
  obtain ⟨i, hi, hi3⟩ : ∃ i, Tryz.prog.info? 27 = some i ∧ i.size = 3 := by
    have := infoEd
    cases hi : Tryz.prog.info? 27 with
    | none => rw [hi] at this; cases this
    | some i => rw [hi] at this; exact ⟨i, rfl, by simpa using this⟩
  have HC := AnyQ.slices_SortFunc_total Tryz.sortE 3 (fun w => Go.Hp.run_isAgg (by kernel_rfl) w) (fun w => by have := Go.Hp.run_sizeOf hi w; rw [hi3] at this; exact this) Ed.vs (fun _ => rfl) (fun x v hv => by
    simp only [Ed.vs, List.mem_cons, List.not_mem_nil, or_false] at hv
    rcases hv with rfl | rfl | rfl <;> rfl) cmpEd swoEd 89 #[] b 0 c l.toArray w (fun _ _ => enters_of Tryz.func89 (by kernel_rfl) rfl _ _) cmpLaysE hH hlt (by simp; omega) totEd
  rw [show l.toArray.size = n by simpa using hn] at HC
  refine HC.mono ?_
  rintro e w' ⟨rfl, m, os, rfl⟩
  refine ⟨_, rfl, out_sorted (enc := id) (off := 0), ?_⟩
  have e1 : l.toArray.toList.mergeSort (fun x y => !(ltOf cmpEd) y x) = sortEd l := by
    unfold sortEd
    have e9 : (fun x y => !(ltOf cmpEd) y x) = fun x y => !decide (ltEd y x) := funext fun x => funext fun y => by rw [ltOfE]
    rw [e9]
  have s2 := s'.sorted (n := m) (d' := flatK Ed.vs 3 (l.toArray.toList.mergeSort fun x y => !(ltOf cmpEd) y x).toArray) (os := os) (by simp)
  rw [List.map_id, flatK_eV, e1] at s2
  refine hk [(b, eV (sortEd l) ++ z)] _ (.inr ⟨b, z, rfl, ?_, rfl⟩) ?_
  · rw [← hc2]; simp only [List.length_append, eV_len, sortEd_len]
  · rw [e1]; exact s2

section
variable {h0 : Base} {R : Rws}
theorem Merge_of {h : Heap} {ql : Option Addr} {n cl : Nat} {l : List Ed} {K : Option Addr → Nat → Nat → Bool → Heap → Prop} (hl : l.length = n) (hn : n < 2 ^ 30) (hw : fitsL l) (kl : Keeps h0 R ql (eV l)) (s : St h0 h R)
    (hk0 : mergeP l = none → ∀ h', St h0 h' R → K none 0 0 false h')
    (hk : ∀ P, mergeP l = some P → ∀ h' q c X, Own3 q c (sortEd (P.filter nz)) X → St h0 h' (X ++ R) → K q (P.filter nz).length c true h') : edge_Merge ql n cl h K := by
  unfold edge_Merge
  refine St.newO rfl s fun bm h1 hf s1 => ⟨n + 1, ?_⟩
  refine merge_l0 hf hl hn hw kl hk0 (fun P hP h2 q c X _ hpn o s2 => ?_) n 0 h1 [] none 0 [] (by omega) rfl (fun x hx => by cases hx) (by simp) Own3.nil s1
  refine callP3.self (Delete_of rfl (by omega) o s2 fun h3 X3 o3 s3 => ?_)
  have hf := List.length_filter_le nz P
  exact callP0.self (SortEd_of rfl (by omega) o3 s3 fun X4 h4 o4 s4 => hk P hP h4 q c X4 o4 s4)
end
end Go.Proofs.YtokemibmanjpmaaGreatDoor

namespace Go.Proofs.YtokemibmanjpmaaGreatDoor
set_option linter.unusedVariables false
set_option linter.unusedSimpArgs false
set_option linter.unnecessarySimpa false
open Go.Hp Go.RowKit
attribute [local irreducible] Go.Hp.iteB Go.Hp.stC Go.Hp.newP

def chkE (n : Int) (e : Ed) : Int := if e.1 < 0 ∨ e.1 ≥ n ∨ e.2.1 < 0 ∨ e.2.1 ≥ n then 4 else if e.2.2 < 0 ∨ e.2.2 > 2147483648 then 5 else 0
theorem chkE_4 {n : Int} {e : Ed} (c : e.1 < 0 ∨ e.1 ≥ n ∨ e.2.1 < 0 ∨ e.2.1 ≥ n) : chkE n e = 4 := if_pos c
theorem chkE_5 {n : Int} {e : Ed} (c : ¬ (e.1 < 0 ∨ e.1 ≥ n ∨ e.2.1 < 0 ∨ e.2.1 ≥ n)) (d : e.2.2 < 0 ∨ e.2.2 > 2147483648) : chkE n e = 5 := by unfold chkE; rw [if_neg c, if_pos d]
theorem chkE_0 {n : Int} {e : Ed} (c : ¬ (e.1 < 0 ∨ e.1 ≥ n ∨ e.2.1 < 0 ∨ e.2.1 ≥ n)) (d : ¬ (e.2.2 < 0 ∨ e.2.2 > 2147483648)) : chkE n e = 0 := by unfold chkE; rw [if_neg c, if_neg d]
/-- The first one that can't be. -/
def chksE (n : Int) : Nat → List Ed → Int × Int
  | _, [] => (0, 0)
  | i, e :: l => if chkE n e ≠ 0 then (chkE n e, (i : Int)) else chksE n (i + 1) l

section
variable {h0 : Base} {R : Rws}
theorem Check_of {h : Heap} {e : Ed} {n : Int} {K : Int → Heap → Prop} (s : St h0 h R) (hk : ∀ h', St h0 h' R → K (chkE n e) h') : edge_Check n e.1 e.2.1 e.2.2 h K := by
  obtain ⟨u, v, w⟩ := e
  unfold edge_Check
  refine s.new_ fun b1 h1 s1 => ?_
  try simp -zeta (disch := omega) only [chkP_some, iteB_true, iteB_false, add_mk, Nat.zero_add, Nat.add_zero, Nat.mul_one, Nat.reduceAdd, Int.toNat_natCast, ex_int, ex_slice, ex_ptr, ex_bool, ex_str, ex_flt, ex_any, bnd_in, List.getElem?_cons_zero, List.getElem?_cons_succ, List.set_cons_zero, List.set_cons_succ, List.cons_append, List.nil_append, bne_self_eq_false, beq_self_eq_true, Bool.not_true, Bool.not_false, Option.isNone_some, Option.isNone_none, eq_self, true_and, and_true, and_self, s1.rd0]
  refine ⟨3, ?_⟩
  have hk := hk h1 s1.tail
  have bad : ∀ (c : u < 0 ∨ u ≥ n ∨ v < 0 ∨ v ≥ n), K 4 h1 := fun c => by rw [chkE_4 c] at hk; exact hk
  unfold edge_Check.l0 edge_Check.b0
  refine iteB_pos rfl ⟨⟨by omega, by omega⟩, u, rfl, ?_⟩
  refine iteB_intro (fun c => bad (.inl (of_decide_eq_true c))) fun c1 => iteB_intro (fun c => bad (.inr (.inl (of_decide_eq_true c)))) fun c2 => ?_
  rw [wrap64 (by omega) (by omega)]
  unfold edge_Check.l0 edge_Check.b0
  refine iteB_pos rfl ⟨⟨by omega, by omega⟩, v, rfl, ?_⟩
  refine iteB_intro (fun c => bad (.inr (.inr (.inl (of_decide_eq_true c))))) fun c3 => iteB_intro (fun c => bad (.inr (.inr (.inr (of_decide_eq_true c))))) fun c4 => ?_
  rw [wrap64 (by omega) (by omega)]
  unfold edge_Check.l0 edge_Check.b0
  refine iteB_neg rfl ?_
  try simp -zeta (disch := omega) only [chkP_some, iteB_true, iteB_false, add_mk, Nat.zero_add, Nat.add_zero, Nat.mul_one, Nat.reduceAdd, Int.toNat_natCast, ex_int, ex_slice, ex_ptr, ex_bool, ex_str, ex_flt, ex_any, bnd_in, List.getElem?_cons_zero, List.getElem?_cons_succ, List.set_cons_zero, List.set_cons_succ, List.cons_append, List.nil_append, bne_self_eq_false, beq_self_eq_true, Bool.not_true, Bool.not_false, Option.isNone_some, Option.isNone_none, eq_self, true_and, and_true, and_self, s1.rd0]
  have c1 := of_decide_eq_false c1
  have c2 := of_decide_eq_false c2
  have c3 := of_decide_eq_false c3
  have c4 := of_decide_eq_false c4
  have c : ¬ (u < 0 ∨ u ≥ n ∨ v < 0 ∨ v ≥ n) := by omega
  refine iteB_intro (fun d => ?_) fun d1 => iteB_intro (fun d => ?_) fun d2 => ?_
  · rw [chkE_5 c (.inl (of_decide_eq_true d))] at hk; exact hk
  · rw [chkE_5 c (.inr (of_decide_eq_true d))] at hk; exact hk
  · have d1 := of_decide_eq_false d1
    have d2 := of_decide_eq_false d2
    rw [chkE_0 c (by simp only; omega)] at hk; exact hk
theorem RCheck_of {h : Heap} {e : Ed} {n : Int} {K : Int → Heap → Prop} (s : St h0 h R) (hk : ∀ h', St h0 h' R → K (chkE n e) h') : straitref15_Check n e.1 e.2.1 e.2.2 h K := by
  obtain ⟨u, v, w⟩ := e
  unfold straitref15_Check
  refine s.new_ fun b1 h1 s1 => ?_
  try simp -zeta (disch := omega) only [chkP_some, iteB_true, iteB_false, add_mk, Nat.zero_add, Nat.add_zero, Nat.mul_one, Nat.reduceAdd, Int.toNat_natCast, ex_int, ex_slice, ex_ptr, ex_bool, ex_str, ex_flt, ex_any, bnd_in, List.getElem?_cons_zero, List.getElem?_cons_succ, List.set_cons_zero, List.set_cons_succ, List.cons_append, List.nil_append, bne_self_eq_false, beq_self_eq_true, Bool.not_true, Bool.not_false, Option.isNone_some, Option.isNone_none, eq_self, true_and, and_true, and_self, s1.rd0]
  have hk := hk h1 s1.tail
  have bad : ∀ (c : u < 0 ∨ u ≥ n ∨ v < 0 ∨ v ≥ n), K 4 h1 := fun c => by rw [chkE_4 c] at hk; exact hk
  refine iteB_intro (fun c => bad (.inl (of_decide_eq_true c))) fun c1 => iteB_intro (fun c => bad (.inr (.inl (of_decide_eq_true c)))) fun c2 => ?_
  refine iteB_intro (fun c => bad (.inr (.inr (.inl (of_decide_eq_true c))))) fun c3 => iteB_intro (fun c => bad (.inr (.inr (.inr (of_decide_eq_true c))))) fun c4 => ?_
  have c1 := of_decide_eq_false c1
  have c2 := of_decide_eq_false c2
  have c3 := of_decide_eq_false c3
  have c4 := of_decide_eq_false c4
  have c : ¬ (u < 0 ∨ u ≥ n ∨ v < 0 ∨ v ≥ n) := by omega
  refine iteB_intro (fun d => ?_) fun d1 => iteB_intro (fun d => ?_) fun d2 => ?_
  · rw [chkE_5 c (.inl (of_decide_eq_true d))] at hk; exact hk
  · rw [chkE_5 c (.inr (of_decide_eq_true d))] at hk; exact hk
  · have d1 := of_decide_eq_false d1
    have d2 := of_decide_eq_false d2
    rw [chkE_0 c (by simp only; omega)] at hk; exact hk

theorem checks_l0 {K0 : Int → Int → Heap → Prop} {K2 : Heap → Prop} {n : Int} {k cl : Nat} {q : Option Addr} {l : List Ed} (hl : l.length = k) (hb : k < 2 ^ 40) (kl : Keeps h0 R q (eV l))
    (hk0 : ∀ h', (chksE n 0 l).1 ≠ 0 → St h0 h' R → K0 (chksE n 0 l).1 (chksE n 0 l).2 h') (hk2 : ∀ h', chksE n 0 l = (0, 0) → St h0 h' R → K2 h') :
    ∀ (d i : Nat) (h : Heap), i + d = k → chksE n i (l.drop i) = chksE n 0 l → St h0 h R → edge_Checks.l0 K0 K2 (d + 1) n q k cl (k : Int) (i : Int) h
  | 0, i, h, hi, he, s => by
    unfold edge_Checks.l0 edge_Checks.b0
    rw [List.drop_of_length_le (by omega)] at he
    exact iteB_neg (decide_eq_false (by omega)) (hk2 h he.symm s)
  | d + 1, i, h, hi, he, s => by
    unfold edge_Checks.l0 edge_Checks.b0
    obtain ⟨⟨u, v, w⟩, hx⟩ := get_lt (l := l) (i := i) (by omega)
    have vl := kl.at0 s
    refine iteB_pos (decide_eq_true (by omega)) ?_
    simp -zeta (disch := omega) only [chkP_some, iteB_true, iteB_false, add_mk, Nat.zero_add, Nat.add_zero, Nat.mul_one, Nat.reduceAdd, Int.toNat_natCast, ex_int, ex_slice, ex_ptr, ex_bool, ex_str, ex_flt, ex_any, bnd_in, List.getElem?_cons_zero, List.getElem?_cons_succ, List.set_cons_zero, List.set_cons_succ, List.cons_append, List.nil_append, bne_self_eq_false, beq_self_eq_true, Bool.not_true, Bool.not_false, Option.isNone_some, Option.isNone_none, eq_self, true_and, and_true, and_self, vals_edge vl hx]
    refine s.new_ fun b1 h1 s1 => s1.st0 (by simp) fun h2 s2 => s2.st0 (by simp) fun h3 s3 => s3.st0 (by simp) fun h4 s4 => ?_
    try simp -zeta (disch := omega) only [chkP_some, iteB_true, iteB_false, add_mk, Nat.zero_add, Nat.add_zero, Nat.mul_one, Nat.reduceAdd, Int.toNat_natCast, ex_int, ex_slice, ex_ptr, ex_bool, ex_str, ex_flt, ex_any, bnd_in, List.getElem?_cons_zero, List.getElem?_cons_succ, List.set_cons_zero, List.set_cons_succ, List.cons_append, List.nil_append, bne_self_eq_false, beq_self_eq_true, Bool.not_true, Bool.not_false, Option.isNone_some, Option.isNone_none, eq_self, true_and, and_true, and_self, s4.rd0]
    refine callP1.self (Check_of (e := (u, v, w)) s4 fun h5 s5 => ?_)
    rw [drop_cons hx] at he
    by_cases c : chkE n (u, v, w) = 0
    · rw [c]
      rw [show chksE n i ((u, v, w) :: l.drop (i + 1)) = chksE n (i + 1) (l.drop (i + 1)) by simp [chksE, c]] at he
      refine iteB_neg rfl ?_
      rw [wrap64 (by omega) (by omega)]
      exact checks_l0 hl hb kl hk0 hk2 d (i + 1) h5 (by omega) he s5.tail
    · rw [show chksE n i ((u, v, w) :: l.drop (i + 1)) = (chkE n (u, v, w), (i : Int)) by simp [chksE, c]] at he
      refine iteB_pos (by simpa using c) ?_
      have := hk0 h5 (by rw [← he]; exact c) s5.tail
      rw [← he] at this; exact this
theorem Checks_of {h : Heap} {n : Int} {k cl : Nat} {q : Option Addr} {l : List Ed} {K : Int → Int → Heap → Prop} (hl : l.length = k) (hb : k < 2 ^ 40) (kl : Keeps h0 R q (eV l)) (s : St h0 h R)
    (hk : ∀ h', St h0 h' R → K (chksE n 0 l).1 (chksE n 0 l).2 h') : edge_Checks n q k cl h K := by
  unfold edge_Checks
  exact ⟨k + 1, checks_l0 hl hb kl (fun h' _ s => hk h' s) (fun h' e s => by have := hk h' s; rw [e] at this; exact this) k 0 h (by omega) rfl s⟩

theorem rchecks_l0 {K0 : Heap → Prop} {K2 : Heap → Prop} {n : Int} {b k cl : Nat} {q : Option Addr} {l : List Ed} (hl : l.length = k) (hb : k < 2 ^ 40) (kl : Keeps h0 R q (eV l))
    (hk0 : ∀ h', (chksE n 0 l).1 ≠ 0 → St h0 h' ((b, [.int .i64 (chksE n 0 l).1, .int .i64 (chksE n 0 l).2]) :: R) → K0 h') (hk2 : ∀ h', chksE n 0 l = (0, 0) → St h0 h' ((b, [.int .i64 0, .int .i64 0]) :: R) → K2 h') :
    ∀ (d i : Nat) (h : Heap), i + d = k → chksE n i (l.drop i) = chksE n 0 l → St h0 h ((b, [.int .i64 0, .int .i64 0]) :: R) → straitref15_Checks.l0 K0 K2 (d + 1) n q k cl ⟨b, 0, none⟩ (i : Int) h
  | 0, i, h, hi, he, s => by
    unfold straitref15_Checks.l0 straitref15_Checks.b0
    rw [List.drop_of_length_le (by omega)] at he
    exact iteB_neg (decide_eq_false (by omega)) (hk2 h he.symm s)
  | d + 1, i, h, hi, he, s => by
    unfold straitref15_Checks.l0 straitref15_Checks.b0
    obtain ⟨⟨u, v, w⟩, hx⟩ := get_lt (l := l) (i := i) (by omega)
    have vl := kl.atC s
    refine iteB_pos (decide_eq_true (by omega)) ?_
    simp -zeta (disch := omega) only [chkP_some, iteB_true, iteB_false, add_mk, Nat.zero_add, Nat.add_zero, Nat.mul_one, Nat.reduceAdd, Int.toNat_natCast, ex_int, ex_slice, ex_ptr, ex_bool, ex_str, ex_flt, ex_any, bnd_in, List.getElem?_cons_zero, List.getElem?_cons_succ, List.set_cons_zero, List.set_cons_succ, List.cons_append, List.nil_append, bne_self_eq_false, beq_self_eq_true, Bool.not_true, Bool.not_false, Option.isNone_some, Option.isNone_none, eq_self, true_and, and_true, and_self, vals_edge vl hx]
    refine callP1.self (RCheck_of (e := (u, v, w)) s fun h5 s5 => ?_)
    rw [drop_cons hx] at he
    by_cases c : chkE n (u, v, w) = 0
    · rw [c]
      rw [show chksE n i ((u, v, w) :: l.drop (i + 1)) = chksE n (i + 1) (l.drop (i + 1)) by simp [chksE, c]] at he
      refine iteB_neg rfl ?_
      rw [wrap64 (by omega) (by omega)]
      exact rchecks_l0 hl hb kl hk0 hk2 d (i + 1) h5 (by omega) he s5
    · rw [show chksE n i ((u, v, w) :: l.drop (i + 1)) = (chkE n (u, v, w), (i : Int)) by simp [chksE, c]] at he
      refine iteB_pos (by simpa using c) (s5.st0 (by simp) fun h6 s6 => ?_)
      try simp -zeta (disch := omega) only [chkP_some, iteB_true, iteB_false, add_mk, Nat.zero_add, Nat.add_zero, Nat.mul_one, Nat.reduceAdd, Int.toNat_natCast, ex_int, ex_slice, ex_ptr, ex_bool, ex_str, ex_flt, ex_any, bnd_in, List.getElem?_cons_zero, List.getElem?_cons_succ, List.set_cons_zero, List.set_cons_succ, List.cons_append, List.nil_append, bne_self_eq_false, beq_self_eq_true, Bool.not_true, Bool.not_false, Option.isNone_some, Option.isNone_none, eq_self, true_and, and_true, and_self, s6.rd0]
      refine s6.st0 (by simp) fun h7 s7 => ?_
      refine hk0 h7 (by rw [← he]; exact c) ?_
      rw [← he]; exact s7
theorem RChecks_of {h : Heap} {n : Int} {k cl : Nat} {q : Option Addr} {l : List Ed} {K : Int → Int → Heap → Prop} (hl : l.length = k) (hb : k < 2 ^ 40) (kl : Keeps h0 R q (eV l)) (s : St h0 h R)
    (hk : ∀ h', St h0 h' R → K (chksE n 0 l).1 (chksE n 0 l).2 h') : straitref15_Checks n q k cl h K := by
  unfold straitref15_Checks
  refine s.new_ fun b h1 s1 => ⟨k + 1, rchecks_l0 hl hb kl (fun h' _ s => ?_) (fun h' e s => ?_) k 0 h1 (by omega) rfl s1⟩
  · try simp -zeta (disch := omega) only [chkP_some, iteB_true, iteB_false, add_mk, Nat.zero_add, Nat.add_zero, Nat.mul_one, Nat.reduceAdd, Int.toNat_natCast, ex_int, ex_slice, ex_ptr, ex_bool, ex_str, ex_flt, ex_any, bnd_in, List.getElem?_cons_zero, List.getElem?_cons_succ, List.set_cons_zero, List.set_cons_succ, List.cons_append, List.nil_append, bne_self_eq_false, beq_self_eq_true, Bool.not_true, Bool.not_false, Option.isNone_some, Option.isNone_none, eq_self, true_and, and_true, and_self, s.rd0]
    exact hk h' s.tail
  · refine s.st0 (by simp) fun h6 s6 => ?_
    try simp -zeta (disch := omega) only [chkP_some, iteB_true, iteB_false, add_mk, Nat.zero_add, Nat.add_zero, Nat.mul_one, Nat.reduceAdd, Int.toNat_natCast, ex_int, ex_slice, ex_ptr, ex_bool, ex_str, ex_flt, ex_any, bnd_in, List.getElem?_cons_zero, List.getElem?_cons_succ, List.set_cons_zero, List.set_cons_succ, List.cons_append, List.nil_append, bne_self_eq_false, beq_self_eq_true, Bool.not_true, Bool.not_false, Option.isNone_some, Option.isNone_none, eq_self, true_and, and_true, and_self, s6.rd0]
    refine s6.st0 (by simp) fun h7 s7 => ?_
    try simp -zeta (disch := omega) only [chkP_some, iteB_true, iteB_false, add_mk, Nat.zero_add, Nat.add_zero, Nat.mul_one, Nat.reduceAdd, Int.toNat_natCast, ex_int, ex_slice, ex_ptr, ex_bool, ex_str, ex_flt, ex_any, bnd_in, List.getElem?_cons_zero, List.getElem?_cons_succ, List.set_cons_zero, List.set_cons_succ, List.cons_append, List.nil_append, bne_self_eq_false, beq_self_eq_true, Bool.not_true, Bool.not_false, Option.isNone_some, Option.isNone_none, eq_self, true_and, and_true, and_self, s7.rd0]
    have := hk h7 s7.tail; rw [e] at this; exact this

theorem RNormal_of {h : Heap} {e : Ed} {K : Int → Int → Int → Heap → Prop} (s : St h0 h R) (hk : ∀ h', St h0 h' R → K (normE e).1 (normE e).2.1 (normE e).2.2 h') : straitref15_Normal e.1 e.2.1 e.2.2 h K := by
  obtain ⟨u, v, w⟩ := e
  unfold straitref15_Normal
  refine s.new_ fun b1 h1 s1 => s1.new_ fun b2 h2 s2 => ?_
  try simp -zeta (disch := omega) only [chkP_some, iteB_true, iteB_false, add_mk, Nat.zero_add, Nat.add_zero, Nat.mul_one, Nat.reduceAdd, Int.toNat_natCast, ex_int, ex_slice, ex_ptr, ex_bool, ex_str, ex_flt, ex_any, bnd_in, List.getElem?_cons_zero, List.getElem?_cons_succ, List.set_cons_zero, List.set_cons_succ, List.cons_append, List.nil_append, bne_self_eq_false, beq_self_eq_true, Bool.not_true, Bool.not_false, Option.isNone_some, Option.isNone_none, eq_self, true_and, and_true, and_self, s2.rd0, s2.rd1]
  refine iteB_intro (fun e => ?_) (fun e => ?_)
  · have e := of_decide_eq_true e
    try simp -zeta (disch := omega) only [chkP_some, iteB_true, iteB_false, add_mk, Nat.zero_add, Nat.add_zero, Nat.mul_one, Nat.reduceAdd, Int.toNat_natCast, ex_int, ex_slice, ex_ptr, ex_bool, ex_str, ex_flt, ex_any, bnd_in, List.getElem?_cons_zero, List.getElem?_cons_succ, List.set_cons_zero, List.set_cons_succ, List.cons_append, List.nil_append, bne_self_eq_false, beq_self_eq_true, Bool.not_true, Bool.not_false, Option.isNone_some, Option.isNone_none, eq_self, true_and, and_true, and_self, s2.rd0, s2.rd1]
    refine s2.st0 (by simp) fun h3 s3 => ?_
    try simp -zeta (disch := omega) only [chkP_some, iteB_true, iteB_false, add_mk, Nat.zero_add, Nat.add_zero, Nat.mul_one, Nat.reduceAdd, Int.toNat_natCast, ex_int, ex_slice, ex_ptr, ex_bool, ex_str, ex_flt, ex_any, bnd_in, List.getElem?_cons_zero, List.getElem?_cons_succ, List.set_cons_zero, List.set_cons_succ, List.cons_append, List.nil_append, bne_self_eq_false, beq_self_eq_true, Bool.not_true, Bool.not_false, Option.isNone_some, Option.isNone_none, eq_self, true_and, and_true, and_self, s3.rd0, s3.rd1]
    refine s3.st0 (by simp) fun h4 s4 => ?_
    try simp -zeta (disch := omega) only [chkP_some, iteB_true, iteB_false, add_mk, Nat.zero_add, Nat.add_zero, Nat.mul_one, Nat.reduceAdd, Int.toNat_natCast, ex_int, ex_slice, ex_ptr, ex_bool, ex_str, ex_flt, ex_any, bnd_in, List.getElem?_cons_zero, List.getElem?_cons_succ, List.set_cons_zero, List.set_cons_succ, List.cons_append, List.nil_append, bne_self_eq_false, beq_self_eq_true, Bool.not_true, Bool.not_false, Option.isNone_some, Option.isNone_none, eq_self, true_and, and_true, and_self, s4.rd0, s4.rd1]
    refine s4.st0 (by simp) fun h5 s5 => ?_
    try simp -zeta (disch := omega) only [chkP_some, iteB_true, iteB_false, add_mk, Nat.zero_add, Nat.add_zero, Nat.mul_one, Nat.reduceAdd, Int.toNat_natCast, ex_int, ex_slice, ex_ptr, ex_bool, ex_str, ex_flt, ex_any, bnd_in, List.getElem?_cons_zero, List.getElem?_cons_succ, List.set_cons_zero, List.set_cons_succ, List.cons_append, List.nil_append, bne_self_eq_false, beq_self_eq_true, Bool.not_true, Bool.not_false, Option.isNone_some, Option.isNone_none, eq_self, true_and, and_true, and_self, s5.rd0, s5.rd1]
    have := hk h5 s5.tail.tail
    rw [normE_pos e] at this; exact this
  · have e := of_decide_eq_false e
    try simp -zeta (disch := omega) only [chkP_some, iteB_true, iteB_false, add_mk, Nat.zero_add, Nat.add_zero, Nat.mul_one, Nat.reduceAdd, Int.toNat_natCast, ex_int, ex_slice, ex_ptr, ex_bool, ex_str, ex_flt, ex_any, bnd_in, List.getElem?_cons_zero, List.getElem?_cons_succ, List.set_cons_zero, List.set_cons_succ, List.cons_append, List.nil_append, bne_self_eq_false, beq_self_eq_true, Bool.not_true, Bool.not_false, Option.isNone_some, Option.isNone_none, eq_self, true_and, and_true, and_self, s2.rd0, s2.rd1]
    refine s2.st0 (by simp) fun h3 s3 => ?_
    try simp -zeta (disch := omega) only [chkP_some, iteB_true, iteB_false, add_mk, Nat.zero_add, Nat.add_zero, Nat.mul_one, Nat.reduceAdd, Int.toNat_natCast, ex_int, ex_slice, ex_ptr, ex_bool, ex_str, ex_flt, ex_any, bnd_in, List.getElem?_cons_zero, List.getElem?_cons_succ, List.set_cons_zero, List.set_cons_succ, List.cons_append, List.nil_append, bne_self_eq_false, beq_self_eq_true, Bool.not_true, Bool.not_false, Option.isNone_some, Option.isNone_none, eq_self, true_and, and_true, and_self, s3.rd0, s3.rd1]
    refine s3.st0 (by simp) fun h4 s4 => ?_
    try simp -zeta (disch := omega) only [chkP_some, iteB_true, iteB_false, add_mk, Nat.zero_add, Nat.add_zero, Nat.mul_one, Nat.reduceAdd, Int.toNat_natCast, ex_int, ex_slice, ex_ptr, ex_bool, ex_str, ex_flt, ex_any, bnd_in, List.getElem?_cons_zero, List.getElem?_cons_succ, List.set_cons_zero, List.set_cons_succ, List.cons_append, List.nil_append, bne_self_eq_false, beq_self_eq_true, Bool.not_true, Bool.not_false, Option.isNone_some, Option.isNone_none, eq_self, true_and, and_true, and_self, s4.rd0, s4.rd1]
    refine s4.st0 (by simp) fun h5 s5 => ?_
    try simp -zeta (disch := omega) only [chkP_some, iteB_true, iteB_false, add_mk, Nat.zero_add, Nat.add_zero, Nat.mul_one, Nat.reduceAdd, Int.toNat_natCast, ex_int, ex_slice, ex_ptr, ex_bool, ex_str, ex_flt, ex_any, bnd_in, List.getElem?_cons_zero, List.getElem?_cons_succ, List.set_cons_zero, List.set_cons_succ, List.cons_append, List.nil_append, bne_self_eq_false, beq_self_eq_true, Bool.not_true, Bool.not_false, Option.isNone_some, Option.isNone_none, eq_self, true_and, and_true, and_self, s5.rd0, s5.rd1]
    have := hk h5 s5.tail.tail
    rw [normE_neg e] at this; exact this

theorem cfI_lt {x y : Int} (h : x < y) : cfI x y = -1 := if_pos h
theorem cfI_gt {x y : Int} (h : x > y) : cfI x y = 1 := by unfold cfI; rw [if_neg (by omega), if_pos h]
end
section
variable {h0 : Base} {R : Rws}
theorem ref_Add_of {a b : Int} {h : Heap} {K : Int → Bool → Heap → Prop} (ha : fits a) (hb : fits b) (s : St h0 h R) (hk : ∀ h', St h0 h' R → K (addR a b).1 (addR a b).2 h') : straitref01_Add a b h K := by
  unfold straitref01_Add
  refine s.new_ fun c h1 s1 => ?_
  intro j
  have J : ∀ y, y = !decide (fits (a + b)) → j (IntKind.i64.wrap (a + b)) y := by
    intro y hy
    simp -zeta only [j]
    subst hy
    by_cases hf : fits (a + b)
    · refine iteB_neg (by simp [hf]) (s1.st0 (by simp) fun h2 s2 => ?_)
      try simp -zeta (disch := omega) only [chkP_some, iteB_true, iteB_false, add_mk, Nat.zero_add, Nat.add_zero, Nat.mul_one, Nat.reduceAdd, Int.toNat_natCast, ex_int, ex_slice, ex_ptr, ex_bool, ex_str, ex_flt, ex_any, bnd_in, List.getElem?_cons_zero, List.getElem?_cons_succ, List.set_cons_zero, List.set_cons_succ, List.cons_append, List.nil_append, bne_self_eq_false, beq_self_eq_true, Bool.not_true, Bool.not_false, Option.isNone_some, Option.isNone_none, eq_self, true_and, and_true, and_self, s2.rd0]
      refine s2.st0 (by simp) fun h3 s3 => ?_
      try simp -zeta (disch := omega) only [chkP_some, iteB_true, iteB_false, add_mk, Nat.zero_add, Nat.add_zero, Nat.mul_one, Nat.reduceAdd, Int.toNat_natCast, ex_int, ex_slice, ex_ptr, ex_bool, ex_str, ex_flt, ex_any, bnd_in, List.getElem?_cons_zero, List.getElem?_cons_succ, List.set_cons_zero, List.set_cons_succ, List.cons_append, List.nil_append, bne_self_eq_false, beq_self_eq_true, Bool.not_true, Bool.not_false, Option.isNone_some, Option.isNone_none, eq_self, true_and, and_true, and_self, s3.rd0]
      have := hk h3 s3.tail
      unfold addR at this; rw [if_pos hf] at this
      unfold fits at hf
      rw [wrap64 (by omega) (by omega)]; exact this
    · refine iteB_pos (by simp [hf]) (s1.st0 (by simp) fun h2 s2 => ?_)
      try simp -zeta (disch := omega) only [chkP_some, iteB_true, iteB_false, add_mk, Nat.zero_add, Nat.add_zero, Nat.mul_one, Nat.reduceAdd, Int.toNat_natCast, ex_int, ex_slice, ex_ptr, ex_bool, ex_str, ex_flt, ex_any, bnd_in, List.getElem?_cons_zero, List.getElem?_cons_succ, List.set_cons_zero, List.set_cons_succ, List.cons_append, List.nil_append, bne_self_eq_false, beq_self_eq_true, Bool.not_true, Bool.not_false, Option.isNone_some, Option.isNone_none, eq_self, true_and, and_true, and_self, s2.rd0]
      refine s2.st0 (by simp) fun h3 s3 => ?_
      try simp -zeta (disch := omega) only [chkP_some, iteB_true, iteB_false, add_mk, Nat.zero_add, Nat.add_zero, Nat.mul_one, Nat.reduceAdd, Int.toNat_natCast, ex_int, ex_slice, ex_ptr, ex_bool, ex_str, ex_flt, ex_any, bnd_in, List.getElem?_cons_zero, List.getElem?_cons_succ, List.set_cons_zero, List.set_cons_succ, List.cons_append, List.nil_append, bne_self_eq_false, beq_self_eq_true, Bool.not_true, Bool.not_false, Option.isNone_some, Option.isNone_none, eq_self, true_and, and_true, and_self, s3.rd0]
      have := hk h3 s3.tail
      unfold addR at this; rw [if_neg hf] at this
      exact this
  clear_value j
  have t : ∀ y : Bool, ((y = true) ↔ ¬ fits (a + b)) → y = !decide (fits (a + b)) := fun y h => by
    cases y
    · have : fits (a + b) := Decidable.not_not.1 (fun c => by simpa using h.2 c)
      simp [this]
    · simp [h.1 rfl]
  unfold fits at ha hb
  have e := wrap_i64_eq (a + b)
  refine iteB_intro (fun h1 => iteB_intro (fun h2 => J _ (t _ ?_)) (fun h2 => iteB_intro (fun h3 => ?_) (fun h3 => J _ (t _ ?_)))) (fun h1 => iteB_intro (fun h2 => J _ (t _ ?_)) (fun h2 => ?_))
  all_goals simp only [decide_eq_true_eq, decide_eq_false_iff_not] at *
  all_goals first | omega | (unfold fits; omega) | (unfold fits; simp only [Bool.false_eq_true, false_iff]; omega) | (unfold fits; simp only [true_iff]; omega)

end
section
variable {h0 : Base} {R : Rws}
def gtK (x e : Ed) : Prop := x.1 > e.1 ∨ (x.1 = e.1 ∧ x.2.1 > e.2.1)
instance (x e : Ed) : Decidable (gtK x e) := by unfold gtK; exact inferInstance
def addD (e : Ed) : Bool → List Ed → Option (List Ed)
  | d, [] => some (if d then [] else [e])
  | d, x :: r => if sameK x e then (if fits (x.2.2 + e.2.2) then (addD e true r).map ((x.1, x.2.1, x.2.2 + e.2.2) :: ·) else none)
    else if d = false ∧ gtK x e then (addD e true r).map (fun t => e :: x :: t) else (addD e d r).map (x :: ·)
theorem addD_cons (e : Ed) (d : Bool) (x : Ed) (r : List Ed) : addD e d (x :: r) = if sameK x e then (if fits (x.2.2 + e.2.2) then (addD e true r).map ((x.1, x.2.1, x.2.2 + e.2.2) :: ·) else none)
    else if d = false ∧ gtK x e then (addD e true r).map (fun t => e :: x :: t) else (addD e d r).map (x :: ·) := rfl

theorem radd_l0 {K0 : Heap → Prop} {K2 : Option Addr → Nat → Nat → Bool → Heap → Prop} {b3 b4 k cl : Nat} {q : Option Addr} {l : List Ed} {eu ev ew : Int} (hl : l.length = k) (hb : k < 2 ^ 30) (hw : fitsL l) (he : fits ew) (kl : Keeps h0 R q (eV l))
    (hk0 : addD (eu, ev, ew) false l = none → ∀ h' X, St h0 h' (X ++ (b4, [.slice none 0 0, .bool false]) :: R) → K0 h')
    (hk2 : ∀ h' q' c' X A dn, addD (eu, ev, ew) false l = some (if dn then A else A ++ [(eu, ev, ew)]) → A.length < 2 ^ 31 → Own3 q' c' A X → St h0 h' (X ++ (b4, [.slice none 0 0, .bool false]) :: (b3, [.int .i64 eu, .int .i64 ev, .int .i64 ew]) :: R) → K2 q' A.length c' dn h') :
    ∀ (d i : Nat) (h : Heap) (A : List Ed) (q' : Option Addr) (c' : Nat) (X : Rws) (dn : Bool), i + d = k → A.length ≤ 2 * i → (addD (eu, ev, ew) dn (l.drop i)).map (A ++ ·) = addD (eu, ev, ew) false l → Own3 q' c' A X → St h0 h (X ++ (b4, [.slice none 0 0, .bool false]) :: (b3, [.int .i64 eu, .int .i64 ev, .int .i64 ew]) :: R) →
      straitref15_add.l0 K0 K2 (d + 1) q k cl ⟨b3, 0, none⟩ ⟨b4, 0, none⟩ q' A.length c' dn (i : Int) h
  | 0, i, h, A, q', c', X, dn, hi, hA, hD, o, s => by
    unfold straitref15_add.l0 straitref15_add.b0
    rw [List.drop_of_length_le (by omega)] at hD
    refine iteB_neg (decide_eq_false (by omega)) (hk2 h q' c' X A dn ?_ (by omega) o s)
    rw [← hD]
    cases dn <;> simp [addD]
  | d + 1, i, h, A, q', c', X, dn, hi, hA, hD, o, s => by
    unfold straitref15_add.l0 straitref15_add.b0
    obtain ⟨⟨u, v, w⟩, hx⟩ := get_lt (l := l) (i := i) (by omega)
    have hwx : fits w := hw _ (List.mem_of_getElem? hx)
    have vl : valsAt h q (eV l) := ((kl.cons (y := (b3, _))).cons (y := (b4, _))).at1 s
    rw [drop_cons hx, addD_cons] at hD
    refine iteB_pos (decide_eq_true (by omega)) ?_
    simp -zeta (disch := omega) only [chkP_some, Int.toNat_natCast, bnd_in, vals_edge vl hx]
    refine s.new_ fun b1 h1 s1 => ?_
    simp -zeta only [add_mk, Nat.zero_add]
    refine s1.st0 (by simp) fun h2 s2 => s2.st0 (by simp) fun h3 s3 => s3.st0 (by simp) fun h4 s4 => ?_
    have s4 : St h0 h4 (X ++ (b1, [.int .i64 u, .int .i64 v, .int .i64 w]) :: (b4, [.slice none 0 0, .bool false]) :: (b3, [.int .i64 eu, .int .i64 ev, .int .i64 ew]) :: R) := s4.perm List.perm_middle.symm
    have rx : ∀ j, cell h4 ⟨b1, j, none⟩ = [Value.int .i64 u, .int .i64 v, .int .i64 w][j]? := s4.rd (by simp)
    have re : ∀ j, cell h4 ⟨b3, j, none⟩ = [Value.int .i64 eu, .int .i64 ev, .int .i64 ew][j]? := s4.rd (by simp)
    intro j
    have J : ∀ (h5 : Heap) (A2 : List Ed) (q2 : Option Addr) (c2 : Nat) (Y : Rws) (dn2 : Bool) (w2 : Int), A2.length ≤ 2 * i + 1 → Own3 q2 c2 A2 Y → St h0 h5 (Y ++ (b1, [.int .i64 u, .int .i64 v, .int .i64 w2]) :: (b4, [.slice none 0 0, .bool false]) :: (b3, [.int .i64 eu, .int .i64 ev, .int .i64 ew]) :: R) →
        (addD (eu, ev, ew) dn2 (l.drop (i + 1))).map (fun t => A2 ++ (u, v, w2) :: t) = addD (eu, ev, ew) false l → j q2 A2.length c2 dn2 h5 := fun h5 A2 q2 c2 Y dn2 w2 hA2 o2 s5 hD2 => by
      simp -zeta only [j]
      have rx : ∀ j, cell h5 ⟨b1, j, none⟩ = [Value.int .i64 u, .int .i64 v, .int .i64 w2][j]? := s5.rd (by simp)
      simp -zeta (disch := omega) only [chkP_some, iteB_true, iteB_false, add_mk, Nat.zero_add, Nat.add_zero, Nat.mul_one, Nat.reduceAdd, Int.toNat_natCast, ex_int, ex_slice, ex_ptr, ex_bool, ex_str, ex_flt, ex_any, bnd_in, List.getElem?_cons_zero, List.getElem?_cons_succ, List.set_cons_zero, List.set_cons_succ, List.cons_append, List.nil_append, bne_self_eq_false, beq_self_eq_true, Bool.not_true, Bool.not_false, Option.isNone_some, Option.isNone_none, eq_self, true_and, and_true, and_self, rx]
      refine Own3.push1 o2 s5 rfl (by omega) fun q3 c3 X3 h6 o3 s6 => ?_
      rw [wrap64 (by omega) (by omega)]
      have := radd_l0 (cl := cl) hl hb hw he kl hk0 hk2 d (i + 1) h6 (A2 ++ [(u, v, w2)]) q3 c3 X3 dn2 (by omega) (by simp; omega) (by rw [← hD2]; congr 1; funext t; simp) o3 ((St.re s6 (by intro a; simp only [cntR_append, cntR_cons, cntR_nil, List.cons_append, List.nil_append, List.set_cons_zero, List.set_cons_succ]; omega)))
      simpa using this
    clear_value j
    intro j2
    have J2t : u = eu → v = ev → j2 true := fun e1 e2 => by
      subst e1 e2
      rw [if_pos ⟨rfl, rfl⟩] at hD
      simp only at hD
      simp -zeta only [j2]
      simp -zeta (disch := omega) only [chkP_some, iteB_true, iteB_false, add_mk, Nat.zero_add, Nat.add_zero, Nat.mul_one, Nat.reduceAdd, Int.toNat_natCast, ex_int, ex_slice, ex_ptr, ex_bool, ex_str, ex_flt, ex_any, bnd_in, List.getElem?_cons_zero, List.getElem?_cons_succ, List.set_cons_zero, List.set_cons_succ, List.cons_append, List.nil_append, bne_self_eq_false, beq_self_eq_true, Bool.not_true, Bool.not_false, Option.isNone_some, Option.isNone_none, eq_self, true_and, and_true, and_self, rx, re]
      refine callP2.self (ref_Add_of hwx he s4 fun h5 s5 => s5.new_ fun b5 h6 s6 => ?_)
      simp -zeta only [chkP_some, iteB_true, iteB_false, add_mk, Nat.zero_add, Nat.add_zero, Nat.mul_one, Nat.reduceAdd, Int.toNat_natCast, ex_int, ex_slice, ex_ptr, ex_bool, ex_str, ex_flt, ex_any, bnd_in, List.getElem?_cons_zero, List.getElem?_cons_succ, List.set_cons_zero, List.set_cons_succ, List.cons_append, List.nil_append, bne_self_eq_false, beq_self_eq_true, Bool.not_true, Bool.not_false, Option.isNone_some, Option.isNone_none, eq_self, true_and, and_true, and_self]
      refine s6.st0 (by simp) fun h7 s7 => s7.st0 (by simp) fun h8 s8 => ?_
      simp -zeta (disch := omega) only [chkP_some, iteB_true, iteB_false, add_mk, Nat.zero_add, Nat.add_zero, Nat.mul_one, Nat.reduceAdd, Int.toNat_natCast, ex_int, ex_slice, ex_ptr, ex_bool, ex_str, ex_flt, ex_any, bnd_in, List.getElem?_cons_zero, List.getElem?_cons_succ, List.set_cons_zero, List.set_cons_succ, List.cons_append, List.nil_append, bne_self_eq_false, beq_self_eq_true, Bool.not_true, Bool.not_false, Option.isNone_some, Option.isNone_none, eq_self, true_and, and_true, and_self, s8.rd0]
      unfold addR at s8 ⊢
      by_cases hf : fits (w + ew)
      · rw [if_pos hf] at hD s8 ⊢
        simp -zeta (disch := omega) only [chkP_some, iteB_true, iteB_false, add_mk, Nat.zero_add, Nat.add_zero, Nat.mul_one, Nat.reduceAdd, Int.toNat_natCast, ex_int, ex_slice, ex_ptr, ex_bool, ex_str, ex_flt, ex_any, bnd_in, List.getElem?_cons_zero, List.getElem?_cons_succ, List.set_cons_zero, List.set_cons_succ, List.cons_append, List.nil_append, bne_self_eq_false, beq_self_eq_true, Bool.not_true, Bool.not_false, Option.isNone_some, Option.isNone_none, eq_self, true_and, and_true, and_self]
        have s8 := s8.tail
        refine St.st s8 (by simp) fun h9 s9 => ?_
        refine J h9 A q' c' X true (w + ew) (by omega) o s9 ?_
        rw [← hD, Option.map_map]; rfl
      · rw [if_neg hf] at hD s8 ⊢
        simp -zeta (disch := omega) only [chkP_some, iteB_true, iteB_false, add_mk, Nat.zero_add, Nat.add_zero, Nat.mul_one, Nat.reduceAdd, Int.toNat_natCast, ex_int, ex_slice, ex_ptr, ex_bool, ex_str, ex_flt, ex_any, bnd_in, List.getElem?_cons_zero, List.getElem?_cons_succ, List.set_cons_zero, List.set_cons_succ, List.cons_append, List.nil_append, bne_self_eq_false, beq_self_eq_true, Bool.not_true, Bool.not_false, Option.isNone_some, Option.isNone_none, eq_self, true_and, and_true, and_self]
        have s8 := s8.tail
        have s8 : St h0 h8 ((X ++ [(b1, [.int .i64 u, .int .i64 v, .int .i64 w])]) ++ (b4, [.slice none 0 0, .bool false]) :: (b3, [.int .i64 u, .int .i64 v, .int .i64 ew]) :: R) := by simpa using s8
        refine St.st s8 (by simp) fun h9 s9 => ?_
        try simp -zeta only [chkP_some, iteB_true, iteB_false, add_mk, Nat.zero_add, Nat.add_zero, Nat.mul_one, Nat.reduceAdd, Int.toNat_natCast, ex_int, ex_slice, ex_ptr, ex_bool, ex_str, ex_flt, ex_any, bnd_in, List.getElem?_cons_zero, List.getElem?_cons_succ, List.set_cons_zero, List.set_cons_succ, List.cons_append, List.nil_append, bne_self_eq_false, beq_self_eq_true, Bool.not_true, Bool.not_false, Option.isNone_some, Option.isNone_none, eq_self, true_and, and_true, and_self]
        refine St.st s9 (by simp) fun h10 s10 => ?_
        refine hk0 ?_ h10 (X ++ [(b1, [.int .i64 u, .int .i64 v, .int .i64 w])]) ((St.re s10 (by intro a; simp only [cntR_append, cntR_cons, cntR_nil, List.cons_append, List.nil_append, List.set_cons_zero, List.set_cons_succ]; omega)))
        rw [← hD]; rfl
    have J2f : ¬ (u = eu ∧ v = ev) → j2 false := fun ne => by
      rw [if_neg (show ¬ sameK (u, v, w) (eu, ev, ew) from ne)] at hD
      simp -zeta only [j2]
      refine iteB_neg rfl ?_
      intro j3
      have J3t : dn = false → gtK (u, v, w) (eu, ev, ew) → j3 true := fun e1 e2 => by
        rw [if_pos ⟨e1, e2⟩] at hD
        simp -zeta only [j3]
        simp -zeta (disch := omega) only [chkP_some, iteB_true, iteB_false, add_mk, Nat.zero_add, Nat.add_zero, Nat.mul_one, Nat.reduceAdd, Int.toNat_natCast, ex_int, ex_slice, ex_ptr, ex_bool, ex_str, ex_flt, ex_any, bnd_in, List.getElem?_cons_zero, List.getElem?_cons_succ, List.set_cons_zero, List.set_cons_succ, List.cons_append, List.nil_append, bne_self_eq_false, beq_self_eq_true, Bool.not_true, Bool.not_false, Option.isNone_some, Option.isNone_none, eq_self, true_and, and_true, and_self, re]
        refine Own3.push1 o s4 rfl (by omega) fun q3 c3 X3 h6 o3 s6 => ?_
        have := J h6 (A ++ [(eu, ev, ew)]) q3 c3 X3 true w (by simp; omega) o3 s6 (by
          rw [← hD, Option.map_map]; congr 1; funext t; simp)
        simpa using this
      have J3f : ¬ (dn = false ∧ gtK (u, v, w) (eu, ev, ew)) → j3 false := fun e1 => by
        rw [if_neg e1] at hD
        simp -zeta only [j3]
        refine iteB_neg rfl (J h4 A q' c' X dn w (by omega) o s4 ?_)
        rw [← hD, Option.map_map]; rfl
      clear_value j3
      unfold gtK at J3t J3f
      simp only at J3t J3f
      refine iteB_intro (fun c => ?_) (fun c => J3f (fun h => by rw [h.1] at c; cases c))
      have c : dn = false := by simpa using c
      simp -zeta (disch := omega) only [chkP_some, iteB_true, iteB_false, add_mk, Nat.zero_add, Nat.add_zero, Nat.mul_one, Nat.reduceAdd, Int.toNat_natCast, ex_int, ex_slice, ex_ptr, ex_bool, ex_str, ex_flt, ex_any, bnd_in, List.getElem?_cons_zero, List.getElem?_cons_succ, List.set_cons_zero, List.set_cons_succ, List.cons_append, List.nil_append, bne_self_eq_false, beq_self_eq_true, Bool.not_true, Bool.not_false, Option.isNone_some, Option.isNone_none, eq_self, true_and, and_true, and_self, rx, re]
      refine iteB_intro (fun c1 => J3t c (.inl (of_decide_eq_true c1))) (fun c1 => ?_)
      have c1 := of_decide_eq_false c1
      refine iteB_intro (fun c2 => ?_) (fun c2 => J3f ?_)
      · have c2 : u = eu := by simpa using c2
        by_cases c3 : v > ev
        · rw [decide_eq_true c3]; exact J3t c (.inr ⟨c2, c3⟩)
        · rw [decide_eq_false c3]; exact J3f (fun h => by omega)
      · have c2 : ¬ u = eu := by simpa using c2
        rintro ⟨_, h⟩; omega
    clear_value j2
    simp -zeta (disch := omega) only [chkP_some, iteB_true, iteB_false, add_mk, Nat.zero_add, Nat.add_zero, Nat.mul_one, Nat.reduceAdd, Int.toNat_natCast, ex_int, ex_slice, ex_ptr, ex_bool, ex_str, ex_flt, ex_any, bnd_in, List.getElem?_cons_zero, List.getElem?_cons_succ, List.set_cons_zero, List.set_cons_succ, List.cons_append, List.nil_append, bne_self_eq_false, beq_self_eq_true, Bool.not_true, Bool.not_false, Option.isNone_some, Option.isNone_none, eq_self, true_and, and_true, and_self, rx, re]
    refine iteB_intro (fun c => ?_) (fun c => J2f (fun h => by rw [h.1] at c; simp at c))
    have c : u = eu := by simpa using c
    by_cases c2 : v = ev
    · rw [show (v == ev) = true by simpa using c2]; exact J2t c c2
    · rw [show (v == ev) = false by simpa using c2]; exact J2f (fun h => c2 h.2)
theorem RAdd_of {h : Heap} {k cl : Nat} {q : Option Addr} {l : List Ed} {e : Ed} {K : Option Addr → Nat → Nat → Bool → Heap → Prop} (hl : l.length = k) (hb : k < 2 ^ 30) (hw : fitsL l) (he : fits e.2.2) (kl : Keeps h0 R q (eV l)) (s : St h0 h R)
    (hk0 : addD e false l = none → ∀ h', St h0 h' R → K none 0 0 false h')
    (hk : ∀ S, addD e false l = some S → ∀ h' q c X, Own3 q c S X → St h0 h' (X ++ R) → K q S.length c true h') : straitref15_add q k cl e.1 e.2.1 e.2.2 h K := by
  obtain ⟨eu, ev, ew⟩ := e
  unfold straitref15_add
  refine s.new_ fun b3 h1 s1 => s1.new_ fun b4 h2 s2 => ⟨k + 1, radd_l0 (eu := eu) (ev := ev) (ew := ew) hl hb hw he kl (fun no h3 X s3 => ?_) (fun h3 q' c' X A dn hD hAl o s3 => ?_) k 0 h2 [] none 0 [] false (by omega) (by simp) (by simp) Own3.nil s2⟩
  · have r0 : ∀ j, cell h3 ⟨b4, j, none⟩ = [Value.slice none 0 0, .bool false][j]? := s3.rd (by simp)
    simp -zeta (disch := omega) only [chkP_some, iteB_true, iteB_false, add_mk, Nat.zero_add, Nat.add_zero, Nat.mul_one, Nat.reduceAdd, Int.toNat_natCast, ex_int, ex_slice, ex_ptr, ex_bool, ex_str, ex_flt, ex_any, bnd_in, List.getElem?_cons_zero, List.getElem?_cons_succ, List.set_cons_zero, List.set_cons_succ, List.cons_append, List.nil_append, bne_self_eq_false, beq_self_eq_true, Bool.not_true, Bool.not_false, Option.isNone_some, Option.isNone_none, eq_self, true_and, and_true, and_self, r0]
    exact hk0 no h3 s3.drop.tail
  · have fin : ∀ (h4 : Heap) (S : List Ed) (q2 : Option Addr) (c2 : Nat) (Y : Rws), addD (eu, ev, ew) false l = some S → Own3 q2 c2 S Y → St h0 h4 (Y ++ (b4, [.slice none 0 0, .bool false]) :: (b3, [.int .i64 eu, .int .i64 ev, .int .i64 ew]) :: R) →
        (stC h4 ⟨b4, 0, none⟩ (.slice q2 S.length c2) fun h32 => stC h32 ((⟨b4, 0, none⟩ : Addr).add 1) (.bool true) fun h33 => (∃ (x34 : Option Addr) (x34l : Nat) (x34c : Nat), cell h33 ⟨b4, 0, none⟩ = some (.slice x34 x34l x34c) ∧ ∃ (x35 : Bool), cell h33 ((⟨b4, 0, none⟩ : Addr).add 1) = some (.bool x35) ∧ K x34 x34l x34c x35 h33)) := fun h4 S q2 c2 Y hS o2 s4 => by
      refine St.st s4 (by simp) fun h5 s5 => ?_
      try simp -zeta only [chkP_some, iteB_true, iteB_false, add_mk, Nat.zero_add, Nat.add_zero, Nat.mul_one, Nat.reduceAdd, Int.toNat_natCast, ex_int, ex_slice, ex_ptr, ex_bool, ex_str, ex_flt, ex_any, bnd_in, List.getElem?_cons_zero, List.getElem?_cons_succ, List.set_cons_zero, List.set_cons_succ, List.cons_append, List.nil_append, bne_self_eq_false, beq_self_eq_true, Bool.not_true, Bool.not_false, Option.isNone_some, Option.isNone_none, eq_self, true_and, and_true, and_self]
      refine St.st s5 (by simp) fun h6 s6 => ?_
      simp only [List.set_cons_zero, List.set_cons_succ, Nat.zero_add] at s6
      have r0 : ∀ j, cell h6 ⟨b4, j, none⟩ = [Value.slice q2 S.length c2, .bool true][j]? := s6.rd (by simp)
      simp -zeta (disch := omega) only [chkP_some, iteB_true, iteB_false, add_mk, Nat.zero_add, Nat.add_zero, Nat.mul_one, Nat.reduceAdd, Int.toNat_natCast, ex_int, ex_slice, ex_ptr, ex_bool, ex_str, ex_flt, ex_any, bnd_in, List.getElem?_cons_zero, List.getElem?_cons_succ, List.set_cons_zero, List.set_cons_succ, List.cons_append, List.nil_append, bne_self_eq_false, beq_self_eq_true, Bool.not_true, Bool.not_false, Option.isNone_some, Option.isNone_none, eq_self, true_and, and_true, and_self, r0]
      exact hk S hS h6 q2 c2 Y o2 ((St.re s6 (by intro a; simp only [cntR_append, cntR_cons, cntR_nil, List.cons_append, List.nil_append, List.set_cons_zero, List.set_cons_succ]; omega)))
    cases dn with
    | true => exact iteB_neg rfl (fin h3 A q' c' X hD o s3)
    | false =>
      refine iteB_pos rfl ?_
      have re : ∀ j, cell h3 ⟨b3, j, none⟩ = [Value.int .i64 eu, .int .i64 ev, .int .i64 ew][j]? := s3.rd (by simp)
      simp -zeta (disch := omega) only [chkP_some, add_mk, Nat.zero_add, re, ex_int, List.getElem?_cons_zero, List.getElem?_cons_succ]
      refine Own3.push1 o s3 rfl (by omega) fun q3 c3 X3 h6 o3 s6 => ?_
      have := fin h6 _ q3 c3 X3 hD o3 s6
      simpa using this
end
def ltK (x e : Ed) : Prop := x.1 < e.1 ∨ (x.1 = e.1 ∧ x.2.1 < e.2.1)
instance (x e : Ed) : Decidable (ltK x e) := by unfold ltK; exact inferInstance
def Up (l : List Ed) : Prop := l.Pairwise ltK
theorem addD_true {e : Ed} : ∀ {l : List Ed}, (∀ x ∈ l, ¬ sameK x e) → addD e true l = some l
  | [], _ => rfl
  | x :: l, h => by rw [addD_cons, if_neg (h x (by simp)), if_neg (by simp), addD_true fun y hy => h y (by simp [hy])]; rfl
theorem addD_lt {e : Ed} {B : List Ed} : ∀ {A : List Ed}, (∀ x ∈ A, ltK x e) → addD e false (A ++ B) = (addD e false B).map (A ++ ·)
  | [], _ => by simp
  | x :: A, h => by
    have hx := h x (by simp)
    rw [List.cons_append, addD_cons, if_neg (by unfold sameK; unfold ltK at hx; omega), if_neg (by unfold gtK; unfold ltK at hx; omega), addD_lt fun y hy => h y (by simp [hy]), Option.map_map]
    rfl
theorem split_lt {e : Ed} : ∀ {S : List Ed}, Up S → ∃ A B, S = A ++ B ∧ (∀ x ∈ A, ltK x e) ∧ ∀ x ∈ B, ¬ ltK x e
  | [], _ => ⟨[], [], rfl, by simp, by simp⟩
  | x :: S, h => by
    have hx : ∀ y ∈ S, ltK x y := fun y hy => List.rel_of_pairwise_cons h hy
    obtain ⟨A, B, h1, h2, h3⟩ := split_lt (e := e) (List.Pairwise.of_cons h)
    by_cases c : ltK x e
    · refine ⟨x :: A, B, by rw [h1]; rfl, fun y hy => ?_, h3⟩
      rcases List.mem_cons.1 hy with rfl | hy
      · exact c
      · exact h2 y hy
    · refine ⟨[], x :: S, rfl, by simp, fun y hy => ?_⟩
      rcases List.mem_cons.1 hy with rfl | hy
      · exact c
      · have := hx y hy; unfold ltK at *; omega
/-- The two ways go together. -/
theorem addP_addD {P S : List Ed} {e : Ed} (p : P.Perm S) (up : Up S) :
    (addP P e = none ∧ addD e false S = none) ∨ ∃ P' S', addP P e = some P' ∧ addD e false S = some S' ∧ P'.Perm S' ∧ Up S' := by
  obtain ⟨A, B, rfl, hA, hB⟩ := split_lt (e := e) up
  rw [addD_lt hA]
  have upA : Up A := (List.pairwise_append.1 up).1
  have upB : Up B := (List.pairwise_append.1 up).2.1
  have hAB := (List.pairwise_append.1 up).2.2
  have noA : ∀ x ∈ A, ¬ sameK x e := fun x hx => by have := hA x hx; unfold ltK at this; unfold sameK; omega
  have new : ∀ (S' : List Ed), (∀ x ∈ B, ¬ sameK x e) → addD e false B = some S' → S' = e :: B → (∀ x ∈ B, ltK e x) →
      (addP P e = none ∧ (addD e false B).map (A ++ ·) = none) ∨ ∃ P' S', addP P e = some P' ∧ (addD e false B).map (A ++ ·) = some S' ∧ P'.Perm S' ∧ Up S' := fun S' nB hS he hlt => by
    refine .inr ⟨P ++ [e], A ++ S', addP_none fun x hx => ?_, by rw [hS]; rfl, ?_, ?_⟩
    · rcases List.mem_append.1 (p.mem_iff.1 hx) with h | h
      · exact noA x h
      · exact nB x h
    · subst he
      exact (p.append_right [e]).trans (List.perm_append_singleton e (A ++ B) |>.trans (List.perm_middle.symm))
    · subst he
      refine List.pairwise_append.2 ⟨upA, List.pairwise_cons.2 ⟨hlt, upB⟩, fun a ha b hb => ?_⟩
      rcases List.mem_cons.1 hb with rfl | hb
      · exact hA a ha
      · exact hAB a ha b hb
  cases B with
  | nil => exact new [e] (by simp) rfl rfl (by simp)
  | cons x B =>
    have hx := hB x (by simp)
    have hxB : ∀ y ∈ B, ltK x y := fun y hy => List.rel_of_pairwise_cons upB hy
    have upB2 := List.Pairwise.of_cons upB
    have noB : ∀ y ∈ B, ¬ sameK y e := fun y hy => by
      have h1 := hxB y hy
      unfold ltK at h1 hx; unfold sameK; omega
    by_cases c : sameK x e
    · have hno : ∀ y ∈ P, sameK y e → y = x := fun y hy hs => by
        rcases List.mem_append.1 (p.mem_iff.1 hy) with h | h
        · exact absurd hs (noA y h)
        · rcases List.mem_cons.1 h with h | h
          · exact h
          · exact absurd hs (noB y h)
      rw [addD_cons, if_pos c]
      rcases split_key e P with hn | ⟨C, y, D, rfl, hC, hy⟩
      · exact absurd c (hn x (p.mem_iff.2 (by simp)))
      · have := hno y (by simp) hy
        subst this
        rw [addP_mid hC c]
        by_cases hf : fits (y.2.2 + e.2.2)
        · rw [if_pos hf, if_pos hf, addD_true noB]
          refine .inr ⟨_, _, rfl, rfl, ?_, ?_⟩
          · have p2 : (C ++ D).Perm (A ++ B) := by
              have := List.perm_middle.symm.trans (p.trans List.perm_middle)
              exact List.Perm.cons_inv this
            exact List.perm_middle.trans ((p2.cons _).trans List.perm_middle.symm)
          · refine List.pairwise_append.2 ⟨upA, List.pairwise_cons.2 ⟨fun b hb => ?_, upB2⟩, fun a ha b hb => ?_⟩
            · have := hxB b hb; unfold ltK at *; exact this
            · rcases List.mem_cons.1 hb with rfl | hb
              · have := hAB a ha y (by simp); unfold ltK at *; exact this
              · exact hAB a ha b (by simp [hb])
        · rw [if_neg hf, if_neg hf]
          exact .inl ⟨rfl, rfl⟩
    · have c2 : ltK e x := by unfold ltK sameK at *; omega
      refine new (e :: x :: B) (fun y hy => ?_) ?_ rfl (fun y hy => ?_)
      · rcases List.mem_cons.1 hy with rfl | hy
        · exact c
        · exact noB y hy
      · rw [addD_cons, if_neg c, if_pos ⟨rfl, by unfold gtK; unfold ltK at c2; omega⟩, addD_true noB]; rfl
      · rcases List.mem_cons.1 hy with rfl | hy
        · exact c2
        · have := hxB y hy; unfold ltK at *; omega
def stepD (o : Option (List Ed)) (x : Ed) : Option (List Ed) := match o with
  | none => none
  | some S => if x.1 = x.2.1 then some S else addD (normE x) false S
def mergeD (l : List Ed) : Option (List Ed) := l.foldl stepD (some [])
theorem stepD_none : ∀ l : List Ed, l.foldl stepD none = none
  | [] => rfl
  | x :: l => stepD_none l
theorem mergeD_snoc (l : List Ed) (x : Ed) : mergeD (l ++ [x]) = stepD (mergeD l) x := by unfold mergeD; rw [List.foldl_append]; rfl
theorem mergeD_none {l : List Ed} {i : Nat} (h : mergeD (l.take i) = none) : mergeD l = none := by
  unfold mergeD at *
  rw [show l = l.take i ++ l.drop i from (List.take_append_drop i l).symm, List.foldl_append, h]; exact stepD_none _
theorem fold_PD : ∀ (l : List Ed) (P S : List Ed), P.Perm S → Up S →
    (l.foldl stepP (some P) = none ∧ l.foldl stepD (some S) = none) ∨ ∃ P' S', l.foldl stepP (some P) = some P' ∧ l.foldl stepD (some S) = some S' ∧ P'.Perm S' ∧ Up S'
  | [], P, S, p, up => .inr ⟨P, S, rfl, rfl, p, up⟩
  | x :: l, P, S, p, up => by
    simp only [List.foldl_cons, stepP, stepD]
    by_cases c : x.1 = x.2.1
    · rw [if_pos ((normE_eq x).2 c), if_pos c]
      exact fold_PD l P S p up
    · rw [if_neg (fun h => c ((normE_eq x).1 h)), if_neg c]
      rcases addP_addD (e := normE x) p up with ⟨h1, h2⟩ | ⟨P', S', h1, h2, p', up'⟩
      · rw [h1, h2]; exact .inl ⟨step_none l, stepD_none l⟩
      · rw [h1, h2]; exact fold_PD l P' S' p' up'
theorem merge_both (l : List Ed) : (mergeP l = none ∧ mergeD l = none) ∨ ∃ P S, mergeP l = some P ∧ mergeD l = some S ∧ P.Perm S ∧ Up S := fold_PD l [] [] (.refl _) List.Pairwise.nil
theorem sort_filter {P S : List Ed} (p : P.Perm S) (up : Up S) : sortEd (P.filter nz) = S.filter nz := by
  refine sortEd_one (p.filter nz) ((up.filter nz).imp fun h => ?_)
  unfold ltEd; unfold ltK at h; omega
theorem addD_fits {e : Ed} (he : fits e.2.2) : ∀ {S T : List Ed} {d : Bool}, fitsL S → addD e d S = some T → fitsL T ∧ T.length ≤ S.length + (if d then 0 else 1)
  | [], T, d, _, h => by
    simp only [addD, Option.some.injEq] at h; subst h
    cases d
    · exact ⟨fun x hx => by simp only [Bool.false_eq_true, if_false, List.mem_singleton] at hx; subst hx; exact he, by simp⟩
    · exact ⟨fun x hx => by simp at hx, by simp⟩
  | x :: r, T, d, hP, h => by
    have hr : fitsL r := fun y hy => hP y (by simp [hy])
    rw [addD_cons] at h
    split at h
    · split at h
      · rename_i hf
        obtain ⟨t, ht, rfl⟩ := Option.map_eq_some_iff.1 h
        obtain ⟨h1, h2⟩ := addD_fits he hr ht
        exact ⟨fun y hy => by rcases List.mem_cons.1 hy with rfl | hy; exact hf; exact h1 y hy, by simp at h2 ⊢; omega⟩
      · cases h
    · split at h
      · rename_i hd
        obtain ⟨t, ht, rfl⟩ := Option.map_eq_some_iff.1 h
        obtain ⟨h1, h2⟩ := addD_fits he hr ht
        exact ⟨fun y hy => by
          rcases List.mem_cons.1 hy with rfl | hy
          · exact he
          rcases List.mem_cons.1 hy with rfl | hy
          · exact hP _ (by simp)
          · exact h1 y hy, by rw [hd.1]; simp at h2 ⊢; omega⟩
      · obtain ⟨t, ht, rfl⟩ := Option.map_eq_some_iff.1 h
        obtain ⟨h1, h2⟩ := addD_fits he hr ht
        exact ⟨fun y hy => by rcases List.mem_cons.1 hy with rfl | hy; exact hP _ (by simp); exact h1 y hy, by simp only [List.length_cons]; omega⟩

section
variable {h0 : Base} {R : Rws}
theorem rmerge_l0 {K0 : Heap → Prop} {K2 : Option Addr → Nat → Nat → Heap → Prop} {b k cl : Nat} {q : Option Addr} {l : List Ed} (hl : l.length = k) (hb : k < 2 ^ 30) (hw : fitsL l) (kl : Keeps h0 R q (eV l))
    (hk0 : mergeD l = none → ∀ h', St h0 h' ((b, [.slice none 0 0, .bool false]) :: R) → K0 h')
    (hk2 : ∀ S, mergeD l = some S → ∀ h' q' c' X, S.length ≤ k → Own3 q' c' S X → St h0 h' (X ++ (b, [.slice none 0 0, .bool false]) :: R) → K2 q' S.length c' h') :
    ∀ (d i : Nat) (h : Heap) (S : List Ed) (q' : Option Addr) (c' : Nat) (X : Rws), i + d = k → mergeD (l.take i) = some S → fitsL S → S.length ≤ i → Own3 q' c' S X → St h0 h (X ++ (b, [.slice none 0 0, .bool false]) :: R) →
      straitref15_Merge.l0 K0 K2 (d + 1) q k cl ⟨b, 0, none⟩ q' S.length c' (i : Int) h
  | 0, i, h, S, q', c', X, hi, hm, hfs, hls, o, s => by
    unfold straitref15_Merge.l0 straitref15_Merge.b0
    rw [List.take_of_length_le (by omega)] at hm
    exact iteB_neg (decide_eq_false (by omega)) (hk2 S hm h q' c' X (by omega) o s)
  | d + 1, i, h, S, q', c', X, hi, hm, hfs, hls, o, s => by
    unfold straitref15_Merge.l0 straitref15_Merge.b0
    obtain ⟨⟨u, v, w⟩, hx⟩ := get_lt (l := l) (i := i) (by omega)
    have hwx : fits w := hw _ (List.mem_of_getElem? hx)
    have vl : valsAt h q (eV l) := (kl.cons (y := (b, _))).at1 s
    have v1 : ∀ {G : Int → Prop}, (chkP q fun a' => ∃ y : Int, cell h ((a'.add (i * 3)).add 1) = some (.int .i64 y) ∧ G y) = G v := by
      intro G; simp only [addr_add]; exact vals_int vl (eV_get1 hx)
    have ms : mergeD (l.take (i + 1)) = stepD (some S) (u, v, w) := by rw [take_snoc hx, mergeD_snoc, hm]
    simp only [stepD] at ms
    refine iteB_pos (decide_eq_true (by omega)) ?_
    simp -zeta (disch := omega) only [chkP_some, iteB_true, iteB_false, add_mk, Nat.zero_add, Nat.add_zero, Nat.mul_one, Nat.reduceAdd, Int.toNat_natCast, ex_int, ex_slice, ex_ptr, ex_bool, ex_str, ex_flt, ex_any, bnd_in, List.getElem?_cons_zero, List.getElem?_cons_succ, List.set_cons_zero, List.set_cons_succ, List.cons_append, List.nil_append, bne_self_eq_false, beq_self_eq_true, Bool.not_true, Bool.not_false, Option.isNone_some, Option.isNone_none, eq_self, true_and, and_true, and_self, vals_int vl (eV_get0 hx), v1, vals_edge vl hx]
    refine iteB_intro (fun c => ?_) (fun c => ?_)
    · have c : ¬ u = v := by simpa using c
      rw [if_neg c] at ms
      have hwn : fits (normE (u, v, w)).2.2 := by rw [normE_w]; exact hwx
      refine callP3.self (RNormal_of (e := (u, v, w)) s fun h2 s2 => callP4.self (RAdd_of (e := normE (u, v, w)) rfl (by omega) hfs hwn (o.keeps fun x hx => by simp [hx]) s2 (fun no h3 s3 => ?_) (fun T hT h3 q2 c2 Y o3 s3 => ?_)))
      · refine s3.new_ fun b5 h4 s4 => s4.st0 (by simp) fun h5 s5 => ?_
        simp -zeta only [chkP_some, iteB_true, iteB_false, add_mk, Nat.zero_add, Nat.add_zero, Nat.mul_one, Nat.reduceAdd, Int.toNat_natCast, ex_int, ex_slice, ex_ptr, ex_bool, ex_str, ex_flt, ex_any, bnd_in, List.getElem?_cons_zero, List.getElem?_cons_succ, List.set_cons_zero, List.set_cons_succ, List.cons_append, List.nil_append, bne_self_eq_false, beq_self_eq_true, Bool.not_true, Bool.not_false, Option.isNone_some, Option.isNone_none, eq_self, true_and, and_true, and_self]
        refine s5.st0 (by simp) fun h6 s6 => ?_
        simp -zeta (disch := omega) only [chkP_some, iteB_true, iteB_false, add_mk, Nat.zero_add, Nat.add_zero, Nat.mul_one, Nat.reduceAdd, Int.toNat_natCast, ex_int, ex_slice, ex_ptr, ex_bool, ex_str, ex_flt, ex_any, bnd_in, List.getElem?_cons_zero, List.getElem?_cons_succ, List.set_cons_zero, List.set_cons_succ, List.cons_append, List.nil_append, bne_self_eq_false, beq_self_eq_true, Bool.not_true, Bool.not_false, Option.isNone_some, Option.isNone_none, eq_self, true_and, and_true, and_self, s6.rd0]
        have s6 := s6.tail
        refine St.st s6 (by simp) fun h7 s7 => ?_
        try simp -zeta only [chkP_some, iteB_true, iteB_false, add_mk, Nat.zero_add, Nat.add_zero, Nat.mul_one, Nat.reduceAdd, Int.toNat_natCast, ex_int, ex_slice, ex_ptr, ex_bool, ex_str, ex_flt, ex_any, bnd_in, List.getElem?_cons_zero, List.getElem?_cons_succ, List.set_cons_zero, List.set_cons_succ, List.cons_append, List.nil_append, bne_self_eq_false, beq_self_eq_true, Bool.not_true, Bool.not_false, Option.isNone_some, Option.isNone_none, eq_self, true_and, and_true, and_self]
        refine St.st s7 (by simp) fun h8 s8 => ?_
        refine hk0 (mergeD_none (i := i + 1) (by rw [ms]; exact no)) h8 s8.drop
      · refine s3.new_ fun b5 h4 s4 => s4.st0 (by simp) fun h5 s5 => ?_
        simp -zeta only [chkP_some, iteB_true, iteB_false, add_mk, Nat.zero_add, Nat.add_zero, Nat.mul_one, Nat.reduceAdd, Int.toNat_natCast, ex_int, ex_slice, ex_ptr, ex_bool, ex_str, ex_flt, ex_any, bnd_in, List.getElem?_cons_zero, List.getElem?_cons_succ, List.set_cons_zero, List.set_cons_succ, List.cons_append, List.nil_append, bne_self_eq_false, beq_self_eq_true, Bool.not_true, Bool.not_false, Option.isNone_some, Option.isNone_none, eq_self, true_and, and_true, and_self]
        refine s5.st0 (by simp) fun h6 s6 => ?_
        simp -zeta (disch := omega) only [chkP_some, iteB_true, iteB_false, add_mk, Nat.zero_add, Nat.add_zero, Nat.mul_one, Nat.reduceAdd, Int.toNat_natCast, ex_int, ex_slice, ex_ptr, ex_bool, ex_str, ex_flt, ex_any, bnd_in, List.getElem?_cons_zero, List.getElem?_cons_succ, List.set_cons_zero, List.set_cons_succ, List.cons_append, List.nil_append, bne_self_eq_false, beq_self_eq_true, Bool.not_true, Bool.not_false, Option.isNone_some, Option.isNone_none, eq_self, true_and, and_true, and_self, s6.rd0]
        obtain ⟨hf2, hl2⟩ := addD_fits hwn hfs hT
        have hl2 : T.length ≤ S.length + 1 := hl2
        rw [wrap64 (by omega) (by omega)]
        exact rmerge_l0 hl hb hw kl hk0 hk2 d (i + 1) h6 T q2 c2 Y (by omega) (by rw [ms]; exact hT) hf2 (by omega) o3 ((St.re s6 (by intro a; simp only [cntR_append, cntR_cons, cntR_nil, List.cons_append, List.nil_append, List.set_cons_zero, List.set_cons_succ]; omega)))
    · have c : u = v := by simpa using c
      rw [if_pos c] at ms
      rw [wrap64 (by omega) (by omega)]
      exact rmerge_l0 hl hb hw kl hk0 hk2 d (i + 1) h S q' c' X (by omega) ms hfs (by omega) o s
theorem rmerge_l1 {K4 : Option Addr → Nat → Nat → Heap → Prop} {b k cl : Nat} {q : Option Addr} {l : List Ed} {c0 : List Value} (hl : l.length = k) (hb : k < 2 ^ 30) (kl : Keeps h0 R q (eV l))
    (hk : ∀ h' q' c' X, Own3 q' c' (l.filter nz) X → St h0 h' (X ++ (b, c0) :: R) → K4 q' (l.filter nz).length c' h') :
    ∀ (d i : Nat) (h : Heap) (q' : Option Addr) (c' : Nat) (X : Rws), i + d = k → Own3 q' c' ((l.take i).filter nz) X → St h0 h (X ++ (b, c0) :: R) → straitref15_Merge.l1 K4 (d + 1) ⟨b, 0, none⟩ q k cl q' ((l.take i).filter nz).length c' (i : Int) h
  | 0, i, h, q', c', X, hi, o, s => by
    unfold straitref15_Merge.l1 straitref15_Merge.b1
    rw [List.take_of_length_le (by omega)] at o ⊢
    exact iteB_neg (decide_eq_false (by omega)) (hk h q' c' X o s)
  | d + 1, i, h, q', c', X, hi, o, s => by
    unfold straitref15_Merge.l1 straitref15_Merge.b1
    obtain ⟨⟨u, v, w⟩, hx⟩ := get_lt (l := l) (i := i) (by omega)
    have vl : valsAt h q (eV l) := (kl.cons (y := (b, _))).at1 s
    have ht : (l.take (i + 1)).filter nz = (l.take i).filter nz ++ [(u, v, w)].filter nz := by rw [take_snoc hx, List.filter_append]
    have hlen : ((l.take i).filter nz).length ≤ i := Nat.le_trans (List.length_filter_le _ _) (by rw [List.length_take]; omega)
    refine iteB_pos (decide_eq_true (by omega)) ?_
    simp -zeta (disch := omega) only [chkP_some, iteB_true, iteB_false, add_mk, Nat.zero_add, Nat.add_zero, Nat.mul_one, Nat.reduceAdd, Int.toNat_natCast, ex_int, ex_slice, ex_ptr, ex_bool, ex_str, ex_flt, ex_any, bnd_in, List.getElem?_cons_zero, List.getElem?_cons_succ, List.set_cons_zero, List.set_cons_succ, List.cons_append, List.nil_append, bne_self_eq_false, beq_self_eq_true, Bool.not_true, Bool.not_false, Option.isNone_some, Option.isNone_none, eq_self, true_and, and_true, and_self, vals_edge2 vl hx, vals_edge vl hx]
    refine iteB_intro (fun c => ?_) (fun c => ?_)
    · have c : w ≠ 0 := by simpa using c
      rw [show [(u, v, w)].filter nz = [(u, v, w)] by simp [nz, c]] at ht
      refine Own3.push1 o s rfl (by omega) fun q2 c2 X2 h2 o2 s2 => ?_
      rw [wrap64 (by omega) (by omega)]
      rw [← ht] at o2
      rw [show ((l.take i).filter nz).length + 1 = ((l.take (i + 1)).filter nz).length by rw [ht]; simp]
      exact rmerge_l1 hl hb kl hk d (i + 1) h2 q2 c2 X2 (by omega) o2 s2
    · have c : w = 0 := by simpa using c
      rw [show [(u, v, w)].filter nz = [] by simp [nz, c], List.append_nil] at ht
      rw [wrap64 (by omega) (by omega)]
      rw [← ht] at o ⊢
      exact rmerge_l1 hl hb kl hk d (i + 1) h q' c' X (by omega) o s
theorem RMerge_of {h : Heap} {k cl : Nat} {q : Option Addr} {l : List Ed} {K : Option Addr → Nat → Nat → Bool → Heap → Prop} (hl : l.length = k) (hb : k < 2 ^ 30) (hw : fitsL l) (kl : Keeps h0 R q (eV l)) (s : St h0 h R)
    (hk0 : mergeD l = none → ∀ h', St h0 h' R → K none 0 0 false h')
    (hk : ∀ S, mergeD l = some S → ∀ h' q c X, Own3 q c (S.filter nz) X → St h0 h' (X ++ R) → K q (S.filter nz).length c true h') : straitref15_Merge q k cl h K := by
  unfold straitref15_Merge
  refine s.new_ fun b h1 s1 => ⟨k + 1, rmerge_l0 hl hb hw kl (fun no h2 s2 => ?_) (fun S hS h2 q' c' X hSl o s2 => ?_) k 0 h1 [] none 0 [] (by omega) rfl (fun x hx => by cases hx) (by simp) Own3.nil s1⟩
  · try simp -zeta (disch := omega) only [chkP_some, iteB_true, iteB_false, add_mk, Nat.zero_add, Nat.add_zero, Nat.mul_one, Nat.reduceAdd, Int.toNat_natCast, ex_int, ex_slice, ex_ptr, ex_bool, ex_str, ex_flt, ex_any, bnd_in, List.getElem?_cons_zero, List.getElem?_cons_succ, List.set_cons_zero, List.set_cons_succ, List.cons_append, List.nil_append, bne_self_eq_false, beq_self_eq_true, Bool.not_true, Bool.not_false, Option.isNone_some, Option.isNone_none, eq_self, true_and, and_true, and_self, s2.rd0]
    exact hk0 no h2 s2.tail
  · refine ⟨S.length + 1, rmerge_l1 (R := X ++ R) (b := b) (c0 := [.slice none 0 0, .bool false]) rfl (by omega) (o.keeps fun x hx => by simp [hx]) (fun h3 q3 c3 Y o3 s3 => ?_) S.length 0 h2 none 0 [] (by omega) Own3.nil ((St.re s2 (by intro a; simp only [cntR_append, cntR_cons, cntR_nil, List.cons_append, List.nil_append, List.set_cons_zero, List.set_cons_succ]; omega)))⟩
    refine St.st s3 (by simp) fun h4 s4 => ?_
    try simp -zeta only [chkP_some, iteB_true, iteB_false, add_mk, Nat.zero_add, Nat.add_zero, Nat.mul_one, Nat.reduceAdd, Int.toNat_natCast, ex_int, ex_slice, ex_ptr, ex_bool, ex_str, ex_flt, ex_any, bnd_in, List.getElem?_cons_zero, List.getElem?_cons_succ, List.set_cons_zero, List.set_cons_succ, List.cons_append, List.nil_append, bne_self_eq_false, beq_self_eq_true, Bool.not_true, Bool.not_false, Option.isNone_some, Option.isNone_none, eq_self, true_and, and_true, and_self]
    refine St.st s4 (by simp) fun h5 s5 => ?_
    simp only [List.set_cons_zero, List.set_cons_succ, Nat.zero_add] at s5
    have r0 : ∀ j, cell h5 ⟨b, j, none⟩ = [Value.slice q3 (S.filter nz).length c3, .bool true][j]? := s5.rd (by simp)
    simp -zeta (disch := omega) only [chkP_some, iteB_true, iteB_false, add_mk, Nat.zero_add, Nat.add_zero, Nat.mul_one, Nat.reduceAdd, Int.toNat_natCast, ex_int, ex_slice, ex_ptr, ex_bool, ex_str, ex_flt, ex_any, bnd_in, List.getElem?_cons_zero, List.getElem?_cons_succ, List.set_cons_zero, List.set_cons_succ, List.cons_append, List.nil_append, bne_self_eq_false, beq_self_eq_true, Bool.not_true, Bool.not_false, Option.isNone_some, Option.isNone_none, eq_self, true_and, and_true, and_self, r0]
    exact hk S hS h5 q3 c3 Y o3 ((St.re s5 (by intro a; simp only [cntR_append, cntR_cons, cntR_nil, List.cons_append, List.nil_append, List.set_cons_zero, List.set_cons_succ]; omega)))

end
end Go.Proofs.YtokemibmanjpmaaGreatDoor

namespace Go.Proofs.YtokemibmanjpmaaGreatDoor
set_option linter.unusedVariables false
set_option linter.unusedSimpArgs false
set_option linter.unnecessarySimpa false
open Go.Hp Go.RowKit

def tsum (f : Ed → Int) : List Ed → Int
  | [] => 0
  | x :: l => f x + tsum f l
theorem tsum_cons (f : Ed → Int) (x : Ed) (l : List Ed) : tsum f (x :: l) = f x + tsum f l := rfl
theorem tsum_app (f : Ed → Int) : ∀ l m : List Ed, tsum f (l ++ m) = tsum f l + tsum f m
  | [], m => by simp [tsum]
  | x :: l, m => by rw [List.cons_append, tsum_cons, tsum_cons, tsum_app f l m]; omega
theorem tsum_perm (f : Ed → Int) {l m : List Ed} (p : l.Perm m) : tsum f l = tsum f m := by
  induction p with
  | nil => rfl
  | cons x _ ih => rw [tsum_cons, tsum_cons, ih]
  | swap x y l => simp only [tsum_cons]; omega
  | trans _ _ i1 i2 => rw [i1, i2]
theorem tsum_filter (f : Ed → Int) (hf : ∀ x : Ed, x.2.2 = 0 → f x = 0) : ∀ l : List Ed, tsum f (l.filter nz) = tsum f l
  | [] => rfl
  | x :: l => by
    have ih := tsum_filter f hf l
    by_cases c : x.2.2 = 0
    · rw [List.filter_cons_of_neg (by simp [nz, c]), tsum_cons, hf x c, ih]; omega
    · rw [List.filter_cons_of_pos (by simp [nz, c]), tsum_cons, tsum_cons, ih]
theorem tsum_rep (f : Ed → Int) (x : Ed) : ∀ k : Nat, tsum f (List.replicate k x) = (k : Int) * f x
  | 0 => by simp [tsum]
  | k + 1 => by
    rw [List.replicate_succ, tsum_cons, tsum_rep f x k, Int.natCast_add, Int.add_mul]; simp only [Int.natCast_one, Int.one_mul]; omega
def wf_ (x : Ed) : Int := x.2.2
def kf (u v : Int) (x : Ed) : Int := if x.1 = u ∧ x.2.1 = v then x.2.2 else 0
abbrev kw (u v : Int) (l : List Ed) : Int := tsum (kf u v) l
abbrev wsum (l : List Ed) : Int := tsum wf_ l
def good (l : List Ed) : Prop := ∀ x ∈ l, 0 ≤ x.2.2
theorem good_sum : ∀ {l : List Ed}, good l → 0 ≤ wsum l
  | [], _ => Int.le_refl _
  | x :: l, h => by
    have h1 := good_sum (l := l) fun y hy => h y (by simp [hy])
    have h2 := h x (by simp)
    show 0 ≤ wf_ x + wsum l
    unfold wf_; omega
theorem good_le : ∀ {l : List Ed}, good l → ∀ x ∈ l, x.2.2 ≤ wsum l
  | y :: l, h, x, hx => by
    have h0 := h y (by simp)
    have h1 : good l := fun z hz => h z (by simp [hz])
    have h2 := good_sum h1
    show x.2.2 ≤ wf_ y + wsum l
    unfold wf_
    rcases List.mem_cons.1 hx with rfl | hx
    · omega
    · have := good_le h1 x hx; omega
theorem addP_all {e : Ed} (he : 0 ≤ e.2.2) : ∀ {P : List Ed}, good P → wsum P + e.2.2 ≤ 9223372036854775807 →
    ∃ Q, addP P e = some Q ∧ good Q ∧ wsum Q = wsum P + e.2.2 ∧ (∀ u v, kw u v Q = kw u v P + kf u v e) ∧ ((∀ x ∈ P, x.1 < x.2.1) → e.1 < e.2.1 → ∀ x ∈ Q, x.1 < x.2.1)
  | [], _, _ => ⟨[e], rfl, fun x hx => by simp only [List.mem_singleton] at hx; subst hx; exact he, by simp [wsum, tsum, wf_], fun u v => by simp [kw, tsum], fun _ h x hx => by simp only [List.mem_singleton] at hx; subst hx; exact h⟩
  | x :: P, hg, hs => by
    have hx := hg x (by simp)
    have hg' : good P := fun z hz => hg z (by simp [hz])
    have h0 := good_sum hg'
    have hs' : wf_ x + wsum P + e.2.2 ≤ 9223372036854775807 := hs
    rw [addP_cons]
    by_cases c : sameK x e
    · have hf : fits (x.2.2 + e.2.2) := by unfold fits; unfold wf_ at hs'; omega
      rw [if_pos c, if_pos hf]
      refine ⟨_, rfl, fun y hy => ?_, ?_, fun u v => ?_, fun hP _ y hy => ?_⟩
      · rcases List.mem_cons.1 hy with rfl | hy
        · simp only; omega
        · exact hg' y hy
      · simp only [wsum, tsum_cons, wf_]; omega
      · obtain ⟨c1, c2⟩ := c
        simp only [kw, tsum_cons, kf, c1, c2]
        split <;> omega
      · rcases List.mem_cons.1 hy with rfl | hy
        · exact hP x (by simp)
        · exact hP y (by simp [hy])
    · rw [if_neg c]
      obtain ⟨Q, h1, h2, h3, h4, h5⟩ := addP_all he hg' (by unfold wf_ at hs'; omega)
      rw [h1]
      refine ⟨x :: Q, rfl, fun y hy => ?_, ?_, fun u v => ?_, fun hP hlt y hy => ?_⟩
      · rcases List.mem_cons.1 hy with rfl | hy
        · exact hx
        · exact h2 y hy
      · simp only [wsum, tsum_cons] at h3 ⊢; omega
      · have := h4 u v
        simp only [kw, tsum_cons] at this ⊢; omega
      · rcases List.mem_cons.1 hy with rfl | hy
        · exact hP _ (by simp)
        · exact h5 (fun z hz => hP z (by simp [hz])) hlt y hy
theorem fold_all : ∀ (l P : List Ed), good P → good l → (∀ x ∈ P, x.1 < x.2.1) → wsum P + wsum l ≤ 9223372036854775807 →
    ∃ Q, l.foldl stepP (some P) = some Q ∧ good Q ∧ (∀ x ∈ Q, x.1 < x.2.1) ∧ wsum Q ≤ wsum P + wsum l ∧ ∀ u v, u < v → kw u v Q = kw u v P + kw u v (l.map normE)
  | [], P, hP, _, hu, _ => ⟨P, rfl, hP, hu, by simp [wsum, tsum], fun u v _ => by simp [kw, tsum]⟩
  | x :: l, P, hP, hl, hu, hs => by
    have hx := hl x (by simp)
    have hl' : good l := fun z hz => hl z (by simp [hz])
    have h0 := good_sum hl'
    have hs' : wsum P + (wf_ x + wsum l) ≤ 9223372036854775807 := hs
    unfold wf_ at hs'
    simp only [List.foldl_cons, stepP]
    by_cases c : (normE x).1 = (normE x).2.1
    · rw [if_pos c]
      obtain ⟨Q, h1, h2, h3, h4, h5⟩ := fold_all l P hP hl' hu (by omega)
      refine ⟨Q, h1, h2, h3, ?_, fun u v huv => ?_⟩
      · simp only [wsum, tsum_cons, wf_] at h4 ⊢; omega
      · rw [h5 u v huv, List.map_cons]
        simp only [kw, tsum_cons]
        rw [show kf u v (normE x) = 0 from if_neg (by omega)]; omega
    · rw [if_neg c]
      have hw := normE_w x
      obtain ⟨P', g1, g2, g3, g4, g5⟩ := addP_all (e := normE x) (by omega) hP (by omega)
      rw [g1]
      obtain ⟨Q, h1, h2, h3, h4, h5⟩ := fold_all l P' g2 hl' (g5 hu (by have := normE_le x; omega)) (by omega)
      refine ⟨Q, h1, h2, h3, ?_, fun u v huv => ?_⟩
      · simp only [wsum, tsum_cons, wf_] at h4 g3 ⊢; omega
      · rw [h5 u v huv, g4 u v, List.map_cons]
        simp only [kw, tsum_cons]
        omega

/-- In order, in normal form, and each weighs something. -/
def Canon (M : List Ed) : Prop := Up M ∧ ∀ x ∈ M, x.1 < x.2.1 ∧ x.2.2 ≠ 0
theorem kw_up {x : Ed} : ∀ {M : List Ed}, (∀ y ∈ M, ltK x y) → kw x.1 x.2.1 M = 0
  | [], _ => rfl
  | y :: M, h => by
    have hy := h y (by simp)
    show kf _ _ y + kw _ _ M = 0
    rw [kw_up fun z hz => h z (by simp [hz]), show kf x.1 x.2.1 y = 0 from if_neg (by unfold ltK at hy; omega)]; rfl
theorem kw_head {x : Ed} {M : List Ed} (h : ∀ y ∈ M, ltK x y) : kw x.1 x.2.1 (x :: M) = x.2.2 := by
  show kf _ _ x + kw _ _ M = _
  rw [kw_up h, show kf x.1 x.2.1 x = x.2.2 from if_pos ⟨rfl, rfl⟩]; omega
theorem canon_one : ∀ {M N : List Ed}, Canon M → Canon N → (∀ u v, u < v → kw u v M = kw u v N) → M = N
  | [], [], _, _, _ => rfl
  | [], y :: N, _, hN, h => by
    obtain ⟨h1, h2⟩ := hN.2 y (by simp)
    have := h _ _ h1
    rw [kw_head fun z hz => List.rel_of_pairwise_cons hN.1 hz] at this
    exact absurd this.symm h2
  | x :: M, [], hM, _, h => by
    obtain ⟨h1, h2⟩ := hM.2 x (by simp)
    have := h _ _ h1
    rw [kw_head fun z hz => List.rel_of_pairwise_cons hM.1 hz] at this
    exact absurd this h2
  | x :: M, y :: N, hM, hN, h => by
    have hx : ∀ z ∈ M, ltK x z := fun z hz => List.rel_of_pairwise_cons hM.1 hz
    have hy : ∀ z ∈ N, ltK y z := fun z hz => List.rel_of_pairwise_cons hN.1 hz
    obtain ⟨x1, x2⟩ := hM.2 x (by simp)
    obtain ⟨y1, y2⟩ := hN.2 y (by simp)
    have c1 : ¬ ltK x y := fun c => by
      have := h _ _ x1
      rw [kw_head hx, kw_up fun z hz => by
        rcases List.mem_cons.1 hz with rfl | hz
        · exact c
        · have := hy z hz; unfold ltK at *; omega] at this
      exact x2 this
    have c2 : ¬ ltK y x := fun c => by
      have := h _ _ y1
      rw [kw_head hy, kw_up fun z hz => by
        rcases List.mem_cons.1 hz with rfl | hz
        · exact c
        · have := hx z hz; unfold ltK at *; omega] at this
      exact y2 this.symm
    have e1 : x.1 = y.1 := by unfold ltK at c1 c2; omega
    have e2 : x.2.1 = y.2.1 := by unfold ltK at c1 c2; omega
    have e3 := h _ _ x1
    rw [kw_head hx, e1, e2, kw_head hy] at e3
    have e : x = y := Prod.ext e1 (Prod.ext e2 e3)
    subst e
    rw [canon_one (M := M) (N := N) ⟨hM.1.of_cons, fun z hz => hM.2 z (by simp [hz])⟩ ⟨hN.1.of_cons, fun z hz => hN.2 z (by simp [hz])⟩ fun u v huv => ?_]
    have := h u v huv
    simp only [kw, tsum_cons] at this ⊢; omega

/-- What edges come to. -/
structure Merged (l M : List Ed) : Prop where
  canon : Canon M
  good : good M
  sum : wsum M ≤ wsum l
  kw : ∀ u v, u < v → kw u v M = kw u v (l.map normE)
theorem merged {l : List Ed} (hg : good l) (hs : wsum l ≤ 9223372036854775807) : ∃ P, mergeP l = some P ∧ Merged l (sortEd (P.filter nz)) := by
  obtain ⟨P, h1, h2, h3, h4, h5⟩ := fold_all l [] (fun x hx => by cases hx) hg (fun x hx => by cases hx) (by simpa [wsum, tsum] using hs)
  refine ⟨P, h1, ?_⟩
  rcases merge_both l with ⟨g, _⟩ | ⟨P', S, g, gS, p, up⟩
  · rw [show mergeP l = some P from h1] at g; cases g
  rw [show mergeP l = some P from h1] at g
  obtain rfl := Option.some.inj g
  rw [sort_filter p up]
  have mem : ∀ x ∈ S.filter nz, x ∈ P ∧ x.2.2 ≠ 0 := fun x hx => by
    obtain ⟨a, b⟩ := List.mem_filter.1 hx
    exact ⟨p.mem_iff.2 a, by simpa [nz] using b⟩
  refine ⟨⟨up.filter nz, fun x hx => ⟨h3 x (mem x hx).1, (mem x hx).2⟩⟩, fun x hx => h2 x (mem x hx).1, ?_, fun u v huv => ?_⟩
  · rw [show wsum (S.filter nz) = wsum P from (tsum_filter wf_ (fun x hx => hx) S).trans (tsum_perm _ p).symm]
    simpa [wsum, tsum] using h4
  · rw [show kw u v (S.filter nz) = kw u v P from (tsum_filter (kf u v) (fun x hx => by unfold kf; split <;> simp [hx]) S).trans (tsum_perm _ p).symm, h5 u v huv]
    simp [kw, tsum]
end Go.Proofs.YtokemibmanjpmaaGreatDoor

namespace Go.Proofs.YtokemibmanjpmaaGreatDoor
set_option linter.unusedVariables false
set_option linter.unusedSimpArgs false
set_option linter.unnecessarySimpa false
open Go.Hp Go.RowKit

theorem tsum_ne {f : Ed → Int} : ∀ {l : List Ed}, tsum f l ≠ 0 → ∃ y ∈ l, f y ≠ 0
  | [], h => absurd rfl h
  | x :: l, h => by
    by_cases c : f x = 0
    · rw [tsum_cons, c, Int.zero_add] at h
      obtain ⟨y, h1, h2⟩ := tsum_ne h
      exact ⟨y, by simp [h1], h2⟩
    · exact ⟨x, by simp, c⟩
theorem tsum_nonneg {f : Ed → Int} : ∀ {l : List Ed}, (∀ x ∈ l, 0 ≤ f x) → 0 ≤ tsum f l
  | [], _ => Int.le_refl _
  | x :: l, h => by
    have h1 := tsum_nonneg (l := l) fun y hy => h y (by simp [hy])
    have h2 := h x (by simp)
    rw [tsum_cons]; omega
theorem tsum_mem_le {f : Ed → Int} : ∀ {l : List Ed}, (∀ x ∈ l, 0 ≤ f x) → ∀ x ∈ l, f x ≤ tsum f l
  | y :: l, h, x, hx => by
    have h0 := h y (by simp)
    have h1 : ∀ z ∈ l, 0 ≤ f z := fun z hz => h z (by simp [hz])
    have h2 := tsum_nonneg h1
    rw [tsum_cons]
    rcases List.mem_cons.1 hx with rfl | hx
    · omega
    · have := tsum_mem_le h1 x hx; omega
/-- Edges that may be. -/
def Chk (n : Int) (l : List Ed) : Prop := ∀ e ∈ l, 0 ≤ e.1 ∧ e.1 < n ∧ 0 ≤ e.2.1 ∧ e.2.1 < n ∧ 0 ≤ e.2.2 ∧ e.2.2 ≤ 2147483648
theorem chks_ok {n : Int} : ∀ {l : List Ed} {i : Nat}, (chksE n i l).1 = 0 → Chk n l
  | [], _, _ => fun e he => by cases he
  | x :: l, i, h => by
    unfold chksE at h
    by_cases c : chkE n x = 0
    · rw [if_neg (by simpa using c)] at h
      have ih := chks_ok h
      intro e he
      rcases List.mem_cons.1 he with rfl | he
      · unfold chkE at c
        split at c
        · omega
        · split at c
          · omega
          · omega
      · exact ih e he
    · rw [if_pos c] at h; exact absurd h c
theorem wsum_le {n : Int} : ∀ {l : List Ed}, Chk n l → wsum l ≤ 2147483648 * (l.length : Int)
  | [], _ => by simp [wsum, tsum]
  | x :: l, h => by
    have h1 := wsum_le (l := l) fun y hy => h y (by simp [hy])
    have h2 := h x (by simp)
    show wf_ x + wsum l ≤ _
    unfold wf_
    simp only [List.length_cons]; omega
theorem fold_len : ∀ (l P Q : List Ed), fitsL P → fitsL l → l.foldl stepP (some P) = some Q → Q.length ≤ P.length + l.length
  | [], P, Q, _, _, h => by
    have : P = Q := Option.some.inj h
    subst this; simp
  | x :: l, P, Q, hP, hl, h => by
    have hl' : fitsL l := fun y hy => hl y (by simp [hy])
    have hx := hl x (by simp)
    simp only [List.foldl_cons, stepP] at h
    by_cases c : (normE x).1 = (normE x).2.1
    · rw [if_pos c] at h
      have := fold_len l P Q hP hl' h
      simp only [List.length_cons]; omega
    · rw [if_neg c] at h
      cases e : addP P (normE x) with
      | none => rw [e, step_none] at h; cases h
      | some P' =>
        rw [e] at h
        obtain ⟨f1, f2⟩ := addP_fits (e := normE x) (by rw [normE_w]; exact hx) hP e
        have := fold_len l P' Q f1 hl' h
        simp only [List.length_cons]; omega
theorem normE_key (e : Ed) : ((normE e).1 = e.1 ∧ (normE e).2.1 = e.2.1) ∨ ((normE e).1 = e.2.1 ∧ (normE e).2.1 = e.1) := by
  unfold normE; split
  · exact .inr ⟨rfl, rfl⟩
  · exact .inl ⟨rfl, rfl⟩
/-- The edges of a graph. -/
structure Gr (n : Nat) (L : List Ed) : Prop where
  canon : Canon L
  range : ∀ e ∈ L, 0 ≤ e.1 ∧ e.1 < e.2.1 ∧ e.2.1 < n ∧ 0 < e.2.2
  sum : wsum L ≤ 2147483648 * 1048576
  len : L.length ≤ 1048576
theorem Chk.fit {n : Int} {l : List Ed} (c : Chk n l) : fitsL l := fun e he => by have := c e he; unfold fits; omega
theorem gr {n : Nat} {l : List Ed} (c : Chk n l) (hl : l.length ≤ 1048576) : ∃ P S, mergeP l = some P ∧ mergeD l = some S ∧ sortEd (P.filter nz) = S.filter nz ∧ (P.filter nz).length = (S.filter nz).length ∧ Gr n (S.filter nz) := by
  have hg : good l := fun x hx => (c x hx).2.2.2.2.1
  have hs := wsum_le c
  obtain ⟨P, h1, m⟩ := merged hg (by omega)
  rcases merge_both l with ⟨g, _⟩ | ⟨P', S, g, gS, p, up⟩
  · rw [h1] at g; cases g
  rw [h1] at g
  obtain rfl := Option.some.inj g
  rw [sort_filter p up] at m
  have hlen := fold_len l [] P (fun x hx => by cases hx) c.fit h1
  have pl : (P.filter nz).length = (S.filter nz).length := (p.filter nz).length_eq
  refine ⟨P, S, h1, gS, sort_filter p up, pl, m.canon, fun e he => ?_, Int.le_trans m.sum (by omega), ?_⟩
  · have hc := m.canon.2 e he
    have hge := m.good e he
    have hpos : 0 < kw e.1 e.2.1 (S.filter nz) := by
      have h2 : kf e.1 e.2.1 e = e.2.2 := if_pos ⟨rfl, rfl⟩
      have := tsum_mem_le (f := kf e.1 e.2.1) (l := S.filter nz) (fun x hx => by unfold kf; split; exact m.good x hx; omega) e he
      rw [h2] at this
      have : e.2.2 ≤ kw e.1 e.2.1 (S.filter nz) := this
      omega
    rw [m.kw _ _ hc.1] at hpos
    obtain ⟨y, hy, hf⟩ := tsum_ne (f := kf e.1 e.2.1) (l := l.map normE) (by have h9 : kw e.1 e.2.1 (l.map normE) ≠ 0 := by omega
                                                                             exact h9)
    obtain ⟨x, hx, rfl⟩ := List.mem_map.1 hy
    have hk : (normE x).1 = e.1 ∧ (normE x).2.1 = e.2.1 := by
      apply Classical.byContradiction
      intro no
      exact hf (if_neg no)
    have hr := c x hx
    rcases normE_key x with ⟨a, b⟩ | ⟨a, b⟩ <;> exact ⟨by omega, hc.1, by omega, by omega⟩
  · have := List.length_filter_le nz P
    rw [← pl]; simp at hlen; omega
end Go.Proofs.YtokemibmanjpmaaGreatDoor

namespace Go.Proofs.YtokemibmanjpmaaGreatDoor
set_option linter.unusedVariables false
set_option linter.unusedSimpArgs false
set_option linter.unnecessarySimpa false
open Go.Hp Go.RowKit
attribute [local irreducible] Go.Hp.iteB Go.Hp.stC Go.Hp.newP

theorem natV_ints (l : List Nat) : natV l = (l.map fun v : Nat => (v : Int)).map (Value.int .i64) := by simp [natV]
/-! ### The library's sort -/
def sortN (l : List Nat) : List Nat := l.mergeSort fun x y => decide (x ≤ y)
theorem sortN_len (l : List Nat) : (sortN l).length = l.length := List.length_mergeSort ..
theorem SortN_of {h0 : Base} {h : Heap} {q : Option Addr} {c n : Nat} {l : List Nat} {X R : Rws} {K : Heap → Prop} (hn : l.length = n) (hn2 : n < 2 ^ 40) (o : Hp.Own q c (natV l) X) (s : St h0 h (X ++ R))
    (hk : ∀ X' h', Hp.Own q c (natV (sortN l)) X' → St h0 h' (X' ++ R) → K h') : slices_Sort_Lint_int q n c h K := by
  intro w hw
  subst hw
  refine ⟨enters_of Tryz.func52 (by kernel_rfl) rfl _ _, ?_⟩
  rcases o with ⟨rfl, rfl, hl, rfl⟩ | ⟨b, z, rfl, hc2, rfl⟩
  · have hl : l = [] := by simpa [natV] using hl
    subst hl
    have hn : n = 0 := by simpa using hn.symm
    subst hn
    refine (AnyG.slices_Sort_int_none Tryz.sortI _ _ w).mono ?_
    rintro e w' ⟨rfl, rfl⟩
    exact ⟨_, rfl, Out.refl _, hk [] _ (by simpa [sortN, natV] using Hp.Own.nil) s⟩
  · obtain ⟨d, hd⟩ : ∃ d : List Int, d = l.map fun v : Nat => (v : Int) := ⟨_, rfl⟩
    have hd2 : d.toArray.toList.map (Value.int .i64) = natV l := by rw [hd, natV_ints]
    have hsz : d.length = n := by rw [hd]; simpa using hn
    have s' : St h0 w.heap ((b, d.toArray.toList.map (Value.int .i64) ++ z) :: R) := by rw [hd2]; exact s
    have hH := holds_row (enc := Value.int .i64) (d := d.toArray) (z := z) (s'.rows (b, d.toArray.toList.map (Value.int .i64) ++ z) (by simp))
    have hlt := (s'.rows (b, d.toArray.toList.map (Value.int .i64) ++ z) (by simp)).lt
    have HC := AnyG.slices_Sort_int Tryz.sortI b 0 c d w hH hlt (by omega)
    rw [hsz] at HC
    refine HC.mono ?_
    rintro e w' ⟨rfl, m, os, rfl⟩
    refine ⟨_, rfl, out_sorted (enc := Value.int .i64) (off := 0), ?_⟩
    have e1 : ((d.mergeSort fun x y => decide (x ≤ y)).toArray.toList.map (Value.int .i64)) = natV (sortN l) := by
      rw [natV_ints, sortN, hd]
      congr 1
      exact (List.map_mergeSort (fun a _ b _ => by simp)).symm
    have s2 := s'.sorted (n := m) (d' := (d.mergeSort fun x y => decide (x ≤ y)).toArray) (os := os) (by simp)
    rw [e1] at s2
    refine hk [(b, natV (sortN l) ++ z)] _ (.inr ⟨b, z, rfl, ?_, rfl⟩) s2
    rw [hc2]; simp [natV_len, sortN_len]

/-! ### Rows of neighbours -/
structure Nr where
  q : Option Addr
  cap : Nat
  l : List Nat
  X : Rws
def nrV (E : List Nr) : List Value := E.map fun e => .slice e.q e.l.length e.cap
def nrR (E : List Nr) : Rws := E.flatMap (·.X)
def nrL (E : List Nr) : List (List Nat) := E.map (·.l)
def nrOk (k : Nat) (E : List Nr) : Prop := ∀ e ∈ E, Hp.Own e.q e.cap (natV e.l) e.X ∧ e.l.length ≤ k
theorem nrV_len (E : List Nr) : (nrV E).length = E.length := by simp [nrV]
theorem nrV_mid (A : List Nr) (e : Nr) (B : List Nr) : nrV (A ++ e :: B) = nrV A ++ .slice e.q e.l.length e.cap :: nrV B := by simp [nrV]
theorem nrR_mid (A : List Nr) (e : Nr) (B : List Nr) : nrR (A ++ e :: B) = nrR A ++ (e.X ++ nrR B) := by simp [nrR]
theorem nrV_get {A : List Nr} {e : Nr} {B : List Nr} {a : Nat} (h : A.length = a) : (nrV (A ++ e :: B))[a]? = some (.slice e.q e.l.length e.cap) := by rw [nrV_mid]; exact lget_at (by rw [nrV_len]; exact h)
theorem nrV_set {A : List Nr} {e e' : Nr} {B : List Nr} {a : Nat} (h : A.length = a) : (nrV (A ++ e :: B)).set a (.slice e'.q e'.l.length e'.cap) = nrV (A ++ e' :: B) := by rw [nrV_mid, nrV_mid]; exact lset_at (by rw [nrV_len]; exact h)
theorem split_at {α : Type} {l : List α} {i : Nat} (h : i < l.length) : ∃ A x B, l = A ++ x :: B ∧ A.length = i := by
  refine ⟨l.take i, l[i], l.drop (i + 1), ?_, by simp; omega⟩
  rw [List.getElem_cons_drop, List.take_append_drop]
theorem nrOk.more {k m : Nat} {E : List Nr} (h : nrOk k E) (hm : k ≤ m) : nrOk m E := fun e he => ⟨(h e he).1, by have := (h e he).2; omega⟩

section
variable {h0 : Base} {Z : Rws} {n : Nat}
/-- One end of an edge that is noted. -/
theorem link_step {K2 : Heap → Prop} {h : Heap} {g nr dg c3 k m mm cm i : Nat} {qm : Option Addr} {tot u v w : Int} {E : List Nr} {F : Nat → Int} (hE : E.length = n) (hn : n ≤ 4096) (ok : nrOk k E) (hkk : k ≤ 2 ^ 22) {a b : Nat} (ha : a < n) (hi : i < 2)
    (h0' : ([.int .i64 u, .int .i64 v, .int .i64 v, .int .i64 u] : List Value)[i * 2]? = some (.int .i64 (a : Int))) (h1' : ([.int .i64 u, .int .i64 v, .int .i64 v, .int .i64 u] : List Value)[i * 2 + 1]? = some (.int .i64 (b : Int)))
    (s : St h0 h ((c3, Ed.vs (u, v, w)) :: (g, [.slice (some ⟨nr, 0, none⟩) n n, .slice (some ⟨dg, 0, none⟩) n n, .slice qm mm cm, .int .i64 tot]) :: (nr, nrV E) :: (dg, ints n F) :: (nrR E ++ Z)))
    (hk : ∀ h' E' F', E'.length = n → nrOk (k + 1) E' → nrL E' = (nrL E).set a ((nrL E).getD a [] ++ [b]) → St h0 h' ((c3, Ed.vs (u, v, w)) :: (g, [.slice (some ⟨nr, 0, none⟩) n n, .slice (some ⟨dg, 0, none⟩) n n, .slice qm mm cm, .int .i64 tot]) :: (nr, nrV E') :: (dg, ints n F') :: (nrR E' ++ Z)) →
      net_ends_link.l0 K2 m (some ⟨g, 0, none⟩) ⟨c3, 0, none⟩ u v v u ((i + 1 : Nat) : Int) h') :
    net_ends_link.l0 K2 (m + 1) (some ⟨g, 0, none⟩) ⟨c3, 0, none⟩ u v v u (i : Int) h := by
  unfold net_ends_link.l0 net_ends_link.b0
  refine iteB_pos (decide_eq_true (by omega)) ⟨⟨by omega, by omega⟩, ?_⟩
  rw [Int.toNat_natCast]
  refine ⟨_, h0', _, h1', s.new_ fun p h1 s1 => s1.st0 (by simp) fun h2 s2 => ?_⟩
  rw [add_mk]
  refine s2.st0 (by simp) fun h3 s3 => ?_
  simp only [List.set_cons_zero, List.set_cons_succ, Nat.zero_add] at s3
  obtain ⟨A, e, B, rfl, hA⟩ := split_at (l := E) (i := a) (by omega)
  have hok := ok e (by simp)
  have rp : ∀ j, cell h3 ⟨p, j, none⟩ = [Value.int .i64 (a : Int), .int .i64 (b : Int)][j]? := s3.rd0
  have rg : ∀ j, cell h3 ⟨g, j, none⟩ = [Value.slice (some ⟨nr, 0, none⟩) n n, .slice (some ⟨dg, 0, none⟩) n n, .slice qm mm cm, .int .i64 tot][j]? := s3.rd (by simp)
  have rn : cell h3 ⟨nr, a, none⟩ = some (.slice e.q e.l.length e.cap) := by rw [s3.rd (b := nr) (cs := nrV (A ++ e :: B)) (by simp), nrV_get hA]
  simp -zeta (disch := omega) only [chkP_some, iteB_true, iteB_false, add_mk, Nat.zero_add, Nat.add_zero, Nat.mul_one, Nat.reduceAdd, Int.toNat_natCast, ex_int, ex_slice, ex_ptr, ex_bool, ex_str, ex_flt, ex_any, bnd_in, List.getElem?_cons_zero, List.getElem?_cons_succ, List.set_cons_zero, List.set_cons_succ, List.cons_append, List.nil_append, bne_self_eq_false, beq_self_eq_true, Bool.not_true, Bool.not_false, Option.isNone_some, Option.isNone_none, eq_self, true_and, and_true, and_self, Int.toNat_zero, Int.toNat_one, Nat.zero_mul, Int.reduceToNat, rp, rg, rn]
  refine s3.new_ fun b4 h4 s4 => ?_
  have rp4 : ∀ j, cell h4 ⟨p, j, none⟩ = [Value.int .i64 (a : Int), .int .i64 (b : Int)][j]? := s4.rd1
  have rg4 : ∀ j, cell h4 ⟨g, j, none⟩ = [Value.slice (some ⟨nr, 0, none⟩) n n, .slice (some ⟨dg, 0, none⟩) n n, .slice qm mm cm, .int .i64 tot][j]? := s4.rd (by simp)
  have rn4 : cell h4 ⟨nr, a, none⟩ = some (.slice e.q e.l.length e.cap) := by rw [s4.rd (b := nr) (cs := nrV (A ++ e :: B)) (by simp), nrV_get hA]
  simp -zeta (disch := omega) only [chkP_some, iteB_true, iteB_false, add_mk, Nat.zero_add, Nat.add_zero, Nat.mul_one, Nat.reduceAdd, Int.toNat_natCast, ex_int, ex_slice, ex_ptr, ex_bool, ex_str, ex_flt, ex_any, bnd_in, List.getElem?_cons_zero, List.getElem?_cons_succ, List.set_cons_zero, List.set_cons_succ, List.cons_append, List.nil_append, bne_self_eq_false, beq_self_eq_true, Bool.not_true, Bool.not_false, Option.isNone_some, Option.isNone_none, eq_self, true_and, and_true, and_self, Int.toNat_zero, Int.toNat_one, Nat.zero_mul, Int.reduceToNat, rp4, rg4, rn4]
  refine ⟨[Value.int .i64 (b : Int)], ⟨rfl, fun j hj => ⟨_, rfl, ?_⟩⟩, ?_⟩
  · rw [add_mk, s4.rd0, Nat.zero_add]
  have s5 : St h0 h4 (e.X ++ ((p, [Value.int .i64 (a : Int), .int .i64 (b : Int)]) :: (c3, Ed.vs (u, v, w)) :: (g, [.slice (some ⟨nr, 0, none⟩) n n, .slice (some ⟨dg, 0, none⟩) n n, .slice qm mm cm, .int .i64 tot]) :: (nr, nrV (A ++ e :: B)) :: (dg, ints n F) :: (nrR A ++ (nrR B ++ Z)))) := (St.re s4 (by intro a; simp only [cntR_append, cntR_cons, cntR_nil, List.cons_append, List.nil_append, List.set_cons_zero, List.set_cons_succ, nrR_mid]; omega))
  refine Hp.Own.app (n := 1) hok.1 s5 rfl (natV_len _).symm rfl rfl (by simp [flat]) (by rw [natV_len]; omega) fun q' c' X' h5 o5 s6 => ?_
  have rp5 : ∀ j, cell h5 ⟨p, j, none⟩ = [Value.int .i64 (a : Int), .int .i64 (b : Int)][j]? := s6.rd (by simp)
  have rg5 : ∀ j, cell h5 ⟨g, j, none⟩ = [Value.slice (some ⟨nr, 0, none⟩) n n, .slice (some ⟨dg, 0, none⟩) n n, .slice qm mm cm, .int .i64 tot][j]? := s6.rd (by simp)
  simp -zeta (disch := omega) only [chkP_some, iteB_true, iteB_false, add_mk, Nat.zero_add, Nat.add_zero, Nat.mul_one, Nat.reduceAdd, Int.toNat_natCast, ex_int, ex_slice, ex_ptr, ex_bool, ex_str, ex_flt, ex_any, bnd_in, List.getElem?_cons_zero, List.getElem?_cons_succ, List.set_cons_zero, List.set_cons_succ, List.cons_append, List.nil_append, bne_self_eq_false, beq_self_eq_true, Bool.not_true, Bool.not_false, Option.isNone_some, Option.isNone_none, eq_self, true_and, and_true, and_self, Int.toNat_zero, Int.toNat_one, Nat.zero_mul, Int.reduceToNat, rp5, rg5]
  have s7 : St h0 h5 ((nr, nrV (A ++ e :: B)) :: (p, [Value.int .i64 (a : Int), .int .i64 (b : Int)]) :: (c3, Ed.vs (u, v, w)) :: (g, [.slice (some ⟨nr, 0, none⟩) n n, .slice (some ⟨dg, 0, none⟩) n n, .slice qm mm cm, .int .i64 tot]) :: (dg, ints n F) :: (X' ++ (nrR A ++ (nrR B ++ Z)))) := (St.re s6 (by intro a; simp only [cntR_append, cntR_cons, cntR_nil, List.cons_append, List.nil_append, List.set_cons_zero, List.set_cons_succ]; omega))
  refine s7.st0 (by rw [nrV_len]; omega) fun h6 s8 => ?_
  rw [natV_len, show (nrV (A ++ e :: B)).set a (.slice q' (e.l.length + 1) c') = nrV (A ++ (⟨q', c', e.l ++ [b], X'⟩ : Nr) :: B) by
    have := nrV_set (A := A) (e := e) (e' := ⟨q', c', e.l ++ [b], X'⟩) (B := B) hA
    simpa using this] at s8
  have rp6 : ∀ j, cell h6 ⟨p, j, none⟩ = [Value.int .i64 (a : Int), .int .i64 (b : Int)][j]? := s8.rd1
  have rc6 : ∀ j, cell h6 ⟨c3, j, none⟩ = (Ed.vs (u, v, w))[j]? := s8.rd (by simp)
  simp only [Ed.vs] at rc6
  have rg6 : ∀ j, cell h6 ⟨g, j, none⟩ = [Value.slice (some ⟨nr, 0, none⟩) n n, .slice (some ⟨dg, 0, none⟩) n n, .slice qm mm cm, .int .i64 tot][j]? := s8.rd (by simp)
  have rd6 : cell h6 ⟨dg, a, none⟩ = some (.int .i64 (F a)) := by rw [s8.rd (b := dg) (cs := ints n F) (by simp), ints_get ha]
  simp -zeta (disch := omega) only [chkP_some, iteB_true, iteB_false, add_mk, Nat.zero_add, Nat.add_zero, Nat.mul_one, Nat.reduceAdd, Int.toNat_natCast, ex_int, ex_slice, ex_ptr, ex_bool, ex_str, ex_flt, ex_any, bnd_in, List.getElem?_cons_zero, List.getElem?_cons_succ, List.set_cons_zero, List.set_cons_succ, List.cons_append, List.nil_append, bne_self_eq_false, beq_self_eq_true, Bool.not_true, Bool.not_false, Option.isNone_some, Option.isNone_none, eq_self, true_and, and_true, and_self, Int.toNat_zero, Int.toNat_one, Nat.zero_mul, Int.reduceToNat, rp6, rg6, rc6, rd6]
  have s9 : St h0 h6 ((dg, ints n F) :: (p, [Value.int .i64 (a : Int), .int .i64 (b : Int)]) :: (c3, Ed.vs (u, v, w)) :: (g, [.slice (some ⟨nr, 0, none⟩) n n, .slice (some ⟨dg, 0, none⟩) n n, .slice qm mm cm, .int .i64 tot]) :: (nr, nrV (A ++ (⟨q', c', e.l ++ [b], X'⟩ : Nr) :: B)) :: (X' ++ (nrR A ++ (nrR B ++ Z)))) := (St.re s8 (by intro a; simp only [cntR_append, cntR_cons, cntR_nil, List.cons_append, List.nil_append, List.set_cons_zero, List.set_cons_succ]; omega))
  refine s9.st0 (by rw [ints_length]; omega) fun h7 sA => ?_
  rw [ints_set] at sA
  rw [wrap64 (by omega) (by omega)]
  have sB : St h0 h7 ((p, [Value.int .i64 (a : Int), .int .i64 (b : Int)]) :: (c3, Ed.vs (u, v, w)) :: (g, [.slice (some ⟨nr, 0, none⟩) n n, .slice (some ⟨dg, 0, none⟩) n n, .slice qm mm cm, .int .i64 tot]) :: (nr, nrV (A ++ (⟨q', c', e.l ++ [b], X'⟩ : Nr) :: B)) :: (dg, ints n (upd F a (IntKind.i64.wrap (F a + w)))) :: (nrR (A ++ (⟨q', c', e.l ++ [b], X'⟩ : Nr) :: B) ++ Z)) := (St.re sA (by intro a; simp only [cntR_append, cntR_cons, cntR_nil, List.cons_append, List.nil_append, List.set_cons_zero, List.set_cons_succ, nrR_mid]; omega))
  refine hk h7 (A ++ (⟨q', c', e.l ++ [b], X'⟩ : Nr) :: B) (upd F a (IntKind.i64.wrap (F a + w))) (by simpa using hE) (fun x hx => ?_) ?_ ?_
  · rcases List.mem_append.1 hx with hx | hx
    · exact ⟨(ok x (by simp [hx])).1, by have := (ok x (by simp [hx])).2; omega⟩
    · rcases List.mem_cons.1 hx with rfl | hx
      · exact ⟨by simpa [natV] using o5, by have := hok.2; simp; omega⟩
      · exact ⟨(ok x (by simp [hx])).1, by have := (ok x (by simp [hx])).2; omega⟩
  · have e1 : nrL (A ++ e :: B) = nrL A ++ e.l :: nrL B := by simp [nrL]
    have lA : (nrL A).length = a := by simp [nrL, hA]
    rw [e1, lset_at lA, List.getD_eq_getElem?_getD, lget_at lA]; simp [nrL]
  · exact sB.tail
end
end Go.Proofs.YtokemibmanjpmaaGreatDoor

namespace Go.Proofs.YtokemibmanjpmaaGreatDoor
set_option linter.unusedVariables false
set_option linter.unusedSimpArgs false
set_option linter.unnecessarySimpa false
open Go.Hp Go.RowKit
attribute [local irreducible] Go.Hp.iteB Go.Hp.stC Go.Hp.newP

/-- Who is next to whom, as edges come. -/
def lnk1 (N : List (List Nat)) (a b : Nat) : List (List Nat) := N.set a (N.getD a [] ++ [b])
def lnkE (N : List (List Nat)) (e : Ed) : List (List Nat) := lnk1 (lnk1 N e.1.toNat e.2.1.toNat) e.2.1.toNat e.1.toNat
def nearL (n : Nat) (L : List Ed) : List (List Nat) := (L.foldl lnkE (List.replicate n [])).map sortN
/-- The edges that a graph is made of. -/
def netL (l : List Ed) : List Ed := ((mergeD l).getD []).filter nz
/-- Why there is no graph. -/
def newE (n : Int) (l : List Ed) : Int × Int := if n < 0 then (1, 0) else if n > 4096 ∨ l.length > 1048576 then (3, 0) else chksE n 0 l
theorem newE_ok {n : Int} {l : List Ed} (h : (newE n l).1 = 0) : 0 ≤ n ∧ n ≤ 4096 ∧ l.length ≤ 1048576 ∧ Chk n l := by
  unfold newE at h
  split at h
  · simp at h
  · split at h
    · simp at h
    · rename_i c
      exact ⟨by omega, by omega, by omega, chks_ok h⟩
/-- A graph in memory. -/
structure NetK (h0 : Base) (R : Rws) (g n : Nat) (L : List Ed) (N : List (List Nat)) : Prop where
  gr : Gr n L
  hn : n ≤ 4096
  ex : ∃ (nr dg cm : Nat) (qm : Option Addr) (tot : Int) (E : List Nr), Keeps h0 R (some ⟨g, 0, none⟩) [.slice (some ⟨nr, 0, none⟩) n n, .slice (some ⟨dg, 0, none⟩) n n, .slice qm L.length cm, .int .i64 tot] ∧ Keeps h0 R qm (eV L) ∧ Keeps h0 R (some ⟨nr, 0, none⟩) (nrV E) ∧ nrL E = N ∧ E.length = n ∧ ∀ e ∈ E, Keeps h0 R e.q (natV e.l)
theorem NetK.sub {h0 : Base} {R R' : Rws} {g n : Nat} {L : List Ed} {N : List (List Nat)} (k : NetK h0 R g n L N) (hs : ∀ x ∈ R, x ∈ R') : NetK h0 R' g n L N := by
  obtain ⟨g1, g2, nr, dg, cm, qm, tot, E, k1, k2, k3, k4, k5, k6⟩ := k
  exact ⟨g1, g2, nr, dg, cm, qm, tot, E, k1.sub hs, k2.sub hs, k3.sub hs, k4, k5, fun e he => (k6 e he).sub hs⟩
theorem zr_nr : ∀ n, zeroRow [.slice none 0 0] n = nrV (List.replicate n ⟨none, 0, [], []⟩)
  | 0 => rfl
  | n + 1 => by rw [zeroRow, zr_nr n]; simp [nrV, List.replicate_succ]
theorem nrR_rep : ∀ n, nrR (List.replicate n ⟨none, 0, [], []⟩) = []
  | 0 => rfl
  | n + 1 => by rw [List.replicate_succ]; show [] ++ nrR _ = []; rw [nrR_rep n]; rfl

section
variable {h0 : Base} {Z : Rws} {n : Nat}
/-- An edge that is noted. -/
theorem link_of {K : Heap → Prop} {h : Heap} {g nr dg k mm cm : Nat} {qm : Option Addr} {tot w : Int} {a b : Nat} {E : List Nr} {F : Nat → Int} (hE : E.length = n) (hn : n ≤ 4096) (ok : nrOk k E) (hkk : k ≤ 2 ^ 21) (ha : a < n) (hb : b < n)
    (s : St h0 h ((g, [.slice (some ⟨nr, 0, none⟩) n n, .slice (some ⟨dg, 0, none⟩) n n, .slice qm mm cm, .int .i64 tot]) :: (nr, nrV E) :: (dg, ints n F) :: (nrR E ++ Z)))
    (hk : ∀ h' E' F', E'.length = n → nrOk (k + 2) E' → nrL E' = lnkE (nrL E) ((a : Int), (b : Int), w) → St h0 h' ((g, [.slice (some ⟨nr, 0, none⟩) n n, .slice (some ⟨dg, 0, none⟩) n n, .slice qm mm cm, .int .i64 tot]) :: (nr, nrV E') :: (dg, ints n F') :: (nrR E' ++ Z)) → K h') :
    net_ends_link (some ⟨g, 0, none⟩) (a : Int) (b : Int) w h K := by
  unfold net_ends_link
  refine s.new_ fun c3 h1 s1 => ?_
  try simp -zeta (disch := omega) only [chkP_some, iteB_true, iteB_false, add_mk, Nat.zero_add, Nat.add_zero, Nat.mul_one, Nat.reduceAdd, Int.toNat_natCast, ex_int, ex_slice, ex_ptr, ex_bool, ex_str, ex_flt, ex_any, bnd_in, List.getElem?_cons_zero, List.getElem?_cons_succ, List.set_cons_zero, List.set_cons_succ, List.cons_append, List.nil_append, bne_self_eq_false, beq_self_eq_true, Bool.not_true, Bool.not_false, Option.isNone_some, Option.isNone_none, eq_self, true_and, and_true, and_self, s1.rd0]
  refine ⟨3, link_step (i := 0) (a := a) (b := b) hE hn ok (by omega) ha (by omega) rfl rfl s1 fun h2 E2 F2 l2 ok2 n2 s2 => ?_⟩
  refine link_step (i := 1) (a := b) (b := a) l2 hn ok2 (by omega) hb (by omega) rfl rfl s2 fun h3 E3 F3 l3 ok3 n3 s3 => ?_
  unfold net_ends_link.l0 net_ends_link.b0
  refine iteB_neg rfl (hk h3 E3 F3 l3 ok3 ?_ s3.tail)
  rw [n3, n2]; rfl
theorem newnet_l0 {K3 : Heap → Prop} {g nr dg mm cm : Nat} {nI : Int} {qm : Option Addr} {L : List Ed} (hn : n ≤ 4096) (hL : L.length = mm) (hm : mm ≤ 1048576) (hr : ∀ e ∈ L, 0 ≤ e.1 ∧ e.1 < e.2.1 ∧ e.2.1 < n ∧ 0 < e.2.2) (km : Keeps h0 Z qm (eV L))
    (hk : ∀ h' E' F' t', E'.length = n → nrOk 2097152 E' → nrL E' = L.foldl lnkE (List.replicate n []) → St h0 h' ((g, [.slice (some ⟨nr, 0, none⟩) n n, .slice (some ⟨dg, 0, none⟩) n n, .slice qm mm cm, .int .i64 t']) :: (nr, nrV E') :: (dg, ints n F') :: (nrR E' ++ Z)) → K3 h') :
    ∀ (d i : Nat) (h : Heap) (E : List Nr) (F : Nat → Int) (t : Int), i + d = mm → E.length = n → nrOk (2 * i) E → nrL E = (L.take i).foldl lnkE (List.replicate n []) →
      St h0 h ((g, [.slice (some ⟨nr, 0, none⟩) n n, .slice (some ⟨dg, 0, none⟩) n n, .slice qm mm cm, .int .i64 t]) :: (nr, nrV E) :: (dg, ints n F) :: (nrR E ++ Z)) → net_New.l0 K3 (d + 1) nI ⟨g, 0, none⟩ qm mm cm (mm : Int) (i : Int) h
  | 0, i, h, E, F, t, hi, hE, ok, hN, s => by
    unfold net_New.l0 net_New.b0
    have : i = mm := by omega
    subst this
    rw [List.take_of_length_le (by omega)] at hN
    exact iteB_neg (decide_eq_false (by omega)) (hk h E F t hE (ok.more (by omega)) hN s)
  | d + 1, i, h, E, F, t, hi, hE, ok, hN, s => by
    unfold net_New.l0 net_New.b0
    obtain ⟨⟨u, v, w⟩, hx⟩ := get_lt (l := L) (i := i) (by omega)
    have hxr := hr _ (List.mem_of_getElem? hx)
    obtain ⟨a, rfl⟩ : ∃ a : Nat, u = a := ⟨u.toNat, by simp only at hxr; omega⟩
    obtain ⟨b, rfl⟩ : ∃ a : Nat, v = a := ⟨v.toNat, by simp only at hxr; omega⟩
    have vl : valsAt h qm (eV L) := km h _ s (fun x hx => by simp [hx])
    refine iteB_pos (decide_eq_true (by omega)) ?_
    simp -zeta (disch := omega) only [chkP_some, iteB_true, iteB_false, add_mk, Nat.zero_add, Nat.add_zero, Nat.mul_one, Nat.reduceAdd, Int.toNat_natCast, ex_int, ex_slice, ex_ptr, ex_bool, ex_str, ex_flt, ex_any, bnd_in, List.getElem?_cons_zero, List.getElem?_cons_succ, List.set_cons_zero, List.set_cons_succ, List.cons_append, List.nil_append, bne_self_eq_false, beq_self_eq_true, Bool.not_true, Bool.not_false, Option.isNone_some, Option.isNone_none, eq_self, true_and, and_true, and_self, vals_edge vl hx]
    refine s.new_ fun b1 h1 s1 => s1.st0 (by simp) fun h2 s2 => s2.st0 (by simp) fun h3 s3 => s3.st0 (by simp) fun h4 s4 => ?_
    simp only [List.set_cons_zero, List.set_cons_succ, Nat.zero_add] at s4
    try simp -zeta (disch := omega) only [chkP_some, iteB_true, iteB_false, add_mk, Nat.zero_add, Nat.add_zero, Nat.mul_one, Nat.reduceAdd, Int.toNat_natCast, ex_int, ex_slice, ex_ptr, ex_bool, ex_str, ex_flt, ex_any, bnd_in, List.getElem?_cons_zero, List.getElem?_cons_succ, List.set_cons_zero, List.set_cons_succ, List.cons_append, List.nil_append, bne_self_eq_false, beq_self_eq_true, Bool.not_true, Bool.not_false, Option.isNone_some, Option.isNone_none, eq_self, true_and, and_true, and_self, s4.rd0]
    have s5 : St h0 h4 ((g, [.slice (some ⟨nr, 0, none⟩) n n, .slice (some ⟨dg, 0, none⟩) n n, .slice qm mm cm, .int .i64 t]) :: (nr, nrV E) :: (dg, ints n F) :: (nrR E ++ ((b1, [Value.int .i64 (a : Int), .int .i64 (b : Int), .int .i64 w]) :: Z))) := (St.re s4 (by intro a; simp only [cntR_append, cntR_cons, cntR_nil, List.cons_append, List.nil_append, List.set_cons_zero, List.set_cons_succ]; omega))
    refine callP0.self (link_of (w := w) hE hn ok (by omega) (by simp only at hxr; omega) (by simp only at hxr; omega) s5 fun h6 E' F' l6 ok6 n6 s6 => ?_)
    have rb : ∀ j, cell h6 ⟨b1, j, none⟩ = [Value.int .i64 (a : Int), .int .i64 (b : Int), .int .i64 w][j]? := s6.rd (by simp)
    simp -zeta (disch := omega) only [chkP_some, iteB_true, iteB_false, add_mk, Nat.zero_add, Nat.add_zero, Nat.mul_one, Nat.reduceAdd, Int.toNat_natCast, ex_int, ex_slice, ex_ptr, ex_bool, ex_str, ex_flt, ex_any, bnd_in, List.getElem?_cons_zero, List.getElem?_cons_succ, List.set_cons_zero, List.set_cons_succ, List.cons_append, List.nil_append, bne_self_eq_false, beq_self_eq_true, Bool.not_true, Bool.not_false, Option.isNone_some, Option.isNone_none, eq_self, true_and, and_true, and_self, s6.rd0, rb]
    refine s6.st0 (by simp) fun h7 s7 => ?_
    simp only [List.set_cons_zero, List.set_cons_succ, Nat.zero_add] at s7
    rw [wrap64 (x := (i : Int) + 1) (by omega) (by omega)]
    refine newnet_l0 hn hL hm hr km hk d (i + 1) h7 E' F' (IntKind.i64.wrap (t + w)) (by omega) l6 (ok6.more (by omega)) ?_ ((St.re s7 (by intro a; simp only [cntR_append, cntR_cons, cntR_nil, List.cons_append, List.nil_append, List.set_cons_zero, List.set_cons_succ]; omega)))
    rw [n6, hN, take_snoc hx, List.foldl_append]; rfl
theorem newnet_l1 {K5 : Heap → Prop} {g nr : Nat} {c1 c2 c3 : Value} {A : Rws} {N : List (List Nat)} (hn : n ≤ 4096) (hN : N.length = n)
    (hk : ∀ h' E', E'.length = n → nrOk 2097152 E' → nrL E' = N.map sortN → St h0 h' ((g, [.slice (some ⟨nr, 0, none⟩) n n, c1, c2, c3]) :: (nr, nrV E') :: (nrR E' ++ A)) → K5 h') :
    ∀ (d i : Nat) (h : Heap) (E : List Nr), i + d = n → E.length = n → nrOk 2097152 E → nrL E = (N.take i).map sortN ++ N.drop i →
      St h0 h ((g, [.slice (some ⟨nr, 0, none⟩) n n, c1, c2, c3]) :: (nr, nrV E) :: (nrR E ++ A)) → net_New.l1 K5 (d + 1) ⟨g, 0, none⟩ (n : Int) (i : Int) h
  | 0, i, h, E, hi, hE, ok, hNE, s => by
    unfold net_New.l1 net_New.b1
    have : i = n := by omega
    subst this
    rw [List.take_of_length_le (by omega), List.drop_of_length_le (by omega), List.append_nil] at hNE
    exact iteB_neg (decide_eq_false (by omega)) (hk h E hE ok hNE s)
  | d + 1, i, h, E, hi, hE, ok, hNE, s => by
    unfold net_New.l1 net_New.b1
    refine iteB_pos (decide_eq_true (by omega)) ?_
    obtain ⟨P, e, Q, rfl, hP⟩ := split_at (l := E) (i := i) (by omega)
    have rn : cell h ⟨nr, i, none⟩ = some (.slice e.q e.l.length e.cap) := by rw [s.rd1, nrV_get hP]
    have hok := ok e (by simp)
    simp -zeta (disch := omega) only [chkP_some, iteB_true, iteB_false, add_mk, Nat.zero_add, Nat.add_zero, Nat.mul_one, Nat.reduceAdd, Int.toNat_natCast, ex_int, ex_slice, ex_ptr, ex_bool, ex_str, ex_flt, ex_any, bnd_in, List.getElem?_cons_zero, List.getElem?_cons_succ, List.set_cons_zero, List.set_cons_succ, List.cons_append, List.nil_append, bne_self_eq_false, beq_self_eq_true, Bool.not_true, Bool.not_false, Option.isNone_some, Option.isNone_none, eq_self, true_and, and_true, and_self, s.rd0, rn]
    have s2 : St h0 h (e.X ++ ((g, [.slice (some ⟨nr, 0, none⟩) n n, c1, c2, c3]) :: (nr, nrV (P ++ e :: Q)) :: (nrR P ++ (nrR Q ++ A)))) := (St.re s (by intro a; simp only [cntR_append, cntR_cons, cntR_nil, List.cons_append, List.nil_append, List.set_cons_zero, List.set_cons_succ, nrR_mid]; omega))
    refine callP0.self (SortN_of rfl (by omega) hok.1 s2 fun X3 h3 o3 s3 => ?_)
    rw [wrap64 (by omega) (by omega)]
    have hV : nrV (P ++ e :: Q) = nrV (P ++ (⟨e.q, e.cap, sortN e.l, X3⟩ : Nr) :: Q) := by rw [nrV_mid, nrV_mid]; simp [sortN_len]
    rw [hV] at s3
    obtain ⟨x, hx⟩ := get_lt (l := N) (i := i) (by omega)
    have hnl : nrL (P ++ e :: Q) = nrL P ++ e.l :: nrL Q := by simp [nrL]
    have lP : (nrL P).length = i := by simp [nrL, hP]
    have hdr : N.drop i = x :: N.drop (i + 1) := drop_cons hx
    rw [hnl, hdr] at hNE
    have lT : ((N.take i).map sortN).length = i := by simp; omega
    obtain ⟨e1, e2⟩ := List.append_inj hNE (by rw [lP, lT])
    obtain ⟨e3, e4⟩ := List.cons.inj e2
    refine newnet_l1 hn hN hk d (i + 1) h3 (P ++ (⟨e.q, e.cap, sortN e.l, X3⟩ : Nr) :: Q) (by omega) (by simpa using hE) (fun y hy => ?_) ?_ ((St.re s3 (by intro a; simp only [cntR_append, cntR_cons, cntR_nil, List.cons_append, List.nil_append, List.set_cons_zero, List.set_cons_succ, nrR_mid]; omega)))
    · rcases List.mem_append.1 hy with hy | hy
      · exact ok y (by simp [hy])
      · rcases List.mem_cons.1 hy with rfl | hy
        · exact ⟨o3, by simp only [sortN_len]; exact hok.2⟩
        · exact ok y (by simp [hy])
    · have : nrL (P ++ (⟨e.q, e.cap, sortN e.l, X3⟩ : Nr) :: Q) = nrL P ++ sortN e.l :: nrL Q := by simp [nrL]
      rw [this, e1, e3, e4, take_snoc hx]; simp
theorem New_of {h : Heap} {R : Rws} {nI : Int} {cl k : Nat} {q : Option Addr} {l : List Ed} {K : Option Addr → Int → Int → Heap → Prop} (hl : l.length = k) (hk40 : k < 2 ^ 40) (kl : Keeps h0 R q (eV l)) (s : St h0 h R)
    (hk0 : (newE nI l).1 ≠ 0 → ∀ h', St h0 h' R → K none (newE nI l).1 (newE nI l).2 h')
    (hk : (newE nI l).1 = 0 → ∀ (n g : Nat) (X : Rws) h', nI = n → NetK h0 X g n (netL l) (nearL n (netL l)) → St h0 h' (X ++ R) → K (some ⟨g, 0, none⟩) 0 0 h') : net_New nI q k cl h K := by
  unfold net_New
  intro j
  have J : 0 ≤ nI → nI ≤ 4096 → k ≤ 1048576 → j := fun b1 b2 b3 => by
    simp -zeta only [j]
    clear j
    have eN : newE nI l = chksE nI 0 l := by unfold newE; rw [if_neg (by omega), if_neg (by omega)]
    refine callP2.self (Checks_of hl hk40 kl s fun h1 s1 => ?_)
    rw [← eN]
    refine iteB_intro (fun c => hk0 (by simpa using c) h1 s1) fun c => ?_
    have c : (newE nI l).1 = 0 := by simpa using c
    have hk := hk c
    obtain ⟨_, _, _, ck⟩ := newE_ok c
    clear hk0 c eN
    obtain ⟨n, rfl⟩ : ∃ n : Nat, nI = n := ⟨nI.toNat, by omega⟩
    obtain ⟨P, S, m1, m2, m3, m4, G⟩ := gr (n := n) ck (by omega)
    have eL : netL l = S.filter nz := by unfold netL; rw [m2]; rfl
    refine callP4.self (Merge_of hl (by omega) ck.fit kl s1 (fun no => by rw [m1] at no; cases no) fun P' hP h2 qm cm X o2 s2 => ?_)
    rw [m1] at hP
    obtain rfl := Option.some.inj hP
    rw [m3] at o2
    rw [m4]
    rw [eL] at hk
    generalize S.filter nz = L at *
    have hLl := G.len
    have fin : ∀ (nr dg g : Nat) h3, St h0 h3 ((g, [.slice (some ⟨nr, 0, none⟩) n n, .slice (some ⟨dg, 0, none⟩) n n, .slice qm L.length cm, .int .i64 0]) :: (nr, nrV (List.replicate n ⟨none, 0, [], []⟩)) :: (dg, ints n fun _ => 0) :: (X ++ R)) →
        ∃ m29, net_New.l0 (fun h28 => ∃ m31, net_New.l1 (fun h30 => K (some ⟨g, 0, none⟩) 0 0 h30) m31 ⟨g, 0, none⟩ (n : Int) 0 h28) m29 (n : Int) ⟨g, 0, none⟩ qm L.length cm (L.length : Int) 0 h3 := fun nr dg g h3 s3 => by
      refine ⟨L.length + 1, newnet_l0 (Z := X ++ R) (by omega) rfl (by omega) G.range (o2.keeps fun x hx => by simp [hx]) (fun h4 E4 F4 t4 l4 ok4 n4 s4 => ?_) L.length 0 h3 (List.replicate n ⟨none, 0, [], []⟩) (fun _ => 0) 0 (by omega) (by simp) (fun e he => ?_) ?_ (by rw [nrR_rep]; exact s3)⟩
      · have lN : (L.foldl lnkE (List.replicate n [])).length = n := by rw [← n4]; simp [nrL, l4]
        refine ⟨n + 1, newnet_l1 (nr := nr) (c1 := .slice (some ⟨dg, 0, none⟩) n n) (c2 := .slice qm L.length cm) (c3 := .int .i64 t4) (A := (dg, ints n F4) :: (X ++ R)) (by omega) lN (fun h5 E5 l5 ok5 n5 s5 => ?_) n 0 h4 E4 (by omega) l4 ok4 (by rw [n4]; rfl) ((St.re s4 (by intro a; simp only [cntR_append, cntR_cons, cntR_nil, List.cons_append, List.nil_append, List.set_cons_zero, List.set_cons_succ]; omega)))⟩
        refine hk n g ((g, [.slice (some ⟨nr, 0, none⟩) n n, .slice (some ⟨dg, 0, none⟩) n n, .slice qm L.length cm, .int .i64 t4]) :: (nr, nrV E5) :: (nrR E5 ++ ((dg, ints n F4) :: X))) h5 rfl ⟨G, by omega, nr, dg, cm, qm, t4, E5, Keeps.row (by simp), o2.keeps fun x hx => by simp [hx], Keeps.row (by simp), n5, l5, fun e he => ?_⟩ ((St.re s5 (by intro a; simp only [cntR_append, cntR_cons, cntR_nil, List.cons_append, List.nil_append, List.set_cons_zero, List.set_cons_succ]; omega)))
        exact (ok5 e he).1.keeps fun x hx => by
          have : x ∈ nrR E5 := List.mem_flatMap.2 ⟨e, he, hx⟩
          simp [this]
      · obtain ⟨_, rfl⟩ := List.mem_replicate.1 he
        exact ⟨by simpa [natV] using Hp.Own.nil, by simp⟩
      · simp [nrL]
    simp -zeta only [Int.toNat_natCast, zr_nr, ints_zero]
    refine ⟨⟨⟨by omega, by omega, by omega, by omega⟩, s2.new_ fun nr h3 s3 => ⟨⟨by omega, by omega, by omega, by omega⟩, s3.new_ fun dg h4 s4 => s4.new_ fun g h5 s5 => fin nr dg g h5 ((St.re s5 (by intro a; simp only [cntR_append, cntR_cons, cntR_nil, List.cons_append, List.nil_append, List.set_cons_zero, List.set_cons_succ]; omega)))⟩⟩, ⟨by omega, by omega, by omega, by omega⟩, s2.new_ fun dg h3 s3 => ⟨⟨by omega, by omega, by omega, by omega⟩, s3.new_ fun nr h4 s4 => s4.new_ fun g h5 s5 => fin nr dg g h5 ((St.re s5 (by intro a; simp only [cntR_append, cntR_cons, cntR_nil, List.cons_append, List.nil_append, List.set_cons_zero, List.set_cons_succ]; omega)))⟩⟩
  clear_value j
  refine iteB_intro (fun c => ?_) fun c => iteB_intro (fun c2 => iteB_intro (fun c3 => ?_) fun c3 => ?_) fun c2 => iteB_intro (fun c3 => ?_) fun c3 => ?_
  · have c := of_decide_eq_true c
    have e : newE nI l = (1, 0) := by unfold newE; rw [if_pos c]
    have := hk0 (by rw [e]; decide) h s
    rw [e] at this; exact this
  · have c := of_decide_eq_false c
    have c3 := of_decide_eq_true c3
    have e : newE nI l = (3, 0) := by unfold newE; rw [if_neg c, if_pos (.inl c3)]
    have := hk0 (by rw [e]; decide) h s
    rw [e] at this; exact this
  · rw [c2] at c3; cases c3
  · have c := of_decide_eq_false c
    have c3 := of_decide_eq_true c3
    have e : newE nI l = (3, 0) := by unfold newE; rw [if_neg c, if_pos (.inr (by omega))]
    have := hk0 (by rw [e]; decide) h s
    rw [e] at this; exact this
  · have c := of_decide_eq_false c
    have c2 := of_decide_eq_false c2
    have c3 := of_decide_eq_false c3
    exact J (by omega) (by omega) (by omega)
end
end Go.Proofs.YtokemibmanjpmaaGreatDoor

namespace Go.Proofs.YtokemibmanjpmaaGreatDoor
set_option linter.unusedVariables false
set_option linter.unusedSimpArgs false
set_option linter.unnecessarySimpa false
open Go.Hp Go.RowKit
attribute [local irreducible] Go.Hp.iteB Go.Hp.stC Go.Hp.newP

theorem chksE_two {n : Int} : ∀ {l : List Ed} {i : Nat}, (chksE n i l).1 = 0 → chksE n i l = (0, 0)
  | [], _, _ => rfl
  | x :: l, i, h => by
    unfold chksE at h ⊢
    by_cases c : chkE n x = 0
    · rw [if_neg (by simpa using c)] at h ⊢
      exact chksE_two h
    · rw [if_pos c] at h; exact absurd h c
section
variable {h0 : Base} {R : Rws}
theorem RNew_of {h : Heap} {nI : Int} {cl k : Nat} {q : Option Addr} {l : List Ed} {K : Int → Option Addr → Nat → Nat → Int → Int → Heap → Prop} (hl : l.length = k) (kl : Keeps h0 R q (eV l)) (s : St h0 h R)
    (ok : (newE nI l).1 = 0) (hk : ∀ q c X h', Own3 q c (netL l) X → St h0 h' (X ++ R) → K nI q (netL l).length c 0 0 h') : straitref16_New nI q k cl h K := by
  unfold straitref16_New
  obtain ⟨b1, b2, b3, ck⟩ := newE_ok ok
  have eN : newE nI l = chksE nI 0 l := by unfold newE; rw [if_neg (by omega), if_neg (by omega)]
  have e0 : chksE nI 0 l = (0, 0) := chksE_two (by rw [← eN]; exact ok)
  refine s.new_ fun a3 h1 s1 => iteB_neg (decide_eq_false (by omega)) ?_
  intro j
  refine iteB_neg (decide_eq_false (by omega)) ?_
  rw [decide_eq_false (show ¬ (k : Int) > 1048576 by omega)]
  simp -zeta only [j]
  clear j
  refine iteB_neg rfl (callP2.self (RChecks_of hl (by omega) kl.cons s1 fun h2 s2 => ?_))
  rw [e0]
  refine s2.new_ fun b h3 s3 => s3.st0 (by simp) fun h4 s4 => ?_
  rw [add_mk]
  refine s4.st0 (by simp) fun h5 s5 => ?_
  simp only [List.set_cons_zero, List.set_cons_succ, Nat.zero_add] at s5
  try simp -zeta (disch := omega) only [chkP_some, iteB_true, iteB_false, add_mk, Nat.zero_add, Nat.add_zero, Nat.mul_one, Nat.reduceAdd, Int.toNat_natCast, ex_int, ex_slice, ex_ptr, ex_bool, ex_str, ex_flt, ex_any, bnd_in, List.getElem?_cons_zero, List.getElem?_cons_succ, List.set_cons_zero, List.set_cons_succ, List.cons_append, List.nil_append, bne_self_eq_false, beq_self_eq_true, Bool.not_true, Bool.not_false, Option.isNone_some, Option.isNone_none, eq_self, true_and, and_true, and_self, s5.rd0]
  obtain ⟨n, rfl⟩ : ∃ n : Nat, nI = n := ⟨nI.toNat, by omega⟩
  obtain ⟨P, S, m1, m2, m3, m4, G⟩ := gr (n := n) ck (by omega)
  have eL : netL l = S.filter nz := by unfold netL; rw [m2]; rfl
  refine callP4.self (RMerge_of hl (by omega) ck.fit kl.cons.cons s5 (fun no => by rw [m2] at no; cases no) fun S' hS h6 q6 c6 X6 o6 s6 => ?_)
  rw [m2] at hS
  obtain rfl := Option.some.inj hS
  rw [eL] at hk
  have s7 : St h0 h6 ((a3, [.int .i64 0, .slice none 0 0, .int .i64 0, .int .i64 0]) :: (X6 ++ R)) := (St.re s6 (by intro a; simp only [cntR_append, cntR_cons, cntR_nil, List.cons_append, List.nil_append, List.set_cons_zero, List.set_cons_succ]; omega))
  refine s7.st0 (by simp) fun h7 s7 => ?_
  try simp -zeta only [add_mk, Nat.zero_add]
  refine s7.st0 (by simp) fun h8 s8 => s8.st0 (by simp) fun h9 s9 => s9.st0 (by simp) fun hA sA => ?_
  simp only [List.set_cons_zero, List.set_cons_succ, Nat.zero_add] at sA
  try simp -zeta (disch := omega) only [chkP_some, iteB_true, iteB_false, add_mk, Nat.zero_add, Nat.add_zero, Nat.mul_one, Nat.reduceAdd, Int.toNat_natCast, ex_int, ex_slice, ex_ptr, ex_bool, ex_str, ex_flt, ex_any, bnd_in, List.getElem?_cons_zero, List.getElem?_cons_succ, List.set_cons_zero, List.set_cons_succ, List.cons_append, List.nil_append, bne_self_eq_false, beq_self_eq_true, Bool.not_true, Bool.not_false, Option.isNone_some, Option.isNone_none, eq_self, true_and, and_true, and_self, sA.rd0]
  exact hk q6 c6 X6 hA o6 sA.tail
end
end Go.Proofs.YtokemibmanjpmaaGreatDoor

namespace Go.Proofs.YtokemibmanjpmaaGreatDoor
set_option linter.unusedVariables false
set_option linter.unusedSimpArgs false
set_option linter.unnecessarySimpa false
open Go.Hp Go.RowKit
attribute [local irreducible] Go.Hp.iteB Go.Hp.stC Go.Hp.newP

structure NetG (h : Heap) (g n : Nat) (L : List Ed) (N : List (List Nat)) : Prop where
  gr : Gr n L
  hn : n ≤ 4096
  ex : ∃ (nr cm : Nat) (qm : Option Addr) (E : List Nr), Hp.cell h ⟨g, 0, none⟩ = some (.slice (some ⟨nr, 0, none⟩) n n) ∧ Hp.cell h ⟨g, 2, none⟩ = some (.slice qm L.length cm) ∧ valsAt h qm (eV L) ∧
    valsAt h (some ⟨nr, 0, none⟩) (nrV E) ∧ nrL E = N ∧ E.length = n ∧ ∀ e ∈ E, valsAt h e.q (natV e.l)
theorem NetG.ext {h h' : Heap} {g n : Nat} {L : List Ed} {N : List (List Nat)} (k : NetG h g n L N) (e : Ext h h') : NetG h' g n L N := by
  obtain ⟨a, b, nr, cm, qm, E, c1, c2, v, v2, d1, d2, d3⟩ := k
  exact ⟨a, b, nr, cm, qm, E, e.cell' c1, e.cell' c2, v.ext e, v2.ext e, d1, d2, fun x hx => (d3 x hx).ext e⟩
theorem NetK.atG {h0 : Base} {R L' : Rws} {h : Heap} {g n : Nat} {L : List Ed} {N : List (List Nat)} (k : NetK h0 R g n L N) (s : St h0 h L') (hs : ∀ x ∈ R, x ∈ L') : NetG h g n L N := by
  obtain ⟨a, b, nr, dg, cm, qm, tot, E, k1, k2, k3, k4, k5, k6⟩ := k
  have v := k1 h L' s hs
  refine ⟨a, b, nr, cm, qm, E, ?_, ?_, k2 h L' s hs, k3 h L' s hs, k4, k5, fun e he => k6 e he h L' s hs⟩
  · obtain ⟨x, hx, hc⟩ := v 0 _ rfl; cases hx; rw [add_mk, Nat.zero_add] at hc; exact hc
  · obtain ⟨x, hx, hc⟩ := v 2 _ rfl; cases hx; rw [add_mk, Nat.zero_add] at hc; exact hc
section
variable {h0 : Base} {R : Rws} {g n : Nat} {L : List Ed} {N : List (List Nat)}
theorem GN_of {h : Heap} {K : Int → Heap → Prop} (nh : NetG h0.heap g n L N) (s : St h0 h R) (hk : K (n : Int) h) : net_Net_N (some ⟨g, 0, none⟩) h K := by
  obtain ⟨_, _, nr, cm, qm, E, c0, _⟩ := nh
  unfold net_Net_N
  exact iteB_neg rfl ⟨_, n, n, s.ext.cell' c0, hk⟩
theorem GN_nil {h : Heap} {K : Int → Heap → Prop} (hk : K 0 h) : net_Net_N none h K := by unfold net_Net_N; exact iteB_pos rfl hk
theorem GEdges_nil {h : Heap} {K : Option Addr → Nat → Nat → Heap → Prop} (hk : K none 0 0 h) : net_Net_Edges none h K := by unfold net_Net_Edges; exact iteB_pos rfl hk
theorem GEdges_of {h : Heap} {K : Option Addr → Nat → Nat → Heap → Prop} (nh : NetG h0.heap g n L N) (s : St h0 h R)
    (hk : ∀ q c X h', Own3 q c L X → St h0 h' (X ++ R) → K q L.length c h') : net_Net_Edges (some ⟨g, 0, none⟩) h K := by
  obtain ⟨gr, hn, nr, cm, qm, E, c0, c2, vm, _⟩ := nh
  have hl := gr.len
  unfold net_Net_Edges
  refine iteB_neg rfl ⟨qm, L.length, cm, s.ext.cell' c2, callP3.self ?_⟩
  unfold slices_Clone_Lapi_Edge_api_Edge
  cases qm with
  | none =>
    have : L = [] := by
      cases L with
      | nil => rfl
      | cons e r => obtain ⟨a, ha, _⟩ := vm 0 (.int .i64 e.1) rfl; cases ha
    subst this
    exact iteB_pos rfl (hk none 0 [] h Own3.nil s)
  | some a =>
    refine iteB_neg rfl (St.new_ (cs := []) s fun b h1 s1 => ?_)
    refine ⟨eV L, (by have := cellsAt_vals (vm.ext s1.ext); rwa [eV_len] at this), ?_⟩
    refine app_k (k := 3) (l := []) (X := [(b, [])]) (.inr ⟨b, [], rfl, rfl, rfl⟩) s1 (by omega) rfl rfl (eV_len L) rfl (eV_flat L) (by omega) fun q' c' X' h' o' s' => ?_
    rw [Nat.zero_add]
    rw [List.nil_append] at o'
    refine hk q' c' X' h' ?_ s'
    rcases o' with ⟨o1, o2, o3, o4⟩ | o'
    · refine .inl ⟨o1, o2, ?_, o4⟩
      have := congrArg List.length o3
      rw [eV_len] at this
      exact List.length_eq_zero_iff.1 (by rw [List.length_nil] at this; omega)
    · exact .inr o'
end
end Go.Proofs.YtokemibmanjpmaaGreatDoor

namespace Go.Proofs.YtokemibmanjpmaaGreatDoor
set_option linter.unusedVariables false
set_option linter.unusedSimpArgs false
set_option linter.unnecessarySimpa false
open Go.Hp Go.RowKit
attribute [local irreducible] Go.Hp.iteB Go.Hp.stC Go.Hp.newP
section
variable {h0 : Base} {R : Rws} {g n : Nat} {L : List Ed} {N : List (List Nat)}
theorem cloneN_of {h : Heap} {q : Option Addr} {l : List Nat} {k c : Nat} {K : Option Addr → Nat → Nat → Heap → Prop} (hl : l.length = k) (hb : k < 2 ^ 40) (kl : Keeps h0 R q (natV l)) (s : St h0 h R)
    (hk : ∀ q' c' X h', Hp.Own q' c' (natV l) X → St h0 h' (X ++ R) → K q' k c' h') : slices_Clone_Lint_int q k c h K := by
  unfold slices_Clone_Lint_int
  cases q with
  | none =>
    have : l = [] := by
      cases l with
      | nil => rfl
      | cons x r => obtain ⟨a, ha, _⟩ := kl.at0 s 0 (.int .i64 (x : Int)) rfl; cases ha
    subst this
    have hk0 : k = 0 := by simpa using hl.symm
    subst hk0
    exact iteB_pos rfl (hk none 0 [] h Hp.Own.nil s)
  | some a =>
    refine iteB_neg rfl (St.new_ (cs := []) s fun b h1 s1 => ?_)
    have vw := kl.cons.at0 s1
    rw [Nat.mul_one]
    refine Hp.Own.pushAll (l := []) (X := [(b, [])]) (.inr ⟨b, [], rfl, rfl, rfl⟩) s1 rfl vw (by simp [natV, hl]) rfl (fun x hx => by obtain ⟨i, _, rfl⟩ := List.mem_map.1 hx; rfl) (by simp; omega) fun q' c' X h2 o s2 => ?_
    rw [List.length_nil, Nat.zero_add]
    exact hk q' c' X h2 (by simpa using o) s2
theorem GNear_of {h : Heap} {v : Nat} {l : List Nat} {K : Option Addr → Nat → Nat → Heap → Prop} (nh : NetG h0.heap g n L N) (s : St h0 h R) (hv : v < n) (hg : N[v]? = some l) (hb : l.length < 2 ^ 40)
    (hk : ∀ q c X h', Hp.Own q c (natV l) X → St h0 h' (X ++ R) → K q l.length c h') : net_Net_Near (some ⟨g, 0, none⟩) (v : Int) h K := by
  unfold net_Net_Near
  have gn : ∀ {K : Int → Heap → Prop}, K (n : Int) h → net_Net_N (some ⟨g, 0, none⟩) h K := fun hK => GN_of nh s hK
  obtain ⟨gr, hn, nr, cm, qm, E, c0, c2, vm, vr, e1, e2, ev⟩ := nh
  intro j
  have J : j := by
    simp -zeta only [j]
    obtain ⟨e, he⟩ : ∃ e, E[v]? = some e := ⟨_, List.getElem?_eq_getElem (by omega)⟩
    have el : e.l = l := by
      rw [← e1] at hg; unfold nrL at hg; rw [List.getElem?_map, he] at hg; exact Option.some.inj hg
    have hr : (nrV E)[v]? = some (.slice e.q e.l.length e.cap) := by unfold nrV; rw [List.getElem?_map, he]; rfl
    rw [chkP_some]
    refine ⟨_, n, n, s.ext.cell' c0, ?_⟩
    obtain ⟨a, ha, hc⟩ := (vr.ext s.ext) v _ hr
    cases ha
    rw [chkP_some]
    refine ⟨⟨by omega, by omega⟩, e.q, e.l.length, e.cap, by rw [Int.toNat_natCast, Nat.mul_one]; exact hc, ?_⟩
    subst el
    exact callP3.self (cloneN_of rfl hb (Keeps.old (ev e (List.mem_of_getElem? he))) s hk)
  clear_value j
  exact iteB_neg (decide_eq_false (by omega)) (qcallP1.of (n : Int) (fun Q hQ => gn hQ) (iteB_neg (decide_eq_false (by omega)) J))
end
def adj (e : Ed) (v u : Nat) : Prop := (e.1 = v ∧ e.2.1 = u) ∨ (e.2.1 = v ∧ e.1 = u)
theorem lnk1_len (N : List (List Nat)) (a b : Nat) : (lnk1 N a b).length = N.length := by simp [lnk1]
theorem lnk1_get {N : List (List Nat)} {a b v : Nat} {l la : List Nat} (hl : N[v]? = some l) (ha : N[a]? = some la) : (lnk1 N a b)[v]? = some (if v = a then la ++ [b] else l) := by
  unfold lnk1
  have hv := lt_get hl
  by_cases c : v = a
  · subst c
    rw [if_pos rfl, List.getElem?_set_self hv, List.getD_eq_getElem?_getD, ha]; rfl
  · rw [if_neg c, List.getElem?_set_ne (fun e => c e.symm), hl]
structure NearI (n : Nat) (A : List Ed) (N : List (List Nat)) : Prop where
  len : N.length = n
  row : ∀ v, v < n → ∃ l, N[v]? = some l ∧ l.length ≤ 2 * A.length ∧ ∀ u, u ∈ l ↔ ∃ e ∈ A, adj e v u
theorem NearI.step {n : Nat} {A : List Ed} {N : List (List Nat)} {e : Ed} (I : NearI n A N) (h0 : 0 ≤ e.1) (h1 : e.1 < e.2.1) (h2 : e.2.1 < n) : NearI n (A ++ [e]) (lnkE N e) := by
  obtain ⟨u, v, w⟩ := e
  simp only at h0 h1 h2
  obtain ⟨a, rfl⟩ : ∃ a : Nat, u = a := ⟨u.toNat, by omega⟩
  obtain ⟨b, rfl⟩ : ∃ a : Nat, v = a := ⟨v.toNat, by omega⟩
  refine ⟨by unfold lnkE; rw [lnk1_len, lnk1_len]; exact I.len, fun x hx => ?_⟩
  unfold lnkE
  simp only [Int.toNat_natCast]
  obtain ⟨l, hl, hll, hm⟩ := I.row x hx
  obtain ⟨la, hla, hlla, hma⟩ := I.row a (by omega)
  obtain ⟨lb, hlb, hllb, hmb⟩ := I.row b (by omega)
  have e1 := lnk1_get (b := b) hl hla
  have e2 := lnk1_get (b := b) hlb hla
  rw [if_neg (show ¬ b = a by omega)] at e2
  have e3 := lnk1_get (b := a) e1 e2
  refine ⟨_, e3, ?_, fun y => ?_⟩
  · rw [List.length_append, List.length_singleton]
    split
    · rw [List.length_append, List.length_singleton]; omega
    · split
      · rw [List.length_append, List.length_singleton]; omega
      · omega
  · have ex : (∃ e ∈ A ++ [((a : Int), (b : Int), w)], adj e x y) ↔ (∃ e ∈ A, adj e x y) ∨ (x = a ∧ y = b) ∨ (x = b ∧ y = a) := by
      constructor
      · rintro ⟨e, he, h⟩
        rcases List.mem_append.1 he with he | he
        · exact .inl ⟨e, he, h⟩
        · obtain rfl := List.mem_singleton.1 he
          rcases h with ⟨h1, h2⟩ | ⟨h1, h2⟩
          · simp only at h1 h2; right; left; omega
          · simp only at h1 h2; right; right; omega
      · rintro (⟨e, he, h⟩ | h | h)
        · exact ⟨e, by simp [he], h⟩
        · exact ⟨((a : Int), (b : Int), w), by simp, .inl ⟨by simp only; omega, by simp only; omega⟩⟩
        · exact ⟨((a : Int), (b : Int), w), by simp, .inr ⟨by simp only; omega, by simp only; omega⟩⟩
    rw [ex]
    by_cases c1 : x = b
    · subst c1
      obtain rfl : lb = l := by rw [hlb] at hl; exact Option.some.inj hl
      rw [if_pos rfl, List.mem_append, List.mem_singleton, hmb]
      constructor
      · rintro (h | h)
        · exact .inl h
        · exact .inr (.inr ⟨rfl, h⟩)
      · rintro (h | h | h)
        · exact .inl h
        · omega
        · exact .inr h.2
    · rw [if_neg c1]
      by_cases c2 : x = a
      · subst c2
        obtain rfl : la = l := by rw [hla] at hl; exact Option.some.inj hl
        rw [if_pos rfl, List.mem_append, List.mem_singleton, hma]
        constructor
        · rintro (h | h)
          · exact .inl h
          · exact .inr (.inl ⟨rfl, h⟩)
        · rintro (h | h | h)
          · exact .inl h
          · exact .inr h.2
          · omega
      · rw [if_neg c2, hm]
        constructor
        · exact .inl
        · rintro (h | h | h)
          · exact h
          · omega
          · omega
theorem NearI.all {n : Nat} : ∀ {L A : List Ed} {N : List (List Nat)}, NearI n A N → (∀ e ∈ L, 0 ≤ e.1 ∧ e.1 < e.2.1 ∧ e.2.1 < n) → NearI n (A ++ L) (L.foldl lnkE N)
  | [], A, N, I, _ => by rw [List.append_nil]; exact I
  | e :: L, A, N, I, h => by
    have h1 := h e (by simp)
    have := NearI.all (I.step h1.1 h1.2.1 h1.2.2) (L := L) fun x hx => h x (by simp [hx])
    rw [List.append_assoc] at this
    exact this
theorem sortN_mem {l : List Nat} {u : Nat} : u ∈ sortN l ↔ u ∈ l := List.mem_mergeSort
theorem near_row {n : Nat} {L : List Ed} (G : Gr n L) {v : Nat} (hv : v < n) : ∃ l, (nearL n L)[v]? = some l ∧ l.length < 2 ^ 40 ∧ ∀ u, u ∈ l ↔ ∃ e ∈ L, adj e v u := by
  have I0 : NearI n [] (List.replicate n []) := ⟨by simp, fun x hx => ⟨[], by simp [hx], by simp, fun u => by simp⟩⟩
  have I := I0.all (L := L) fun e he => by have := G.range e he; omega
  obtain ⟨l, hl, hll, hm⟩ := I.row v hv
  rw [List.nil_append] at hll hm
  refine ⟨sortN l, ?_, ?_, fun u => sortN_mem.trans (hm u)⟩
  · unfold nearL; rw [List.getElem?_map, hl]; rfl
  · have := G.len; rw [sortN_len]; omega
end Go.Proofs.YtokemibmanjpmaaGreatDoor

namespace Go.Proofs.YtokemibmanjpmaaGreatDoor
set_option linter.unusedVariables false
set_option linter.unusedSimpArgs false
set_option linter.unnecessarySimpa false
open Go.Hp Go.RowKit
attribute [local irreducible] Go.Hp.iteB Go.Hp.stC Go.Hp.newP
def mn (u v : Int) : Int := if v < u then v else u
def mx (u v : Int) : Int := if v > u then v else u
def keyE (u v : Int) (e : Ed) : Prop := e.1 = mn u v ∧ e.2.1 = mx u v
instance (u v : Int) (e : Ed) : Decidable (keyE u v e) := by unfold keyE; exact inferInstance
/-- What two vertices weigh. -/
def wL (L : List Ed) (u v : Int) : Int := match L.find? fun e => decide (keyE u v e) with
  | some e => e.2.2
  | none => 0
theorem wL_at {L : List Ed} {u v : Int} {i : Nat} {e : Ed} (hi : L[i]? = some e) (hk : keyE u v e) (hb : ∀ j x, j < i → L[j]? = some x → ¬ keyE u v x) : wL L u v = e.2.2 := by
  have : L.find? (fun e => decide (keyE u v e)) = some e := by
    rw [List.find?_eq_some_iff_getElem]
    obtain ⟨h1, h2⟩ := List.getElem?_eq_some_iff.1 hi
    exact ⟨decide_eq_true hk, i, h1, h2, fun j hj => by
      have := hb j L[j] hj (List.getElem?_eq_getElem (by omega))
      simpa using this⟩
  unfold wL; rw [this]
theorem wL_none {L : List Ed} {u v : Int} (h : ∀ e ∈ L, ¬ keyE u v e) : wL L u v = 0 := by
  have : L.find? (fun e => decide (keyE u v e)) = none := List.find?_eq_none.2 fun e he => by simpa using h e he
  unfold wL; rw [this]
theorem mn_norm (u v w : Int) : (normE (u, v, w)).1 = mn u v ∧ (normE (u, v, w)).2.1 = mx u v := by
  unfold normE mn mx; simp only
  split <;> (constructor <;> (repeat' split) <;> simp only <;> omega)
/-! ### The comparison -/
def cmpK (e : Ed) (a b : Int) : Int := if cfI e.1 a ≠ 0 then cfI e.1 a else cfI e.2.1 b
def ltT (e : Ed) (a b : Int) : Prop := e.1 < a ∨ (e.1 = a ∧ e.2.1 < b)
theorem cmpK_neg {e : Ed} {a b : Int} : cmpK e a b < 0 ↔ ltT e a b := by unfold cmpK ltT cfI; (repeat' split) <;> omega
theorem cmpK_zero {e : Ed} {a b : Int} : cmpK e a b = 0 ↔ e.1 = a ∧ e.2.1 = b := by unfold cmpK cfI; (repeat' split) <;> omega
theorem or2_of {h : Heap} {b : Nat} {x y : Int} {K : Int → Heap → Prop} (hr : row h b [.int .i64 x, .int .i64 y]) (hk : K (if x ≠ 0 then x else y) h) : cmp_Or_int (some ⟨b, 0, none⟩) 2 2 h K := by
  unfold cmp_Or_int
  have r0 : cell h ⟨b, 0, none⟩ = some (.int .i64 x) := by rw [hr.cell]; rfl
  have r1 : cell h ⟨b, 1, none⟩ = some (.int .i64 y) := by rw [hr.cell]; rfl
  refine ⟨3, ?_⟩
  unfold cmp_Or_int.l0 cmp_Or_int.b0
  refine iteB_pos rfl ⟨⟨by omega, by omega⟩, x, r0, ?_⟩
  refine iteB_intro (fun e => ?_) (fun e => ?_)
  · rwa [if_pos (by simpa using e)] at hk
  rw [if_neg (by simpa using e)] at hk
  rw [wrap64 (by omega) (by omega)]
  unfold cmp_Or_int.l0 cmp_Or_int.b0
  refine iteB_pos rfl ⟨⟨by omega, by omega⟩, y, r1, ?_⟩
  refine iteB_intro (fun e => hk) (fun e => ?_)
  have e : y = 0 := by simpa using e
  subst e
  rw [wrap64 (by omega) (by omega)]
  unfold cmp_Or_int.l0 cmp_Or_int.b0
  exact iteB_neg rfl hk
theorem wc_of {h0 : Base} {h : Heap} {R : Rws} {e : Ed} {a b c : Int} {K : Int → Heap → Prop} (s : St h0 h R) (hk : ∀ h', St h0 h' R → K (cmpK e a b) h') : net_Net_Weight_c1 e.1 e.2.1 e.2.2 a b c h K := by
  unfold net_Net_Weight_c1
  refine s.new_ fun b1 h1 s1 => s1.new_ fun b2 h2 s2 => ?_
  try simp -zeta (disch := omega) only [chkP_some, iteB_true, iteB_false, add_mk, Nat.zero_add, Nat.add_zero, Nat.mul_one, Nat.reduceAdd, Int.toNat_natCast, ex_int, ex_slice, ex_ptr, ex_bool, ex_str, ex_flt, ex_any, bnd_in, List.getElem?_cons_zero, List.getElem?_cons_succ, List.set_cons_zero, List.set_cons_succ, List.cons_append, List.nil_append, bne_self_eq_false, beq_self_eq_true, Bool.not_true, Bool.not_false, Option.isNone_some, Option.isNone_none, eq_self, true_and, and_true, and_self, s2.rd0, s2.rd1]
  refine qcallP1.of _ (fun Q hQ => compare_of hQ) ?_
  try simp -zeta (disch := omega) only [chkP_some, iteB_true, iteB_false, add_mk, Nat.zero_add, Nat.add_zero, Nat.mul_one, Nat.reduceAdd, Int.toNat_natCast, ex_int, ex_slice, ex_ptr, ex_bool, ex_str, ex_flt, ex_any, bnd_in, List.getElem?_cons_zero, List.getElem?_cons_succ, List.set_cons_zero, List.set_cons_succ, List.cons_append, List.nil_append, bne_self_eq_false, beq_self_eq_true, Bool.not_true, Bool.not_false, Option.isNone_some, Option.isNone_none, eq_self, true_and, and_true, and_self, s2.rd0, s2.rd1]
  refine qcallP1.of _ (fun Q hQ => compare_of hQ) ?_
  refine s2.new_ fun b3 h3 s3 => ?_
  refine qcallP1.of (cmpK e a b) (fun Q hQ => or2_of (s3.rows (b3, _) (by simp)) hQ) ?_
  exact hk h3 s3.tail.tail.tail
/-! ### Halving -/
theorem lt_trans {e f : Ed} {a b : Int} (h : ltK e f) (k : ltT f a b) : ltT e a b := by unfold ltK at h; unfold ltT at k ⊢; omega
section
variable {h0 : Base}
theorem bs_l0 {K2 : Int → Heap → Prop} {L : List Ed} {q : Option Addr} {k c b5 : Nat} {a b w x8 : Int} (hL : L.length = k) (hk40 : k ≤ 1048576) (up : Up L) (v : valsAt h0.heap q (eV L))
    (hk : ∀ (i : Nat) h', i ≤ k → (∀ x e, x < i → L[x]? = some e → ltT e a b) → (∀ x e, i ≤ x → L[x]? = some e → ¬ ltT e a b) → St h0 h' [(b5, [.int .i64 a, .int .i64 b, .int .i64 w])] → K2 (i : Int) h') :
    ∀ (d i j : Nat) (h : Heap), i ≤ j → j ≤ k → j - i ≤ d → (∀ x e, x < i → L[x]? = some e → ltT e a b) → (∀ x e, j ≤ x → L[x]? = some e → ¬ ltT e a b) → St h0 h [(b5, [.int .i64 a, .int .i64 b, .int .i64 w])] →
      slices_BinarySearchFunc_Lapi_Edge_api_Edge_api_Edge_net_Net_Weight_c1.l0 K2 (d + 1) q k c ⟨b5, 0, none⟩ x8 (i : Int) (j : Int) h := by
  intro d
  induction d with
  | zero =>
    intro i j h hij hj hd lo hi s
    unfold slices_BinarySearchFunc_Lapi_Edge_api_Edge_api_Edge_net_Net_Weight_c1.l0 slices_BinarySearchFunc_Lapi_Edge_api_Edge_api_Edge_net_Net_Weight_c1.b0
    obtain rfl : i = j := by omega
    exact iteB_neg (decide_eq_false (by omega)) (hk i h hj lo hi s)
  | succ d ih =>
    intro i j h hij hj hd lo hi s
    unfold slices_BinarySearchFunc_Lapi_Edge_api_Edge_api_Edge_net_Net_Weight_c1.l0 slices_BinarySearchFunc_Lapi_Edge_api_Edge_api_Edge_net_Net_Weight_c1.b0
    by_cases c1 : i = j
    · subst c1
      exact iteB_neg (decide_eq_false (by omega)) (hk i h hj lo hi s)
    refine iteB_pos (decide_eq_true (by omega)) ?_
    refine bindV_intro fun n hn => ?_
    have hn2 : n = ((i + j : Nat) : Int) := by
      rw [hn, wrap64 (by omega) (by omega), wrap_u64]; omega
    subst hn2
    have hf : ((i + j : Nat) : Int).fdiv (2 ^ 1) = (((i + j) / 2 : Nat) : Int) := by rw [Int.fdiv_eq_ediv_of_nonneg _ (by decide)]; omega
    rw [hf]
    obtain ⟨m, hm⟩ : ∃ m, m = (i + j) / 2 := ⟨_, rfl⟩
    rw [← hm, wrap64 (x := (m : Int)) (by omega) (by omega)]
    obtain ⟨⟨x, y, z⟩, hx⟩ := get_lt (l := L) (i := m) (by omega)
    have vl := v.ext s.ext
    refine ⟨by decide, ?_⟩
    simp -zeta (disch := omega) only [chkP_some, iteB_true, iteB_false, add_mk, Nat.zero_add, Nat.add_zero, Nat.mul_one, Nat.reduceAdd, Int.toNat_natCast, ex_int, ex_slice, ex_ptr, ex_bool, ex_str, ex_flt, ex_any, bnd_in, List.getElem?_cons_zero, List.getElem?_cons_succ, List.set_cons_zero, List.set_cons_succ, List.cons_append, List.nil_append, bne_self_eq_false, beq_self_eq_true, Bool.not_true, Bool.not_false, Option.isNone_some, Option.isNone_none, eq_self, true_and, and_true, and_self, vals_edge vl hx]
    try simp -zeta (disch := omega) only [chkP_some, iteB_true, iteB_false, add_mk, Nat.zero_add, Nat.add_zero, Nat.mul_one, Nat.reduceAdd, Int.toNat_natCast, ex_int, ex_slice, ex_ptr, ex_bool, ex_str, ex_flt, ex_any, bnd_in, List.getElem?_cons_zero, List.getElem?_cons_succ, List.set_cons_zero, List.set_cons_succ, List.cons_append, List.nil_append, bne_self_eq_false, beq_self_eq_true, Bool.not_true, Bool.not_false, Option.isNone_some, Option.isNone_none, eq_self, true_and, and_true, and_self, s.rd0]
    refine callP1.self (wc_of (e := (x, y, z)) (a := a) (b := b) s fun h2 s2 => ?_)
    have mono : ∀ p q' e f, p < q' → L[p]? = some e → L[q']? = some f → ltK e f := fun p q' e f hpq hp hq => by
      obtain ⟨p1, p2⟩ := List.getElem?_eq_some_iff.1 hp
      obtain ⟨q1, q2⟩ := List.getElem?_eq_some_iff.1 hq
      have := List.pairwise_iff_getElem.1 up p q' p1 q1 hpq
      rw [p2, q2] at this; exact this
    refine iteB_intro (fun c2 => ?_) (fun c2 => ?_)
    · have c2 := cmpK_neg.1 (of_decide_eq_true c2)
      refine bindV_intro fun n2 hn2 => ?_
      rw [wrap64 (by omega) (by omega)] at hn2
      obtain rfl : n2 = ((m + 1 : Nat) : Int) := by omega
      refine ih (m + 1) j h2 (by omega) hj (by omega) (fun p e hp he => ?_) hi s2
      by_cases c3 : p = m
      · subst c3; rw [hx] at he; obtain rfl := Option.some.inj he; exact c2
      · exact lt_trans (mono p m e _ (by omega) he hx) c2
    · have c2 : ¬ ltT (x, y, z) a b := fun hlt => absurd (cmpK_neg.2 hlt) (of_decide_eq_false c2)
      refine ih i m h2 (by omega) (by omega) (by omega) lo (fun p e hp he hlt => ?_) s2
      by_cases c3 : p = m
      · subst c3; rw [hx] at he; obtain rfl := Option.some.inj he; exact c2 hlt
      · exact c2 (lt_trans (mono m p _ e (by omega) hx he) hlt)
end
theorem BSearch_of {h : Heap} {L : List Ed} {q : Option Addr} {k c : Nat} {a b w : Int} {K : Int → Bool → Heap → Prop} (hL : L.length = k) (hk40 : k ≤ 1048576) (up : Up L) (v : valsAt h q (eV L))
    (yes : ∀ (i : Nat) e h', L[i]? = some e → e.1 = a ∧ e.2.1 = b → Ext h h' → K (i : Int) true h') (no : ∀ (i : Nat) h', (∀ e ∈ L, ¬ (e.1 = a ∧ e.2.1 = b)) → Ext h h' → K (i : Int) false h') :
    slices_BinarySearchFunc_Lapi_Edge_api_Edge_api_Edge_net_Net_Weight_c1 q k c a b w h K := by
  unfold slices_BinarySearchFunc_Lapi_Edge_api_Edge_api_Edge_net_Net_Weight_c1
  refine (St.refl h).new_ (cs := [.int .i64 a, .int .i64 b, .int .i64 w]) fun b5 h1 s1 => ?_
  refine ⟨k + 1, bs_l0 (h0 := (h : Base)) hL hk40 up v (fun i h2 hi lo hii s2 => ?_) k 0 k h1 (by omega) (by omega) (by omega) (fun x e hx => by omega) (fun x e hx he => by have := lt_get he; omega) s1⟩
  have none_at : ∀ e0, (∀ e, L[i]? = some e → ¬ (e.1 = a ∧ e.2.1 = b)) → e0 ∈ L → ¬ (e0.1 = a ∧ e0.2.1 = b) := fun e0 hne he0 hab => by
    obtain ⟨p, hp, hpe⟩ := List.mem_iff_getElem.1 he0
    have hpe2 : L[p]? = some e0 := by rw [List.getElem?_eq_getElem hp, hpe]
    rcases Nat.lt_trichotomy p i with c | c | c
    · have := lo p e0 c hpe2; unfold ltT at this; omega
    · subst c; exact hne e0 hpe2 hab
    · obtain ⟨f, hf⟩ := get_lt (l := L) (i := i) (by omega)
      have h1 := hii i f (Nat.le_refl _) hf
      have h2 : ltK f e0 := by
        obtain ⟨p1, p2⟩ := List.getElem?_eq_some_iff.1 hf
        have := List.pairwise_iff_getElem.1 up i p p1 hp c
        rw [p2, hpe] at this; exact this
      unfold ltT at h1; unfold ltK at h2; omega
  refine iteB_intro (fun c1 => ?_) (fun c1 => ?_)
  · have c1 := of_decide_eq_true c1
    obtain ⟨⟨x, y, z⟩, hx⟩ := get_lt (l := L) (i := i) (by omega)
    have vl := v.ext s2.ext
    simp -zeta (disch := omega) only [chkP_some, iteB_true, iteB_false, add_mk, Nat.zero_add, Nat.add_zero, Nat.mul_one, Nat.reduceAdd, Int.toNat_natCast, ex_int, ex_slice, ex_ptr, ex_bool, ex_str, ex_flt, ex_any, bnd_in, List.getElem?_cons_zero, List.getElem?_cons_succ, List.set_cons_zero, List.set_cons_succ, List.cons_append, List.nil_append, bne_self_eq_false, beq_self_eq_true, Bool.not_true, Bool.not_false, Option.isNone_some, Option.isNone_none, eq_self, true_and, and_true, and_self, vals_edge vl hx]
    try simp -zeta (disch := omega) only [chkP_some, iteB_true, iteB_false, add_mk, Nat.zero_add, Nat.add_zero, Nat.mul_one, Nat.reduceAdd, Int.toNat_natCast, ex_int, ex_slice, ex_ptr, ex_bool, ex_str, ex_flt, ex_any, bnd_in, List.getElem?_cons_zero, List.getElem?_cons_succ, List.set_cons_zero, List.set_cons_succ, List.cons_append, List.nil_append, bne_self_eq_false, beq_self_eq_true, Bool.not_true, Bool.not_false, Option.isNone_some, Option.isNone_none, eq_self, true_and, and_true, and_self, s2.rd0]
    refine callP1.self (wc_of (e := (x, y, z)) (a := a) (b := b) s2 fun h3 s3 => ?_)
    by_cases c2 : cmpK (x, y, z) a b = 0
    · rw [c2]; exact yes i _ h3 hx (cmpK_zero.1 c2) s3.ext
    · rw [show (cmpK (x, y, z) a b == (0 : Int)) = false from beq_eq_false_iff_ne.2 c2]
      refine no i h3 (fun e he => none_at e (fun f hf hab => ?_) he) s3.ext
      rw [hx] at hf; obtain rfl := Option.some.inj hf
      exact c2 (cmpK_zero.2 hab)
  · have c1 := of_decide_eq_false c1
    exact no i h2 (fun e he => none_at e (fun f hf => by have := lt_get hf; omega) he) s2.ext
theorem GWeight_of {h : Heap} {g n : Nat} {L : List Ed} {N : List (List Nat)} {u v : Int} {K : Int → Heap → Prop} (nh : NetG h g n L N) (hk : ∀ h', Ext h h' → K (wL L u v) h') : net_Net_Weight (some ⟨g, 0, none⟩) u v h K := by
  obtain ⟨gr, hn, nr, cm, qm, E, c0, c2, vm, _⟩ := nh
  have hl := gr.len
  unfold net_Net_Weight
  refine iteB_neg rfl (callP3.self (Normal_of (h0 := (h : Base)) (R := []) (e := (u, v, 0)) (St.refl h) fun h1 s1 => ?_))
  obtain ⟨m1, m2⟩ := mn_norm u v 0
  rw [m1, m2]
  refine s1.new_ fun b h2 s2 => s2.st0 (by simp) fun h3 s3 => s3.st0 (by simp) fun h4 s4 => s4.st0 (by simp) fun h5 s5 => ?_
  have x5 : Ext h h5 := s5.ext
  rw [chkP_some]
  refine ⟨qm, L.length, cm, x5.cell' c2, ?_⟩
  try simp -zeta (disch := omega) only [chkP_some, iteB_true, iteB_false, add_mk, Nat.zero_add, Nat.add_zero, Nat.mul_one, Nat.reduceAdd, Int.toNat_natCast, ex_int, ex_slice, ex_ptr, ex_bool, ex_str, ex_flt, ex_any, bnd_in, List.getElem?_cons_zero, List.getElem?_cons_succ, List.set_cons_zero, List.set_cons_succ, List.cons_append, List.nil_append, bne_self_eq_false, beq_self_eq_true, Bool.not_true, Bool.not_false, Option.isNone_some, Option.isNone_none, eq_self, true_and, and_true, and_self, s5.rd0]
  refine callP2.self (BSearch_of rfl hl gr.canon.1 (vm.ext x5) (fun i e h6 hi he x6 => ?_) (fun i h6 hno x6 => ?_))
  · obtain ⟨x, y, w⟩ := e
    refine iteB_neg rfl ?_
    refine ⟨qm, L.length, cm, (x5.trans x6).cell' c2, ?_⟩
    have hlt := lt_get hi
    have v6 := vm.ext (x5.trans x6)
    obtain ⟨a, ha, hc⟩ := v6 _ _ (eV_get2 hi)
    rw [ha, chkP_some, addr_add, Int.toNat_natCast]
    refine ⟨⟨by omega, by omega⟩, w, hc, ?_⟩
    have hw : wL L u v = w := wL_at (e := (x, y, w)) hi he fun j f hj hf hkf => by
      obtain ⟨p1, p2⟩ := List.getElem?_eq_some_iff.1 hf
      obtain ⟨q1, q2⟩ := List.getElem?_eq_some_iff.1 hi
      have := List.pairwise_iff_getElem.1 gr.canon.1 j i p1 q1 hj
      rw [p2, q2] at this
      obtain ⟨k1, k2⟩ := hkf
      obtain ⟨k3, k4⟩ := he
      unfold ltK at this; simp only at this k3 k4; omega
    have := hk h6 (x5.trans x6)
    rw [hw] at this; exact this
  · have hw : wL L u v = 0 := wL_none fun e he hkf => hno e he hkf
    have := hk h6 (x5.trans x6)
    rw [hw] at this
    exact iteB_pos rfl this
abbrev inRg (x : Int) : Prop := -9223372036854775808 ≤ x ∧ x ≤ 9223372036854775807
theorem GWeight_in {n : Nat} {L : List Ed} (G : Gr n L) (u v : Int) : inRg (wL L u v) ∧ 0 ≤ wL L u v := by
  unfold wL
  split
  · rename_i e he
    have hm := List.mem_of_find?_eq_some he
    have r := G.range e hm
    have h5 : good L := fun x hx => by have := (G.range x hx).2.2.2; omega
    have h6 := good_le h5 e hm
    have h7 := G.sum
    exact ⟨⟨by omega, by omega⟩, by omega⟩
  · exact ⟨⟨by omega, by omega⟩, by omega⟩
/-! ### The document's -/
section
variable {h0 : Base}
theorem rw_l0 {K0 : Int → Heap → Prop} {K2 : Heap → Prop} {L : List Ed} {q : Option Addr} {k c b5 : Nat} {nI u v : Int} (hL : L.length = k) (hk40 : k ≤ 1048576) (vl0 : valsAt h0.heap q (eV L))
    (hk0 : ∀ h', St h0 h' [(b5, [.int .i64 nI, .slice q k c])] → K0 (wL L u v) h') (hk2 : ∀ h', wL L u v = 0 → St h0 h' [(b5, [.int .i64 nI, .slice q k c])] → K2 h') :
    ∀ (d i : Nat) (h : Heap), i + d = k → (∀ x e, x < i → L[x]? = some e → ¬ keyE u v e) → St h0 h [(b5, [.int .i64 nI, .slice q k c])] →
      straitref16_Net_Weight.l0 K0 K2 (d + 1) u v ⟨b5, 0, none⟩ (i : Int) h := by
  intro d
  induction d with
  | zero =>
    intro i h hi lo s
    unfold straitref16_Net_Weight.l0 straitref16_Net_Weight.b0
    try simp -zeta (disch := omega) only [chkP_some, iteB_true, iteB_false, add_mk, Nat.zero_add, Nat.add_zero, Nat.mul_one, Nat.reduceAdd, Int.toNat_natCast, ex_int, ex_slice, ex_ptr, ex_bool, ex_str, ex_flt, ex_any, bnd_in, List.getElem?_cons_zero, List.getElem?_cons_succ, List.set_cons_zero, List.set_cons_succ, List.cons_append, List.nil_append, bne_self_eq_false, beq_self_eq_true, Bool.not_true, Bool.not_false, Option.isNone_some, Option.isNone_none, eq_self, true_and, and_true, and_self, s.rd0]
    refine iteB_neg (decide_eq_false (by omega)) (hk2 h (wL_none fun e he hke => ?_) s)
    obtain ⟨p, hp, hpe⟩ := List.mem_iff_getElem.1 he
    exact lo p e (by omega) (by rw [List.getElem?_eq_getElem hp, hpe]) hke
  | succ d ih =>
    intro i h hi lo s
    unfold straitref16_Net_Weight.l0 straitref16_Net_Weight.b0
    obtain ⟨⟨x, y, w⟩, hx⟩ := get_lt (l := L) (i := i) (by omega)
    have vl := vl0.ext s.ext
    obtain ⟨a, ha, c0⟩ := vl _ _ (eV_get0 hx)
    obtain ⟨a1, ha1, c1⟩ := vl _ _ (eV_get1 hx)
    obtain ⟨a2, ha2, c2⟩ := vl _ _ (eV_get2 hx)
    rw [ha] at ha1 ha2
    obtain rfl := Option.some.inj ha1
    obtain rfl := Option.some.inj ha2
    have r5 : cell h ((⟨b5, 0, none⟩ : Addr).add 1) = some (.slice q k c) := by rw [add_mk, s.rd (b := b5) (cs := [.int .i64 nI, .slice q k c]) (by simp)]; rfl
    refine ⟨q, k, c, r5, iteB_pos (decide_eq_true (by omega)) ?_⟩
    intro j19
    have next : ¬ keyE u v (x, y, w) → straitref16_Net_Weight.l0 K0 K2 (d + 1) u v ⟨b5, 0, none⟩ (IntKind.i64.wrap ((i : Int) + 1)) h := fun hne => by
      rw [wrap64 (by omega) (by omega)]
      refine ih (i + 1) h (by omega) (fun p e hp he => ?_) s
      by_cases c3 : p = i
      · subst c3; rw [hx] at he; obtain rfl := Option.some.inj he; exact hne
      · exact lo p e (by omega) he
    have J : ∀ y15 : Bool, (y15 = true ↔ keyE u v (x, y, w)) → j19 y15 := fun y15 hy => by
      simp -zeta only [j19]
      refine iteB_intro (fun e => ?_) (fun e => next fun hke => ?_)
      · have hke := hy.1 e
        refine ⟨q, k, c, r5, ?_⟩
        rw [ha, chkP_some, addr_add, Int.toNat_natCast]
        refine ⟨⟨by omega, by omega⟩, w, c2, ?_⟩
        have := hk0 h s
        rw [wL_at hx hke lo] at this
        exact this
      · rw [hy.2 hke] at e; cases e
    clear_value j19
    refine ⟨q, k, c, r5, ?_⟩
    rw [ha, chkP_some, Int.toNat_natCast]
    refine ⟨⟨by omega, by omega⟩, x, c0, bindV_intro fun n1 hn1 => ?_⟩
    have hn1 : n1 = mn u v := hn1
    subst hn1
    refine iteB_intro (fun e1 => ⟨q, k, c, r5, ?_⟩) (fun e1 => J false ⟨fun h => (by cases h), fun hke => ?_⟩)
    · rw [ha, chkP_some, addr_add]
      refine ⟨⟨by omega, by omega⟩, y, c1, bindV_intro fun n2 hn2 => ?_⟩
      have hn2 : n2 = mx u v := hn2
      subst hn2
      refine J _ ⟨fun e2 => ⟨by simpa using e1, by simpa using e2⟩, fun hke => by simpa using hke.2⟩
    · rw [show (x == mn u v) = true by simpa using hke.1] at e1; cases e1
end
theorem RWeight_of {h : Heap} {nI u v : Int} {L : List Ed} {q : Option Addr} {k c : Nat} {K : Int → Heap → Prop} (hL : L.length = k) (hk40 : k ≤ 1048576) (vl : valsAt h q (eV L)) (hk : ∀ h', Ext h h' → K (wL L u v) h') : straitref16_Net_Weight nI q k c u v h K := by
  unfold straitref16_Net_Weight
  refine (St.refl h).new_ (cs := [.int .i64 nI, .slice q k c]) fun b5 h1 s1 => ?_
  refine ⟨k + 1, rw_l0 (h0 := (h : Base)) hL hk40 vl (fun h2 s2 => hk h2 s2.ext) (fun h2 e s2 => ?_) k 0 h1 (by omega) (fun x e hx => by omega) s1⟩
  have := hk h2 s2.ext
  rw [e] at this; exact this
section
variable {h0 : Base}
/-- Who is near, plainly. -/
def nearW (n : Nat) (L : List Ed) (v : Int) : List Nat := (List.range n).filter fun u : Nat => decide (0 < wL L (u : Int) v)
theorem rnear_l0 {K2 : Option Addr → Nat → Nat → Heap → Prop} {n : Nat} {L : List Ed} {q : Option Addr} {k c b4 : Nat} {v : Int} (hn : n ≤ 4096) (hL : L.length = k) (hk40 : k ≤ 1048576) (vl0 : valsAt h0.heap q (eV L))
    (hk : ∀ h' q' l' c', (l' = 0 ↔ nearW n L v = []) → Ext h0.heap h' → K2 q' l' c' h') :
    ∀ (d i : Nat) (h : Heap) (A : List Nat) (q' : Option Addr) (c' : Nat) (X : Rws), i + d = n → A = (List.range i).filter (fun u : Nat => decide (0 < wL L (u : Int) v)) → Hp.Own q' c' (natV A) X → St h0 h (X ++ [(b4, [.int .i64 (n : Int), .slice q k c])]) →
      straitref16_Net_Near.l0 K2 (d + 1) v ⟨b4, 0, none⟩ q' A.length c' (i : Int) h := by
  intro d
  induction d with
  | zero =>
    intro i h A q' c' X hi hA o s
    unfold straitref16_Net_Near.l0 straitref16_Net_Near.b0
    have r0 : cell h ⟨b4, 0, none⟩ = some (.int .i64 (n : Int)) := by rw [s.rd (b := b4) (cs := [.int .i64 (n : Int), .slice q k c]) (by simp)]; rfl
    obtain rfl : i = n := by omega
    refine ⟨_, r0, iteB_neg (decide_eq_false (by omega)) (hk h q' A.length c' ?_ s.ext)⟩
    rw [List.length_eq_zero_iff, hA]; rfl
  | succ d ih =>
    intro i h A q' c' X hi hA o s
    unfold straitref16_Net_Near.l0 straitref16_Net_Near.b0
    have r0 : cell h ⟨b4, 0, none⟩ = some (.int .i64 (n : Int)) := by rw [s.rd (b := b4) (cs := [.int .i64 (n : Int), .slice q k c]) (by simp)]; rfl
    have r1 : cell h ((⟨b4, 0, none⟩ : Addr).add 1) = some (.slice q k c) := by rw [add_mk, s.rd (b := b4) (cs := [.int .i64 (n : Int), .slice q k c]) (by simp)]; rfl
    refine ⟨_, r0, iteB_pos (decide_eq_true (by omega)) ⟨_, r0, q, k, c, r1, callP1.self (RWeight_of hL hk40 (vl0.ext s.ext) fun h2 x2 => ?_)⟩⟩
    have s2 := s.ofExt x2
    have hAl : A.length ≤ i := by
      rw [hA]
      have := List.length_filter_le (fun u : Nat => decide (0 < wL L (u : Int) v)) (List.range i)
      simpa using this
    refine iteB_intro (fun e => ?_) (fun e => ?_)
    · refine Hp.Own.push1 o s2 (natV_len A).symm rfl (by rw [natV_len]; omega) fun q2 c2 X2 h3 o2 s3 => ?_
      rw [natV_len, wrap64 (by omega) (by omega)]
      have e1 : natV (A ++ [i]) = natV A ++ [.int .i64 (i : Int)] := by simp [natV]
      have := ih (i + 1) h3 (A ++ [i]) q2 c2 X2 (by omega) (by rw [List.range_succ, List.filter_append, ← hA]; simp [of_decide_eq_true e]) (by rw [e1]; exact o2) s3
      rwa [List.length_append, List.length_singleton] at this
    · rw [wrap64 (by omega) (by omega)]
      exact ih (i + 1) h2 A q' c' X (by omega) (by rw [List.range_succ, List.filter_append, ← hA]; simp [of_decide_eq_false e]) o s2
end
theorem RNear_of {h : Heap} {n : Nat} {v : Int} {L : List Ed} {q : Option Addr} {k c : Nat} {K : Option Addr → Nat → Nat → Heap → Prop} (hn : n ≤ 4096) (hL : L.length = k) (hk40 : k ≤ 1048576) (vl : valsAt h q (eV L))
    (hk : ∀ h' q' l' c', (l' = 0 ↔ nearW n L v = []) → Ext h h' → K q' l' c' h') : straitref16_Net_Near (n : Int) q k c v h K := by
  unfold straitref16_Net_Near
  refine (St.refl h).new_ (cs := [.int .i64 (n : Int), .slice q k c]) fun b4 h1 s1 => ?_
  exact ⟨n + 1, rnear_l0 (h0 := (h : Base)) hn hL hk40 vl hk n 0 h1 [] none 0 [] (by omega) (by simp) (by simpa [natV] using Hp.Own.nil) s1⟩
/-! ### Both ways -/
theorem wL_pos {n : Nat} {L : List Ed} (G : Gr n L) {u v : Nat} : 0 < wL L (u : Int) (v : Int) ↔ ∃ e ∈ L, adj e v u := by
  constructor
  · intro h
    unfold wL at h
    split at h
    · rename_i e he
      have hm := List.mem_of_find?_eq_some he
      have hk : keyE (u : Int) (v : Int) e := by simpa using List.find?_some he
      have r := G.range e hm
      refine ⟨e, hm, ?_⟩
      obtain ⟨k1, k2⟩ := hk
      unfold mn at k1; unfold mx at k2; unfold adj
      split at k1 <;> split at k2 <;> omega
    · omega
  · rintro ⟨e, he, ha⟩
    have r := G.range e he
    have hk : keyE (u : Int) (v : Int) e := by
      unfold keyE mn mx; unfold adj at ha
      rcases ha with ⟨a1, a2⟩ | ⟨a1, a2⟩
      · rw [if_pos (by omega), if_neg (by omega)]; exact ⟨a1, a2⟩
      · rw [if_neg (by omega), if_pos (by omega)]; exact ⟨a2, a1⟩
    unfold wL
    cases hf : L.find? (fun e => decide (keyE (u : Int) (v : Int) e)) with
    | none => exact absurd (decide_eq_true hk) (List.find?_eq_none.1 hf e he)
    | some f => exact (G.range f (List.mem_of_find?_eq_some hf)).2.2.2
theorem near_iff {n : Nat} {L : List Ed} (G : Gr n L) {v : Nat} (hv : v < n) : ∃ l, (nearL n L)[v]? = some l ∧ l.length < 2 ^ 40 ∧ (∀ u, u ∈ l ↔ 0 < wL L (v : Int) (u : Int)) ∧ (∀ u ∈ l, u < n) ∧ (l = [] ↔ nearW n L (v : Int) = []) := by
  obtain ⟨l, h1, h2, h3⟩ := near_row G hv
  have sym : ∀ u : Nat, wL L (v : Int) (u : Int) = wL L (u : Int) (v : Int) := fun u => by
    unfold wL
    have : (fun e => decide (keyE (v : Int) (u : Int) e)) = fun e => decide (keyE (u : Int) (v : Int) e) := by
      funext e; unfold keyE mn mx
      congr 1
      apply propext
      by_cases c1 : (u : Int) < v
      · rw [if_pos c1, if_neg (by omega), if_neg (by omega), if_pos (by omega)]
      · by_cases c2 : (v : Int) < u
        · rw [if_neg c1, if_pos (by omega), if_pos (by omega), if_neg (by omega)]
        · rw [if_neg c1, if_neg (by omega), if_neg (by omega), if_neg (by omega)]
          have : (u : Int) = v := by omega
          rw [this]
    rw [this]
  have h4 : ∀ u, u ∈ l ↔ 0 < wL L (v : Int) (u : Int) := fun u => by rw [h3, sym, wL_pos G]
  have h5 : ∀ u ∈ l, u < n := fun u hu => by
    obtain ⟨e, he, ha⟩ := (h3 u).1 hu
    have := G.range e he
    unfold adj at ha; omega
  refine ⟨l, h1, h2, h4, h5, fun hl => ?_, fun hl => ?_⟩
  · unfold nearW
    rw [List.filter_eq_nil_iff]
    intro u _ hu
    have := (h4 u).2 (by rw [sym]; simpa using hu)
    rw [hl] at this; cases this
  · cases l with
    | nil => rfl
    | cons u r =>
      exfalso
      have hu : u ∈ u :: r := by simp
      have : u ∈ nearW n L (v : Int) := by
        unfold nearW
        rw [List.mem_filter, List.mem_range]
        exact ⟨h5 u hu, decide_eq_true (by rw [← sym]; exact (h4 u).1 hu)⟩
      rw [hl] at this; cases this
end Go.Proofs.YtokemibmanjpmaaGreatDoor
