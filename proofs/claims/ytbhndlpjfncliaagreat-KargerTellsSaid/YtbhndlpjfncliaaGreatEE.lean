/-
  E1, E2, E3, E4, in one text.
-/
import Derived.Test.YtbhndlpjfncliaaGreatMp
import Derived.Test.YtbhndlpjfncliaaGreatB1
import Derived.Test.YtbhndlpjfncliaaGreatG2
import Derived.Test.YtbhndlpjfncliaaGreatSo2
import Derived.Test.YtbhndlpjfncliaaGreatShE
import Derived.Shelf.SlSortCmp.NoneTotal
namespace Go.Hp
set_option linter.unusedVariables false
set_option linter.unusedSimpArgs false
set_option linter.unnecessarySimpa false

/-- Cells appended, some a thing. -/
theorem app_k {h0 : Base} {h : Heap} {q : Option Addr} {len cap k : Nat} {l news : List Value} {X R : Rws} {e : TypeId} {size bytes n : Nat} {zero : List Value} {K : Option Addr → Nat → Nat → Heap → Prop}
    (o : (q = none ∧ cap = 0 ∧ l = [] ∧ X = []) ∨ ∃ (b : Nat) (z : List Value), q = some ⟨b, 0, none⟩ ∧ (l ++ z).length = cap * k ∧ X = [(b, l ++ z)]) (s : St h0 h (X ++ R)) (hk0 : 0 < k) (hs : size = k) (hl : l.length = len * k) (hn : news.length = n * k) (hz : zero.length = k) (hf : ∀ v ∈ news, flat v = true) (hb : (len + n) * bytes ≤ 2 ^ 46 ∧ len + n ≤ 2 ^ 46)
    (hk : ∀ q' c' X' h', ((q' = none ∧ c' = 0 ∧ l ++ news = [] ∧ X' = []) ∨ ∃ (b : Nat) (z : List Value), q' = some ⟨b, 0, none⟩ ∧ (l ++ news ++ z).length = c' * k ∧ X' = [(b, l ++ news ++ z)]) → St h0 h' (X' ++ R) → K q' (len + n) c' h') : appP e size bytes zero q len cap n news h K := by
  subst hs
  have grow : ∀ olds, olds = l → ∀ c, len + n ≤ c →
      K (some ⟨h.size, 0, none⟩) (len + n) c (h.push (.cells (olds ++ news ++ zeroRow zero (c - (len + n))).toArray e)) := by
    rintro olds rfl c hc
    have s2 : St h0 h R := s.drop
    have := St.new_ (K := fun a h' => ∀ b, a = ⟨b, 0, none⟩ → St h0 h' ((b, olds ++ news ++ zeroRow zero (c - (len + n))) :: R)) (t := e) s2 (fun b h' s3 b' hb' => by cases hb'; exact s3)
    refine hk _ _ [(h.size, olds ++ news ++ zeroRow zero (c - (len + n)))] _ (.inr ⟨h.size, zeroRow zero (c - (len + n)), rfl, ?_, rfl⟩) (this h.size rfl)
    simp only [List.length_append, length_zeroRow, hz, hl, hn]
    rw [← Nat.add_mul, ← Nat.add_mul]; congr 1; omega
  rcases o with ⟨rfl, rfl, rfl, rfl⟩ | ⟨b, z, rfl, hcap, rfl⟩
  · have hl0 : len = 0 := by
      have : len * size = 0 := by simpa using hl.symm
      rcases Nat.mul_eq_zero.1 this with h | h
      · exact h
      · omega
    subst hl0
    refine ⟨fun hc => ?_, fun hc => ⟨hb.1, hb.2, [], ⟨by simp, fun j hj => absurd hj (by simp)⟩, grow _ rfl⟩⟩
    have hn0 : n = 0 := by omega
    subst hn0
    have hnn : news = [] := List.length_eq_zero_iff.1 (by simpa using hn)
    subst hnn
    exact hk none 0 [] h (.inl ⟨rfl, rfl, rfl, rfl⟩) s
  · refine ⟨fun hc => ?_, fun hc => ⟨hb.1, hb.2, l, ?_, grow _ rfl⟩⟩
    · show stL news h ((⟨b, 0, none⟩ : Addr).add (len * size)) 0 _
      rw [add_mk, Nat.zero_add, ← hl]
      have hzl : news.length ≤ z.length := by
        have h1 := Nat.mul_le_mul_right size hc
        rw [Nat.add_mul, ← hl, ← hn, ← hcap, List.length_append] at h1; omega
      have go : ∀ (ns l' z' : List Value) (h' : Heap) (i : Nat), i = l'.length → (∀ v ∈ ns, flat v = true) → ns.length ≤ z'.length → St h0 h' ((b, l ++ l' ++ z') :: R) → (l ++ l' ++ z').length = cap * size → l' ++ ns = news →
          stL ns h' ⟨b, l.length, none⟩ i (fun h'' => K (some ⟨b, 0, none⟩) (len + n) cap h'') := by
        intro ns
        induction ns with
        | nil =>
          intro l' z' h' i hi _ _ s' hlen hnews
          rw [List.append_nil] at hnews; subst hnews
          refine hk _ _ [(b, l ++ l' ++ z')] h' (.inr ⟨b, z', rfl, hlen, rfl⟩) s'
        | cons v ns ih =>
          intro l' z' h' i hi hfl hle s' hlen hnews
          obtain ⟨u, z'', rfl⟩ : ∃ u z'', z' = u :: z'' := by
            cases z' with
            | nil => simp at hle
            | cons u z'' => exact ⟨u, z'', rfl⟩
          unfold stL
          rw [hfl v (by simp)]
          simp only [add_mk]
          refine St.st0 s' (by simp; omega) fun h'' s'' => ih (l' ++ [v]) z'' h'' (i + 1) (by simp; omega) (fun x hx => hfl x (by simp [hx])) (by simpa using hle) ?_ ?_ (by simpa using hnews)
          · have : (l ++ l' ++ u :: z'').set (l.length + i) v = l ++ (l' ++ [v]) ++ z'' := by
              subst hi; simp [List.set_append]
            rw [this] at s''; exact s''
          · simpa using hlen
      exact go news [] z h 0 rfl hf hzl (by simpa using s) (by simpa using hcap) (by simp)
    · refine ⟨hl, fun j hj => ⟨_, rfl, ?_⟩⟩
      rw [add_mk, (s.rows (b, l ++ z) (by simp)).cell, Nat.zero_add, List.getElem?_append_left (by omega)]

/-! ### Edges -/
abbrev Ed := Int × Int × Int
def Ed.vs (e : Ed) : List Value := [.int .i64 e.1, .int .i64 e.2.1, .int .i64 e.2.2]
def eV (l : List Ed) : List Value := l.flatMap Ed.vs
theorem eV_len : ∀ l : List Ed, (eV l).length = l.length * 3
  | [] => rfl
  | e :: l => by
    have := eV_len l
    simp only [eV, List.flatMap_cons, List.length_append, List.length_cons, Ed.vs] at *
    simp only [List.length_nil]; omega
theorem eV_app (l m : List Ed) : eV (l ++ m) = eV l ++ eV m := by simp [eV]
theorem eV_one (e : Ed) : eV [e] = Ed.vs e := by simp [eV]
theorem eV_get : ∀ {l : List Ed} {i o : Nat} {e : Ed}, l[i]? = some e → o < 3 → (eV l)[i * 3 + o]? = (Ed.vs e)[o]?
  | [], i, o, e, h, ho => by simp at h
  | e0 :: l, 0, o, e, h, ho => by
    have h : e0 = e := by simpa using h
    subst h
    simp only [eV, List.flatMap_cons]
    rw [Nat.zero_mul, Nat.zero_add, List.getElem?_append_left (by simpa [Ed.vs] using ho)]
  | e0 :: l, i + 1, o, e, h, ho => by
    have h : l[i]? = some e := by simpa using h
    have ih := eV_get h ho
    show (Ed.vs e0 ++ eV l)[(i + 1) * 3 + o]? = _
    rw [List.getElem?_append_right (by simp [Ed.vs]; omega)]
    rw [show (i + 1) * 3 + o - (Ed.vs e0).length = i * 3 + o by simp [Ed.vs]; omega]
    exact ih
theorem eV_get0 {l : List Ed} {i : Nat} {u v w : Int} (h : l[i]? = some (u, v, w)) : (eV l)[i * 3]? = some (.int .i64 u) := eV_get (o := 0) h (by omega)
theorem eV_get1 {l : List Ed} {i : Nat} {u v w : Int} (h : l[i]? = some (u, v, w)) : (eV l)[i * 3 + 1]? = some (.int .i64 v) := eV_get (o := 1) h (by omega)
theorem eV_get2 {l : List Ed} {i : Nat} {u v w : Int} (h : l[i]? = some (u, v, w)) : (eV l)[i * 3 + 2]? = some (.int .i64 w) := eV_get (o := 2) h (by omega)
theorem eV_set3 {A B : List Ed} {e e' : Ed} {i : Nat} (hi : A.length = i) (z : List Value) : ((((eV (A ++ e :: B) ++ z).set (i * 3) (.int .i64 e'.1)).set (i * 3 + 1) (.int .i64 e'.2.1)).set (i * 3 + 2) (.int .i64 e'.2.2)) = eV (A ++ e' :: B) ++ z := by
  have hA : (eV A).length = i * 3 := by rw [eV_len, hi]
  have e1 : ∀ x : Ed, eV (A ++ x :: B) ++ z = eV A ++ (Value.int .i64 x.1 :: Value.int .i64 x.2.1 :: Value.int .i64 x.2.2 :: (eV B ++ z)) := fun x => by
    rw [eV_app, show x :: B = [x] ++ B from rfl, eV_app, eV_one]; simp [Ed.vs]
  rw [e1, e1]
  rw [List.set_append_right _ _ (by omega), show i * 3 - (eV A).length = 0 by omega, List.set_cons_zero]
  rw [List.set_append_right _ _ (by omega), show i * 3 + 1 - (eV A).length = 1 by omega]
  rw [List.set_append_right _ _ (by omega), show i * 3 + 2 - (eV A).length = 2 by omega]
  rfl
theorem eV_setW {A B : List Ed} {u v w w' : Int} {i : Nat} (hi : A.length = i) (z : List Value) : ((eV (A ++ (u, v, w) :: B) ++ z).set (i * 3 + 2) (.int .i64 w')) = eV (A ++ (u, v, w') :: B) ++ z := by
  have hA : (eV A).length = i * 3 := by rw [eV_len, hi]
  have e1 : ∀ x : Ed, eV (A ++ x :: B) ++ z = eV A ++ (Value.int .i64 x.1 :: Value.int .i64 x.2.1 :: Value.int .i64 x.2.2 :: (eV B ++ z)) := fun x => by
    rw [eV_app, show x :: B = [x] ++ B from rfl, eV_app, eV_one]; simp [Ed.vs]
  rw [e1, e1]
  rw [List.set_append_right _ _ (by omega), show i * 3 + 2 - (eV A).length = 2 by omega]
  rfl
theorem eV_flat (l : List Ed) : ∀ v ∈ eV l, flat v = true := by
  intro v hv
  obtain ⟨e, _, hv⟩ := List.mem_flatMap.1 hv
  simp only [Ed.vs, List.mem_cons, List.not_mem_nil, or_false] at hv
  rcases hv with rfl | rfl | rfl <;> rfl

theorem addr_add (a : Addr) (m n : Nat) : (a.add m).add n = a.add (m + n) := by
  unfold Addr.add
  by_cases h : m = 0
  · subst h; simp
  · by_cases h2 : n = 0
    · subst h2; simp
    · rw [if_neg h, if_neg h2, if_neg (by omega)]; simp [Nat.add_assoc]
section
variable {h : Heap} {q : Option Addr} {l : List Ed} {i : Nat}
theorem vals_edge {u v w : Int} {G : Int → Int → Int → Prop} (hv : valsAt h q (eV l)) (hx : l[i]? = some (u, v, w)) :
    (chkP q fun a => ∃ x : Int, cell h (a.add (i * 3)) = some (.int .i64 x) ∧ ∃ y : Int, cell h ((a.add (i * 3)).add 1) = some (.int .i64 y) ∧ ∃ z : Int, cell h ((a.add (i * 3)).add 2) = some (.int .i64 z) ∧ G x y z) = G u v w := by
  obtain ⟨a, rfl, h0⟩ := hv _ _ (eV_get0 hx)
  obtain ⟨a1, ha1, h1⟩ := hv _ _ (eV_get1 hx)
  obtain ⟨a2, ha2, h2⟩ := hv _ _ (eV_get2 hx)
  cases ha1; cases ha2
  rw [chkP_some, addr_add, addr_add, h0, h1, h2]
  simp
theorem vals_edge2 {u v w : Int} {G : Int → Prop} (hv : valsAt h q (eV l)) (hx : l[i]? = some (u, v, w)) :
    (chkP q fun a => ∃ z : Int, cell h ((a.add (i * 3)).add 2) = some (.int .i64 z) ∧ G z) = G w := by
  obtain ⟨a2, rfl, h2⟩ := hv _ _ (eV_get2 hx)
  rw [chkP_some, addr_add, h2]
  simp
end

/-- A slice of edges of one's own. -/
def Own3 (q : Option Addr) (cap : Nat) (l : List Ed) (X : Rws) : Prop :=
  (q = none ∧ cap = 0 ∧ l = [] ∧ X = []) ∨ ∃ (b : Nat) (z : List Value), q = some ⟨b, 0, none⟩ ∧ (eV l ++ z).length = cap * 3 ∧ X = [(b, eV l ++ z)]
theorem Own3.nil : Own3 none 0 [] [] := .inl ⟨rfl, rfl, rfl, rfl⟩
theorem Own3.keeps {h0 : Base} {q : Option Addr} {cap : Nat} {l : List Ed} {X R : Rws} (o : Own3 q cap l X) (hs : ∀ x ∈ X, x ∈ R) : Keeps h0 R q (eV l) := by
  rcases o with ⟨rfl, rfl, rfl, rfl⟩ | ⟨b, z, rfl, _, rfl⟩
  · exact Keeps.nil
  · exact Keeps.own (z := z) (hs _ (by simp))
theorem Own3.vals {h0 : Base} {h : Heap} {q : Option Addr} {cap : Nat} {l : List Ed} {X R : Rws} (o : Own3 q cap l X) (s : St h0 h (X ++ R)) : valsAt h q (eV l) := (o.keeps (R := X) fun x hx => hx).at0 s.keep
/-- One edge appended, out of a box. -/
theorem Own3.push1 {h0 : Base} {h : Heap} {q : Option Addr} {len cap : Nat} {l : List Ed} {u v w : Int} {X R : Rws} {t e : TypeId} {K : Option Addr → Nat → Nat → Heap → Prop}
    (o : Own3 q cap l X) (s : St h0 h (X ++ R)) (hl : len = l.length) (hb : len < 2 ^ 40)
    (hk : ∀ q' c' X' h', Own3 q' c' (l ++ [(u, v, w)]) X' → St h0 h' (X' ++ R) → K q' (len + 1) c' h') :
    newP h (.cells #[.int .i64 u, .int .i64 v, .int .i64 w] t) fun a h2 => ∃ n, cellsAt h2 (some a) (1 * 3) n ∧ appP e 3 24 [.int .i64 0, .int .i64 0, .int .i64 0] q len cap 1 n h2 K := by
  refine St.new_ (cs := Ed.vs (u, v, w)) s fun b h2 s2 => ⟨Ed.vs (u, v, w), ⟨rfl, fun j hj => ⟨_, rfl, ?_⟩⟩, ?_⟩
  · rw [add_mk, s2.rd0, Nat.zero_add]
  · refine app_k (k := 3) (l := eV l) (news := Ed.vs (u, v, w)) ?_ s2.tail (by omega) rfl (by rw [eV_len, hl]) rfl rfl (fun x hx => eV_flat [(u, v, w)] x (by rw [eV_one]; exact hx)) (by omega) fun q' c' X' h' o' s' => hk q' c' X' h' ?_ s'
    · rcases o with ⟨rfl, rfl, rfl, rfl⟩ | o
      · exact .inl ⟨rfl, rfl, rfl, rfl⟩
      · exact .inr o
    · have e1 : eV l ++ Ed.vs (u, v, w) = eV (l ++ [(u, v, w)]) := by rw [eV_app, eV_one]
      rw [e1] at o'
      rcases o' with ⟨_, _, h, _⟩ | o'
      · have := congrArg List.length h; rw [eV_len] at this; simp at this
      · exact .inr o'
end Go.Hp

namespace Go.Proofs.YtbhndlpjfncliaaGreat
set_option linter.unusedVariables false
set_option linter.unusedSimpArgs false
set_option linter.unnecessarySimpa false
open Go.Hp Go.RowKit
attribute [local irreducible] Go.Hp.iteB Go.Hp.stC Go.Hp.newP

theorem num_Add_of {a b : Int} {h : Heap} {K : Int → Bool → Heap → Prop} (ha : fits a) (hb : fits b) (hk : K (addR a b).1 (addR a b).2 h) : num_Add a b h K := by
  unfold num_Add
  simp only [bindV_eq]
  rw [add_over ha hb]
  unfold addR at hk
  by_cases hf : fits (a + b)
  · rw [if_pos hf] at hk; simp only [hf, decide_true, Bool.not_true, iteB_false]
    unfold fits at hf; rw [wrap_id (by omega) (by omega)]; exact hk
  · rw [if_neg hf] at hk; simp only [hf, decide_false, Bool.not_false, iteB_true]; exact hk

def normE (e : Ed) : Ed := if e.1 > e.2.1 then (e.2.1, e.1, e.2.2) else e
theorem normE_pos {e : Ed} (h : e.1 > e.2.1) : normE e = (e.2.1, e.1, e.2.2) := if_pos h
theorem normE_neg {e : Ed} (h : ¬ e.1 > e.2.1) : normE e = e := if_neg h
theorem normE_w (e : Ed) : (normE e).2.2 = e.2.2 := by unfold normE; split <;> rfl
theorem normE_le (e : Ed) : (normE e).1 ≤ (normE e).2.1 := by
  by_cases h : e.1 > e.2.1
  · rw [normE_pos h]; simp only; omega
  · rw [normE_neg h]; omega
theorem normE_eq (e : Ed) : (normE e).1 = (normE e).2.1 ↔ e.1 = e.2.1 := by
  by_cases h : e.1 > e.2.1
  · rw [normE_pos h]; simp only; omega
  · rw [normE_neg h]
theorem normE_idem {e : Ed} (h : e.1 ≤ e.2.1) : normE e = e := by unfold normE; rw [if_neg (by omega)]

section
variable {h0 : Base} {R : Rws}
theorem Normal_of {h : Heap} {e : Ed} {K : Int → Int → Int → Heap → Prop} (s : St h0 h R) (hk : ∀ h', St h0 h' R → K (normE e).1 (normE e).2.1 (normE e).2.2 h') : edge_Normal e.1 e.2.1 e.2.2 h K := by
  obtain ⟨u, v, w⟩ := e
  unfold edge_Normal
  refine s.new_ fun b1 h1 s1 => s1.new_ fun b2 h2 s2 => ?_
  intro j
  have J : ∀ h' x y z, St h0 h' ((b2, [.int .i64 0, .int .i64 0, .int .i64 0]) :: (b1, [.int .i64 x, .int .i64 y, .int .i64 z]) :: R) → normE (u, v, w) = (x, y, z) → j h' := by
    intro h' x y z s e
    simp -zeta only [j]
    try simp -zeta (disch := omega) only [chkP_some, iteB_true, iteB_false, add_mk, Nat.zero_add, Nat.add_zero, Nat.mul_one, Nat.reduceAdd, Int.toNat_natCast, ex_int, ex_slice, ex_ptr, ex_bool, ex_str, ex_flt, ex_any, bnd_in, List.getElem?_cons_zero, List.getElem?_cons_succ, List.set_cons_zero, List.set_cons_succ, List.cons_append, List.nil_append, bne_self_eq_false, beq_self_eq_true, Bool.not_true, Bool.not_false, Option.isNone_some, Option.isNone_none, eq_self, true_and, and_true, and_self, s.rd0, s.rd1]
    refine s.st0 (by simp) fun h3 s3 => ?_
    try simp -zeta (disch := omega) only [chkP_some, iteB_true, iteB_false, add_mk, Nat.zero_add, Nat.add_zero, Nat.mul_one, Nat.reduceAdd, Int.toNat_natCast, ex_int, ex_slice, ex_ptr, ex_bool, ex_str, ex_flt, ex_any, bnd_in, List.getElem?_cons_zero, List.getElem?_cons_succ, List.set_cons_zero, List.set_cons_succ, List.cons_append, List.nil_append, bne_self_eq_false, beq_self_eq_true, Bool.not_true, Bool.not_false, Option.isNone_some, Option.isNone_none, eq_self, true_and, and_true, and_self, s3.rd0, s3.rd1]
    refine s3.st0 (by simp) fun h4 s4 => ?_
    try simp -zeta (disch := omega) only [chkP_some, iteB_true, iteB_false, add_mk, Nat.zero_add, Nat.add_zero, Nat.mul_one, Nat.reduceAdd, Int.toNat_natCast, ex_int, ex_slice, ex_ptr, ex_bool, ex_str, ex_flt, ex_any, bnd_in, List.getElem?_cons_zero, List.getElem?_cons_succ, List.set_cons_zero, List.set_cons_succ, List.cons_append, List.nil_append, bne_self_eq_false, beq_self_eq_true, Bool.not_true, Bool.not_false, Option.isNone_some, Option.isNone_none, eq_self, true_and, and_true, and_self, s4.rd0, s4.rd1]
    refine s4.st0 (by simp) fun h5 s5 => ?_
    try simp -zeta (disch := omega) only [chkP_some, iteB_true, iteB_false, add_mk, Nat.zero_add, Nat.add_zero, Nat.mul_one, Nat.reduceAdd, Int.toNat_natCast, ex_int, ex_slice, ex_ptr, ex_bool, ex_str, ex_flt, ex_any, bnd_in, List.getElem?_cons_zero, List.getElem?_cons_succ, List.set_cons_zero, List.set_cons_succ, List.cons_append, List.nil_append, bne_self_eq_false, beq_self_eq_true, Bool.not_true, Bool.not_false, Option.isNone_some, Option.isNone_none, eq_self, true_and, and_true, and_self, s5.rd0, s5.rd1]
    have := hk h5 s5.tail.tail
    rw [e] at this; exact this
  clear_value j
  try simp -zeta (disch := omega) only [chkP_some, iteB_true, iteB_false, add_mk, Nat.zero_add, Nat.add_zero, Nat.mul_one, Nat.reduceAdd, Int.toNat_natCast, ex_int, ex_slice, ex_ptr, ex_bool, ex_str, ex_flt, ex_any, bnd_in, List.getElem?_cons_zero, List.getElem?_cons_succ, List.set_cons_zero, List.set_cons_succ, List.cons_append, List.nil_append, bne_self_eq_false, beq_self_eq_true, Bool.not_true, Bool.not_false, Option.isNone_some, Option.isNone_none, eq_self, true_and, and_true, and_self, s2.rd0, s2.rd1]
  refine iteB_intro (fun e => ?_) (fun e => ?_)
  · have e := of_decide_eq_true e
    try simp -zeta (disch := omega) only [chkP_some, iteB_true, iteB_false, add_mk, Nat.zero_add, Nat.add_zero, Nat.mul_one, Nat.reduceAdd, Int.toNat_natCast, ex_int, ex_slice, ex_ptr, ex_bool, ex_str, ex_flt, ex_any, bnd_in, List.getElem?_cons_zero, List.getElem?_cons_succ, List.set_cons_zero, List.set_cons_succ, List.cons_append, List.nil_append, bne_self_eq_false, beq_self_eq_true, Bool.not_true, Bool.not_false, Option.isNone_some, Option.isNone_none, eq_self, true_and, and_true, and_self, s2.rd0, s2.rd1]
    refine s2.st1 (by simp) fun h3 s3 => ?_
    try simp -zeta (disch := omega) only [chkP_some, iteB_true, iteB_false, add_mk, Nat.zero_add, Nat.add_zero, Nat.mul_one, Nat.reduceAdd, Int.toNat_natCast, ex_int, ex_slice, ex_ptr, ex_bool, ex_str, ex_flt, ex_any, bnd_in, List.getElem?_cons_zero, List.getElem?_cons_succ, List.set_cons_zero, List.set_cons_succ, List.cons_append, List.nil_append, bne_self_eq_false, beq_self_eq_true, Bool.not_true, Bool.not_false, Option.isNone_some, Option.isNone_none, eq_self, true_and, and_true, and_self, s3.rd0, s3.rd1]
    refine s3.st1 (by simp) fun h4 s4 => J h4 v u w s4 ?_
    unfold normE; rw [if_pos e]
  · have e := of_decide_eq_false e
    refine J h2 u v w s2 ?_
    unfold normE; rw [if_neg e]

/-! ### What comes together -/
def sameK (x e : Ed) : Prop := x.1 = e.1 ∧ x.2.1 = e.2.1
instance (x e : Ed) : Decidable (sameK x e) := by unfold sameK; exact inferInstance
def addP : List Ed → Ed → Option (List Ed)
  | [], e => some [e]
  | x :: r, e => if sameK x e then (if fits (x.2.2 + e.2.2) then some ((x.1, x.2.1, x.2.2 + e.2.2) :: r) else none) else (addP r e).map (x :: ·)
theorem addP_cons (x : Ed) (r : List Ed) (e : Ed) : addP (x :: r) e = if sameK x e then (if fits (x.2.2 + e.2.2) then some ((x.1, x.2.1, x.2.2 + e.2.2) :: r) else none) else (addP r e).map (x :: ·) := rfl
def stepP (o : Option (List Ed)) (x : Ed) : Option (List Ed) := match o with
  | none => none
  | some P => if (normE x).1 = (normE x).2.1 then some P else addP P (normE x)
def mergeP (l : List Ed) : Option (List Ed) := l.foldl stepP (some [])
theorem step_none : ∀ l : List Ed, l.foldl stepP none = none
  | [] => rfl
  | x :: l => step_none l
theorem mergeP_snoc (l : List Ed) (x : Ed) : mergeP (l ++ [x]) = stepP (mergeP l) x := by unfold mergeP; rw [List.foldl_append]; rfl
theorem mergeP_none {l : List Ed} {i : Nat} (h : mergeP (l.take i) = none) : mergeP l = none := by
  unfold mergeP at *
  rw [← List.take_append_drop i l, List.foldl_append, h, step_none]
theorem addP_none {e : Ed} : ∀ {P : List Ed}, (∀ x ∈ P, ¬ sameK x e) → addP P e = some (P ++ [e])
  | [], _ => rfl
  | x :: r, h => by rw [addP_cons, if_neg (h x (by simp)), addP_none fun y hy => h y (by simp [hy])]; rfl
theorem addP_mid {e x : Ed} : ∀ {A B : List Ed}, (∀ y ∈ A, ¬ sameK y e) → sameK x e → addP (A ++ x :: B) e = if fits (x.2.2 + e.2.2) then some (A ++ (x.1, x.2.1, x.2.2 + e.2.2) :: B) else none
  | [], B, _, hx => by rw [List.nil_append, addP_cons, if_pos hx]; rfl
  | y :: A, B, h, hx => by
    rw [List.cons_append, addP_cons]
    rw [if_neg (h y (by simp)), addP_mid (fun z hz => h z (by simp [hz])) hx]
    split <;> rfl
theorem split_key (e : Ed) : ∀ P : List Ed, (∀ x ∈ P, ¬ sameK x e) ∨ ∃ A x B, P = A ++ x :: B ∧ (∀ y ∈ A, ¬ sameK y e) ∧ sameK x e
  | [] => .inl (by simp)
  | x :: r => by
    by_cases c : sameK x e
    · exact .inr ⟨[], x, r, rfl, by simp, c⟩
    · rcases split_key e r with h | ⟨A, y, B, h1, h2, h3⟩
      · exact .inl fun z hz => by rcases List.mem_cons.1 hz with rfl | hz; exact c; exact h z hz
      · exact .inr ⟨x :: A, y, B, by rw [h1]; rfl, fun z hz => by rcases List.mem_cons.1 hz with rfl | hz; exact c; exact h2 z hz, h3⟩
/-- The map: where each pair stands. -/
def kvF : Nat → List Ed → KV
  | _, [] => []
  | i, e :: r => (.agg #[.int .i64 e.1, .int .i64 e.2.1], .int .i64 (i : Int)) :: kvF (i + 1) r
theorem kvF_app : ∀ (A B : List Ed) (i : Nat), kvF i (A ++ B) = kvF i A ++ kvF (i + A.length) B
  | [], B, i => by simp [kvF]
  | e :: A, B, i => by simp only [List.cons_append, kvF, kvF_app A B (i + 1), List.length_cons]; congr 3; omega
theorem kvF_key : ∀ (P : List Ed) (i : Nat), ∀ e ∈ kvF i P, isKey (.two .i64) e.1 = true
  | [], _, e, h => by simp [kvF] at h
  | x :: r, i, e, h => by
    simp only [kvF, List.mem_cons] at h
    rcases h with rfl | h
    · rfl
    · exact kvF_key r (i + 1) e h
theorem keyEq_two {a b c d : Int} : keyEq (.agg #[.int .i64 a, .int .i64 b]) (.agg #[.int .i64 c, .int .i64 d]) = (a == c && b == d) := rfl
theorem kvF_ne {e : Ed} : ∀ {P : List Ed} (i : Nat), (∀ x ∈ P, ¬ sameK x e) → ∀ y ∈ kvF i P, keyEq (.agg #[.int .i64 e.1, .int .i64 e.2.1]) y.1 = false
  | [], _, _, y, h => by simp [kvF] at h
  | x :: r, i, hx, y, h => by
    simp only [kvF, List.mem_cons] at h
    rcases h with rfl | h
    · rw [keyEq_two]
      have := hx x (by simp)
      rw [Bool.eq_false_iff]; simp only [ne_eq, Bool.and_eq_true, beq_iff_eq]
      rintro ⟨h1, h2⟩; exact this ⟨h1.symm, h2.symm⟩
    · exact kvF_ne (i + 1) (fun z hz => hx z (by simp [hz])) y h
theorem kvF_w {A B : List Ed} {u v w w' : Int} (i : Nat) : kvF i (A ++ (u, v, w) :: B) = kvF i (A ++ (u, v, w') :: B) := by rw [kvF_app, kvF_app]; rfl

def fitsL (P : List Ed) : Prop := ∀ e ∈ P, fits e.2.2
theorem addP_fits {e : Ed} (he : fits e.2.2) : ∀ {P Q : List Ed}, fitsL P → addP P e = some Q → fitsL Q ∧ Q.length ≤ P.length + 1
  | [], Q, _, h => by
    simp only [addP, Option.some.injEq] at h; subst h
    exact ⟨fun x hx => by simp only [List.mem_singleton] at hx; subst hx; exact he, by simp⟩
  | x :: r, Q, hP, h => by
    rw [addP_cons] at h
    split at h
    · split at h
      · rename_i hf
        simp only [Option.some.injEq] at h; subst h
        exact ⟨fun y hy => by rcases List.mem_cons.1 hy with rfl | hy; exact hf; exact hP y (by simp [hy]), by simp⟩
      · cases h
    · cases hr : addP r e with
      | none => rw [hr] at h; cases h
      | some Q' =>
        rw [hr] at h
        simp only [Option.map_some, Option.some.injEq] at h; subst h
        obtain ⟨h1, h2⟩ := addP_fits he (fun y hy => hP y (by simp [hy])) hr
        exact ⟨fun y hy => by rcases List.mem_cons.1 hy with rfl | hy; exact hP _ (by simp); exact h1 y hy, by simp; omega⟩

theorem merge_l0 {K0 : Option Addr → Nat → Nat → Bool → Heap → Prop} {K2 : Option Addr → Nat → Nat → Heap → Prop} {bm n cl : Nat} {ql : Option Addr} {l : List Ed} (hf : Base.free h0 bm) (hl : l.length = n) (hn : n < 2 ^ 30) (hw : fitsL l) (kl : Keeps h0 R ql (eV l))
    (hk0 : mergeP l = none → ∀ h', St h0 h' R → K0 none 0 0 false h')
    (hk2 : ∀ P, mergeP l = some P → ∀ h' q c X, fitsL P → P.length ≤ n → Own3 q c P X → St h0 h' (X ++ R) → K2 q P.length c h') :
    ∀ (d i : Nat) (h : Heap) (P : List Ed) (q : Option Addr) (c : Nat) (X : Rws), i + d = n → mergeP (l.take i) = some P → fitsL P → P.length ≤ i → Own3 q c P X → St (h0.with bm (mapObj (kvF 0 P))) h (X ++ R) →
      edge_Merge.l0 K0 K2 (d + 1) (some bm) q P.length c ql n cl (n : Int) (i : Int) h
  | 0, i, h, P, q, c, X, hi, hm, hfp, hpl, o, s => by
    unfold edge_Merge.l0 edge_Merge.b0
    have e : i = n := by omega
    subst e
    rw [List.take_of_length_le (by omega)] at hm
    exact iteB_neg (decide_eq_false (by omega)) (hk2 P hm h q c X hfp hpl o s.dropO)
  | d + 1, i, h, P, q, c, X, hi, hm, hfp, hpl, o, s => by
    unfold edge_Merge.l0 edge_Merge.b0
    obtain ⟨⟨u, v, w⟩, hx⟩ := get_lt (l := l) (i := i) (by omega)
    have hwx : fits w := hw _ (List.mem_of_getElem? hx)
    have vl : valsAt h ql (eV l) := kl.withO.at1 s
    have ms : mergeP (l.take (i + 1)) = stepP (some P) (u, v, w) := by rw [take_snoc hx, mergeP_snoc, hm]
    refine iteB_pos (decide_eq_true (by omega)) ?_
    simp -zeta (disch := omega) only [chkP_some, iteB_true, iteB_false, add_mk, Nat.zero_add, Nat.add_zero, Nat.mul_one, Nat.reduceAdd, Int.toNat_natCast, ex_int, ex_slice, ex_ptr, ex_bool, ex_str, ex_flt, ex_any, bnd_in, List.getElem?_cons_zero, List.getElem?_cons_succ, List.set_cons_zero, List.set_cons_succ, List.cons_append, List.nil_append, bne_self_eq_false, beq_self_eq_true, Bool.not_true, Bool.not_false, Option.isNone_some, Option.isNone_none, eq_self, true_and, and_true, and_self, vals_edge vl hx]
    refine s.new_ fun b1 h1 s1 => s1.st0 (by simp) fun h2 s2 => s2.st0 (by simp) fun h3 s3 => s3.st0 (by simp) fun h4 s4 => ?_
    try simp -zeta (disch := omega) only [chkP_some, iteB_true, iteB_false, add_mk, Nat.zero_add, Nat.add_zero, Nat.mul_one, Nat.reduceAdd, Int.toNat_natCast, ex_int, ex_slice, ex_ptr, ex_bool, ex_str, ex_flt, ex_any, bnd_in, List.getElem?_cons_zero, List.getElem?_cons_succ, List.set_cons_zero, List.set_cons_succ, List.cons_append, List.nil_append, bne_self_eq_false, beq_self_eq_true, Bool.not_true, Bool.not_false, Option.isNone_some, Option.isNone_none, eq_self, true_and, and_true, and_self, s4.rd0]
    refine callP3.self (Normal_of (e := (u, v, w)) s4 fun h5 s5 => ?_)
    obtain ⟨u', v', w', hne⟩ : ∃ u' v' w', normE (u, v, w) = (u', v', w') := ⟨_, _, _, rfl⟩
    have hw' : w' = w := by have := normE_w (u, v, w); rw [hne] at this; exact this
    have hwf : fits w' := by rw [hw']; exact hwx
    rw [hne]
    refine s5.new_ fun b2 h6 s6 => s6.st0 (by simp) fun h7 s7 => s7.st0 (by simp) fun h8 s8 => s8.st0 (by simp) fun h9 s9 => ?_
    try simp -zeta (disch := omega) only [chkP_some, iteB_true, iteB_false, add_mk, Nat.zero_add, Nat.add_zero, Nat.mul_one, Nat.reduceAdd, Int.toNat_natCast, ex_int, ex_slice, ex_ptr, ex_bool, ex_str, ex_flt, ex_any, bnd_in, List.getElem?_cons_zero, List.getElem?_cons_succ, List.set_cons_zero, List.set_cons_succ, List.cons_append, List.nil_append, bne_self_eq_false, beq_self_eq_true, Bool.not_true, Bool.not_false, Option.isNone_some, Option.isNone_none, eq_self, true_and, and_true, and_self, s9.rd0]
    rw [stepP, hne] at ms
    refine iteB_intro (fun e => ?_) (fun e => ?_)
    · have e : u' = v' := by simpa using e
      rw [if_pos e] at ms
      rw [wrap64 (by omega) (by omega)]
      exact merge_l0 hf hl hn hw kl hk0 hk2 d (i + 1) h9 P q c X (by omega) ms hfp (by omega) o s9.tail.tail
    · have e : ¬ u' = v' := by simpa using e
      rw [if_neg e] at ms
      refine s9.new_ fun b3 h10 s10 => s10.st0 (by simp) fun h11 s11 => s11.st0 (by simp) fun h12 s12 => ?_
      try simp -zeta (disch := omega) only [chkP_some, iteB_true, iteB_false, add_mk, Nat.zero_add, Nat.add_zero, Nat.mul_one, Nat.reduceAdd, Int.toNat_natCast, ex_int, ex_slice, ex_ptr, ex_bool, ex_str, ex_flt, ex_any, bnd_in, List.getElem?_cons_zero, List.getElem?_cons_succ, List.set_cons_zero, List.set_cons_succ, List.cons_append, List.nil_append, bne_self_eq_false, beq_self_eq_true, Bool.not_true, Bool.not_false, Option.isNone_some, Option.isNone_none, eq_self, true_and, and_true, and_self, s12.rd0, s12.rd1]
      rw [chkM_some]
      refine ⟨kvF 0 P, ⟨s12.mapAt, kvF_key P 0⟩, ?_⟩
      rcases split_key (u', v', w') P with hno | ⟨A, ⟨xu, xv, xw⟩, B, rfl, hA, hs⟩
      · -- a new pair
        rw [addP_none hno] at ms
        have hg := kvF_ne 0 hno
        rw [show getM (.agg #[.int .i64 u', .int .i64 v']) (kvF 0 P) = none from getM_none hg]
        refine ⟨0, rfl, iteB_pos rfl ?_⟩
        try simp -zeta (disch := omega) only [chkP_some, iteB_true, iteB_false, add_mk, Nat.zero_add, Nat.add_zero, Nat.mul_one, Nat.reduceAdd, Int.toNat_natCast, ex_int, ex_slice, ex_ptr, ex_bool, ex_str, ex_flt, ex_any, bnd_in, List.getElem?_cons_zero, List.getElem?_cons_succ, List.set_cons_zero, List.set_cons_succ, List.cons_append, List.nil_append, bne_self_eq_false, beq_self_eq_true, Bool.not_true, Bool.not_false, Option.isNone_some, Option.isNone_none, eq_self, true_and, and_true, and_self, s12.rd0, s12.rd1]
        rw [chkM_some]
        refine ⟨kvF 0 P, ⟨s12.mapAt, kvF_key P 0⟩, ?_⟩
        rw [show putM (.agg #[.int .i64 u', .int .i64 v']) (.int .i64 (P.length : Int)) (kvF 0 P) = kvF 0 (P ++ [(u', v', w')]) by rw [putM_none hg, kvF_app]; simp [kvF]]
        refine bindV_intro fun h13 e13 => ?_
        have s13 := s12.setO (o' := mapObj (kvF 0 (P ++ [(u', v', w')]))) hf rfl
        rw [← e13] at s13
        try simp -zeta (disch := omega) only [chkP_some, iteB_true, iteB_false, add_mk, Nat.zero_add, Nat.add_zero, Nat.mul_one, Nat.reduceAdd, Int.toNat_natCast, ex_int, ex_slice, ex_ptr, ex_bool, ex_str, ex_flt, ex_any, bnd_in, List.getElem?_cons_zero, List.getElem?_cons_succ, List.set_cons_zero, List.set_cons_succ, List.cons_append, List.nil_append, bne_self_eq_false, beq_self_eq_true, Bool.not_true, Bool.not_false, Option.isNone_some, Option.isNone_none, eq_self, true_and, and_true, and_self, s13.rd0, s13.rd1]
        have s13 : St _ h13 (X ++ R) := (St.re s13 (by intro a; simp only [cntR_append, cntR_cons, cntR_nil, List.cons_append, List.nil_append, List.set_cons_zero, List.set_cons_succ]; omega))
        refine Own3.push1 o s13 rfl (by omega) fun q2 c2 X2 h14 o2 s14 => ?_
        rw [wrap64 (by omega) (by omega)]
        have := merge_l0 (cl := cl) hf hl hn hw kl hk0 hk2 d (i + 1) h14 (P ++ [(u', v', w')]) q2 c2 X2 (by omega) ms (fun x hx => by
          rcases List.mem_append.1 hx with hx | hx
          · exact hfp x hx
          · simp only [List.mem_singleton] at hx; subst hx; exact hwf) (by simp; omega) o2 s14
        simpa using this
      · -- a pair that there is
        obtain ⟨hs1, hs2⟩ := hs
        simp only at hs1 hs2
        subst hs1; subst hs2
        rw [addP_mid (x := (xu, xv, xw)) hA ⟨rfl, rfl⟩] at ms
        have hg := kvF_ne 0 hA
        have ek : kvF 0 (A ++ (xu, xv, xw) :: B) = kvF 0 A ++ (.agg #[.int .i64 xu, .int .i64 xv], .int .i64 (A.length : Int)) :: kvF (A.length + 1) B := by rw [kvF_app]; simp [kvF]
        have hke : keyEq (.agg #[.int .i64 xu, .int .i64 xv]) (.agg #[.int .i64 xu, .int .i64 xv]) = true := by rw [keyEq_two]; simp
        rw [show getM (.agg #[.int .i64 xu, .int .i64 xv]) (kvF 0 (A ++ (xu, xv, xw) :: B)) = some (.int .i64 (A.length : Int)) by rw [ek]; exact getM_mid hg hke]
        refine ⟨(A.length : Int), rfl, iteB_neg rfl ?_⟩
        have hAl : A.length < (A ++ (xu, xv, xw) :: B).length := by simp
        have gx : (A ++ (xu, xv, xw) :: B)[A.length]? = some (xu, xv, xw) := by simp
        have s12 : St (h0.with bm (mapObj (kvF 0 (A ++ (xu, xv, xw) :: B)))) h12 (X ++ (b2, [Value.int .i64 xu, .int .i64 xv, .int .i64 w']) :: R) := (St.re s12 (by intro a; simp only [cntR_append, cntR_cons, cntR_nil, List.cons_append, List.nil_append, List.set_cons_zero, List.set_cons_succ]; omega))
        have vp := o.vals s12
        have r2 : ∀ j, cell h12 ⟨b2, j, none⟩ = [Value.int .i64 xu, .int .i64 xv, .int .i64 w'][j]? := s12.rd (by simp)
        simp -zeta (disch := omega) only [chkP_some, iteB_true, iteB_false, add_mk, Nat.zero_add, Nat.add_zero, Nat.mul_one, Nat.reduceAdd, Int.toNat_natCast, ex_int, ex_slice, ex_ptr, ex_bool, ex_str, ex_flt, ex_any, bnd_in, List.getElem?_cons_zero, List.getElem?_cons_succ, List.set_cons_zero, List.set_cons_succ, List.cons_append, List.nil_append, bne_self_eq_false, beq_self_eq_true, Bool.not_true, Bool.not_false, Option.isNone_some, Option.isNone_none, eq_self, true_and, and_true, and_self, vals_edge2 vp gx, r2]
        have hxf : fits xw := hfp (xu, xv, xw) (by simp)
        refine qcallP2.of _ _ (fun Q hQ => num_Add_of hxf hwf hQ) ?_
        unfold addR
        simp only at ms
        by_cases hfit : fits (xw + w')
        · rw [if_pos hfit]
          rw [if_pos hfit] at ms
          refine iteB_neg rfl ?_
          rcases o with ⟨_, _, hnil, _⟩ | ⟨b, zz, rfl, hcap, rfl⟩
          · simp at hnil
          simp -zeta (disch := omega) only [chkP_some, iteB_true, iteB_false, add_mk, Nat.zero_add, Nat.add_zero, Nat.mul_one, Nat.reduceAdd, Int.toNat_natCast, ex_int, ex_slice, ex_ptr, ex_bool, ex_str, ex_flt, ex_any, bnd_in, List.getElem?_cons_zero, List.getElem?_cons_succ, List.set_cons_zero, List.set_cons_succ, List.cons_append, List.nil_append, bne_self_eq_false, beq_self_eq_true, Bool.not_true, Bool.not_false, Option.isNone_some, Option.isNone_none, eq_self, true_and, and_true, and_self]
          have hlen : A.length * 3 + 2 < (eV (A ++ (xu, xv, xw) :: B) ++ zz).length := by rw [List.length_append, eV_len]; simp; omega
          refine St.st0 (by simpa using s12) hlen fun h13 s13 => ?_
          rw [eV_setW rfl] at s13
          rw [wrap64 (by omega) (by omega)]
          have o2 : Own3 (some ⟨b, 0, none⟩) c (A ++ (xu, xv, xw + w') :: B) [(b, eV (A ++ (xu, xv, xw + w') :: B) ++ zz)] := .inr ⟨b, zz, rfl, by rw [← hcap]; simp only [List.length_append, eV_len, List.length_cons], rfl⟩
          have s13 : St (h0.with bm (mapObj (kvF 0 (A ++ (xu, xv, xw + w') :: B)))) h13 ([(b, eV (A ++ (xu, xv, xw + w') :: B) ++ zz)] ++ R) := by
            rw [kvF_w (w' := xw)]; exact (St.re s13 (by intro a; simp only [cntR_append, cntR_cons, cntR_nil, List.cons_append, List.nil_append, List.set_cons_zero, List.set_cons_succ]; omega))
          have := merge_l0 (cl := cl) hf hl hn hw kl hk0 hk2 d (i + 1) h13 (A ++ (xu, xv, xw + w') :: B) _ c _ (by omega) ms (fun x hx => by
            rcases List.mem_append.1 hx with hx | hx
            · exact hfp x (by simp [hx])
            · rcases List.mem_cons.1 hx with rfl | hx
              · exact hfit
              · exact hfp x (by simp [hx])) (by simp at hpl ⊢; omega) o2 s13
          simpa using this
        · rw [if_neg hfit]
          rw [if_neg hfit] at ms
          exact iteB_pos rfl (hk0 (mergeP_none ms) h12 ((St.re s12.dropO (by intro a; simp only [cntR_append, cntR_cons, cntR_nil, List.cons_append, List.nil_append, List.set_cons_zero, List.set_cons_succ]; omega))))
end
end Go.Proofs.YtbhndlpjfncliaaGreat

namespace Go.Proofs.YtbhndlpjfncliaaGreat
set_option linter.unusedVariables false
set_option linter.unusedSimpArgs false
set_option linter.unnecessarySimpa false
open Go.Hp Go.RowKit Go.Sort
attribute [local irreducible] Go.Hp.iteB Go.Hp.stC Go.Hp.newP

/-- Many cells stored: what lies ahead stays. -/
theorem many3 {h0 : Base} {R : Rws} {b off : Nat} {K : Heap → Prop} {n : Nat} {fr : List Value} (hk : ∀ h' cs', cs'.length = n → cs'.take off = fr → St h0 h' ((b, cs') :: R) → K h') :
    ∀ (vs : List Value) (i : Nat) (cs : List Value) (h : Heap), St h0 h ((b, cs) :: R) → cs.length = n → cs.take off = fr → (∀ v ∈ vs, flat v = true) → off + i + vs.length ≤ n → stL vs h ⟨b, off, none⟩ i K
  | [], i, cs, h, s, hc, hf0, _, _ => by unfold stL; exact hk h cs hc hf0 s
  | v :: vs, i, cs, h, s, hc, hf0, hf, hl => by
    unfold stL
    rw [hf v (by simp)]
    simp only [add_mk]
    simp only [List.length_cons] at hl
    exact s.st0 (by omega) fun h2 s2 => many3 hk vs (i + 1) _ h2 s2 (by simpa using hc) (by rw [List.take_set_of_le (by omega)]; exact hf0) (fun x hx => hf x (by simp [hx])) (by omega)
theorem flat_zr3 {z : List Value} (hz : ∀ v ∈ z, flat v = true) : ∀ n, ∀ v ∈ zeroRow z n, flat v = true
  | 0, v, hv => by simp [zeroRow] at hv
  | n + 1, v, hv => by
    simp only [zeroRow, List.mem_append] at hv
    rcases hv with hv | hv
    · exact hz v hv
    · exact flat_zr3 hz n v hv
theorem clear3 {h0 : Base} {h : Heap} {R : Rws} {b off n : Nat} {cs : List Value} {K : Heap → Prop} (s : St h0 h ((b, cs) :: R)) (hl : off + n * 3 ≤ cs.length) (hk : ∀ h' cs', cs'.length = cs.length → cs'.take off = cs.take off → St h0 h' ((b, cs') :: R) → K h') :
    clearP [.int .i64 0, .int .i64 0, .int .i64 0] (some ⟨b, off, none⟩) n h K :=
  many3 hk (zeroRow [.int .i64 0, .int .i64 0, .int .i64 0] n) 0 cs h s rfl rfl (flat_zr3 (by simp [flat]) n) (by rw [length_zeroRow]; simp; omega)

def nz (e : Ed) : Bool := e.2.2 != 0
section
variable {h0 : Base} {R : Rws}
theorem mc1_of {h : Heap} {u v w : Int} {K : Bool → Heap → Prop} (s : St h0 h R) (hk : ∀ h', St h0 h' R → K (w == 0) h') : edge_Merge_c1 u v w h K := by
  unfold edge_Merge_c1
  refine s.new_ fun b h1 s1 => ?_
  try simp -zeta (disch := omega) only [chkP_some, iteB_true, iteB_false, add_mk, Nat.zero_add, Nat.add_zero, Nat.mul_one, Nat.reduceAdd, Int.toNat_natCast, ex_int, ex_slice, ex_ptr, ex_bool, ex_str, ex_flt, ex_any, bnd_in, List.getElem?_cons_zero, List.getElem?_cons_succ, List.set_cons_zero, List.set_cons_succ, List.cons_append, List.nil_append, bne_self_eq_false, beq_self_eq_true, Bool.not_true, Bool.not_false, Option.isNone_some, Option.isNone_none, eq_self, true_and, and_true, and_self, s1.rd0]
  exact hk h1 s1.tail
theorem index_l0 {K0 : Int → Heap → Prop} {K2 : Heap → Prop} {q : Option Addr} {n c : Nat} {P : List Ed} (hl : P.length = n) (hn : n < 2 ^ 40) (kp : Keeps h0 R q (eV P))
    (hk0 : ∀ h' i e, P[i]? = some e → nz e = false → (P.take i).filter nz = P.take i → St h0 h' R → K0 (i : Nat) h') (hk2 : P.filter nz = P → ∀ h', St h0 h' R → K2 h') :
    ∀ (d i : Nat) (h : Heap), i + d = n → (P.take i).filter nz = P.take i → St h0 h R → slices_IndexFunc_Lapi_Edge_api_Edge_edge_Merge_c1.l0 K0 K2 (d + 1) q n c (n : Int) (i : Int) h
  | 0, i, h, hi, hf, s => by
    unfold slices_IndexFunc_Lapi_Edge_api_Edge_edge_Merge_c1.l0 slices_IndexFunc_Lapi_Edge_api_Edge_edge_Merge_c1.b0
    rw [List.take_of_length_le (by omega)] at hf
    exact iteB_neg (decide_eq_false (by omega)) (hk2 hf h s)
  | d + 1, i, h, hi, hf, s => by
    unfold slices_IndexFunc_Lapi_Edge_api_Edge_edge_Merge_c1.l0 slices_IndexFunc_Lapi_Edge_api_Edge_edge_Merge_c1.b0
    obtain ⟨⟨u, v, w⟩, hx⟩ := get_lt (l := P) (i := i) (by omega)
    have vp := kp.at0 s
    refine iteB_pos (decide_eq_true (by omega)) ?_
    simp -zeta (disch := omega) only [chkP_some, iteB_true, iteB_false, add_mk, Nat.zero_add, Nat.add_zero, Nat.mul_one, Nat.reduceAdd, Int.toNat_natCast, ex_int, ex_slice, ex_ptr, ex_bool, ex_str, ex_flt, ex_any, bnd_in, List.getElem?_cons_zero, List.getElem?_cons_succ, List.set_cons_zero, List.set_cons_succ, List.cons_append, List.nil_append, bne_self_eq_false, beq_self_eq_true, Bool.not_true, Bool.not_false, Option.isNone_some, Option.isNone_none, eq_self, true_and, and_true, and_self, vals_edge vp hx]
    refine callP1.self (mc1_of s fun h2 s2 => iteB_intro (fun e => ?_) (fun e => ?_))
    · exact hk0 h2 i _ hx (by unfold nz; simp only [bne, e, Bool.not_true]) hf s2
    · rw [wrap64 (by omega) (by omega)]
      refine index_l0 hl hn kp hk0 hk2 d (i + 1) h2 (by omega) ?_ s2
      rw [take_snoc hx, List.filter_append, hf]
      have : nz (u, v, w) = true := by unfold nz; simp only [bne, e, Bool.not_false]
      simp [this]

theorem del_l0 {K2 : Int → Heap → Prop} {b n c : Nat} {P : List Ed} {z : List Value} (hl : P.length = n) (hc : n * 3 + z.length = c * 3) (hn : n < 2 ^ 40)
    (hk : ∀ h' cs', cs'.length = c * 3 → cs'.take ((P.filter nz).length * 3) = eV (P.filter nz) → St h0 h' ((b, cs') :: R) → K2 ((P.filter nz).length : Nat) h') :
    ∀ (d j : Nat) (h : Heap) (cs : List Value), j + d = n → cs.length = c * 3 → cs.take (((P.take j).filter nz).length * 3) = eV ((P.take j).filter nz) → ((P.take j).filter nz).length < j → (∀ k, j * 3 ≤ k → cs[k]? = (eV P ++ z)[k]?) → St h0 h ((b, cs) :: R) →
      slices_DeleteFunc_Lapi_Edge_api_Edge_edge_Merge_c1.l0 K2 (d + 1) (some ⟨b, 0, none⟩) n c (((P.take j).filter nz).length : Nat) (j : Int) h
  | 0, j, h, cs, hj, hcl, hct, hlt, hrest, s => by
    unfold slices_DeleteFunc_Lapi_Edge_api_Edge_edge_Merge_c1.l0 slices_DeleteFunc_Lapi_Edge_api_Edge_edge_Merge_c1.b0
    rw [List.take_of_length_le (l := P) (by omega)] at hct ⊢
    exact iteB_neg (decide_eq_false (by omega)) (hk h cs hcl hct s)
  | d + 1, j, h, cs, hj, hcl, hct, hlt, hrest, s => by
    unfold slices_DeleteFunc_Lapi_Edge_api_Edge_edge_Merge_c1.l0 slices_DeleteFunc_Lapi_Edge_api_Edge_edge_Merge_c1.b0
    obtain ⟨⟨u, v, w⟩, hx⟩ := get_lt (l := P) (i := j) (by omega)
    have el := eV_len P
    have rest : ∀ o, o < 3 → cs[j * 3 + o]? = (Ed.vs (u, v, w))[o]? := fun o ho => by
      rw [hrest _ (by omega), List.getElem?_append_left (by omega)]; exact eV_get hx ho
    have g0 : cell h ⟨b, j * 3, none⟩ = some (.int .i64 u) := by rw [s.rd0]; exact rest 0 (by omega)
    have g1 : cell h ⟨b, j * 3 + 1, none⟩ = some (.int .i64 v) := by rw [s.rd0]; exact rest 1 (by omega)
    have g2 : cell h ⟨b, j * 3 + 2, none⟩ = some (.int .i64 w) := by rw [s.rd0]; exact rest 2 (by omega)
    refine iteB_pos (decide_eq_true (by omega)) ?_
    simp -zeta (disch := omega) only [chkP_some, iteB_true, iteB_false, add_mk, Nat.zero_add, Nat.add_zero, Nat.mul_one, Nat.reduceAdd, Int.toNat_natCast, ex_int, ex_slice, ex_ptr, ex_bool, ex_str, ex_flt, ex_any, bnd_in, List.getElem?_cons_zero, List.getElem?_cons_succ, List.set_cons_zero, List.set_cons_succ, List.cons_append, List.nil_append, bne_self_eq_false, beq_self_eq_true, Bool.not_true, Bool.not_false, Option.isNone_some, Option.isNone_none, eq_self, true_and, and_true, and_self, g0, g1, g2]
    refine s.new_ fun b2 h1 s1 => s1.st0 (by simp) fun h2 s2 => s2.st0 (by simp) fun h3 s3 => s3.st0 (by simp) fun h4 s4 => ?_
    try simp -zeta (disch := omega) only [chkP_some, iteB_true, iteB_false, add_mk, Nat.zero_add, Nat.add_zero, Nat.mul_one, Nat.reduceAdd, Int.toNat_natCast, ex_int, ex_slice, ex_ptr, ex_bool, ex_str, ex_flt, ex_any, bnd_in, List.getElem?_cons_zero, List.getElem?_cons_succ, List.set_cons_zero, List.set_cons_succ, List.cons_append, List.nil_append, bne_self_eq_false, beq_self_eq_true, Bool.not_true, Bool.not_false, Option.isNone_some, Option.isNone_none, eq_self, true_and, and_true, and_self, s4.rd0]
    refine callP1.self (mc1_of s4 fun h5 s5 => ?_)
    have ft : (P.take (j + 1)).filter nz = (P.take j).filter nz ++ (if nz (u, v, w) = true then [(u, v, w)] else []) := by
      rw [take_snoc hx, List.filter_append]; congr 1; cases hz : nz (u, v, w) <;> simp [hz]
    refine iteB_intro (fun e => ?_) (fun e => ?_)
    · have hz : nz (u, v, w) = true := by unfold nz; simp only [bne]; exact e
      rw [if_pos hz] at ft
      try simp -zeta (disch := omega) only [chkP_some, iteB_true, iteB_false, add_mk, Nat.zero_add, Nat.add_zero, Nat.mul_one, Nat.reduceAdd, Int.toNat_natCast, ex_int, ex_slice, ex_ptr, ex_bool, ex_str, ex_flt, ex_any, bnd_in, List.getElem?_cons_zero, List.getElem?_cons_succ, List.set_cons_zero, List.set_cons_succ, List.cons_append, List.nil_append, bne_self_eq_false, beq_self_eq_true, Bool.not_true, Bool.not_false, Option.isNone_some, Option.isNone_none, eq_self, true_and, and_true, and_self, s5.rd0]
      have hb3 : ((P.take j).filter nz).length * 3 + 3 ≤ cs.length := by omega
      refine s5.st1 (by omega) fun h6 s6 => ?_
      refine s6.st1 (by simp; omega) fun h7 s7 => ?_
      refine s7.st1 (by simp; omega) fun h8 s8 => ?_
      rw [wrap64 (by omega) (by omega), wrap64 (by omega) (by omega)]
      have hfl : ((P.take (j + 1)).filter nz).length = ((P.take j).filter nz).length + 1 := by rw [ft]; simp
      have hev : (eV ((P.take j).filter nz)).length = ((P.take j).filter nz).length * 3 := eV_len _
      generalize hF : (P.take j).filter nz = F at *
      have r := del_l0 (K2 := K2) hl hc hn hk d (j + 1) h8 (((cs.set (F.length * 3) (.int .i64 u)).set (F.length * 3 + 1) (.int .i64 v)).set (F.length * 3 + 2) (.int .i64 w)) (by omega) (by simpa using hcl) (by
        rw [hfl, ft, eV_app, eV_one, ← hct]
        apply List.ext_getElem?
        intro k
        rw [List.getElem?_take]
        by_cases k3 : k < (F.length + 1) * 3
        · rw [if_pos k3]
          by_cases k0 : k < F.length * 3
          · rw [List.getElem?_append_left (by rw [List.length_take]; omega), List.getElem?_take, if_pos k0]
            rw [List.getElem?_set_ne (by omega), List.getElem?_set_ne (by omega), List.getElem?_set_ne (by omega)]
          · rw [List.getElem?_append_right (by rw [List.length_take]; omega), List.length_take, Nat.min_eq_left (by omega)]
            have : k = F.length * 3 ∨ k = F.length * 3 + 1 ∨ k = F.length * 3 + 2 := by omega
            rcases this with rfl | rfl | rfl
            · rw [List.getElem?_set_ne (by omega), List.getElem?_set_ne (by omega), List.getElem?_set_self (by omega), Nat.sub_self]; rfl
            · rw [List.getElem?_set_ne (by omega), List.getElem?_set_self (by simp; omega), show F.length * 3 + 1 - F.length * 3 = 1 by omega]; rfl
            · rw [List.getElem?_set_self (by simp; omega), show F.length * 3 + 2 - F.length * 3 = 2 by omega]; rfl
        · rw [if_neg k3, List.getElem?_eq_none (by rw [List.length_append, List.length_take]; simp [Ed.vs]; omega)]) (by rw [hfl]; omega) (fun k hk => by
        rw [List.getElem?_set_ne (by omega), List.getElem?_set_ne (by omega), List.getElem?_set_ne (by omega)]; exact hrest k (by omega)) ((St.re s8 (by intro a; simp only [cntR_append, cntR_cons, cntR_nil, List.cons_append, List.nil_append, List.set_cons_zero, List.set_cons_succ]; omega)))
      rw [hfl] at r
      exact r
    · have hz : ¬ nz (u, v, w) = true := by unfold nz; simp only [bne]; rw [e]; simp
      rw [if_neg hz, List.append_nil] at ft
      rw [wrap64 (by omega) (by omega)]
      have r := del_l0 (K2 := K2) hl hc hn hk d (j + 1) h5 cs (by omega) hcl (by rw [ft]; exact hct) (by rw [ft]; omega) (fun k hk => hrest k (by omega)) s5.tail
      rw [ft] at r
      exact r

theorem Delete_of {h : Heap} {q : Option Addr} {n c : Nat} {P : List Ed} {X : Rws} {K : Option Addr → Nat → Nat → Heap → Prop} (hl : P.length = n) (hn : n < 2 ^ 40) (o : Own3 q c P X) (s : St h0 h (X ++ R))
    (hk : ∀ h' X', Own3 q c (P.filter nz) X' → St h0 h' (X' ++ R) → K q (P.filter nz).length c h') : slices_DeleteFunc_Lapi_Edge_api_Edge_edge_Merge_c1 q n c h K := by
  unfold slices_DeleteFunc_Lapi_Edge_api_Edge_edge_Merge_c1
  refine callP1.self ?_
  unfold slices_IndexFunc_Lapi_Edge_api_Edge_edge_Merge_c1
  have kp : Keeps h0 (X ++ R) q (eV P) := o.keeps fun x hx => by simp [hx]
  refine ⟨n + 1, index_l0 hl hn kp (fun h1 i e hx hz hf s1 => ?_) (fun hf h1 s1 => ?_) n 0 h (by omega) (by simp) s⟩
  · refine iteB_neg (by simp) ?_
    have hi := lt_get hx
    rcases o with ⟨_, _, rfl, _⟩ | ⟨b, z, rfl, hcap, rfl⟩
    · simp at hi
    have el := eV_len P
    rw [wrap64 (by omega) (by omega)]
    have hft : (P.take (i + 1)).filter nz = P.take i := by rw [take_snoc hx, List.filter_append, hf]; simp [hz]
    have hfl : ((P.take (i + 1)).filter nz).length = i := by rw [hft, List.length_take]; omega
    refine ⟨n - i - 1 + 1, ?_⟩
    have r := del_l0 (K2 := fun z4 h5 => (0 ≤ z4 ∧ z4 ≤ (n : Int)) ∧ clearP [(.int .i64 0), (.int .i64 0), (.int .i64 0)] (if c = z4.toNat then (some ⟨b, 0, none⟩) else (some (⟨b, 0, none⟩ : Addr)).map (·.add (z4.toNat * 3))) (n - z4.toNat) h5 fun h7 => ((0 ≤ z4 ∧ z4 ≤ (c : Int)) ∧ (K (if c = 0 then (some ⟨b, 0, none⟩) else (some (⟨b, 0, none⟩ : Addr)).map (·.add (0 * 3))) z4.toNat c h7)))
      (b := b) (c := c) (P := P) (z := z) hl (by rw [← hcap, List.length_append, el, hl]) hn (fun h2 cs' e1 e2 s2 => ?_) (n - i - 1) (i + 1) h1 (eV P ++ z) (by omega) hcap (by
        rw [hfl, hft, List.take_append_of_le_length (by omega)]
        have : P = P.take i ++ P.drop i := (List.take_append_drop i P).symm
        conv => lhs; rw [this, eV_app]
        rw [List.take_append_of_le_length (by rw [eV_len, List.length_take]; omega), List.take_of_length_le (by rw [eV_len, List.length_take]; omega)]) (by rw [hfl]; omega) (fun _ _ => rfl) s1
    · rw [hfl] at r
      exact r
    · have fl : (P.filter nz).length < n := by
        have h1 : (P.filter nz).length ≤ n := by rw [← hl]; exact List.length_filter_le _ _
        rcases Nat.lt_or_ge (P.filter nz).length n with h | h
        · exact h
        · have : P.filter nz = P := List.filter_eq_self.2 (by
            have := List.length_filter_eq_length_iff.1 (show (P.filter nz).length = P.length by omega)
            exact this)
          have := (List.filter_eq_self.1 this) e (List.mem_of_getElem? hx)
          rw [hz] at this; cases this
      rw [Int.toNat_natCast]
      have hcap2 : P.length * 3 + z.length = c * 3 := by rw [← hcap, List.length_append, el]
      rw [if_neg (by omega), if_neg (by omega)]
      simp only [Option.map_some, add_mk, Nat.zero_add, Nat.zero_mul]
      refine ⟨by omega, clear3 s2 (by omega) fun h3 cs3 e3 t3 s3 => ⟨by omega, ?_⟩⟩
      have e4 : cs3 = eV (P.filter nz) ++ cs3.drop ((P.filter nz).length * 3) := by rw [← e2, ← t3]; exact (List.take_append_drop _ _).symm
      refine hk h3 [(b, eV (P.filter nz) ++ cs3.drop ((P.filter nz).length * 3))] (.inr ⟨b, _, rfl, ?_, rfl⟩) ?_
      · rw [← e4]; omega
      · rw [← e4]; exact s3
  · refine iteB_pos rfl ?_
    have := hk h1 X (by rw [hf]; exact o) s1
    rw [hf, hl] at this; exact this
end
end Go.Proofs.YtbhndlpjfncliaaGreat

namespace Go.Proofs.YtbhndlpjfncliaaGreat
set_option linter.unusedVariables false
set_option linter.unusedSimpArgs false
set_option linter.unnecessarySimpa false
open Go.Hp Go.RowKit Go.Sort
attribute [local irreducible] Go.Hp.iteB Go.Hp.stC Go.Hp.newP

def cfI (x y : Int) : Int := if x < y then -1 else if x > y then 1 else 0
theorem cfI_zero {x y : Int} : cfI x y = 0 ↔ x = y := by unfold cfI; split <;> (try split) <;> omega
theorem cfI_neg {x y : Int} : cfI x y < 0 ↔ x < y := by unfold cfI; split <;> (try split) <;> omega
theorem compare_of {x y : Int} {h : Heap} {K : Int → Heap → Prop} (hk : K (cfI x y) h) : cmp_Compare_int x y h K := by
  unfold cmp_Compare_int
  refine qcallP1.of false (fun R hR => by unfold cmp_isNaN_int; simpa using hR) ?_
  refine qcallP1.of false (fun R hR => by unfold cmp_isNaN_int; simpa using hR) ?_
  refine iteB_neg rfl (iteB_neg rfl ?_)
  unfold cfI at hk
  refine iteB_intro (fun e => ?_) (fun e => ?_)
  · rwa [if_pos (of_decide_eq_true e)] at hk
  · rw [if_neg (of_decide_eq_false e)] at hk
    refine iteB_intro (fun e2 => ?_) (fun e2 => ?_)
    · rwa [if_pos (of_decide_eq_true e2)] at hk
    · rwa [if_neg (of_decide_eq_false e2)] at hk
theorem compare64_of {x y : Int} {h : Heap} {K : Int → Heap → Prop} (hk : K (cfI x y) h) : cmp_Compare_int64 x y h K := by
  unfold cmp_Compare_int64
  refine qcallP1.of false (fun R hR => by unfold cmp_isNaN_int64; simpa using hR) ?_
  refine qcallP1.of false (fun R hR => by unfold cmp_isNaN_int64; simpa using hR) ?_
  refine iteB_neg rfl (iteB_neg rfl ?_)
  unfold cfI at hk
  refine iteB_intro (fun e => ?_) (fun e => ?_)
  · rwa [if_pos (of_decide_eq_true e)] at hk
  · rw [if_neg (of_decide_eq_false e)] at hk
    refine iteB_intro (fun e2 => ?_) (fun e2 => ?_)
    · rwa [if_pos (of_decide_eq_true e2)] at hk
    · rwa [if_neg (of_decide_eq_false e2)] at hk
def cmpEd (e f : Ed) : Int := if cfI e.1 f.1 ≠ 0 then cfI e.1 f.1 else if cfI e.2.1 f.2.1 ≠ 0 then cfI e.2.1 f.2.1 else cfI e.2.2 f.2.2
def ltEd (e f : Ed) : Prop := e.1 < f.1 ∨ (e.1 = f.1 ∧ (e.2.1 < f.2.1 ∨ (e.2.1 = f.2.1 ∧ e.2.2 < f.2.2)))
instance (e f : Ed) : Decidable (ltEd e f) := by unfold ltEd; exact inferInstance
theorem cmpEd_neg {e f : Ed} : cmpEd e f < 0 ↔ ltEd e f := by
  unfold cmpEd ltEd cfI
  (repeat' split) <;> omega
theorem cmpEd_zero {e f : Ed} : cmpEd e f = 0 ↔ e = f := by
  obtain ⟨a, b, c⟩ := e; obtain ⟨x, y, z⟩ := f
  have h1 := @cfI_zero a x
  have h2 := @cfI_zero b y
  have h3 := @cfI_zero c z
  simp only [cmpEd, Prod.mk.injEq]
  by_cases c1 : cfI a x = 0
  · by_cases c2 : cfI b y = 0
    · rw [if_neg (by simp [c1]), if_neg (by simp [c2]), h3]
      exact ⟨fun h => ⟨h1.1 c1, h2.1 c2, h⟩, fun h => h.2.2⟩
    · rw [if_neg (by simp [c1]), if_pos c2]
      exact ⟨fun h => absurd h c2, fun h => h2.2 h.2.1⟩
  · rw [if_pos c1]
    exact ⟨fun h => absurd h c1, fun h => h1.2 h.1⟩
theorem ltOfE (e f : Ed) : ltOf cmpEd e f = decide (ltEd e f) := by unfold ltOf; exact decide_eq_decide.2 cmpEd_neg
theorem swoEd : SWO (ltOf cmpEd) where
  irrefl x := by rw [ltOfE]; unfold ltEd; simp
  trans x y z := by simp only [ltOfE, decide_eq_true_eq]; unfold ltEd; omega
  ntrans x y z := by simp only [ltOfE, decide_eq_false_iff_not]; unfold ltEd; omega
theorem totEd (e f : Ed) : ltOf cmpEd e f = false → ltOf cmpEd f e = false → e = f := by
  simp only [ltOfE, decide_eq_false_iff_not]
  obtain ⟨a, b, c⟩ := e; obtain ⟨x, y, z⟩ := f
  unfold ltEd; simp only [Prod.mk.injEq]
  intro h1 h2
  omega

section
variable {h0 : Base} {R : Rws}
theorem or3_of {h : Heap} {b : Nat} {x y z : Int} {K : Int → Heap → Prop} (hr : row h b [.int .i64 x, .int .i64 y, .int .i64 z]) (hk : K (if x ≠ 0 then x else if y ≠ 0 then y else z) h) : cmp_Or_int (some ⟨b, 0, none⟩) 3 3 h K := by
  unfold cmp_Or_int
  have r0 : cell h ⟨b, 0, none⟩ = some (.int .i64 x) := by rw [hr.cell]; rfl
  have r1 : cell h ⟨b, 1, none⟩ = some (.int .i64 y) := by rw [hr.cell]; rfl
  have r2 : cell h ⟨b, 2, none⟩ = some (.int .i64 z) := by rw [hr.cell]; rfl
  refine ⟨4, ?_⟩
  unfold cmp_Or_int.l0 cmp_Or_int.b0
  refine iteB_pos rfl ⟨⟨by omega, by omega⟩, x, r0, ?_⟩
  refine iteB_intro (fun e => ?_) (fun e => ?_)
  · rwa [if_pos (by simpa using e)] at hk
  rw [if_neg (by simpa using e)] at hk
  rw [wrap64 (by omega) (by omega)]
  unfold cmp_Or_int.l0 cmp_Or_int.b0
  refine iteB_pos rfl ⟨⟨by omega, by omega⟩, y, r1, ?_⟩
  refine iteB_intro (fun e => ?_) (fun e => ?_)
  · rwa [if_pos (by simpa using e)] at hk
  rw [if_neg (by simpa using e)] at hk
  rw [wrap64 (by omega) (by omega)]
  unfold cmp_Or_int.l0 cmp_Or_int.b0
  refine iteB_pos rfl ⟨⟨by omega, by omega⟩, z, r2, ?_⟩
  refine iteB_intro (fun e => hk) (fun e => ?_)
  have e : z = 0 := by simpa using e
  subst e
  rw [wrap64 (by omega) (by omega)]
  unfold cmp_Or_int.l0 cmp_Or_int.b0
  exact iteB_neg rfl hk
theorem Cmp_of {h : Heap} {e f : Ed} {K : Int → Heap → Prop} (s : St h0 h R) (hk : ∀ h', St h0 h' R → K (cmpEd e f) h') : edge_Cmp e.1 e.2.1 e.2.2 f.1 f.2.1 f.2.2 h K := by
  unfold edge_Cmp
  refine s.new_ fun b1 h1 s1 => s1.new_ fun b2 h2 s2 => ?_
  try simp -zeta (disch := omega) only [chkP_some, iteB_true, iteB_false, add_mk, Nat.zero_add, Nat.add_zero, Nat.mul_one, Nat.reduceAdd, Int.toNat_natCast, ex_int, ex_slice, ex_ptr, ex_bool, ex_str, ex_flt, ex_any, bnd_in, List.getElem?_cons_zero, List.getElem?_cons_succ, List.set_cons_zero, List.set_cons_succ, List.cons_append, List.nil_append, bne_self_eq_false, beq_self_eq_true, Bool.not_true, Bool.not_false, Option.isNone_some, Option.isNone_none, eq_self, true_and, and_true, and_self, s2.rd0, s2.rd1]
  refine qcallP1.of _ (fun Q hQ => compare_of hQ) ?_
  try simp -zeta (disch := omega) only [chkP_some, iteB_true, iteB_false, add_mk, Nat.zero_add, Nat.add_zero, Nat.mul_one, Nat.reduceAdd, Int.toNat_natCast, ex_int, ex_slice, ex_ptr, ex_bool, ex_str, ex_flt, ex_any, bnd_in, List.getElem?_cons_zero, List.getElem?_cons_succ, List.set_cons_zero, List.set_cons_succ, List.cons_append, List.nil_append, bne_self_eq_false, beq_self_eq_true, Bool.not_true, Bool.not_false, Option.isNone_some, Option.isNone_none, eq_self, true_and, and_true, and_self, s2.rd0, s2.rd1]
  refine qcallP1.of _ (fun Q hQ => compare_of hQ) ?_
  try simp -zeta (disch := omega) only [chkP_some, iteB_true, iteB_false, add_mk, Nat.zero_add, Nat.add_zero, Nat.mul_one, Nat.reduceAdd, Int.toNat_natCast, ex_int, ex_slice, ex_ptr, ex_bool, ex_str, ex_flt, ex_any, bnd_in, List.getElem?_cons_zero, List.getElem?_cons_succ, List.set_cons_zero, List.set_cons_succ, List.cons_append, List.nil_append, bne_self_eq_false, beq_self_eq_true, Bool.not_true, Bool.not_false, Option.isNone_some, Option.isNone_none, eq_self, true_and, and_true, and_self, s2.rd0, s2.rd1]
  refine qcallP1.of _ (fun Q hQ => compare64_of hQ) ?_
  refine s2.new_ fun b3 h3 s3 => ?_
  refine qcallP1.of (cmpEd e f) (fun Q hQ => or3_of (s3.rows (b3, _) (by simp)) hQ) ?_
  exact hk h3 s3.tail.tail.tail
end

/-! ### The library's sort, at edges -/
def sortEd (l : List Ed) : List Ed := l.mergeSort fun x y => !decide (ltEd y x)
theorem sortEd_len (l : List Ed) : (sortEd l).length = l.length := List.length_mergeSort ..
theorem sortEd_perm (l : List Ed) : (sortEd l).Perm l := List.mergeSort_perm ..
theorem sortEd_up (l : List Ed) : (sortEd l).Pairwise fun x y => ¬ ltEd y x := by
  have := List.pairwise_mergeSort (le := fun x y : Ed => !decide (ltEd y x)) (fun a b c h1 h2 => by
    simp only [Bool.not_eq_true', decide_eq_false_iff_not] at *; unfold ltEd at *; omega) (fun a b => by
    simp only [Bool.or_eq_true, Bool.not_eq_true', decide_eq_false_iff_not]; unfold ltEd; omega) l
  exact this.imp fun h => by simpa using h
theorem sortEd_one {l m : List Ed} (p : l.Perm m) (hm : m.Pairwise fun x y => ¬ ltEd y x) : sortEd l = m := by
  refine List.Perm.eq_of_pairwise (le := fun x y => ¬ ltEd y x) (fun a b _ _ h1 h2 => totEd a b (by rw [ltOfE]; exact decide_eq_false h2) (by rw [ltOfE]; exact decide_eq_false h1)) (sortEd_up l) hm ((sortEd_perm l).trans p)

instance : Inhabited Ed := ⟨(0, 0, 0)⟩
theorem flatK_eV (l : List Ed) : (flatK Ed.vs 3 l.toArray).toList = eV l := by
  apply List.ext_getElem?
  intro t
  by_cases h : t < l.length * 3
  · have h3 : t / 3 < l.length := by omega
    obtain ⟨e, he⟩ := get_lt h3
    have e1 := eV_get (o := t % 3) he (by omega)
    rw [show t / 3 * 3 + t % 3 = t by omega] at e1
    rw [e1]
    have e2 : l.toArray[t / 3]! = e := by
      rw [getElem!_pos l.toArray (t / 3) (by simpa using h3)]
      obtain ⟨_, he⟩ := List.getElem?_eq_some_iff.1 he
      simpa using he
    unfold flatK
    simp only [List.size_toArray, Array.toList_map, Array.toList_range, List.getElem?_map, List.getElem?_range h, Option.map_some, e2]
    have hl : t % 3 < (Ed.vs e).length := by simp [Ed.vs]; omega
    rw [getElem!_pos (Ed.vs e) (t % 3) hl, List.getElem?_eq_getElem hl]
  · rw [List.getElem?_eq_none (by rw [Array.length_toList, size_flatK]; simp; omega), List.getElem?_eq_none (by rw [eV_len]; omega)]
theorem ext_append {h h' : Heap} (e : Ext h h') : ∃ os : Array Obj, h' = h ++ os := by
  refine ⟨h'.extract h.size h'.size, ?_⟩
  apply Array.ext_getElem?
  intro i
  rcases Nat.lt_or_ge i h.size with hi | hi
  · rw [Array.getElem?_append_left hi, e.at_ i hi]
  · rw [Array.getElem?_append_right hi, Array.getElem?_extract]
    have := e.size
    rcases Nat.lt_or_ge i h'.size with h2 | h2
    · rw [if_pos (by omega), show h.size + (i - h.size) = i by omega]
    · rw [Array.getElem?_eq_none (by omega), if_neg (by omega)]
theorem out_ext [DKc] {w w' : World} (d : DK) (o : Out w w') (e : Ext w.heap w'.heap) : ∃ q os', w' = grow (w.drewN q) os' := by
  obtain ⟨os, ho⟩ := ext_append e
  obtain ⟨h1, h2, h3, h4⟩ := o
  have h4 := h4 d
  refine ⟨w'.drawn - w.drawn, os, ?_⟩
  cases w; cases w'
  simp only [World.drewN, grow] at *
  subst ho h1 h2 h3
  congr 1
  omega

theorem cmpLaysE {b n : Nat} {w : World} : CmpLays Tryz.prog 72 #[] Ed.vs 3 cmpEd b 0 n w := fun m os dk hdk x y => by
  letI : DKc := ⟨True⟩
  have hc := (edge_Cmp.calls (a1 := x.1) (a2 := x.2.1) (a3 := x.2.2) (a4 := y.1) (a5 := y.2.1) (a6 := y.2.2) (h := (sortWorldK Ed.vs 3 w b 0 m dk os).heap) (K := fun r h' => r = cmpEd x y ∧ Ext (sortWorldK Ed.vs 3 w b 0 m dk os).heap h')
    (Cmp_of (e := x) (f := y) (St.refl _) fun h' s => ⟨rfl, s.ext⟩) _ rfl).2
  refine hc.mono ?_
  rintro e w' ⟨v, rfl, ho2, hr⟩
  have hv := edge_Cmp.ret_elim (K' := fun v h' => v = .int .i64 (cmpEd x y) ∧ Ext (sortWorldK Ed.vs 3 w b 0 m dk os).heap h') (by rintro r h' ⟨rfl, e⟩; exact ⟨rfl, e⟩) hr
  exact ⟨by rw [hv.1], out_ext trivial ho2 hv.2⟩
theorem infoEd : (Tryz.prog.info? 82).map (·.size) = some 3 := by kernel_rfl
theorem SortEd_of {h0 : Base} {h : Heap} {R : Rws} {q : Option Addr} {c n : Nat} {l : List Ed} {X : Rws} {K : Heap → Prop} (hn : l.length = n) (hn2 : n < 2 ^ 40) (o : Own3 q c l X) (s : St h0 h (X ++ R))
    (hk : ∀ X' h', Own3 q c (sortEd l) X' → St h0 h' (X' ++ R) → K h') : slices_SortFunc_Lapi_Edge_api_Edge_edge_Cmp q n c h K := by
  intro w hw
  subst hw
  refine ⟨enters_of Tryz.func71 (by kernel_rfl) rfl _ _, ?_⟩
  rcases o with ⟨rfl, rfl, rfl, rfl⟩ | ⟨b, z, rfl, hc2, rfl⟩
  · have hn : n = 0 := by simpa using hn.symm
    subst hn
    refine (AnyF.slices_SortFunc_none Tryz.sortE _ _ _ w).mono ?_
    rintro e w' ⟨rfl, rfl⟩
    exact ⟨_, rfl, Out.refl _, hk [] _ (by simpa [sortEd] using Own3.nil) s⟩
  have hd2 : (flatK Ed.vs 3 l.toArray).toList.map id = eV l := by rw [List.map_id, flatK_eV]
  have s' : St h0 w.heap ((b, (flatK Ed.vs 3 l.toArray).toList.map id ++ z) :: R) := by rw [hd2]; exact s
  have hH : HoldsK Ed.vs 3 w b 0 l.toArray := holds_row (enc := id) (d := flatK Ed.vs 3 l.toArray) (z := z) (s'.rows (b, (flatK Ed.vs 3 l.toArray).toList.map id ++ z) (by simp))
  have hlt := (s'.rows (b, (flatK Ed.vs 3 l.toArray).toList.map id ++ z) (by simp)).lt
  obtain ⟨i, hi, hi3⟩ : ∃ i, Tryz.prog.info? 82 = some i ∧ i.size = 3 := by
    have := infoEd
    cases hi : Tryz.prog.info? 82 with
    | none => rw [hi] at this; cases this
    | some i => rw [hi] at this; exact ⟨i, rfl, by simpa using this⟩
  have HC := AnyQ.slices_SortFunc_total Tryz.sortE 3 (fun w => Go.Hp.run_isAgg (by kernel_rfl) w) (fun w => by have := Go.Hp.run_sizeOf hi w; rw [hi3] at this; exact this) Ed.vs (fun _ => rfl) (fun x v hv => by
    simp only [Ed.vs, List.mem_cons, List.not_mem_nil, or_false] at hv
    rcases hv with rfl | rfl | rfl <;> rfl) cmpEd swoEd 72 #[] b 0 c l.toArray w (fun _ _ => enters_of Tryz.func72 (by kernel_rfl) rfl _ _) cmpLaysE hH hlt (by simp; omega) totEd
  rw [show l.toArray.size = n by simpa using hn] at HC
  refine HC.mono ?_
  rintro e w' ⟨rfl, m, os, rfl⟩
  refine ⟨_, rfl, out_sorted (enc := id) (off := 0), ?_⟩
  have e1 : l.toArray.toList.mergeSort (fun x y => !(ltOf cmpEd) y x) = sortEd l := by
    unfold sortEd
    have e9 : (fun x y => !(ltOf cmpEd) y x) = fun x y => !decide (ltEd y x) := funext fun x => funext fun y => by rw [ltOfE]
    rw [e9]
  have s2 := s'.sorted (n := m) (d' := flatK Ed.vs 3 (l.toArray.toList.mergeSort fun x y => !(ltOf cmpEd) y x).toArray) (os := os) (by simp)
  rw [List.map_id, flatK_eV, e1] at s2
  refine hk [(b, eV (sortEd l) ++ z)] _ (.inr ⟨b, z, rfl, ?_, rfl⟩) ?_
  · rw [← hc2]; simp only [List.length_append, eV_len, sortEd_len]
  · rw [e1]; exact s2

section
variable {h0 : Base} {R : Rws}
theorem Merge_of {h : Heap} {ql : Option Addr} {n cl : Nat} {l : List Ed} {K : Option Addr → Nat → Nat → Bool → Heap → Prop} (hl : l.length = n) (hn : n < 2 ^ 30) (hw : fitsL l) (kl : Keeps h0 R ql (eV l)) (s : St h0 h R)
    (hk0 : mergeP l = none → ∀ h', St h0 h' R → K none 0 0 false h')
    (hk : ∀ P, mergeP l = some P → ∀ h' q c X, Own3 q c (sortEd (P.filter nz)) X → St h0 h' (X ++ R) → K q (P.filter nz).length c true h') : edge_Merge ql n cl h K := by
  unfold edge_Merge
  refine St.newO rfl s fun bm h1 hf s1 => ⟨n + 1, ?_⟩
  refine merge_l0 hf hl hn hw kl hk0 (fun P hP h2 q c X _ hpn o s2 => ?_) n 0 h1 [] none 0 [] (by omega) rfl (fun x hx => by cases hx) (by simp) Own3.nil s1
  refine callP3.self (Delete_of rfl (by omega) o s2 fun h3 X3 o3 s3 => ?_)
  have hf := List.length_filter_le nz P
  exact callP0.self (SortEd_of rfl (by omega) o3 s3 fun X4 h4 o4 s4 => hk P hP h4 q c X4 o4 s4)
end
end Go.Proofs.YtbhndlpjfncliaaGreat
