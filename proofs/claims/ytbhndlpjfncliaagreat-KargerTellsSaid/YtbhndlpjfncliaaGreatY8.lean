/-
  Graphs: the rows of neighbours; the library's sort; an edge that is noted.
-/
import Derived.Test.YtbhndlpjfncliaaGreatY7
import Derived.Test.YtbhndlpjfncliaaGreatSs0
import Derived.Test.YtbhndlpjfncliaaGreatShI
namespace Go.Proofs.YtbhndlpjfncliaaGreat
set_option linter.unusedVariables false
set_option linter.unusedSimpArgs false
set_option linter.unnecessarySimpa false
open Go.Hp Go.RowKit
attribute [local irreducible] Go.Hp.iteB Go.Hp.stC Go.Hp.newP

theorem natV_ints (l : List Nat) : natV l = (l.map fun v : Nat => (v : Int)).map (Value.int .i64) := by simp [natV]
/-! ### The library's sort -/
def sortN (l : List Nat) : List Nat := l.mergeSort fun x y => decide (x ≤ y)
theorem sortN_len (l : List Nat) : (sortN l).length = l.length := List.length_mergeSort ..
theorem SortN_of {h0 : Base} {h : Heap} {q : Option Addr} {c n : Nat} {l : List Nat} {X R : Rws} {K : Heap → Prop} (hn : l.length = n) (hn2 : n < 2 ^ 40) (o : Hp.Own q c (natV l) X) (s : St h0 h (X ++ R))
    (hk : ∀ X' h', Hp.Own q c (natV (sortN l)) X' → St h0 h' (X' ++ R) → K h') : slices_Sort_Lint_int q n c h K := by
  intro w hw
  subst hw
  refine ⟨enters_of Tryz.func41 (by kernel_rfl) rfl _ _, ?_⟩
  rcases o with ⟨rfl, rfl, hl, rfl⟩ | ⟨b, z, rfl, hc2, rfl⟩
  · have hl : l = [] := by simpa [natV] using hl
    subst hl
    have hn : n = 0 := by simpa using hn.symm
    subst hn
    refine (AnyG.slices_Sort_int_none Tryz.sortI _ _ w).mono ?_
    rintro e w' ⟨rfl, rfl⟩
    exact ⟨_, rfl, Out.refl _, hk [] _ (by simpa [sortN, natV] using Hp.Own.nil) s⟩
  · obtain ⟨d, hd⟩ : ∃ d : List Int, d = l.map fun v : Nat => (v : Int) := ⟨_, rfl⟩
    have hd2 : d.toArray.toList.map (Value.int .i64) = natV l := by rw [hd, natV_ints]
    have hsz : d.length = n := by rw [hd]; simpa using hn
    have s' : St h0 w.heap ((b, d.toArray.toList.map (Value.int .i64) ++ z) :: R) := by rw [hd2]; exact s
    have hH := holds_row (enc := Value.int .i64) (d := d.toArray) (z := z) (s'.rows (b, d.toArray.toList.map (Value.int .i64) ++ z) (by simp))
    have hlt := (s'.rows (b, d.toArray.toList.map (Value.int .i64) ++ z) (by simp)).lt
    have HC := AnyG.slices_Sort_int Tryz.sortI b 0 c d w hH hlt (by omega)
    rw [hsz] at HC
    refine HC.mono ?_
    rintro e w' ⟨rfl, m, os, rfl⟩
    refine ⟨_, rfl, out_sorted (enc := Value.int .i64) (off := 0), ?_⟩
    have e1 : ((d.mergeSort fun x y => decide (x ≤ y)).toArray.toList.map (Value.int .i64)) = natV (sortN l) := by
      rw [natV_ints, sortN, hd]
      congr 1
      exact (List.map_mergeSort (fun a _ b _ => by simp)).symm
    have s2 := s'.sorted (n := m) (d' := (d.mergeSort fun x y => decide (x ≤ y)).toArray) (os := os) (by simp)
    rw [e1] at s2
    refine hk [(b, natV (sortN l) ++ z)] _ (.inr ⟨b, z, rfl, ?_, rfl⟩) s2
    rw [hc2]; simp [natV_len, sortN_len]

/-! ### Rows of neighbours -/
structure Nr where
  q : Option Addr
  cap : Nat
  l : List Nat
  X : Rws
def nrV (E : List Nr) : List Value := E.map fun e => .slice e.q e.l.length e.cap
def nrR (E : List Nr) : Rws := E.flatMap (·.X)
def nrL (E : List Nr) : List (List Nat) := E.map (·.l)
def nrOk (k : Nat) (E : List Nr) : Prop := ∀ e ∈ E, Hp.Own e.q e.cap (natV e.l) e.X ∧ e.l.length ≤ k
theorem nrV_len (E : List Nr) : (nrV E).length = E.length := by simp [nrV]
theorem nrV_mid (A : List Nr) (e : Nr) (B : List Nr) : nrV (A ++ e :: B) = nrV A ++ .slice e.q e.l.length e.cap :: nrV B := by simp [nrV]
theorem nrR_mid (A : List Nr) (e : Nr) (B : List Nr) : nrR (A ++ e :: B) = nrR A ++ (e.X ++ nrR B) := by simp [nrR]
theorem nrV_get {A : List Nr} {e : Nr} {B : List Nr} {a : Nat} (h : A.length = a) : (nrV (A ++ e :: B))[a]? = some (.slice e.q e.l.length e.cap) := by rw [nrV_mid]; exact lget_at (by rw [nrV_len]; exact h)
theorem nrV_set {A : List Nr} {e e' : Nr} {B : List Nr} {a : Nat} (h : A.length = a) : (nrV (A ++ e :: B)).set a (.slice e'.q e'.l.length e'.cap) = nrV (A ++ e' :: B) := by rw [nrV_mid, nrV_mid]; exact lset_at (by rw [nrV_len]; exact h)
theorem split_at {α : Type} {l : List α} {i : Nat} (h : i < l.length) : ∃ A x B, l = A ++ x :: B ∧ A.length = i := by
  refine ⟨l.take i, l[i], l.drop (i + 1), ?_, by simp; omega⟩
  rw [List.getElem_cons_drop, List.take_append_drop]
theorem nrOk.more {k m : Nat} {E : List Nr} (h : nrOk k E) (hm : k ≤ m) : nrOk m E := fun e he => ⟨(h e he).1, by have := (h e he).2; omega⟩

section
variable {h0 : Base} {Z : Rws} {n : Nat}
/-- One end of an edge that is noted. -/
theorem link_step {K2 : Heap → Prop} {h : Heap} {g nr dg c3 k m mm cm i : Nat} {qm : Option Addr} {tot u v w : Int} {E : List Nr} {F : Nat → Int} (hE : E.length = n) (hn : n ≤ 4096) (ok : nrOk k E) (hkk : k ≤ 2 ^ 22) {a b : Nat} (ha : a < n) (hi : i < 2)
    (h0' : ([.int .i64 u, .int .i64 v, .int .i64 v, .int .i64 u] : List Value)[i * 2]? = some (.int .i64 (a : Int))) (h1' : ([.int .i64 u, .int .i64 v, .int .i64 v, .int .i64 u] : List Value)[i * 2 + 1]? = some (.int .i64 (b : Int)))
    (s : St h0 h ((c3, Ed.vs (u, v, w)) :: (g, [.slice (some ⟨nr, 0, none⟩) n n, .slice (some ⟨dg, 0, none⟩) n n, .slice qm mm cm, .int .i64 tot]) :: (nr, nrV E) :: (dg, ints n F) :: (nrR E ++ Z)))
    (hk : ∀ h' E' F', E'.length = n → nrOk (k + 1) E' → nrL E' = (nrL E).set a ((nrL E).getD a [] ++ [b]) → St h0 h' ((c3, Ed.vs (u, v, w)) :: (g, [.slice (some ⟨nr, 0, none⟩) n n, .slice (some ⟨dg, 0, none⟩) n n, .slice qm mm cm, .int .i64 tot]) :: (nr, nrV E') :: (dg, ints n F') :: (nrR E' ++ Z)) →
      net_ends_link.l0 K2 m (some ⟨g, 0, none⟩) ⟨c3, 0, none⟩ u v v u ((i + 1 : Nat) : Int) h') :
    net_ends_link.l0 K2 (m + 1) (some ⟨g, 0, none⟩) ⟨c3, 0, none⟩ u v v u (i : Int) h := by
  unfold net_ends_link.l0 net_ends_link.b0
  refine iteB_pos (decide_eq_true (by omega)) ⟨⟨by omega, by omega⟩, ?_⟩
  rw [Int.toNat_natCast]
  refine ⟨_, h0', _, h1', s.new_ fun p h1 s1 => s1.st0 (by simp) fun h2 s2 => ?_⟩
  rw [add_mk]
  refine s2.st0 (by simp) fun h3 s3 => ?_
  simp only [List.set_cons_zero, List.set_cons_succ, Nat.zero_add] at s3
  obtain ⟨A, e, B, rfl, hA⟩ := split_at (l := E) (i := a) (by omega)
  have hok := ok e (by simp)
  have rp : ∀ j, cell h3 ⟨p, j, none⟩ = [Value.int .i64 (a : Int), .int .i64 (b : Int)][j]? := s3.rd0
  have rg : ∀ j, cell h3 ⟨g, j, none⟩ = [Value.slice (some ⟨nr, 0, none⟩) n n, .slice (some ⟨dg, 0, none⟩) n n, .slice qm mm cm, .int .i64 tot][j]? := s3.rd (by simp)
  have rn : cell h3 ⟨nr, a, none⟩ = some (.slice e.q e.l.length e.cap) := by rw [s3.rd (b := nr) (cs := nrV (A ++ e :: B)) (by simp), nrV_get hA]
  simp -zeta (disch := omega) only [chkP_some, iteB_true, iteB_false, add_mk, Nat.zero_add, Nat.add_zero, Nat.mul_one, Nat.reduceAdd, Int.toNat_natCast, ex_int, ex_slice, ex_ptr, ex_bool, ex_str, ex_flt, ex_any, bnd_in, List.getElem?_cons_zero, List.getElem?_cons_succ, List.set_cons_zero, List.set_cons_succ, List.cons_append, List.nil_append, bne_self_eq_false, beq_self_eq_true, Bool.not_true, Bool.not_false, Option.isNone_some, Option.isNone_none, eq_self, true_and, and_true, and_self, Int.toNat_zero, Int.toNat_one, Nat.zero_mul, Int.reduceToNat, rp, rg, rn]
  refine s3.new_ fun b4 h4 s4 => ?_
  have rp4 : ∀ j, cell h4 ⟨p, j, none⟩ = [Value.int .i64 (a : Int), .int .i64 (b : Int)][j]? := s4.rd1
  have rg4 : ∀ j, cell h4 ⟨g, j, none⟩ = [Value.slice (some ⟨nr, 0, none⟩) n n, .slice (some ⟨dg, 0, none⟩) n n, .slice qm mm cm, .int .i64 tot][j]? := s4.rd (by simp)
  have rn4 : cell h4 ⟨nr, a, none⟩ = some (.slice e.q e.l.length e.cap) := by rw [s4.rd (b := nr) (cs := nrV (A ++ e :: B)) (by simp), nrV_get hA]
  simp -zeta (disch := omega) only [chkP_some, iteB_true, iteB_false, add_mk, Nat.zero_add, Nat.add_zero, Nat.mul_one, Nat.reduceAdd, Int.toNat_natCast, ex_int, ex_slice, ex_ptr, ex_bool, ex_str, ex_flt, ex_any, bnd_in, List.getElem?_cons_zero, List.getElem?_cons_succ, List.set_cons_zero, List.set_cons_succ, List.cons_append, List.nil_append, bne_self_eq_false, beq_self_eq_true, Bool.not_true, Bool.not_false, Option.isNone_some, Option.isNone_none, eq_self, true_and, and_true, and_self, Int.toNat_zero, Int.toNat_one, Nat.zero_mul, Int.reduceToNat, rp4, rg4, rn4]
  refine ⟨[Value.int .i64 (b : Int)], ⟨rfl, fun j hj => ⟨_, rfl, ?_⟩⟩, ?_⟩
  · rw [add_mk, s4.rd0, Nat.zero_add]
  have s5 : St h0 h4 (e.X ++ ((p, [Value.int .i64 (a : Int), .int .i64 (b : Int)]) :: (c3, Ed.vs (u, v, w)) :: (g, [.slice (some ⟨nr, 0, none⟩) n n, .slice (some ⟨dg, 0, none⟩) n n, .slice qm mm cm, .int .i64 tot]) :: (nr, nrV (A ++ e :: B)) :: (dg, ints n F) :: (nrR A ++ (nrR B ++ Z)))) := (St.re s4 (by intro a; simp only [cntR_append, cntR_cons, cntR_nil, List.cons_append, List.nil_append, List.set_cons_zero, List.set_cons_succ, nrR_mid]; omega))
  refine Hp.Own.app (n := 1) hok.1 s5 rfl (natV_len _).symm rfl rfl (by simp [flat]) (by rw [natV_len]; omega) fun q' c' X' h5 o5 s6 => ?_
  have rp5 : ∀ j, cell h5 ⟨p, j, none⟩ = [Value.int .i64 (a : Int), .int .i64 (b : Int)][j]? := s6.rd (by simp)
  have rg5 : ∀ j, cell h5 ⟨g, j, none⟩ = [Value.slice (some ⟨nr, 0, none⟩) n n, .slice (some ⟨dg, 0, none⟩) n n, .slice qm mm cm, .int .i64 tot][j]? := s6.rd (by simp)
  simp -zeta (disch := omega) only [chkP_some, iteB_true, iteB_false, add_mk, Nat.zero_add, Nat.add_zero, Nat.mul_one, Nat.reduceAdd, Int.toNat_natCast, ex_int, ex_slice, ex_ptr, ex_bool, ex_str, ex_flt, ex_any, bnd_in, List.getElem?_cons_zero, List.getElem?_cons_succ, List.set_cons_zero, List.set_cons_succ, List.cons_append, List.nil_append, bne_self_eq_false, beq_self_eq_true, Bool.not_true, Bool.not_false, Option.isNone_some, Option.isNone_none, eq_self, true_and, and_true, and_self, Int.toNat_zero, Int.toNat_one, Nat.zero_mul, Int.reduceToNat, rp5, rg5]
  have s7 : St h0 h5 ((nr, nrV (A ++ e :: B)) :: (p, [Value.int .i64 (a : Int), .int .i64 (b : Int)]) :: (c3, Ed.vs (u, v, w)) :: (g, [.slice (some ⟨nr, 0, none⟩) n n, .slice (some ⟨dg, 0, none⟩) n n, .slice qm mm cm, .int .i64 tot]) :: (dg, ints n F) :: (X' ++ (nrR A ++ (nrR B ++ Z)))) := (St.re s6 (by intro a; simp only [cntR_append, cntR_cons, cntR_nil, List.cons_append, List.nil_append, List.set_cons_zero, List.set_cons_succ]; omega))
  refine s7.st0 (by rw [nrV_len]; omega) fun h6 s8 => ?_
  rw [natV_len, show (nrV (A ++ e :: B)).set a (.slice q' (e.l.length + 1) c') = nrV (A ++ (⟨q', c', e.l ++ [b], X'⟩ : Nr) :: B) by
    have := nrV_set (A := A) (e := e) (e' := ⟨q', c', e.l ++ [b], X'⟩) (B := B) hA
    simpa using this] at s8
  have rp6 : ∀ j, cell h6 ⟨p, j, none⟩ = [Value.int .i64 (a : Int), .int .i64 (b : Int)][j]? := s8.rd1
  have rc6 : ∀ j, cell h6 ⟨c3, j, none⟩ = (Ed.vs (u, v, w))[j]? := s8.rd (by simp)
  simp only [Ed.vs] at rc6
  have rg6 : ∀ j, cell h6 ⟨g, j, none⟩ = [Value.slice (some ⟨nr, 0, none⟩) n n, .slice (some ⟨dg, 0, none⟩) n n, .slice qm mm cm, .int .i64 tot][j]? := s8.rd (by simp)
  have rd6 : cell h6 ⟨dg, a, none⟩ = some (.int .i64 (F a)) := by rw [s8.rd (b := dg) (cs := ints n F) (by simp), ints_get ha]
  simp -zeta (disch := omega) only [chkP_some, iteB_true, iteB_false, add_mk, Nat.zero_add, Nat.add_zero, Nat.mul_one, Nat.reduceAdd, Int.toNat_natCast, ex_int, ex_slice, ex_ptr, ex_bool, ex_str, ex_flt, ex_any, bnd_in, List.getElem?_cons_zero, List.getElem?_cons_succ, List.set_cons_zero, List.set_cons_succ, List.cons_append, List.nil_append, bne_self_eq_false, beq_self_eq_true, Bool.not_true, Bool.not_false, Option.isNone_some, Option.isNone_none, eq_self, true_and, and_true, and_self, Int.toNat_zero, Int.toNat_one, Nat.zero_mul, Int.reduceToNat, rp6, rg6, rc6, rd6]
  have s9 : St h0 h6 ((dg, ints n F) :: (p, [Value.int .i64 (a : Int), .int .i64 (b : Int)]) :: (c3, Ed.vs (u, v, w)) :: (g, [.slice (some ⟨nr, 0, none⟩) n n, .slice (some ⟨dg, 0, none⟩) n n, .slice qm mm cm, .int .i64 tot]) :: (nr, nrV (A ++ (⟨q', c', e.l ++ [b], X'⟩ : Nr) :: B)) :: (X' ++ (nrR A ++ (nrR B ++ Z)))) := (St.re s8 (by intro a; simp only [cntR_append, cntR_cons, cntR_nil, List.cons_append, List.nil_append, List.set_cons_zero, List.set_cons_succ]; omega))
  refine s9.st0 (by rw [ints_length]; omega) fun h7 sA => ?_
  rw [ints_set] at sA
  rw [wrap64 (by omega) (by omega)]
  have sB : St h0 h7 ((p, [Value.int .i64 (a : Int), .int .i64 (b : Int)]) :: (c3, Ed.vs (u, v, w)) :: (g, [.slice (some ⟨nr, 0, none⟩) n n, .slice (some ⟨dg, 0, none⟩) n n, .slice qm mm cm, .int .i64 tot]) :: (nr, nrV (A ++ (⟨q', c', e.l ++ [b], X'⟩ : Nr) :: B)) :: (dg, ints n (upd F a (IntKind.i64.wrap (F a + w)))) :: (nrR (A ++ (⟨q', c', e.l ++ [b], X'⟩ : Nr) :: B) ++ Z)) := (St.re sA (by intro a; simp only [cntR_append, cntR_cons, cntR_nil, List.cons_append, List.nil_append, List.set_cons_zero, List.set_cons_succ, nrR_mid]; omega))
  refine hk h7 (A ++ (⟨q', c', e.l ++ [b], X'⟩ : Nr) :: B) (upd F a (IntKind.i64.wrap (F a + w))) (by simpa using hE) (fun x hx => ?_) ?_ ?_
  · rcases List.mem_append.1 hx with hx | hx
    · exact ⟨(ok x (by simp [hx])).1, by have := (ok x (by simp [hx])).2; omega⟩
    · rcases List.mem_cons.1 hx with rfl | hx
      · exact ⟨by simpa [natV] using o5, by have := hok.2; simp; omega⟩
      · exact ⟨(ok x (by simp [hx])).1, by have := (ok x (by simp [hx])).2; omega⟩
  · have e1 : nrL (A ++ e :: B) = nrL A ++ e.l :: nrL B := by simp [nrL]
    have lA : (nrL A).length = a := by simp [nrL, hA]
    rw [e1, lset_at lA, List.getD_eq_getElem?_getD, lget_at lA]; simp [nrL]
  · exact sB.tail
end
end Go.Proofs.YtbhndlpjfncliaaGreat
