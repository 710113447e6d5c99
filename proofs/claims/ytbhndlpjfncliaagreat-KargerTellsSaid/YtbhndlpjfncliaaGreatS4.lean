/-
  Sides, the document's: the graph, what crosses, what it weighs, the other side.
-/
import Derived.Test.YtbhndlpjfncliaaGreatSA
import Derived.Test.YtbhndlpjfncliaaGreatYA
namespace Go.Proofs.YtbhndlpjfncliaaGreat
set_option linter.unusedVariables false
set_option linter.unusedSimpArgs false
set_option linter.unnecessarySimpa false
open Go.Hp Go.RowKit
attribute [local irreducible] Go.Hp.iteB Go.Hp.stC Go.Hp.newP

section
variable {h0 : Base} {R : Rws}
/-! ### What crosses, and what it weighs -/
abbrev memS (l : List Int) (v : Int) : Bool := decide (v ∈ l)
abbrev crsI (p : Int → Bool) (L : List Ed) : List Nat := (crs p 0 L).map (·.1)
theorem rcross_l0 {K2 : Option Addr → Nat → Nat → Heap → Prop} {nI : Int} {b k c cL : Nat} {q qL : Option Addr} {l : List Int} {L : List Ed} (hl : l.length = k) (hb : k < 2 ^ 40) (hL : L.length ≤ 1048576) (kl : Keeps h0 R q (l.map (Value.int .i64))) (kL : Keeps h0 R qL (eV L))
    (hk : ∀ q' c' X h', Hp.Own q' c' (natV (crsI (memS l) L)) X → St h0 h' (X ++ (b, [.int .i64 nI, .slice qL L.length cL]) :: R) → K2 q' (crsI (memS l) L).length c' h') :
    ∀ (d i : Nat) (h : Heap) (q' : Option Addr) (c' : Nat) (X : Rws), i + d = L.length → Hp.Own q' c' (natV (crsI (memS l) (L.take i))) X → St h0 h (X ++ (b, [.int .i64 nI, .slice qL L.length cL]) :: R) →
      straitref21_Crossing.l0 K2 (d + 1) q k c ⟨b, 0, none⟩ q' (crsI (memS l) (L.take i)).length c' (i : Int) h
  | 0, i, h, q', c', X, hi, o, s => by
    unfold straitref21_Crossing.l0 straitref21_Crossing.b0
    have rb : ∀ j, cell h ⟨b, j, none⟩ = [Value.int .i64 nI, .slice qL L.length cL][j]? := s.rd (by simp)
    simp -zeta (disch := omega) only [chkP_some, iteB_true, iteB_false, add_mk, Nat.zero_add, Nat.add_zero, Nat.mul_one, Nat.reduceAdd, Int.toNat_natCast, ex_int, ex_slice, ex_ptr, ex_bool, ex_str, ex_flt, ex_any, bnd_in, List.getElem?_cons_zero, List.getElem?_cons_succ, List.set_cons_zero, List.set_cons_succ, List.cons_append, List.nil_append, bne_self_eq_false, beq_self_eq_true, Bool.not_true, Bool.not_false, Option.isNone_some, Option.isNone_none, eq_self, true_and, and_true, and_self, rb]
    rw [List.take_of_length_le (by omega)] at o ⊢
    exact iteB_neg (decide_eq_false (by omega)) (hk q' c' X h o s)
  | d + 1, i, h, q', c', X, hi, o, s => by
    unfold straitref21_Crossing.l0 straitref21_Crossing.b0
    obtain ⟨⟨u, v, w⟩, hx⟩ := get_lt (l := L) (i := i) (by omega)
    have rb : ∀ j, cell h ⟨b, j, none⟩ = [Value.int .i64 nI, .slice qL L.length cL][j]? := s.rd (by simp)
    have vl : valsAt h q (l.map (Value.int .i64)) := kl h _ s (fun x hx => by simp [hx])
    have vL : valsAt h qL (eV L) := kL h _ s (fun x hx => by simp [hx])
    have g0 := fun {G : Int → Prop} => vals_int (G := G) vL (eV_get0 hx)
    have g1 := fun {G : Int → Prop} => vals_int (G := G) vL (eV_get1 hx)
    have g1' : ∀ {G : Int → Prop}, (chkP qL fun a => ∃ y : Int, cell h ((a.add (i * 3)).add 1) = some (.int .i64 y) ∧ G y) = G v := fun {G} => by
      have := g1 (G := G); simp only [addr_add]; exact this
    simp -zeta (disch := omega) only [chkP_some, iteB_true, iteB_false, add_mk, Nat.zero_add, Nat.add_zero, Nat.mul_one, Nat.reduceAdd, Int.toNat_natCast, ex_int, ex_slice, ex_ptr, ex_bool, ex_str, ex_flt, ex_any, bnd_in, List.getElem?_cons_zero, List.getElem?_cons_succ, List.set_cons_zero, List.set_cons_succ, List.cons_append, List.nil_append, bne_self_eq_false, beq_self_eq_true, Bool.not_true, Bool.not_false, Option.isNone_some, Option.isNone_none, eq_self, true_and, and_true, and_self, rb]
    refine iteB_pos (decide_eq_true (by omega)) ?_
    simp -zeta (disch := omega) only [chkP_some, iteB_true, iteB_false, add_mk, Nat.zero_add, Nat.add_zero, Nat.mul_one, Nat.reduceAdd, Int.toNat_natCast, ex_int, ex_slice, ex_ptr, ex_bool, ex_str, ex_flt, ex_any, bnd_in, List.getElem?_cons_zero, List.getElem?_cons_succ, List.set_cons_zero, List.set_cons_succ, List.cons_append, List.nil_append, bne_self_eq_false, beq_self_eq_true, Bool.not_true, Bool.not_false, Option.isNone_some, Option.isNone_none, eq_self, true_and, and_true, and_self, rb, g0, g1']
    refine qcallP1.of (memS l u) (fun Q hQ => InI_of hl hb vl hQ) ?_
    try simp -zeta (disch := omega) only [chkP_some, iteB_true, iteB_false, add_mk, Nat.zero_add, Nat.add_zero, Nat.mul_one, Nat.reduceAdd, Int.toNat_natCast, ex_int, ex_slice, ex_ptr, ex_bool, ex_str, ex_flt, ex_any, bnd_in, List.getElem?_cons_zero, List.getElem?_cons_succ, List.set_cons_zero, List.set_cons_succ, List.cons_append, List.nil_append, bne_self_eq_false, beq_self_eq_true, Bool.not_true, Bool.not_false, Option.isNone_some, Option.isNone_none, eq_self, true_and, and_true, and_self, rb, g0, g1']
    refine qcallP1.of (memS l v) (fun Q hQ => InI_of hl hb vl hQ) ?_
    have et := crs_take (memS l) hx
    have hlen := crs_len (memS l) (L.take i) 0
    rw [List.length_take] at hlen
    have hlen2 : (crsI (memS l) (L.take i)).length ≤ i := by rw [List.length_map]; omega
    refine iteB_intro (fun e => ?_) fun e => ?_
    · rw [if_pos (by simpa using e)] at et
      refine Hp.Own.push1 o s (natV_len _).symm rfl (by rw [natV_len]; omega) fun q2 c2 X2 h2 o2 s2 => ?_
      rw [natV_len, wrap64 (by omega) (by omega)]
      have ih := rcross_l0 (c := c) hl hb hL kl kL hk d (i + 1) h2 q2 c2 X2 (by omega) (by unfold crsI; rw [et]; simpa [natV] using o2) s2
      unfold crsI at ih
      rw [et, List.map_append, List.length_append] at ih
      exact ih
    · rw [if_neg (by rw [bne]; simpa using e), List.append_nil] at et
      rw [wrap64 (by omega) (by omega)]
      have ih := rcross_l0 (c := c) hl hb hL kl kL hk d (i + 1) h q' c' X (by omega) (by unfold crsI; rw [et]; exact o) s
      unfold crsI at ih
      rw [et] at ih; exact ih
theorem RCrossing_of {h : Heap} {K : Option Addr → Nat → Nat → Heap → Prop} {nI : Int} {k c cL : Nat} {q qL : Option Addr} {l : List Int} {L : List Ed} (hl : l.length = k) (hb : k < 2 ^ 40) (hL : L.length ≤ 1048576) (kl : Keeps h0 R q (l.map (Value.int .i64))) (kL : Keeps h0 R qL (eV L)) (s : St h0 h R)
    (hk : ∀ q' c' X h', Hp.Own q' c' (natV (crsI (memS l) L)) X → St h0 h' (X ++ R) → K q' (crsI (memS l) L).length c' h') : straitref21_Crossing nI qL L.length cL q k c h K := by
  unfold straitref21_Crossing
  refine s.new_ fun b h1 s1 => ⟨L.length + 1, rcross_l0 hl hb hL kl kL (fun q' c' X h' o s' => hk q' c' X h' o ((St.re s' (by intro a; simp only [cntR_append, cntR_cons, cntR_nil, List.cons_append, List.nil_append, List.set_cons_zero, List.set_cons_succ]; omega)))) L.length 0 h1 none 0 [] (by omega) (by simpa [natV, crs] using Hp.Own.nil) s1⟩
theorem rweight_l0 {K2 : Int → Heap → Prop} {nI : Int} {b c cL m : Nat} {q qL : Option Addr} {A : List IE} {L : List Ed} (hm : A.length = m) (hL : L.length ≤ 1048576) (hA : ∀ x ∈ A, L[x.1]? = some x.2) {h : Heap} (vq : valsAt h q (natV (A.map (·.1)))) (vL : valsAt h qL (eV L)) (rb : ∀ j, cell h ⟨b, j, none⟩ = [Value.int .i64 nI, .slice qL L.length cL][j]?) (hml : m ≤ 1048576)
    (hk : K2 (sumX A) h) :
    ∀ (d i : Nat), i + d = m → straitref21_Weight.l0 K2 (d + 1) ⟨b, 0, none⟩ (sumX (A.take i)) q m c (i : Int) h
  | 0, i, hi => by
    unfold straitref21_Weight.l0 straitref21_Weight.b0
    rw [List.take_of_length_le (by omega)]
    exact iteB_neg (decide_eq_false (by omega)) hk
  | d + 1, i, hi => by
    unfold straitref21_Weight.l0 straitref21_Weight.b0
    obtain ⟨⟨x, u, v, w⟩, hx⟩ := get_lt (l := A) (i := i) (by omega)
    have gx : (natV (A.map (·.1)))[i]? = some (.int .i64 (x : Int)) := by simp [natV, hx]
    have hxL : L[x]? = some (u, v, w) := hA _ (List.mem_of_getElem? hx)
    have hxl := (List.getElem?_eq_some_iff.1 hxL).1
    refine iteB_pos (decide_eq_true (by omega)) ?_
    simp -zeta (disch := omega) only [chkP_some, iteB_true, iteB_false, add_mk, Nat.zero_add, Nat.add_zero, Nat.mul_one, Nat.reduceAdd, Int.toNat_natCast, ex_int, ex_slice, ex_ptr, ex_bool, ex_str, ex_flt, ex_any, bnd_in, List.getElem?_cons_zero, List.getElem?_cons_succ, List.set_cons_zero, List.set_cons_succ, List.cons_append, List.nil_append, bne_self_eq_false, beq_self_eq_true, Bool.not_true, Bool.not_false, Option.isNone_some, Option.isNone_none, eq_self, true_and, and_true, and_self, rb, vals_int vq gx, vals_edge2 vL hxL]
    rw [wrap64 (x := (i : Int) + 1) (by omega) (by omega)]
    have ih := rweight_l0 (c := c) hm hL hA vq vL rb hml hk d (i + 1) (by omega)
    rw [take_snoc hx, sumX_snoc] at ih
    exact ih
theorem RWeight_of {h : Heap} {K : Int → Heap → Prop} {nI : Int} {k c cL : Nat} {q qL : Option Addr} {l : List Int} {L : List Ed} (hl : l.length = k) (hb : k < 2 ^ 40) (hL : L.length ≤ 1048576) (kl : Keeps h0 R q (l.map (Value.int .i64))) (kL : Keeps h0 R qL (eV L)) (s : St h0 h R)
    (hk : ∀ h', St h0 h' R → K (sumX (crs (memS l) 0 L)) h') : straitref21_Weight nI qL L.length cL q k c h K := by
  unfold straitref21_Weight
  refine s.new_ fun b h1 s1 => ?_
  try simp -zeta (disch := omega) only [chkP_some, iteB_true, iteB_false, add_mk, Nat.zero_add, Nat.add_zero, Nat.mul_one, Nat.reduceAdd, Int.toNat_natCast, ex_int, ex_slice, ex_ptr, ex_bool, ex_str, ex_flt, ex_any, bnd_in, List.getElem?_cons_zero, List.getElem?_cons_succ, List.set_cons_zero, List.set_cons_succ, List.cons_append, List.nil_append, bne_self_eq_false, beq_self_eq_true, Bool.not_true, Bool.not_false, Option.isNone_some, Option.isNone_none, eq_self, true_and, and_true, and_self, s1.rd0]
  refine callP3.self (RCrossing_of hl hb hL kl.cons kL.cons s1 fun q2 c2 X2 h2 o2 s2 => ?_)
  have hlen := crs_len (memS l) L 0
  refine ⟨(crsI (memS l) L).length + 1, rweight_l0 (nI := nI) (cL := cL) (b := b) (A := crs (memS l) 0 L) (by simp) hL (fun x hx => by simpa using (crs_mem _ hx).2.1) (o2.vals s2) (kL h2 _ s2 (fun x hx => by simp [hx])) (s2.rd (by simp)) (by rw [List.length_map]; omega) (hk h2 s2.drop.tail) _ 0 (by simp)⟩
/-! ### The other side -/

def othT (n : Nat) (l : List Int) : List Int := ((List.range n).map fun v : Nat => (v : Int)).filter fun v => !memS l v
theorem othT_succ (n : Nat) (l : List Int) : othT (n + 1) l = othT n l ++ (if (!memS l (n : Int)) = true then [(n : Int)] else []) := by
  unfold othT
  rw [List.range_succ, List.map_append, List.filter_append]
  congr 1
  simp only [List.map_cons, List.map_nil, List.filter_cons, List.filter_nil]
theorem othT_len (n : Nat) (l : List Int) : (othT n l).length ≤ n := by
  unfold othT
  have := List.length_filter_le (fun v => !memS l v) ((List.range n).map fun v : Nat => (v : Int))
  simpa using this
end
end Go.Proofs.YtbhndlpjfncliaaGreat
