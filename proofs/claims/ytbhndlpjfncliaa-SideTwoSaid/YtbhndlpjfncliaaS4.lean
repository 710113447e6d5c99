/-
  Sides, the document's: the graph, what crosses, what it weighs, the other side.
-/
import Derived.Test.YtbhndlpjfncliaaSA
import Derived.Test.YtbhndlpjfncliaaY9
namespace Go.Proofs.Ytbhndlpjfncliaa
set_option linter.unusedVariables false
set_option linter.unusedSimpArgs false
set_option linter.unnecessarySimpa false
open Go.Hp Go.RowKit
attribute [local irreducible] Go.Hp.iteB Go.Hp.stC Go.Hp.newP

theorem chksE_two {n : Int} : ∀ {l : List Ed} {i : Nat}, (chksE n i l).1 = 0 → chksE n i l = (0, 0)
  | [], _, _ => rfl
  | x :: l, i, h => by
    unfold chksE at h ⊢
    by_cases c : chkE n x = 0
    · rw [if_neg (by simpa using c)] at h ⊢
      exact chksE_two h
    · rw [if_pos c] at h; exact absurd h c
section
variable {h0 : Base} {R : Rws}
theorem RNew_of {h : Heap} {nI : Int} {cl k : Nat} {q : Option Addr} {l : List Ed} {K : Int → Option Addr → Nat → Nat → Int → Int → Heap → Prop} (hl : l.length = k) (kl : Keeps h0 R q (eV l)) (s : St h0 h R)
    (ok : (newE nI l).1 = 0) (hk : ∀ q c X h', Own3 q c (netL l) X → St h0 h' (X ++ R) → K nI q (netL l).length c 0 0 h') : straitref16_New nI q k cl h K := by
  unfold straitref16_New
  obtain ⟨b1, b2, b3, ck⟩ := newE_ok ok
  have eN : newE nI l = chksE nI 0 l := by unfold newE; rw [if_neg (by omega), if_neg (by omega)]
  have e0 : chksE nI 0 l = (0, 0) := chksE_two (by rw [← eN]; exact ok)
  refine s.new_ fun a3 h1 s1 => iteB_neg (decide_eq_false (by omega)) ?_
  intro j
  refine iteB_neg (decide_eq_false (by omega)) ?_
  rw [decide_eq_false (show ¬ (k : Int) > 1048576 by omega)]
  simp -zeta only [j]
  clear j
  refine iteB_neg rfl (callP2.self (RChecks_of hl (by omega) kl.cons s1 fun h2 s2 => ?_))
  rw [e0]
  refine s2.new_ fun b h3 s3 => s3.st0 (by simp) fun h4 s4 => ?_
  rw [add_mk]
  refine s4.st0 (by simp) fun h5 s5 => ?_
  simp only [List.set_cons_zero, List.set_cons_succ, Nat.zero_add] at s5
  try simp -zeta (disch := omega) only [chkP_some, iteB_true, iteB_false, add_mk, Nat.zero_add, Nat.add_zero, Nat.mul_one, Nat.reduceAdd, Int.toNat_natCast, ex_int, ex_slice, ex_ptr, ex_bool, ex_str, ex_flt, ex_any, bnd_in, List.getElem?_cons_zero, List.getElem?_cons_succ, List.set_cons_zero, List.set_cons_succ, List.cons_append, List.nil_append, bne_self_eq_false, beq_self_eq_true, Bool.not_true, Bool.not_false, Option.isNone_some, Option.isNone_none, eq_self, true_and, and_true, and_self, s5.rd0]
  obtain ⟨n, rfl⟩ : ∃ n : Nat, nI = n := ⟨nI.toNat, by omega⟩
  obtain ⟨P, S, m1, m2, m3, m4, G⟩ := gr (n := n) ck (by omega)
  have eL : netL l = S.filter nz := by unfold netL; rw [m2]; rfl
  refine callP4.self (RMerge_of hl (by omega) ck.fit kl.cons.cons s5 (fun no => by rw [m2] at no; cases no) fun S' hS h6 q6 c6 X6 o6 s6 => ?_)
  rw [m2] at hS
  obtain rfl := Option.some.inj hS
  rw [eL] at hk
  have s7 : St h0 h6 ((a3, [.int .i64 0, .slice none 0 0, .int .i64 0, .int .i64 0]) :: (X6 ++ R)) := (St.re s6 (by intro a; simp only [cntR_append, cntR_cons, cntR_nil, List.cons_append, List.nil_append, List.set_cons_zero, List.set_cons_succ]; omega))
  refine s7.st0 (by simp) fun h7 s7 => ?_
  try simp -zeta only [add_mk, Nat.zero_add]
  refine s7.st0 (by simp) fun h8 s8 => s8.st0 (by simp) fun h9 s9 => s9.st0 (by simp) fun hA sA => ?_
  simp only [List.set_cons_zero, List.set_cons_succ, Nat.zero_add] at sA
  try simp -zeta (disch := omega) only [chkP_some, iteB_true, iteB_false, add_mk, Nat.zero_add, Nat.add_zero, Nat.mul_one, Nat.reduceAdd, Int.toNat_natCast, ex_int, ex_slice, ex_ptr, ex_bool, ex_str, ex_flt, ex_any, bnd_in, List.getElem?_cons_zero, List.getElem?_cons_succ, List.set_cons_zero, List.set_cons_succ, List.cons_append, List.nil_append, bne_self_eq_false, beq_self_eq_true, Bool.not_true, Bool.not_false, Option.isNone_some, Option.isNone_none, eq_self, true_and, and_true, and_self, sA.rd0]
  exact hk q6 c6 X6 hA o6 sA.tail
/-! ### What crosses, and what it weighs -/
abbrev memS (l : List Int) (v : Int) : Bool := decide (v ∈ l)
abbrev crsI (p : Int → Bool) (L : List Ed) : List Nat := (crs p 0 L).map (·.1)
theorem rcross_l0 {K2 : Option Addr → Nat → Nat → Heap → Prop} {nI : Int} {b k c cL : Nat} {q qL : Option Addr} {l : List Int} {L : List Ed} (hl : l.length = k) (hb : k < 2 ^ 40) (hL : L.length ≤ 1048576) (kl : Keeps h0 R q (l.map (Value.int .i64))) (kL : Keeps h0 R qL (eV L))
    (hk : ∀ q' c' X h', Hp.Own q' c' (natV (crsI (memS l) L)) X → St h0 h' (X ++ (b, [.int .i64 nI, .slice qL L.length cL]) :: R) → K2 q' (crsI (memS l) L).length c' h') :
    ∀ (d i : Nat) (h : Heap) (q' : Option Addr) (c' : Nat) (X : Rws), i + d = L.length → Hp.Own q' c' (natV (crsI (memS l) (L.take i))) X → St h0 h (X ++ (b, [.int .i64 nI, .slice qL L.length cL]) :: R) →
      straitref21_Crossing.l0 K2 (d + 1) q k c ⟨b, 0, none⟩ q' (crsI (memS l) (L.take i)).length c' (i : Int) h
  | 0, i, h, q', c', X, hi, o, s => by
    unfold straitref21_Crossing.l0 straitref21_Crossing.b0
    have rb : ∀ j, cell h ⟨b, j, none⟩ = [Value.int .i64 nI, .slice qL L.length cL][j]? := s.rd (by simp)
    simp -zeta (disch := omega) only [chkP_some, iteB_true, iteB_false, add_mk, Nat.zero_add, Nat.add_zero, Nat.mul_one, Nat.reduceAdd, Int.toNat_natCast, ex_int, ex_slice, ex_ptr, ex_bool, ex_str, ex_flt, ex_any, bnd_in, List.getElem?_cons_zero, List.getElem?_cons_succ, List.set_cons_zero, List.set_cons_succ, List.cons_append, List.nil_append, bne_self_eq_false, beq_self_eq_true, Bool.not_true, Bool.not_false, Option.isNone_some, Option.isNone_none, eq_self, true_and, and_true, and_self, rb]
    rw [List.take_of_length_le (by omega)] at o ⊢
    exact iteB_neg (decide_eq_false (by omega)) (hk q' c' X h o s)
  | d + 1, i, h, q', c', X, hi, o, s => by
    unfold straitref21_Crossing.l0 straitref21_Crossing.b0
    obtain ⟨⟨u, v, w⟩, hx⟩ := get_lt (l := L) (i := i) (by omega)
    have rb : ∀ j, cell h ⟨b, j, none⟩ = [Value.int .i64 nI, .slice qL L.length cL][j]? := s.rd (by simp)
    have vl : valsAt h q (l.map (Value.int .i64)) := kl h _ s (fun x hx => by simp [hx])
    have vL : valsAt h qL (eV L) := kL h _ s (fun x hx => by simp [hx])
    have g0 := fun {G : Int → Prop} => vals_int (G := G) vL (eV_get0 hx)
    have g1 := fun {G : Int → Prop} => vals_int (G := G) vL (eV_get1 hx)
    have g1' : ∀ {G : Int → Prop}, (chkP qL fun a => ∃ y : Int, cell h ((a.add (i * 3)).add 1) = some (.int .i64 y) ∧ G y) = G v := fun {G} => by
      have := g1 (G := G); simp only [addr_add]; exact this
    simp -zeta (disch := omega) only [chkP_some, iteB_true, iteB_false, add_mk, Nat.zero_add, Nat.add_zero, Nat.mul_one, Nat.reduceAdd, Int.toNat_natCast, ex_int, ex_slice, ex_ptr, ex_bool, ex_str, ex_flt, ex_any, bnd_in, List.getElem?_cons_zero, List.getElem?_cons_succ, List.set_cons_zero, List.set_cons_succ, List.cons_append, List.nil_append, bne_self_eq_false, beq_self_eq_true, Bool.not_true, Bool.not_false, Option.isNone_some, Option.isNone_none, eq_self, true_and, and_true, and_self, rb]
    refine iteB_pos (decide_eq_true (by omega)) ?_
    simp -zeta (disch := omega) only [chkP_some, iteB_true, iteB_false, add_mk, Nat.zero_add, Nat.add_zero, Nat.mul_one, Nat.reduceAdd, Int.toNat_natCast, ex_int, ex_slice, ex_ptr, ex_bool, ex_str, ex_flt, ex_any, bnd_in, List.getElem?_cons_zero, List.getElem?_cons_succ, List.set_cons_zero, List.set_cons_succ, List.cons_append, List.nil_append, bne_self_eq_false, beq_self_eq_true, Bool.not_true, Bool.not_false, Option.isNone_some, Option.isNone_none, eq_self, true_and, and_true, and_self, rb, g0, g1']
    refine qcallP1.of (memS l u) (fun Q hQ => InI_of hl hb vl hQ) ?_
    try simp -zeta (disch := omega) only [chkP_some, iteB_true, iteB_false, add_mk, Nat.zero_add, Nat.add_zero, Nat.mul_one, Nat.reduceAdd, Int.toNat_natCast, ex_int, ex_slice, ex_ptr, ex_bool, ex_str, ex_flt, ex_any, bnd_in, List.getElem?_cons_zero, List.getElem?_cons_succ, List.set_cons_zero, List.set_cons_succ, List.cons_append, List.nil_append, bne_self_eq_false, beq_self_eq_true, Bool.not_true, Bool.not_false, Option.isNone_some, Option.isNone_none, eq_self, true_and, and_true, and_self, rb, g0, g1']
    refine qcallP1.of (memS l v) (fun Q hQ => InI_of hl hb vl hQ) ?_
    have et := crs_take (memS l) hx
    have hlen := crs_len (memS l) (L.take i) 0
    rw [List.length_take] at hlen
    have hlen2 : (crsI (memS l) (L.take i)).length ≤ i := by rw [List.length_map]; omega
    refine iteB_intro (fun e => ?_) fun e => ?_
    · rw [if_pos (by simpa using e)] at et
      refine Hp.Own.push1 o s (natV_len _).symm rfl (by rw [natV_len]; omega) fun q2 c2 X2 h2 o2 s2 => ?_
      rw [natV_len, wrap64 (by omega) (by omega)]
      have ih := rcross_l0 (c := c) hl hb hL kl kL hk d (i + 1) h2 q2 c2 X2 (by omega) (by unfold crsI; rw [et]; simpa [natV] using o2) s2
      unfold crsI at ih
      rw [et, List.map_append, List.length_append] at ih
      exact ih
    · rw [if_neg (by rw [bne]; simpa using e), List.append_nil] at et
      rw [wrap64 (by omega) (by omega)]
      have ih := rcross_l0 (c := c) hl hb hL kl kL hk d (i + 1) h q' c' X (by omega) (by unfold crsI; rw [et]; exact o) s
      unfold crsI at ih
      rw [et] at ih; exact ih
theorem RCrossing_of {h : Heap} {K : Option Addr → Nat → Nat → Heap → Prop} {nI : Int} {k c cL : Nat} {q qL : Option Addr} {l : List Int} {L : List Ed} (hl : l.length = k) (hb : k < 2 ^ 40) (hL : L.length ≤ 1048576) (kl : Keeps h0 R q (l.map (Value.int .i64))) (kL : Keeps h0 R qL (eV L)) (s : St h0 h R)
    (hk : ∀ q' c' X h', Hp.Own q' c' (natV (crsI (memS l) L)) X → St h0 h' (X ++ R) → K q' (crsI (memS l) L).length c' h') : straitref21_Crossing nI qL L.length cL q k c h K := by
  unfold straitref21_Crossing
  refine s.new_ fun b h1 s1 => ⟨L.length + 1, rcross_l0 hl hb hL kl kL (fun q' c' X h' o s' => hk q' c' X h' o ((St.re s' (by intro a; simp only [cntR_append, cntR_cons, cntR_nil, List.cons_append, List.nil_append, List.set_cons_zero, List.set_cons_succ]; omega)))) L.length 0 h1 none 0 [] (by omega) (by simpa [natV, crs] using Hp.Own.nil) s1⟩
theorem rweight_l0 {K2 : Int → Heap → Prop} {nI : Int} {b c cL m : Nat} {q qL : Option Addr} {A : List IE} {L : List Ed} (hm : A.length = m) (hL : L.length ≤ 1048576) (hA : ∀ x ∈ A, L[x.1]? = some x.2) {h : Heap} (vq : valsAt h q (natV (A.map (·.1)))) (vL : valsAt h qL (eV L)) (rb : ∀ j, cell h ⟨b, j, none⟩ = [Value.int .i64 nI, .slice qL L.length cL][j]?) (hml : m ≤ 1048576)
    (hk : K2 (sumX A) h) :
    ∀ (d i : Nat), i + d = m → straitref21_Weight.l0 K2 (d + 1) ⟨b, 0, none⟩ (sumX (A.take i)) q m c (i : Int) h
  | 0, i, hi => by
    unfold straitref21_Weight.l0 straitref21_Weight.b0
    rw [List.take_of_length_le (by omega)]
    exact iteB_neg (decide_eq_false (by omega)) hk
  | d + 1, i, hi => by
    unfold straitref21_Weight.l0 straitref21_Weight.b0
    obtain ⟨⟨x, u, v, w⟩, hx⟩ := get_lt (l := A) (i := i) (by omega)
    have gx : (natV (A.map (·.1)))[i]? = some (.int .i64 (x : Int)) := by simp [natV, hx]
    have hxL : L[x]? = some (u, v, w) := hA _ (List.mem_of_getElem? hx)
    have hxl := (List.getElem?_eq_some_iff.1 hxL).1
    refine iteB_pos (decide_eq_true (by omega)) ?_
    simp -zeta (disch := omega) only [chkP_some, iteB_true, iteB_false, add_mk, Nat.zero_add, Nat.add_zero, Nat.mul_one, Nat.reduceAdd, Int.toNat_natCast, ex_int, ex_slice, ex_ptr, ex_bool, ex_str, ex_flt, ex_any, bnd_in, List.getElem?_cons_zero, List.getElem?_cons_succ, List.set_cons_zero, List.set_cons_succ, List.cons_append, List.nil_append, bne_self_eq_false, beq_self_eq_true, Bool.not_true, Bool.not_false, Option.isNone_some, Option.isNone_none, eq_self, true_and, and_true, and_self, rb, vals_int vq gx, vals_edge2 vL hxL]
    rw [wrap64 (x := (i : Int) + 1) (by omega) (by omega)]
    have ih := rweight_l0 (c := c) hm hL hA vq vL rb hml hk d (i + 1) (by omega)
    rw [take_snoc hx, sumX_snoc] at ih
    exact ih
theorem RWeight_of {h : Heap} {K : Int → Heap → Prop} {nI : Int} {k c cL : Nat} {q qL : Option Addr} {l : List Int} {L : List Ed} (hl : l.length = k) (hb : k < 2 ^ 40) (hL : L.length ≤ 1048576) (kl : Keeps h0 R q (l.map (Value.int .i64))) (kL : Keeps h0 R qL (eV L)) (s : St h0 h R)
    (hk : ∀ h', St h0 h' R → K (sumX (crs (memS l) 0 L)) h') : straitref21_Weight nI qL L.length cL q k c h K := by
  unfold straitref21_Weight
  refine s.new_ fun b h1 s1 => ?_
  try simp -zeta (disch := omega) only [chkP_some, iteB_true, iteB_false, add_mk, Nat.zero_add, Nat.add_zero, Nat.mul_one, Nat.reduceAdd, Int.toNat_natCast, ex_int, ex_slice, ex_ptr, ex_bool, ex_str, ex_flt, ex_any, bnd_in, List.getElem?_cons_zero, List.getElem?_cons_succ, List.set_cons_zero, List.set_cons_succ, List.cons_append, List.nil_append, bne_self_eq_false, beq_self_eq_true, Bool.not_true, Bool.not_false, Option.isNone_some, Option.isNone_none, eq_self, true_and, and_true, and_self, s1.rd0]
  refine callP3.self (RCrossing_of hl hb hL kl.cons kL.cons s1 fun q2 c2 X2 h2 o2 s2 => ?_)
  have hlen := crs_len (memS l) L 0
  refine ⟨(crsI (memS l) L).length + 1, rweight_l0 (nI := nI) (cL := cL) (b := b) (A := crs (memS l) 0 L) (by simp) hL (fun x hx => by simpa using (crs_mem _ hx).2.1) (o2.vals s2) (kL h2 _ s2 (fun x hx => by simp [hx])) (s2.rd (by simp)) (by rw [List.length_map]; omega) (hk h2 s2.drop.tail) _ 0 (by simp)⟩
/-! ### The other side -/

def othT (n : Nat) (l : List Int) : List Int := ((List.range n).map fun v : Nat => (v : Int)).filter fun v => !memS l v
theorem othT_succ (n : Nat) (l : List Int) : othT (n + 1) l = othT n l ++ (if (!memS l (n : Int)) = true then [(n : Int)] else []) := by
  unfold othT
  rw [List.range_succ, List.map_append, List.filter_append]
  congr 1
  simp only [List.map_cons, List.map_nil, List.filter_cons, List.filter_nil]
theorem othT_len (n : Nat) (l : List Int) : (othT n l).length ≤ n := by
  unfold othT
  have := List.length_filter_le (fun v => !memS l v) ((List.range n).map fun v : Nat => (v : Int))
  simpa using this
theorem rother_l0 {K2 : Option Addr → Nat → Nat → Heap → Prop} {n k c : Nat} {q : Option Addr} {l : List Int} (hl : l.length = k) (hb : k < 2 ^ 40) (hn : n ≤ 4096) (kl : Keeps h0 R q (l.map (Value.int .i64)))
    (hk : ∀ q' c' X h', Hp.Own q' c' ((othT n l).map (Value.int .i64)) X → St h0 h' (X ++ R) → K2 q' (othT n l).length c' h') :
    ∀ (d i : Nat) (h : Heap) (q' : Option Addr) (c' : Nat) (X : Rws), i + d = n → Hp.Own q' c' ((othT i l).map (Value.int .i64)) X → St h0 h (X ++ R) → straitref21_Other.l0 K2 (d + 1) (n : Int) q k c q' (othT i l).length c' (i : Int) h
  | 0, i, h, q', c', X, hi, o, s => by
    unfold straitref21_Other.l0 straitref21_Other.b0
    have : i = n := by omega
    subst this
    exact iteB_neg (decide_eq_false (by omega)) (hk q' c' X h o s)
  | d + 1, i, h, q', c', X, hi, o, s => by
    unfold straitref21_Other.l0 straitref21_Other.b0
    refine iteB_pos (decide_eq_true (by omega)) ?_
    have et := othT_succ i l
    have hle := othT_len i l
    refine qcallP1.of (memS l i) (fun Q hQ => InI_of hl hb (kl h _ s (fun x hx => by simp [hx])) hQ) (iteB_intro (fun e => ?_) fun e => ?_)
    · rw [if_pos e] at et
      refine Hp.Own.push1 o s (by simp) rfl (by simp; omega) fun q2 c2 X2 h2 o2 s2 => ?_
      rw [List.length_map, wrap64 (by omega) (by omega)]
      have ih := rother_l0 (c := c) hl hb hn kl hk d (i + 1) h2 q2 c2 X2 (by omega) (by rw [et]; simpa using o2) s2
      rw [et, List.length_append] at ih; exact ih
    · rw [if_neg (by rw [e]; decide), List.append_nil] at et
      rw [wrap64 (by omega) (by omega)]
      have ih := rother_l0 (c := c) hl hb hn kl hk d (i + 1) h q' c' X (by omega) (by rw [et]; exact o) s
      rw [et] at ih; exact ih
theorem ROther_of {h : Heap} {K : Option Addr → Nat → Nat → Heap → Prop} {n k c : Nat} {q : Option Addr} {l : List Int} (hl : l.length = k) (hb : k < 2 ^ 40) (hn : n ≤ 4096) (kl : Keeps h0 R q (l.map (Value.int .i64))) (s : St h0 h R)
    (hk : ∀ q' c' X h', Hp.Own q' c' ((othT n l).map (Value.int .i64)) X → St h0 h' (X ++ R) → K q' (othT n l).length c' h') : straitref21_Other (n : Int) q k c h K := by
  unfold straitref21_Other
  exact ⟨n + 1, rother_l0 hl hb hn kl (fun q' c' X h' o s' => hk q' c' X h' o s') n 0 h none 0 [] (by omega) Hp.Own.nil s⟩
end
end Go.Proofs.Ytbhndlpjfncliaa
