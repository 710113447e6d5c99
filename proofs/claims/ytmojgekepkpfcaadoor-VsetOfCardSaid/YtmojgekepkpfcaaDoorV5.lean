/-
  Sets: the document's; that both are the same; awake.
-/
import Derived.Test.YtmojgekepkpfcaaDoorV4
namespace Go.Proofs.YtmojgekepkpfcaaDoor
set_option linter.unusedVariables false
set_option linter.unusedSimpArgs false
set_option linter.unnecessarySimpa false
open Go.Hp Go.RowKit
attribute [local irreducible] Go.Hp.iteB Go.Hp.stC Go.Hp.newP

def cB (b : Bool) : Value := .bool b
theorem room_ref (m : Int) : (if (if 4096 < m then (4096 : Int) else m) > 0 then (if 4096 < m then (4096 : Int) else m) else 0) = (roomV m : Int) := by unfold roomV; split <;> (try split) <;> (try split) <;> omega
theorem upd_put {f : Nat → Bool} {n k : Nat} {b : Bool} (h : k < n) : upd f k b = putV f n (k : Int) b := by
  unfold putV; rw [if_pos ⟨by omega, by omega⟩, Int.toNat_natCast]; rfl

section
variable {h : Heap} {p1 p2 : Option Addr} {c1 c2 n n1 n2 : Nat} {K0 : Bool → Heap → Prop} {K2 : Heap → Prop} {K : Bool → Heap → Prop}
theorem ints_l0 {l1 l2 : List Int} (v1 : valsAt h p1 (l1.map (Value.int .i64))) (v2 : valsAt h p2 (l2.map (Value.int .i64))) (h1 : l1.length = n) (h2 : l2.length = n) (hn : n < 9223372036854775808) (hk0 : l1 ≠ l2 → K0 false h) (hk2 : l1 = l2 → K2 h) :
    ∀ (d i : Nat), i + d = n → l1.take i = l2.take i → straitref09_Ints.l0 K0 K2 (d + 1) p1 n c1 p2 n c2 (i : Int) h
  | 0, i, hi, he => by
    unfold straitref09_Ints.l0 straitref09_Ints.b0
    refine iteB_neg (decide_eq_false (by omega)) (hk2 ?_)
    rwa [List.take_of_length_le (by omega), List.take_of_length_le (by omega)] at he
  | d + 1, i, hi, he => by
    unfold straitref09_Ints.l0 straitref09_Ints.b0
    obtain ⟨x, hx⟩ := get_lt (l := l1) (i := i) (by omega)
    obtain ⟨y, hy⟩ := get_lt (l := l2) (i := i) (by omega)
    refine iteB_pos (decide_eq_true (by omega)) ?_
    simp -zeta (disch := omega) only [chkP_some, iteB_true, iteB_false, add_mk, Nat.zero_add, Nat.add_zero, Nat.mul_one, Nat.reduceAdd, Int.toNat_natCast, ex_int, ex_slice, ex_ptr, ex_bool, ex_str, ex_flt, ex_any, bnd_in, List.getElem?_cons_zero, List.getElem?_cons_succ, List.set_cons_zero, List.set_cons_succ, List.cons_append, List.nil_append, bne_self_eq_false, beq_self_eq_true, Bool.not_true, Bool.not_false, Option.isNone_some, Option.isNone_none, eq_self, true_and, and_true, and_self, vals_int v1 (show (l1.map (Value.int .i64))[i]? = some (.int .i64 x) by simp [hx]), vals_int v2 (show (l2.map (Value.int .i64))[i]? = some (.int .i64 y) by simp [hy])]
    refine iteB_intro (fun c => hk0 ?_) (fun c => ?_)
    · rintro rfl; rw [hx] at hy; cases hy; simp at c
    · have c : x = y := by simpa using c
      rw [wrap64 (by omega) (by omega)]
      exact ints_l0 v1 v2 h1 h2 hn hk0 hk2 d (i + 1) (by omega) (by rw [take_snoc hx, take_snoc hy, he, c])
theorem Ints_of {l1 l2 : List Int} (v1 : valsAt h p1 (l1.map (Value.int .i64))) (v2 : valsAt h p2 (l2.map (Value.int .i64))) (h1 : n1 = l1.length) (h2 : n2 = l2.length) (hn : n1 < 9223372036854775808) (hk : K (decide (l1 = l2)) h) : straitref09_Ints p1 n1 c1 p2 n2 c2 h K := by
  unfold straitref09_Ints
  subst h1 h2
  by_cases e : l1.length = l2.length
  · refine iteB_neg (by simp; omega) ⟨l1.length + 1, ?_⟩
    rw [← e]
    exact ints_l0 v1 v2 rfl e.symm hn (fun hne => by rw [decide_eq_false hne] at hk; exact hk) (fun he => by rw [decide_eq_true he] at hk; exact hk) l1.length 0 (by omega) rfl
  · refine iteB_pos (by simp; omega) ?_
    rw [decide_eq_false (fun h => e (by rw [h]))] at hk; exact hk
end

section
variable {h0 : Base} {R : Rws} {n : Nat} {f : Nat → Bool}
theorem RNew_of {h : Heap} {m : Int} {K : Int → Option Addr → Nat → Nat → Heap → Prop} (s : St h0 h R) (hk : ∀ b h', St h0 h' ((b, rowF cB (roomV m) (fun _ => false)) :: R) → K (roomV m) (some ⟨b, 0, none⟩) (roomV m) (roomV m) h') : straitref09_New m h K := by
  unfold straitref09_New
  have hr := roomV_le m
  refine s.new_ fun b1 h1 s1 => ?_
  have room : ∀ (hh : Heap) (Q : Int → Heap → Prop), Q (roomV m) hh → straitref09_Room m hh Q := fun hh Q hQ => by
    unfold straitref09_Room
    refine bindV_intro fun x hx => ?_
    rw [room_ref] at hx
    subst hx; exact hQ
  refine qcallP1.of _ (fun Q hQ => room _ _ hQ) (qcallP1.of _ (fun Q hQ => room _ _ hQ) ⟨⟨by omega, by omega, by omega, by omega⟩, ?_⟩)
  rw [Int.toNat_natCast, show ([.bool false] : List Value) = [cB false] from rfl, rowF_zero]
  refine s1.new_ fun b2 h2 s2 => s2.st1 (by simp) fun h3 s3 => ?_
  try simp -zeta only [chkP_some, iteB_true, iteB_false, add_mk, Nat.zero_add, Nat.add_zero, Nat.mul_one, Nat.reduceAdd, Int.toNat_natCast, ex_int, ex_slice, ex_ptr, ex_bool, ex_str, ex_flt, ex_any, bnd_in, List.getElem?_cons_zero, List.getElem?_cons_succ, List.set_cons_zero, List.set_cons_succ, List.cons_append, List.nil_append, bne_self_eq_false, beq_self_eq_true, Bool.not_true, Bool.not_false, Option.isNone_some, Option.isNone_none, eq_self, true_and, and_true, and_self]
  refine s3.st1 (by simp) fun h4 s4 => ?_
  simp only [List.set_cons_zero, List.set_cons_succ, Nat.zero_add] at s4
  try simp -zeta (disch := omega) only [chkP_some, iteB_true, iteB_false, add_mk, Nat.zero_add, Nat.add_zero, Nat.mul_one, Nat.reduceAdd, Int.toNat_natCast, ex_int, ex_slice, ex_ptr, ex_bool, ex_str, ex_flt, ex_any, bnd_in, List.getElem?_cons_zero, List.getElem?_cons_succ, List.set_cons_zero, List.set_cons_succ, List.cons_append, List.nil_append, bne_self_eq_false, beq_self_eq_true, Bool.not_true, Bool.not_false, Option.isNone_some, Option.isNone_none, eq_self, true_and, and_true, and_self, s4.rd0, s4.rd1]
  exact hk b2 h4 s4.pull1.tail

theorem RHas_of {h : Heap} {v : Int} {q : Option Addr} {c : Nat} {K : Bool → Heap → Prop} (hn : n ≤ 4096) (kq : Keeps h0 R q (rowF cB n f)) (s : St h0 h R) (hk : ∀ h', St h0 h' R → K (hasV f n v) h') : straitref09_Set_Has n q n c v h K := by
  unfold straitref09_Set_Has
  refine s.new_ fun b h1 s1 => ?_
  have hk := hk h1 s1.tail
  have no : ¬ inV v n → K false h1 := fun d => by unfold hasV at hk; rw [decide_eq_false d] at hk; exact hk
  refine iteB_intro (fun d => ?_) (fun d => no (fun e => absurd e.1 (of_decide_eq_false d)))
  have d := of_decide_eq_true d
  try simp -zeta (disch := omega) only [chkP_some, iteB_true, iteB_false, add_mk, Nat.zero_add, Nat.add_zero, Nat.mul_one, Nat.reduceAdd, Int.toNat_natCast, ex_int, ex_slice, ex_ptr, ex_bool, ex_str, ex_flt, ex_any, bnd_in, List.getElem?_cons_zero, List.getElem?_cons_succ, List.set_cons_zero, List.set_cons_succ, List.cons_append, List.nil_append, bne_self_eq_false, beq_self_eq_true, Bool.not_true, Bool.not_false, Option.isNone_some, Option.isNone_none, eq_self, true_and, and_true, and_self, s1.rd0]
  refine iteB_intro (fun d2 => ?_) (fun d2 => no (fun e => absurd e.2 (of_decide_eq_false d2)))
  have d2 := of_decide_eq_true d2
  obtain ⟨k, rfl⟩ : ∃ k : Nat, v = k := ⟨v.toNat, by omega⟩
  have vq := kq.atC s1
  have v0 := fun {G : Bool → Prop} => vals_bool (G := G) (x := f k) vq (rowF_get (c := cB) (show k < n by omega))
  try simp -zeta (disch := omega) only [chkP_some, iteB_true, iteB_false, add_mk, Nat.zero_add, Nat.add_zero, Nat.mul_one, Nat.reduceAdd, Int.toNat_natCast, ex_int, ex_slice, ex_ptr, ex_bool, ex_str, ex_flt, ex_any, bnd_in, List.getElem?_cons_zero, List.getElem?_cons_succ, List.set_cons_zero, List.set_cons_succ, List.cons_append, List.nil_append, bne_self_eq_false, beq_self_eq_true, Bool.not_true, Bool.not_false, Option.isNone_some, Option.isNone_none, eq_self, true_and, and_true, and_self, s1.rd0, v0]
  unfold hasV at hk; rw [decide_eq_true ⟨by omega, by omega⟩, Int.toNat_natCast, Bool.true_and] at hk
  exact hk

theorem RWith_of {h : Heap} {v : Int} {q : Option Addr} {c : Nat} {X : Rws} {t : Bool} {K : Int → Option Addr → Nat → Nat → Heap → Prop} (hn : n ≤ 4096) (o : Hp.Own q c (rowF cB n f) X) (s : St h0 h (X ++ R))
    (hk : ∀ q' c' X' h', Hp.Own q' c' (rowF cB n (putV f n v t)) X' → St h0 h' (X' ++ R) → K n q' n c' h') : straitref09_Set_With n q n c v t h K := by
  unfold straitref09_Set_With
  refine s.new_ fun b5 h1 s1 => s1.new_ fun b7 h2 s2 => ?_
  intro j
  have Jt : ¬ inV v n → j true := fun no => by
    simp -zeta only [j]
    refine iteB_pos rfl ?_
    try simp -zeta (disch := omega) only [chkP_some, iteB_true, iteB_false, add_mk, Nat.zero_add, Nat.add_zero, Nat.mul_one, Nat.reduceAdd, Int.toNat_natCast, ex_int, ex_slice, ex_ptr, ex_bool, ex_str, ex_flt, ex_any, bnd_in, List.getElem?_cons_zero, List.getElem?_cons_succ, List.set_cons_zero, List.set_cons_succ, List.cons_append, List.nil_append, bne_self_eq_false, beq_self_eq_true, Bool.not_true, Bool.not_false, Option.isNone_some, Option.isNone_none, eq_self, true_and, and_true, and_self, s2.rd0, s2.rd1]
    refine s2.st0 (by simp) fun h3 s3 => ?_
    try simp -zeta only [chkP_some, iteB_true, iteB_false, add_mk, Nat.zero_add, Nat.add_zero, Nat.mul_one, Nat.reduceAdd, Int.toNat_natCast, ex_int, ex_slice, ex_ptr, ex_bool, ex_str, ex_flt, ex_any, bnd_in, List.getElem?_cons_zero, List.getElem?_cons_succ, List.set_cons_zero, List.set_cons_succ, List.cons_append, List.nil_append, bne_self_eq_false, beq_self_eq_true, Bool.not_true, Bool.not_false, Option.isNone_some, Option.isNone_none, eq_self, true_and, and_true, and_self]
    refine s3.st0 (by simp) fun h4 s4 => ?_
    simp only [List.set_cons_zero, List.set_cons_succ, Nat.zero_add] at s4
    try simp -zeta (disch := omega) only [chkP_some, iteB_true, iteB_false, add_mk, Nat.zero_add, Nat.add_zero, Nat.mul_one, Nat.reduceAdd, Int.toNat_natCast, ex_int, ex_slice, ex_ptr, ex_bool, ex_str, ex_flt, ex_any, bnd_in, List.getElem?_cons_zero, List.getElem?_cons_succ, List.set_cons_zero, List.set_cons_succ, List.cons_append, List.nil_append, bne_self_eq_false, beq_self_eq_true, Bool.not_true, Bool.not_false, Option.isNone_some, Option.isNone_none, eq_self, true_and, and_true, and_self, s4.rd0, s4.rd1]
    unfold putV at hk; rw [if_neg no] at hk
    exact hk q c X h4 o s4.tail.tail
  have Jf : ∀ k : Nat, v = k → k < n → j false := fun k e hkn => by
    subst e
    simp -zeta only [j]
    refine iteB_neg rfl ?_
    intro j2
    have J2 : ∀ (y : Nat) (Y : Rws) (q2 : Option Addr) (c2 : Nat) (h3 : Heap), Hp.Own q2 c2 (rowF cB n f) Y → St h0 h3 (Y ++ (y, [.int .i64 (n : Int), .slice q2 n c2]) :: (b7, [.int .i64 0, .slice none 0 0]) :: R) → j2 ⟨y, 0, none⟩ h3 := fun y Y q2 c2 h3 o2 s3 => by
      simp -zeta only [j2]
      have r0 : ∀ j, cell h3 ⟨y, j, none⟩ = [Value.int .i64 (n : Int), .slice q2 n c2][j]? := s3.rd (by simp)
      rcases o2 with ⟨_, _, hnil, _⟩ | ⟨b, z, rfl, hc2, rfl⟩
      · have := congrArg List.length hnil; rw [rowF_len] at this; simp at this; omega
      simp -zeta (disch := omega) only [chkP_some, iteB_true, iteB_false, add_mk, Nat.zero_add, Nat.add_zero, Nat.mul_one, Nat.reduceAdd, Int.toNat_natCast, ex_int, ex_slice, ex_ptr, ex_bool, ex_str, ex_flt, ex_any, bnd_in, List.getElem?_cons_zero, List.getElem?_cons_succ, List.set_cons_zero, List.set_cons_succ, List.cons_append, List.nil_append, bne_self_eq_false, beq_self_eq_true, Bool.not_true, Bool.not_false, Option.isNone_some, Option.isNone_none, eq_self, true_and, and_true, and_self, r0]
      refine St.st0 (by simpa using s3) (by rw [List.length_append, rowF_len]; omega) fun h4 s4 => ?_
      rw [List.set_append_left _ _ (by rw [rowF_len]; exact hkn), show Value.bool t = cB t from rfl, rowF_set, upd_put hkn] at s4
      have r1 : ∀ j, cell h4 ⟨y, j, none⟩ = [Value.int .i64 (n : Int), .slice (some ⟨b, 0, none⟩) n c2][j]? := s4.rd (by simp)
      simp -zeta (disch := omega) only [chkP_some, iteB_true, iteB_false, add_mk, Nat.zero_add, Nat.add_zero, Nat.mul_one, Nat.reduceAdd, Int.toNat_natCast, ex_int, ex_slice, ex_ptr, ex_bool, ex_str, ex_flt, ex_any, bnd_in, List.getElem?_cons_zero, List.getElem?_cons_succ, List.set_cons_zero, List.set_cons_succ, List.cons_append, List.nil_append, bne_self_eq_false, beq_self_eq_true, Bool.not_true, Bool.not_false, Option.isNone_some, Option.isNone_none, eq_self, true_and, and_true, and_self, r1]
      refine s4.st2 (by simp) fun h5 s5 => ?_
      try simp -zeta only [chkP_some, iteB_true, iteB_false, add_mk, Nat.zero_add, Nat.add_zero, Nat.mul_one, Nat.reduceAdd, Int.toNat_natCast, ex_int, ex_slice, ex_ptr, ex_bool, ex_str, ex_flt, ex_any, bnd_in, List.getElem?_cons_zero, List.getElem?_cons_succ, List.set_cons_zero, List.set_cons_succ, List.cons_append, List.nil_append, bne_self_eq_false, beq_self_eq_true, Bool.not_true, Bool.not_false, Option.isNone_some, Option.isNone_none, eq_self, true_and, and_true, and_self]
      refine s5.st2 (by simp) fun h6 s6 => ?_
      simp only [List.set_cons_zero, List.set_cons_succ, Nat.zero_add] at s6
      have r2 : ∀ j, cell h6 ⟨b7, j, none⟩ = [Value.int .i64 (n : Int), .slice (some ⟨b, 0, none⟩) n c2][j]? := s6.rd (by simp)
      simp -zeta (disch := omega) only [chkP_some, iteB_true, iteB_false, add_mk, Nat.zero_add, Nat.add_zero, Nat.mul_one, Nat.reduceAdd, Int.toNat_natCast, ex_int, ex_slice, ex_ptr, ex_bool, ex_str, ex_flt, ex_any, bnd_in, List.getElem?_cons_zero, List.getElem?_cons_succ, List.set_cons_zero, List.set_cons_succ, List.cons_append, List.nil_append, bne_self_eq_false, beq_self_eq_true, Bool.not_true, Bool.not_false, Option.isNone_some, Option.isNone_none, eq_self, true_and, and_true, and_self, r2]
      refine hk _ c2 [(b, rowF cB n (putV f n (k : Int) t) ++ z)] h6 (.inr ⟨b, z, rfl, ?_, rfl⟩) ((St.re s6 (by intro a; simp only [cntR_append, cntR_cons, cntR_nil, List.cons_append, List.nil_append, List.set_cons_zero, List.set_cons_succ]; omega)))
      rw [hc2]; simp [rowF_len]
    clear_value j2
    have lenf : n = (rowF cB n f).length := rowF_len.symm
    have fl : ∀ x ∈ rowF cB n f, flat x = true := fun x hx => by
      obtain ⟨i, _, rfl⟩ := List.mem_map.1 hx; rfl
    have r5 : ∀ j, cell h2 ⟨b5, j, none⟩ = [Value.int .i64 (n : Int), .slice q n c][j]? := s2.rd (by simp)
    simp -zeta (disch := omega) only [add_mk, Nat.zero_add, r5, ex_int, ex_slice, List.getElem?_cons_zero, List.getElem?_cons_succ]
    refine ⟨?_, ?_⟩
    · refine St.new_ (cs := []) s2 fun b20 h3 s3 => ?_
      have r5 : ∀ j, cell h3 ⟨b5, j, none⟩ = [Value.int .i64 (n : Int), .slice q n c][j]? := s3.rd (by simp)
      refine ⟨⟨q, n, c, by rw [r5]; rfl, rfl⟩, ⟨_, by rw [r5]; rfl, rfl⟩, ?_, ?_⟩
      · have vq := (o.keeps (h0 := h0) (R := X) fun x hx => hx) h3 _ s3 (fun x hx => by simp [hx])
        refine Hp.Own.pushAll (l := []) (X := [(b20, [])]) (.inr ⟨b20, [], rfl, rfl, rfl⟩) s3 rfl vq lenf (by omega) fl (by simp; omega) fun q2 c2 X2 h4 o2 s4 => ?_
        have r5 : ∀ j, cell h4 ⟨b5, j, none⟩ = [Value.int .i64 (n : Int), .slice q n c][j]? := s4.rd (by simp)
        refine ⟨⟨_, by rw [r5]; rfl, rfl⟩, s4.new_ fun b30 h5 s5 => ?_⟩
        have r5 : ∀ j, cell h5 ⟨b5, j, none⟩ = [Value.int .i64 (n : Int), .slice q n c][j]? := s5.rd (by simp)
        refine ⟨⟨_, by rw [r5]; rfl, rfl⟩, s5.st0 (by simp) fun h6 s6 => ?_⟩
        try simp -zeta only [chkP_some, iteB_true, iteB_false, add_mk, Nat.zero_add, Nat.add_zero, Nat.mul_one, Nat.reduceAdd, Int.toNat_natCast, ex_int, ex_slice, ex_ptr, ex_bool, ex_str, ex_flt, ex_any, bnd_in, List.getElem?_cons_zero, List.getElem?_cons_succ, List.set_cons_zero, List.set_cons_succ, List.cons_append, List.nil_append, bne_self_eq_false, beq_self_eq_true, Bool.not_true, Bool.not_false, Option.isNone_some, Option.isNone_none, eq_self, true_and, and_true, and_self]
        refine s6.st0 (by simp) fun h7 s7 => ?_
        simp only [List.set_cons_zero, List.set_cons_succ, Nat.zero_add, List.length_nil] at s7
        exact J2 b30 X2 q2 c2 h7 (by simpa using o2) ((St.re s7 (by intro a; simp only [cntR_append, cntR_cons, cntR_nil, List.cons_append, List.nil_append, List.set_cons_zero, List.set_cons_succ]; omega)))
      · refine s3.new_ fun b35 h4 s4 => ?_
        have r5 : ∀ j, cell h4 ⟨b5, j, none⟩ = [Value.int .i64 (n : Int), .slice q n c][j]? := s4.rd (by simp)
        refine ⟨⟨q, n, c, by rw [r5]; rfl, rfl⟩, ⟨_, by rw [r5]; rfl, rfl⟩, ?_⟩
        have vq := (o.keeps (h0 := h0) (R := X) fun x hx => hx) h4 _ s4 (fun x hx => by simp [hx])
        refine Hp.Own.pushAll (l := []) (X := [(b20, [])]) (.inr ⟨b20, [], rfl, rfl, rfl⟩) s4.pull1 rfl vq lenf (by omega) fl (by simp; omega) fun q2 c2 X2 h5 o2 s5 => ?_
        have r5 : ∀ j, cell h5 ⟨b5, j, none⟩ = [Value.int .i64 (n : Int), .slice q n c][j]? := s5.rd (by simp)
        refine ⟨⟨_, by rw [r5]; rfl, rfl⟩, St.st s5 (by simp) fun h6 s6 => ?_⟩
        try simp -zeta only [chkP_some, iteB_true, iteB_false, add_mk, Nat.zero_add, Nat.add_zero, Nat.mul_one, Nat.reduceAdd, Int.toNat_natCast, ex_int, ex_slice, ex_ptr, ex_bool, ex_str, ex_flt, ex_any, bnd_in, List.getElem?_cons_zero, List.getElem?_cons_succ, List.set_cons_zero, List.set_cons_succ, List.cons_append, List.nil_append, bne_self_eq_false, beq_self_eq_true, Bool.not_true, Bool.not_false, Option.isNone_some, Option.isNone_none, eq_self, true_and, and_true, and_self]
        refine St.st s6 (by simp) fun h7 s7 => ?_
        simp only [List.set_cons_zero, List.set_cons_succ, Nat.zero_add, List.length_nil] at s7
        exact J2 b35 X2 q2 c2 h7 (by simpa using o2) ((St.re s7 (by intro a; simp only [cntR_append, cntR_cons, cntR_nil, List.cons_append, List.nil_append, List.set_cons_zero, List.set_cons_succ]; omega)))
    · refine s2.new_ fun b47 h3 s3 => ?_
      have r5 : ∀ j, cell h3 ⟨b5, j, none⟩ = [Value.int .i64 (n : Int), .slice q n c][j]? := s3.rd (by simp)
      refine ⟨⟨q, n, c, by rw [r5]; rfl, rfl⟩, ⟨_, by rw [r5]; rfl, rfl⟩, St.new_ (cs := []) s3 fun b51 h4 s4 => ?_⟩
      have r5 : ∀ j, cell h4 ⟨b5, j, none⟩ = [Value.int .i64 (n : Int), .slice q n c][j]? := s4.rd (by simp)
      refine ⟨⟨q, n, c, by rw [r5]; rfl, rfl⟩, ⟨_, by rw [r5]; rfl, rfl⟩, ?_⟩
      have vq := (o.keeps (h0 := h0) (R := X) fun x hx => hx) h4 _ s4 (fun x hx => by simp [hx])
      refine Hp.Own.pushAll (l := []) (X := [(b51, [])]) (.inr ⟨b51, [], rfl, rfl, rfl⟩) s4 rfl vq lenf (by omega) fl (by simp; omega) fun q2 c2 X2 h5 o2 s5 => ?_
      have r5 : ∀ j, cell h5 ⟨b5, j, none⟩ = [Value.int .i64 (n : Int), .slice q n c][j]? := s5.rd (by simp)
      refine ⟨⟨_, by rw [r5]; rfl, rfl⟩, St.st s5 (by simp) fun h6 s6 => ?_⟩
      try simp -zeta only [chkP_some, iteB_true, iteB_false, add_mk, Nat.zero_add, Nat.add_zero, Nat.mul_one, Nat.reduceAdd, Int.toNat_natCast, ex_int, ex_slice, ex_ptr, ex_bool, ex_str, ex_flt, ex_any, bnd_in, List.getElem?_cons_zero, List.getElem?_cons_succ, List.set_cons_zero, List.set_cons_succ, List.cons_append, List.nil_append, bne_self_eq_false, beq_self_eq_true, Bool.not_true, Bool.not_false, Option.isNone_some, Option.isNone_none, eq_self, true_and, and_true, and_self]
      refine St.st s6 (by simp) fun h7 s7 => ?_
      simp only [List.set_cons_zero, List.set_cons_succ, Nat.zero_add, List.length_nil] at s7
      exact J2 b47 X2 q2 c2 h7 (by simpa using o2) ((St.re s7 (by intro a; simp only [cntR_append, cntR_cons, cntR_nil, List.cons_append, List.nil_append, List.set_cons_zero, List.set_cons_succ]; omega)))
  clear_value j
  refine iteB_intro (fun d => Jt (fun e => by have := of_decide_eq_true d; omega)) (fun d => ?_)
  have d := of_decide_eq_false d
  try simp -zeta (disch := omega) only [chkP_some, iteB_true, iteB_false, add_mk, Nat.zero_add, Nat.add_zero, Nat.mul_one, Nat.reduceAdd, Int.toNat_natCast, ex_int, ex_slice, ex_ptr, ex_bool, ex_str, ex_flt, ex_any, bnd_in, List.getElem?_cons_zero, List.getElem?_cons_succ, List.set_cons_zero, List.set_cons_succ, List.cons_append, List.nil_append, bne_self_eq_false, beq_self_eq_true, Bool.not_true, Bool.not_false, Option.isNone_some, Option.isNone_none, eq_self, true_and, and_true, and_self, s2.rd0, s2.rd1]
  by_cases d2 : v ≥ (n : Int)
  · rw [decide_eq_true d2]; exact Jt (fun e => by omega)
  · rw [decide_eq_false d2]; exact Jf v.toNat (by omega) (by omega)

theorem rlist_l0 {K2 : Option Addr → Nat → Nat → Heap → Prop} {b : Nat} {q : Option Addr} {c : Nat} (hn : n ≤ 4096) (kq : Keeps h0 R q (rowF cB n f))
    (hk : ∀ h' q' c' X, Hp.Own q' c' ((memL f n).map (Value.int .i64)) X → St h0 h' (X ++ (b, [.int .i64 (n : Int), .slice q n c]) :: R) → K2 q' (memL f n).length c' h') :
    ∀ (d i : Nat) (h : Heap) (q' : Option Addr) (c' : Nat) (X : Rws), i + d = n → Hp.Own q' c' ((memL f i).map (Value.int .i64)) X → St h0 h (X ++ (b, [.int .i64 (n : Int), .slice q n c]) :: R) → straitref09_Set_List.l0 K2 (d + 1) ⟨b, 0, none⟩ q' (memL f i).length c' (i : Int) h
  | 0, i, h, q', c', X, hi, o, s => by
    unfold straitref09_Set_List.l0 straitref09_Set_List.b0
    have : i = n := by omega
    subst this
    have r0 : ∀ j, cell h ⟨b, j, none⟩ = [Value.int .i64 (i : Int), .slice q i c][j]? := s.rd (by simp)
    simp -zeta (disch := omega) only [chkP_some, iteB_true, iteB_false, add_mk, Nat.zero_add, Nat.add_zero, Nat.mul_one, Nat.reduceAdd, Int.toNat_natCast, ex_int, ex_slice, ex_ptr, ex_bool, ex_str, ex_flt, ex_any, bnd_in, List.getElem?_cons_zero, List.getElem?_cons_succ, List.set_cons_zero, List.set_cons_succ, List.cons_append, List.nil_append, bne_self_eq_false, beq_self_eq_true, Bool.not_true, Bool.not_false, Option.isNone_some, Option.isNone_none, eq_self, true_and, and_true, and_self, r0]
    exact iteB_neg (decide_eq_false (by omega)) (hk h q' c' X o s)
  | d + 1, i, h, q', c', X, hi, o, s => by
    unfold straitref09_Set_List.l0 straitref09_Set_List.b0
    have r0 : ∀ j, cell h ⟨b, j, none⟩ = [Value.int .i64 (n : Int), .slice q n c][j]? := s.rd (by simp)
    have vq := (kq.cons (y := (b, [.int .i64 (n : Int), .slice q n c]))).at1 s
    have v0 := fun {G : Bool → Prop} => vals_bool (G := G) (x := f i) vq (rowF_get (c := cB) (show i < n by omega))
    simp -zeta (disch := omega) only [chkP_some, iteB_true, iteB_false, add_mk, Nat.zero_add, Nat.add_zero, Nat.mul_one, Nat.reduceAdd, Int.toNat_natCast, ex_int, ex_slice, ex_ptr, ex_bool, ex_str, ex_flt, ex_any, bnd_in, List.getElem?_cons_zero, List.getElem?_cons_succ, List.set_cons_zero, List.set_cons_succ, List.cons_append, List.nil_append, bne_self_eq_false, beq_self_eq_true, Bool.not_true, Bool.not_false, Option.isNone_some, Option.isNone_none, eq_self, true_and, and_true, and_self, r0]
    refine iteB_pos (decide_eq_true (by omega)) ?_
    simp -zeta (disch := omega) only [chkP_some, iteB_true, iteB_false, add_mk, Nat.zero_add, Nat.add_zero, Nat.mul_one, Nat.reduceAdd, Int.toNat_natCast, ex_int, ex_slice, ex_ptr, ex_bool, ex_str, ex_flt, ex_any, bnd_in, List.getElem?_cons_zero, List.getElem?_cons_succ, List.set_cons_zero, List.set_cons_succ, List.cons_append, List.nil_append, bne_self_eq_false, beq_self_eq_true, Bool.not_true, Bool.not_false, Option.isNone_some, Option.isNone_none, eq_self, true_and, and_true, and_self, v0]
    have e : memL f (i + 1) = memL f i ++ (if f i then [(i : Int)] else []) := by
      unfold memL memN
      rw [List.range_succ, List.filter_append, List.map_append]
      congr 1
      cases hfi : f i <;> simp [hfi]
    have hlen := memL_len f i
    refine iteB_intro (fun e2 => ?_) (fun e2 => ?_)
    · rw [e2, if_pos rfl] at e
      have hl2 : (memL f i).length = ((memL f i).map (Value.int .i64)).length := by simp
      refine Hp.Own.push1 o s hl2 rfl (by rw [← hl2]; omega) fun q2 c2 X2 h2 o2 s2 => ?_
      rw [← hl2, wrap64 (by omega) (by omega), show (memL f i).length + 1 = (memL f (i + 1)).length by rw [e]; simp]
      exact rlist_l0 hn kq hk d (i + 1) h2 q2 c2 X2 (by omega) (by rw [e]; simpa using o2) s2
    · have e2 : f i = false := by simpa using e2
      rw [e2] at e
      have e : memL f (i + 1) = memL f i := by rw [e]; simp
      rw [wrap64 (by omega) (by omega), ← e]
      exact rlist_l0 hn kq hk d (i + 1) h q' c' X (by omega) (by rw [e]; exact o) s
theorem RList_of {h : Heap} {q : Option Addr} {c : Nat} {K : Option Addr → Nat → Nat → Heap → Prop} (hn : n ≤ 4096) (kq : Keeps h0 R q (rowF cB n f)) (s : St h0 h R)
    (hk : ∀ h' q' c' X, Hp.Own q' c' ((memL f n).map (Value.int .i64)) X → St h0 h' (X ++ R) → K q' (memL f n).length c' h') : straitref09_Set_List n q n c h K := by
  unfold straitref09_Set_List
  refine s.new_ fun b h1 s1 => ⟨n + 1, ?_⟩
  exact rlist_l0 hn kq (fun h2 q' c' X o s2 => hk h2 q' c' X o ((St.re s2 (by intro a; simp only [cntR_append, cntR_cons, cntR_nil, List.cons_append, List.nil_append, List.set_cons_zero, List.set_cons_succ]; omega)))) n 0 h1 none 0 [] (by omega) Hp.Own.nil s1

theorem rother_l0 {K2 : Heap → Prop} {b3 b5 b11 b : Nat} {q : Option Addr} {c : Nat} (hn : n ≤ 4096) (kq : Keeps h0 R q (rowF cB n f))
    (hk : ∀ h', St h0 h' ((b11, [.int .i64 (n : Int), .slice (some ⟨b, 0, none⟩) n n]) :: (b, rowF cB n (othF f n)) :: (b5, [.int .i64 0, .slice none 0 0]) :: (b3, [.int .i64 (n : Int), .slice q n c]) :: R) → K2 h') :
    ∀ (d i : Nat) (h : Heap), i + d = n → St h0 h ((b11, [.int .i64 (n : Int), .slice (some ⟨b, 0, none⟩) n n]) :: (b, rowF cB n (fun v => decide (v < i) && !f v)) :: (b5, [.int .i64 0, .slice none 0 0]) :: (b3, [.int .i64 (n : Int), .slice q n c]) :: R) → straitref09_Set_Other.l0 K2 (d + 1) ⟨b3, 0, none⟩ ⟨b5, 0, none⟩ ⟨b11, 0, none⟩ (i : Int) h
  | 0, i, h, hi, s => by
    unfold straitref09_Set_Other.l0 straitref09_Set_Other.b0
    have : i = n := by omega
    subst this
    try simp -zeta (disch := omega) only [chkP_some, iteB_true, iteB_false, add_mk, Nat.zero_add, Nat.add_zero, Nat.mul_one, Nat.reduceAdd, Int.toNat_natCast, ex_int, ex_slice, ex_ptr, ex_bool, ex_str, ex_flt, ex_any, bnd_in, List.getElem?_cons_zero, List.getElem?_cons_succ, List.set_cons_zero, List.set_cons_succ, List.cons_append, List.nil_append, bne_self_eq_false, beq_self_eq_true, Bool.not_true, Bool.not_false, Option.isNone_some, Option.isNone_none, eq_self, true_and, and_true, and_self, s.rd0, s.rd1, s.rd2, s.rd3]
    exact iteB_neg (decide_eq_false (by omega)) (hk h s)
  | d + 1, i, h, hi, s => by
    unfold straitref09_Set_Other.l0 straitref09_Set_Other.b0
    have vq : valsAt h q (rowF cB n f) := kq h _ s fun x hx => by simp [hx]
    have v0 := fun {G : Bool → Prop} => vals_bool (G := G) (x := f i) vq (rowF_get (c := cB) (show i < n by omega))
    try simp -zeta (disch := omega) only [chkP_some, iteB_true, iteB_false, add_mk, Nat.zero_add, Nat.add_zero, Nat.mul_one, Nat.reduceAdd, Int.toNat_natCast, ex_int, ex_slice, ex_ptr, ex_bool, ex_str, ex_flt, ex_any, bnd_in, List.getElem?_cons_zero, List.getElem?_cons_succ, List.set_cons_zero, List.set_cons_succ, List.cons_append, List.nil_append, bne_self_eq_false, beq_self_eq_true, Bool.not_true, Bool.not_false, Option.isNone_some, Option.isNone_none, eq_self, true_and, and_true, and_self, s.rd0, s.rd1, s.rd2, s.rd3]
    refine iteB_pos (decide_eq_true (by omega)) ?_
    try simp -zeta (disch := omega) only [chkP_some, iteB_true, iteB_false, add_mk, Nat.zero_add, Nat.add_zero, Nat.mul_one, Nat.reduceAdd, Int.toNat_natCast, ex_int, ex_slice, ex_ptr, ex_bool, ex_str, ex_flt, ex_any, bnd_in, List.getElem?_cons_zero, List.getElem?_cons_succ, List.set_cons_zero, List.set_cons_succ, List.cons_append, List.nil_append, bne_self_eq_false, beq_self_eq_true, Bool.not_true, Bool.not_false, Option.isNone_some, Option.isNone_none, eq_self, true_and, and_true, and_self, s.rd0, s.rd1, s.rd2, s.rd3, v0]
    refine s.st1 (by rw [rowF_len]; omega) fun h2 s2 => ?_
    rw [wrap64 (by omega) (by omega)]
    refine rother_l0 hn kq hk d (i + 1) h2 (by omega) ?_
    have : upd (fun v => decide (v < i) && !f v) i (!f i) = fun v => decide (v < i + 1) && !f v := by
      funext v
      by_cases e : v = i
      · subst e; rw [upd_same]; simp
      · rw [upd_ne _ _ e]
        have e9 : decide (v < i) = decide (v < i + 1) := decide_eq_decide.2 (by omega)
        show (decide (v < i) && !f v) = _
        rw [e9]
    rw [show Value.bool (!f i) = cB (!f i) from rfl, rowF_set, this] at s2
    exact s2
theorem ROther_of {h : Heap} {q : Option Addr} {c : Nat} {K : Int → Option Addr → Nat → Nat → Heap → Prop} (hn : n ≤ 4096) (kq : Keeps h0 R q (rowF cB n f)) (s : St h0 h R)
    (hk : ∀ b h', St h0 h' ((b, rowF cB n (othF f n)) :: R) → K n (some ⟨b, 0, none⟩) n n h') : straitref09_Set_Other n q n c h K := by
  unfold straitref09_Set_Other
  refine s.new_ fun b3 h1 s1 => s1.new_ fun b5 h2 s2 => ?_
  try simp -zeta (disch := omega) only [chkP_some, iteB_true, iteB_false, add_mk, Nat.zero_add, Nat.add_zero, Nat.mul_one, Nat.reduceAdd, Int.toNat_natCast, ex_int, ex_slice, ex_ptr, ex_bool, ex_str, ex_flt, ex_any, bnd_in, List.getElem?_cons_zero, List.getElem?_cons_succ, List.set_cons_zero, List.set_cons_succ, List.cons_append, List.nil_append, bne_self_eq_false, beq_self_eq_true, Bool.not_true, Bool.not_false, Option.isNone_some, Option.isNone_none, eq_self, true_and, and_true, and_self, s2.rd0, s2.rd1]
  refine callP4.self (RNew_of s2 fun b h3 s3 => ?_)
  rw [roomV_self hn] at s3 ⊢
  refine s3.new_ fun b11 h4 s4 => s4.st0 (by simp) fun h5 s5 => ?_
  try simp -zeta only [chkP_some, iteB_true, iteB_false, add_mk, Nat.zero_add, Nat.add_zero, Nat.mul_one, Nat.reduceAdd, Int.toNat_natCast, ex_int, ex_slice, ex_ptr, ex_bool, ex_str, ex_flt, ex_any, bnd_in, List.getElem?_cons_zero, List.getElem?_cons_succ, List.set_cons_zero, List.set_cons_succ, List.cons_append, List.nil_append, bne_self_eq_false, beq_self_eq_true, Bool.not_true, Bool.not_false, Option.isNone_some, Option.isNone_none, eq_self, true_and, and_true, and_self]
  refine s5.st0 (by simp) fun h6 s6 => ?_
  simp only [List.set_cons_zero, List.set_cons_succ, Nat.zero_add] at s6
  have e0 : (fun v => decide (v < 0) && !f v) = fun _ => false := by funext v; simp
  refine ⟨n + 1, rother_l0 (b := b) hn kq (fun h7 s7 => ?_) n 0 h6 (by omega) (by rw [e0]; exact s6)⟩
  try simp -zeta (disch := omega) only [chkP_some, iteB_true, iteB_false, add_mk, Nat.zero_add, Nat.add_zero, Nat.mul_one, Nat.reduceAdd, Int.toNat_natCast, ex_int, ex_slice, ex_ptr, ex_bool, ex_str, ex_flt, ex_any, bnd_in, List.getElem?_cons_zero, List.getElem?_cons_succ, List.set_cons_zero, List.set_cons_succ, List.cons_append, List.nil_append, bne_self_eq_false, beq_self_eq_true, Bool.not_true, Bool.not_false, Option.isNone_some, Option.isNone_none, eq_self, true_and, and_true, and_self, s7.rd0, s7.rd1, s7.rd2]
  refine s7.st2 (by simp) fun h8 s8 => ?_
  try simp -zeta only [chkP_some, iteB_true, iteB_false, add_mk, Nat.zero_add, Nat.add_zero, Nat.mul_one, Nat.reduceAdd, Int.toNat_natCast, ex_int, ex_slice, ex_ptr, ex_bool, ex_str, ex_flt, ex_any, bnd_in, List.getElem?_cons_zero, List.getElem?_cons_succ, List.set_cons_zero, List.set_cons_succ, List.cons_append, List.nil_append, bne_self_eq_false, beq_self_eq_true, Bool.not_true, Bool.not_false, Option.isNone_some, Option.isNone_none, eq_self, true_and, and_true, and_self]
  refine s8.st2 (by simp) fun h9 s9 => ?_
  simp only [List.set_cons_zero, List.set_cons_succ, Nat.zero_add] at s9
  try simp -zeta (disch := omega) only [chkP_some, iteB_true, iteB_false, add_mk, Nat.zero_add, Nat.add_zero, Nat.mul_one, Nat.reduceAdd, Int.toNat_natCast, ex_int, ex_slice, ex_ptr, ex_bool, ex_str, ex_flt, ex_any, bnd_in, List.getElem?_cons_zero, List.getElem?_cons_succ, List.set_cons_zero, List.set_cons_succ, List.cons_append, List.nil_append, bne_self_eq_false, beq_self_eq_true, Bool.not_true, Bool.not_false, Option.isNone_some, Option.isNone_none, eq_self, true_and, and_true, and_self, s9.rd0, s9.rd1, s9.rd2]
  exact hk b h9 ((St.re s9 (by intro a; simp only [cntR_append, cntR_cons, cntR_nil, List.cons_append, List.nil_append, List.set_cons_zero, List.set_cons_succ]; omega)))

theorem rof_l0 {K2 : Heap → Prop} {b3 b8 b k cl : Nat} {q : Option Addr} {l : List Int} (hn : n ≤ 4096) (hl : l.length = k) (hb : k < 2 ^ 40) (kl : Keeps h0 R q (l.map (Value.int .i64)))
    (hk : ∀ h', St h0 h' ((b8, [.int .i64 (n : Int), .slice (some ⟨b, 0, none⟩) n n]) :: (b, rowF cB n (putL n l fun _ => false)) :: (b3, [.int .i64 0, .slice none 0 0]) :: R) → K2 h') :
    ∀ (d i : Nat) (h : Heap), i + d = k → St h0 h ((b8, [.int .i64 (n : Int), .slice (some ⟨b, 0, none⟩) n n]) :: (b, rowF cB n (putL n (l.take i) fun _ => false)) :: (b3, [.int .i64 0, .slice none 0 0]) :: R) → straitref09_Of.l0 K2 (d + 1) q k cl ⟨b3, 0, none⟩ ⟨b8, 0, none⟩ (i : Int) h
  | 0, i, h, hi, s => by
    unfold straitref09_Of.l0 straitref09_Of.b0
    rw [List.take_of_length_le (by omega)] at s
    exact iteB_neg (decide_eq_false (by omega)) (hk h s)
  | d + 1, i, h, hi, s => by
    unfold straitref09_Of.l0 straitref09_Of.b0
    obtain ⟨x, hx⟩ := get_lt (l := l) (i := i) (by omega)
    have vq : valsAt h q (l.map (Value.int .i64)) := kl h _ s fun x hx => by simp [hx]
    have v0 := fun {G : Int → Prop} => vals_int (G := G) vq (show (l.map (Value.int .i64))[i]? = some (.int .i64 x) by simp [hx])
    refine iteB_pos (decide_eq_true (by omega)) ?_
    intro j
    have Jt : ∀ m : Nat, x = m → m < n → j true := fun m e hm => by
      subst e
      simp -zeta only [j]
      refine iteB_pos rfl ?_
      try simp -zeta (disch := omega) only [chkP_some, iteB_true, iteB_false, add_mk, Nat.zero_add, Nat.add_zero, Nat.mul_one, Nat.reduceAdd, Int.toNat_natCast, ex_int, ex_slice, ex_ptr, ex_bool, ex_str, ex_flt, ex_any, bnd_in, List.getElem?_cons_zero, List.getElem?_cons_succ, List.set_cons_zero, List.set_cons_succ, List.cons_append, List.nil_append, bne_self_eq_false, beq_self_eq_true, Bool.not_true, Bool.not_false, Option.isNone_some, Option.isNone_none, eq_self, true_and, and_true, and_self, s.rd0, s.rd1, s.rd2, v0]
      refine s.st1 (by rw [rowF_len]; omega) fun h2 s2 => ?_
      rw [wrap64 (by omega) (by omega)]
      refine rof_l0 hn hl hb kl hk d (i + 1) h2 (by omega) ?_
      rw [show Value.bool true = cB true from rfl, rowF_set, upd_put hm] at s2
      rw [take_snoc hx, putL_snoc]; exact s2
    have Jf : ¬ inV x n → j false := fun no => by
      simp -zeta only [j]
      refine iteB_neg rfl ?_
      rw [wrap64 (by omega) (by omega)]
      refine rof_l0 hn hl hb kl hk d (i + 1) h (by omega) ?_
      rw [take_snoc hx, putL_snoc]
      unfold putV; rw [if_neg no]; exact s
    clear_value j
    try simp -zeta (disch := omega) only [chkP_some, iteB_true, iteB_false, add_mk, Nat.zero_add, Nat.add_zero, Nat.mul_one, Nat.reduceAdd, Int.toNat_natCast, ex_int, ex_slice, ex_ptr, ex_bool, ex_str, ex_flt, ex_any, bnd_in, List.getElem?_cons_zero, List.getElem?_cons_succ, List.set_cons_zero, List.set_cons_succ, List.cons_append, List.nil_append, bne_self_eq_false, beq_self_eq_true, Bool.not_true, Bool.not_false, Option.isNone_some, Option.isNone_none, eq_self, true_and, and_true, and_self, s.rd0, s.rd1, s.rd2, v0]
    refine iteB_intro (fun d => ?_) (fun d => Jf (fun e => absurd e.1 (of_decide_eq_false d)))
    have d := of_decide_eq_true d
    try simp -zeta (disch := omega) only [chkP_some, iteB_true, iteB_false, add_mk, Nat.zero_add, Nat.add_zero, Nat.mul_one, Nat.reduceAdd, Int.toNat_natCast, ex_int, ex_slice, ex_ptr, ex_bool, ex_str, ex_flt, ex_any, bnd_in, List.getElem?_cons_zero, List.getElem?_cons_succ, List.set_cons_zero, List.set_cons_succ, List.cons_append, List.nil_append, bne_self_eq_false, beq_self_eq_true, Bool.not_true, Bool.not_false, Option.isNone_some, Option.isNone_none, eq_self, true_and, and_true, and_self, s.rd0, s.rd1, s.rd2, v0]
    by_cases d2 : x < (n : Int)
    · rw [decide_eq_true d2]; exact Jt x.toNat (by omega) (by omega)
    · rw [decide_eq_false d2]; exact Jf (fun e => d2 e.2)
theorem ROf_of {h : Heap} {m : Int} {k cl : Nat} {q : Option Addr} {l : List Int} {K : Int → Option Addr → Nat → Nat → Heap → Prop} (hl : l.length = k) (hb : k < 2 ^ 40) (kl : Keeps h0 R q (l.map (Value.int .i64))) (s : St h0 h R)
    (hk : ∀ b h', St h0 h' ((b, rowF cB (roomV m) (putL (roomV m) l fun _ => false)) :: R) → K (roomV m) (some ⟨b, 0, none⟩) (roomV m) (roomV m) h') : straitref09_Of m q k cl h K := by
  unfold straitref09_Of
  refine s.new_ fun b3 h1 s1 => callP4.self (RNew_of s1 fun b h2 s2 => ?_)
  refine s2.new_ fun b8 h3 s3 => s3.st0 (by simp) fun h4 s4 => ?_
  try simp -zeta only [chkP_some, iteB_true, iteB_false, add_mk, Nat.zero_add, Nat.add_zero, Nat.mul_one, Nat.reduceAdd, Int.toNat_natCast, ex_int, ex_slice, ex_ptr, ex_bool, ex_str, ex_flt, ex_any, bnd_in, List.getElem?_cons_zero, List.getElem?_cons_succ, List.set_cons_zero, List.set_cons_succ, List.cons_append, List.nil_append, bne_self_eq_false, beq_self_eq_true, Bool.not_true, Bool.not_false, Option.isNone_some, Option.isNone_none, eq_self, true_and, and_true, and_self]
  refine s4.st0 (by simp) fun h5 s5 => ?_
  simp only [List.set_cons_zero, List.set_cons_succ, Nat.zero_add] at s5
  refine ⟨k + 1, rof_l0 (b := b) (b3 := b3) (roomV_le m) hl hb kl (fun h6 s6 => ?_) k 0 h5 (by omega) s5⟩
  try simp -zeta (disch := omega) only [chkP_some, iteB_true, iteB_false, add_mk, Nat.zero_add, Nat.add_zero, Nat.mul_one, Nat.reduceAdd, Int.toNat_natCast, ex_int, ex_slice, ex_ptr, ex_bool, ex_str, ex_flt, ex_any, bnd_in, List.getElem?_cons_zero, List.getElem?_cons_succ, List.set_cons_zero, List.set_cons_succ, List.cons_append, List.nil_append, bne_self_eq_false, beq_self_eq_true, Bool.not_true, Bool.not_false, Option.isNone_some, Option.isNone_none, eq_self, true_and, and_true, and_self, s6.rd0, s6.rd1, s6.rd2]
  refine s6.st2 (by simp) fun h7 s7 => ?_
  try simp -zeta only [chkP_some, iteB_true, iteB_false, add_mk, Nat.zero_add, Nat.add_zero, Nat.mul_one, Nat.reduceAdd, Int.toNat_natCast, ex_int, ex_slice, ex_ptr, ex_bool, ex_str, ex_flt, ex_any, bnd_in, List.getElem?_cons_zero, List.getElem?_cons_succ, List.set_cons_zero, List.set_cons_succ, List.cons_append, List.nil_append, bne_self_eq_false, beq_self_eq_true, Bool.not_true, Bool.not_false, Option.isNone_some, Option.isNone_none, eq_self, true_and, and_true, and_self]
  refine s7.st2 (by simp) fun h8 s8 => ?_
  simp only [List.set_cons_zero, List.set_cons_succ, Nat.zero_add] at s8
  try simp -zeta (disch := omega) only [chkP_some, iteB_true, iteB_false, add_mk, Nat.zero_add, Nat.add_zero, Nat.mul_one, Nat.reduceAdd, Int.toNat_natCast, ex_int, ex_slice, ex_ptr, ex_bool, ex_str, ex_flt, ex_any, bnd_in, List.getElem?_cons_zero, List.getElem?_cons_succ, List.set_cons_zero, List.set_cons_succ, List.cons_append, List.nil_append, bne_self_eq_false, beq_self_eq_true, Bool.not_true, Bool.not_false, Option.isNone_some, Option.isNone_none, eq_self, true_and, and_true, and_self, s8.rd0, s8.rd1, s8.rd2]
  exact hk b h8 ((St.re s8 (by intro a; simp only [cntR_append, cntR_cons, cntR_nil, List.cons_append, List.nil_append, List.set_cons_zero, List.set_cons_succ]; omega)))

theorem same_of {h : Heap} {a : VA} {q : Option Addr} {c : Nat} {K : Bool → Heap → Prop} (ht : Tab h0.heap) (hn : n ≤ 4096) (hc : clean f n) (ha : ∀ x ∈ vS a n f, x ∈ R) (kq : Keeps h0 R q (rowF cB n f)) (s : St h0 h R) (hk : ∀ h', St h0 h' R → K true h') : straitlaw09_same a.ptr n q n c h K := by
  unfold straitlaw09_same
  refine s.new_ fun b h1 s1 => ?_
  try simp -zeta (disch := omega) only [chkP_some, iteB_true, iteB_false, add_mk, Nat.zero_add, Nat.add_zero, Nat.mul_one, Nat.reduceAdd, Int.toNat_natCast, ex_int, ex_slice, ex_ptr, ex_bool, ex_str, ex_flt, ex_any, bnd_in, List.getElem?_cons_zero, List.getElem?_cons_succ, List.set_cons_zero, List.set_cons_succ, List.cons_append, List.nil_append, bne_self_eq_false, beq_self_eq_true, Bool.not_true, Bool.not_false, Option.isNone_some, Option.isNone_none, eq_self, true_and, and_true, and_self, s1.rd0]
  refine callP3.self (RList_of hn kq.cons s1 fun h2 q2 c2 X2 o2 s2 => ?_)
  have r0 : ∀ j, cell h2 ⟨b, j, none⟩ = [Value.int .i64 (n : Int), .slice q n c][j]? := s2.rd (by simp)
  have hv : isV h2 a n f := St.isV s2 fun x hx => by simp [ha x hx]
  refine iteB_pos rfl (qcallP1.of _ (fun Q hQ => VRoom_of hv hQ) ?_)
  simp -zeta (disch := omega) only [chkP_some, iteB_true, iteB_false, add_mk, Nat.zero_add, Nat.add_zero, Nat.mul_one, Nat.reduceAdd, Int.toNat_natCast, ex_int, ex_slice, ex_ptr, ex_bool, ex_str, ex_flt, ex_any, bnd_in, List.getElem?_cons_zero, List.getElem?_cons_succ, List.set_cons_zero, List.set_cons_succ, List.cons_append, List.nil_append, bne_self_eq_false, beq_self_eq_true, Bool.not_true, Bool.not_false, Option.isNone_some, Option.isNone_none, eq_self, true_and, and_true, and_self, r0]
  refine qcallP1.of _ (fun Q hQ => Len_of hn hc hv hQ) (iteB_pos (by simp [memL]) ?_)
  refine callP3.self (List_of (R := X2 ++ (b, _) :: R) ht hn hc (fun x hx => by simp [ha x hx]) s2 fun q3 c3 X3 h3 o3 s3 => ?_)
  have v2 := (o2.keeps (h0 := h0) (R := X2) fun x hx => hx) h3 _ s3 (fun x hx => by simp [hx])
  have hlen := memL_len f n
  refine qcallP1.of true (fun Q hQ => Ints_of (o3.vals s3) v2 rfl rfl (by omega) (by rw [decide_eq_true rfl]; exact hQ)) (hk h3 (s3.drop.drop.tail))

theorem awake_of {h : Heap} {K : Bool → Heap → Prop} (ht : Tab h0.heap) (s : St h0 h R) (hk : ∀ h', St h0 h' R → K true h') : straitlaw09_awake h K := by
  unfold straitlaw09_awake
  refine St.new_ (cs := ([0, 2, 7] : List Int).map (Value.int .i64)) s fun b h1 s1 => ?_
  refine callP1.self (VOf_of (l := [0, 2, 7]) rfl (by omega) (Keeps.row (b := b) (by simp)) s1 fun a h2 s2 => ?_)
  have e3 : roomV 3 = 3 := by decide
  rw [e3] at s2
  obtain ⟨f, hf⟩ : ∃ f, putL 3 [0, 2, 7] (fun _ => false) = f := ⟨_, rfl⟩
  have f0 : f 0 = true := by rw [← hf]; decide
  have f1 : f 1 = false := by rw [← hf]; decide
  have f2 : f 2 = true := by rw [← hf]; decide
  have hc : clean f 3 := by rw [← hf]; exact clean_putL (clean_none 3)
  rw [hf] at s2
  have hv : isV h2 a 3 f := St.isV s2 fun x hx => by simp [hx]
  have lN : (memN f 3).length = 2 := by unfold memN; simp [List.range, List.range.loop, f0, f1, f2]
  refine iteB_pos rfl (qcallP1.of 2 (fun Q hQ => Len_of (by omega) hc hv (by rw [lN]; exact hQ)) (iteB_pos rfl ?_))
  refine qcallP1.of true (fun Q hQ => Has_of (n := 3) (f := f) (by omega) hv (by rw [show hasV f 3 2 = true by unfold hasV; simp [f2]]; exact hQ)) (iteB_pos rfl ?_)
  refine callP1.self (Other_of (n := 3) (f := f) (R := vS a 3 f ++ (b, ([0, 2, 7] : List Int).map (Value.int .i64)) :: R) (by omega) (fun x hx => List.mem_append_left _ hx) s2 fun o h3 s3 => ?_)
  refine callP3.self (List_of (n := 3) (f := othF f 3) (R := vS o 3 (othF f 3) ++ (vS a 3 f ++ (b, ([0, 2, 7] : List Int).map (Value.int .i64)) :: R)) ht (by omega) (clean_oth f 3) (fun x hx => List.mem_append_left _ hx) s3 fun q c X h4 ow s4 => ?_)
  have lL : memL (othF f 3) 3 = [1] := by unfold memL memN othF; simp [List.range, List.range.loop, f0, f1, f2]
  rw [lL] at ow ⊢
  refine St.new_ (cs := ([1] : List Int).map (Value.int .i64)) s4 fun b2 h5 s5 => ?_
  have v1 := (ow.keeps (h0 := h0) (R := X) fun x hx => hx) h5 _ s5 (fun x hx => by simp [hx])
  have v2 := (Keeps.row (h0 := h0) (R := [(b2, ([1] : List Int).map (Value.int .i64))]) (b := b2) (l := ([1] : List Int).map (Value.int .i64)) (by simp)) h5 _ s5 (fun x hx => by simp at hx; simp [hx])
  refine qcallP1.of true (fun Q hQ => Ints_of v1 v2 rfl rfl (by simp) (by rw [decide_eq_true rfl]; exact hQ)) (iteB_pos rfl ?_)
  have hv5 : isV h5 a 3 f := St.isV s5 fun x hx => by simp [hx]
  refine qcallP1.of true (fun Q hQ => Parts_of (n := 3) (f := f) (by omega) hv5 (by
    rw [show hasV f 3 0 = true by unfold hasV; simp [f0], show hasV f 3 1 = false by unfold hasV; simp [f1]]; exact hQ)) ?_
  exact hk h5 (s5.tail.drop.drop.drop.tail)
end
end Go.Proofs.YtmojgekepkpfcaaDoor
