/-
  Sets as bits, for a graph's sides: New, Put, Has (turned from the sets' own texts).
-/
import Derived.Test.YtbhndlpjfncliaaGreatB1
import Derived.Test.YtbhndlpjfncliaaGreatWk
import Derived.Test.YtbhndlpjfncliaaGreatMp
import Derived.Test.YtbhndlpjfncliaaGreatK1
namespace Go.Proofs.YtbhndlpjfncliaaGreat
set_option linter.unusedVariables false
set_option linter.unusedSimpArgs false
set_option linter.unnecessarySimpa false
open Go.Hp Go.RowKit
attribute [local irreducible] Go.Hp.iteB Go.Hp.stC Go.Hp.newP

def wd (g : Nat → Bool) : Nat → Nat
  | 0 => 0
  | k + 1 => 2 ^ k * (g k).toNat + wd g k
theorem wd_lt (g : Nat → Bool) : ∀ k, wd g k < 2 ^ k
  | 0 => by simp [wd]
  | k + 1 => by
    have := wd_lt g k
    unfold wd
    rw [Nat.pow_succ]
    cases g k <;> simp <;> omega
theorem wd_test (g : Nat → Bool) (j : Nat) : ∀ k, (wd g k).testBit j = (decide (j < k) && g j)
  | 0 => by simp [wd]
  | k + 1 => by
    unfold wd
    rw [Nat.testBit_two_pow_mul_add _ (wd_lt g k), wd_test g j k]
    rcases Nat.lt_trichotomy j k with h | h | h
    · simp [h, show j < k + 1 by omega]
    · subst h
      cases g j <;> simp
    · rw [if_neg (by omega)]
      have : ¬ j < k + 1 := by omega
      simp only [this, decide_false, Bool.false_and]
      cases g k with
      | false => simp
      | true =>
        rw [Bool.toNat_true]
        exact Nat.testBit_lt_two_pow (Nat.one_lt_two_pow (by omega))
theorem wd_eq {g : Nat → Bool} {w k : Nat} (hw : w < 2 ^ k) (h : ∀ j, j < k → w.testBit j = g j) : w = wd g k := by
  apply Nat.eq_of_testBit_eq
  intro j
  rw [wd_test]
  by_cases hj : j < k
  · simp [hj, h j hj]
  · simp only [hj, decide_false, Bool.false_and]
    exact Nat.testBit_lt_two_pow (Nat.lt_of_lt_of_le hw (Nat.pow_le_pow_right (by omega) (by omega)))
theorem wd_congr {f g : Nat → Bool} {k : Nat} (h : ∀ j, j < k → f j = g j) : wd f k = wd g k := wd_eq (wd_lt f k) fun j hj => by rw [wd_test]; simp [hj, h j hj]
def wd64 (f : Nat → Bool) (i : Nat) : Nat := wd (fun j => f (i * 64 + j)) 64
theorem wd64_lt (f : Nat → Bool) (i : Nat) : wd64 f i < 18446744073709551616 := wd_lt _ 64
theorem wd64_test {f : Nat → Bool} {i j : Nat} (h : j < 64) : (wd64 f i).testBit j = f (i * 64 + j) := by unfold wd64; rw [wd_test]; simp [h]
def put (f : Nat → Bool) (v : Nat) (b : Bool) : Nat → Bool := fun x => if x = v then b else f x
theorem wd64_or {f : Nat → Bool} {i j : Nat} (h : j < 64) : wd64 f i ||| 2 ^ j = wd64 (put f (i * 64 + j) true) i := by
  have h1 := wd64_lt f i
  have h2 : 2 ^ j < 2 ^ 64 := Nat.pow_lt_pow_right (by omega) h
  refine wd_eq (Nat.or_lt_two_pow h1 h2) fun k hk => ?_
  rw [Nat.testBit_or, wd64_test hk, Nat.testBit_two_pow]
  unfold put
  by_cases e : k = j
  · subst e; simp
  · simp [e, show ¬ j = k by omega, show ¬ i * 64 + k = i * 64 + j by omega]
theorem wd64_other {f : Nat → Bool} {i v : Nat} {b : Bool} (h : v / 64 ≠ i) : wd64 (put f v b) i = wd64 f i := by
  refine wd_congr fun j hj => ?_
  unfold put; rw [if_neg (by omega)]
theorem u64_or_nat (a b : Nat) (ha : a < 18446744073709551616) (hb : b < 18446744073709551616) : bits .or .u64 (a : Int) (b : Int) = ((a ||| b : Nat) : Int) := by
  unfold bits
  rw [wrap_u64]
  show ((((BitVec.ofInt 64 (a : Int) : BitVec 64) ||| (BitVec.ofInt 64 (b : Int) : BitVec 64)).toNat : Nat) : Int) % 18446744073709551616 = _
  have e1 : (BitVec.ofInt 64 (a : Int)).toNat = a := by rw [BitVec.toNat_ofInt]; omega
  have e2 : (BitVec.ofInt 64 (b : Int)).toNat = b := by rw [BitVec.toNat_ofInt]; omega
  have h3 : a ||| b < 2 ^ 64 := Nat.or_lt_two_pow ha hb
  rw [BitVec.toNat_or, e1, e2]; omega
theorem and_pow {w j : Nat} : w &&& 2 ^ j = 2 ^ j * (w.testBit j).toNat := by
  apply Nat.eq_of_testBit_eq
  intro k
  rw [Nat.testBit_and, Nat.testBit_two_pow]
  by_cases e : j = k
  · subst e
    cases h : w.testBit j <;> simp [h]
  · cases h : w.testBit j <;> simp [e]
theorem and_bit {w j : Nat} (hw : w < 18446744073709551616) (h : j < 64) : (bits .and .u64 (w : Int) ((2 ^ j : Nat) : Int) != (0 : Int)) = w.testBit j := by
  have h2 : 2 ^ j < 2 ^ 64 := Nat.pow_lt_pow_right (by omega) h
  rw [u64_and_nat _ _ hw h2, and_pow]
  have : 0 < 2 ^ j := Nat.two_pow_pos j
  cases w.testBit j
  · simp
  · simp only [Bool.toNat_true, Nat.mul_one]
    simp only [bne_iff_ne, ne_eq]
    intro h
    have h : 2 ^ j = 0 := Int.ofNat.inj h
    omega
def rowF {α : Type} (c : α → Value) (n : Nat) (g : Nat → α) : List Value := (List.range n).map fun i => c (g i)
section
variable {α : Type} {c : α → Value} {n : Nat} {g : Nat → α}
theorem rowF_len : (rowF c n g).length = n := by simp [rowF]
theorem rowF_get {i : Nat} (h : i < n) : (rowF c n g)[i]? = some (c (g i)) := by simp [rowF, h]
theorem rowF_set {i : Nat} {x : α} : (rowF c n g).set i (c x) = rowF c n (upd g i x) := by
  apply List.ext_getElem?
  intro j
  rw [List.getElem?_set]
  by_cases hj : j < n
  · rw [rowF_get hj, rowF_get hj, rowF_len]
    by_cases e : i = j
    · subst e; rw [if_pos rfl, if_pos hj, upd_same]
    · rw [if_neg e, upd_ne _ _ (fun h => e h.symm)]
  · rw [List.getElem?_eq_none (by rw [rowF_len]; omega), List.getElem?_eq_none (by rw [rowF_len]; omega), rowF_len]
    by_cases e : i = j
    · rw [if_pos e, if_neg (by omega)]
    · rw [if_neg e]
theorem rowF_congr {f : Nat → α} (h : ∀ i, i < n → f i = g i) : rowF c n f = rowF c n g := by
  unfold rowF; exact List.map_congr_left fun i hi => by rw [h i (List.mem_range.1 hi)]
theorem rowF_zero {z : α} : zeroRow [c z] n = rowF c n fun _ => z := by
  rw [zeroRow_tab]
  apply List.ext_getElem?
  intro j
  by_cases hj : j < n
  · rw [rowF_get hj]
    have := tab_get (w := 1) (n := n) (f := fun _ o => ([c z] : List Value)[o]?.getD undef) hj (show 0 < 1 by omega)
    rw [Nat.mul_one, Nat.add_zero] at this
    exact this
  · rw [List.getElem?_eq_none (by rw [tab_length]; simp; omega), List.getElem?_eq_none (by rw [rowF_len]; omega)]
end
def cW (w : Nat) : Value := .int .u64 (w : Int)
def nw (n : Nat) : Nat := (n + 63) / 64
/-- A set in memory. -/
abbrev VA := Nat × Nat
def VA.ptr (a : VA) : Option Addr := some ⟨a.1, 0, none⟩
def vS (a : VA) (n : Nat) (f : Nat → Bool) : Rws := [(a.1, [.int .i64 (n : Int), .slice (some ⟨a.2, 0, none⟩) (nw n) (nw n)]), (a.2, rowF cW (nw n) (wd64 f))]
def isV (h : Heap) (a : VA) (n : Nat) (f : Nat → Bool) : Prop := (∀ j, cell h ⟨a.1, j, none⟩ = ([.int .i64 (n : Int), .slice (some ⟨a.2, 0, none⟩) (nw n) (nw n)] : List Value)[j]?) ∧ ∀ j, cell h ⟨a.2, j, none⟩ = (rowF cW (nw n) (wd64 f))[j]?
theorem St.isV {h0 : Base} {h : Heap} {L : Rws} {a : VA} {n : Nat} {f : Nat → Bool} (s : St h0 h L) (hs : ∀ x ∈ vS a n f, x ∈ L) : isV h a n f := ⟨s.rd (hs _ (by simp [vS])), s.rd (hs _ (by simp [vS]))⟩
abbrev inV (v : Int) (n : Nat) : Prop := 0 ≤ v ∧ v < (n : Int)
def hasV (f : Nat → Bool) (n : Nat) (v : Int) : Bool := decide (inV v n) && f v.toNat
def putV (f : Nat → Bool) (n : Nat) (v : Int) (b : Bool) : Nat → Bool := if inV v n then put f v.toNat b else f
def clean (f : Nat → Bool) (n : Nat) : Prop := ∀ v, n ≤ v → f v = false
theorem clean_put {f : Nat → Bool} {n : Nat} {v : Int} {b : Bool} (h : clean f n) : clean (putV f n v b) n := fun x hx => by
  unfold putV
  split
  · rename_i c
    unfold put; rw [if_neg (by have := c.1; have := c.2; omega)]; exact h x hx
  · exact h x hx
theorem wd64_put {f : Nat → Bool} {k : Nat} {b : Bool} : upd (wd64 f) (k / 64) (wd64 (put f k b) (k / 64)) = wd64 (put f k b) := by
  funext i
  by_cases e : i = k / 64
  · subst e; rw [upd_same]
  · rw [upd_ne _ _ e, wd64_other (fun h => e h.symm)]
def roomV (m : Int) : Nat := (if 4096 < (if 0 > m then 0 else m) then 4096 else (if 0 > m then 0 else m)).toNat
theorem roomV_le (m : Int) : roomV m ≤ 4096 := by unfold roomV; split <;> (try split) <;> omega
theorem roomV_cast (m : Int) : (if 4096 < (if 0 > m then 0 else m) then (4096 : Int) else (if 0 > m then 0 else m)) = (roomV m : Int) := by unfold roomV; split <;> (try split) <;> omega
theorem roomV_self {n : Nat} (h : n ≤ 4096) : roomV (n : Int) = n := by unfold roomV; split <;> (try split) <;> omega

section
variable {h0 : Base} {R : Rws} {a : VA} {n : Nat} {f : Nat → Bool}
theorem VNew_of {h : Heap} {m : Int} {K : Option Addr → Heap → Prop} (s : St h0 h R) (hk : ∀ a h', St h0 h' (vS a (roomV m) (fun _ => false) ++ R) → K (VA.ptr a) h') : vset_New m h K := by
  unfold vset_New
  have hr := roomV_le m
  rw [roomV_cast]
  refine bindV_intro fun n2 e2 => bindV_intro fun n3 e3 => ?_
  subst e2
  have e4 : IntKind.i64.wrap (n3.tdiv 64) = (nw (roomV m) : Int) := by
    rw [wrap64 (x := (roomV m : Int) + 64) (by omega) (by omega), wrap64 (by omega) (by omega)] at e3
    rw [e3, Int.tdiv_eq_ediv_of_nonneg (by omega), wrap64 (by omega) (by omega)]
    unfold nw; omega
  rw [e4]
  have hnw : nw (roomV m) ≤ 64 := by unfold nw; omega
  refine ⟨by decide, ⟨by omega, by omega, by omega, by omega⟩, ?_⟩
  rw [Int.toNat_natCast, show ([.int .u64 0] : List Value) = [cW 0] from rfl, rowF_zero]
  refine s.new_ fun bw h1 s1 => s1.new_ fun b h2 s2 => hk (b, bw) h2 ?_
  have e5 : (fun _ : Nat => 0) = wd64 fun _ => false := funext fun i => (wd_eq (g := fun _ => false) (k := 64) (by decide) fun j _ => Nat.zero_testBit j)
  rw [e5] at s2
  exact s2
theorem VRoom_of {h : Heap} {K : Int → Heap → Prop} (hv : isV h a n f) (hk : K n h) : vset_Set_Room a.ptr h K := by
  unfold vset_Set_Room VA.ptr
  refine iteB_neg rfl ?_
  simp -zeta (disch := omega) only [chkP_some, iteB_true, iteB_false, add_mk, Nat.zero_add, Nat.add_zero, Nat.mul_one, Nat.reduceAdd, Int.toNat_natCast, ex_int, ex_slice, ex_ptr, ex_bool, ex_str, ex_flt, ex_any, bnd_in, List.getElem?_cons_zero, List.getElem?_cons_succ, List.set_cons_zero, List.set_cons_succ, List.cons_append, List.nil_append, bne_self_eq_false, beq_self_eq_true, Bool.not_true, Bool.not_false, Option.isNone_some, Option.isNone_none, eq_self, true_and, and_true, and_self, hv.1]
  exact hk
theorem VRoom_nil {h : Heap} {K : Int → Heap → Prop} (hk : K 0 h) : vset_Set_Room none h K := by unfold vset_Set_Room; exact iteB_pos rfl hk
theorem bit_of {h : Heap} {v : Int} {K : Option Addr → Int → Bool → Heap → Prop} (hn : n ≤ 4096) (hv : isV h a n f) (no : ¬ inV v n → K none 0 false h) (yes : ∀ k : Nat, v = k → k < n → K (some ⟨a.2, k / 64, none⟩) ((2 ^ (k % 64) : Nat) : Int) true h) : vset_Set_bit a.ptr v h K := by
  unfold vset_Set_bit
  intro j
  have J : inV v n → j := fun c => by
    obtain ⟨k, rfl⟩ : ∃ k : Nat, v = k := ⟨v.toNat, by omega⟩
    have hk : k < n := by omega
    have e1 : IntKind.i64.wrap ((k : Int).tdiv 64) = ((k / 64 : Nat) : Int) := by rw [Int.tdiv_eq_ediv_of_nonneg (by omega), wrap64 (by omega) (by omega)]; omega
    have e2 : (k : Int).tmod 64 = ((k % 64 : Nat) : Int) := by rw [Int.tmod_eq_emod_of_nonneg (by omega)]; omega
    have e3 : IntKind.u64.wrap ((1 : Int) * 2 ^ (min (k % 64) 64)) = ((2 ^ (k % 64) : Nat) : Int) := by
      have hp : 2 ^ (k % 64) < 18446744073709551616 := Nat.pow_lt_pow_right (n := 64) (by omega) (by omega)
      rw [Nat.min_eq_left (by omega), Int.one_mul, wrap_u64, show (2 : Int) ^ (k % 64) = ((2 ^ (k % 64) : Nat) : Int) from (Int.natCast_pow 2 _).symm]
      generalize 2 ^ (k % 64) = p at *
      omega
    have hb : k / 64 < nw n := by unfold nw; omega
    simp -zeta only [j]
    rw [e1, e2, Int.toNat_natCast, Int.toNat_natCast, e3]
    unfold VA.ptr
    simp -zeta (disch := omega) only [chkP_some, iteB_true, iteB_false, add_mk, Nat.zero_add, Nat.add_zero, Nat.mul_one, Nat.reduceAdd, Int.toNat_natCast, ex_int, ex_slice, ex_ptr, ex_bool, ex_str, ex_flt, ex_any, bnd_in, List.getElem?_cons_zero, List.getElem?_cons_succ, List.set_cons_zero, List.set_cons_succ, List.cons_append, List.nil_append, bne_self_eq_false, beq_self_eq_true, Bool.not_true, Bool.not_false, Option.isNone_some, Option.isNone_none, eq_self, true_and, and_true, and_self, hv.1]
    exact ⟨by decide, by decide, by omega, yes k rfl hk⟩
  clear_value j
  refine iteB_intro (fun c => no (fun h => by have := of_decide_eq_true c; omega)) (fun c => ?_)
  have c := of_decide_eq_false c
  refine qcallP1.of _ (fun Q hQ => VRoom_of hv hQ) ?_
  refine iteB_intro (fun c2 => no (fun h => by have := of_decide_eq_true c2; omega)) (fun c2 => J ?_)
  have c2 := of_decide_eq_false c2
  exact ⟨by omega, by omega⟩
theorem bit_nil {h : Heap} {v : Int} {K : Option Addr → Int → Bool → Heap → Prop} (no : K none 0 false h) : vset_Set_bit none v h K := by
  unfold vset_Set_bit
  intro j
  clear_value j
  refine iteB_intro (fun c => no) (fun c => ?_)
  have c := of_decide_eq_false c
  exact qcallP1.of _ (fun Q hQ => VRoom_nil hQ) (iteB_pos (decide_eq_true (by omega)) no)
theorem bit_q {h : Heap} {v : Int} {K : Option Addr → Int → Bool → Prop} (hn : n ≤ 4096) (hv : isV h a n f) (no : ¬ inV v n → K none 0 false) (yes : ∀ k : Nat, v = k → k < n → K (some ⟨a.2, k / 64, none⟩) ((2 ^ (k % 64) : Nat) : Int) true) : qcallP3 h (vset_Set_bit a.ptr v h) K := by
  by_cases c : inV v n
  · obtain ⟨k, rfl⟩ : ∃ k : Nat, v = k := ⟨v.toNat, by omega⟩
    refine qcallP3.of (some ⟨a.2, k / 64, none⟩) ((2 ^ (k % 64) : Nat) : Int) true (fun Q hQ => bit_of hn hv (fun d => absurd c d) (fun k' e _ => ?_)) (yes k rfl (by omega))
    have e : k' = k := by omega
    subst e; exact hQ
  · exact qcallP3.of _ _ _ (fun Q hQ => bit_of hn hv (fun _ => hQ) (fun k e hk => absurd ⟨by omega, by omega⟩ c)) (no c)
theorem Has_of {h : Heap} {v : Int} {K : Bool → Heap → Prop} (hn : n ≤ 4096) (hv : isV h a n f) (hk : K (hasV f n v) h) : vset_Set_Has a.ptr v h K := by
  unfold vset_Set_Has
  refine bit_q hn hv (fun c => ?_) (fun k e hkn => ?_)
  · refine iteB_neg rfl ?_
    unfold hasV at hk; rw [decide_eq_false c] at hk; exact hk
  · subst e
    have hb : k / 64 < nw n := by unfold nw; omega
    refine iteB_pos rfl ?_
    have c : inV (k : Int) n := ⟨by omega, by omega⟩
    simp -zeta (disch := omega) only [chkP_some, iteB_true, iteB_false, add_mk, Nat.zero_add, Nat.add_zero, Nat.mul_one, Nat.reduceAdd, Int.toNat_natCast, ex_int, ex_slice, ex_ptr, ex_bool, ex_str, ex_flt, ex_any, bnd_in, List.getElem?_cons_zero, List.getElem?_cons_succ, List.set_cons_zero, List.set_cons_succ, List.cons_append, List.nil_append, bne_self_eq_false, beq_self_eq_true, Bool.not_true, Bool.not_false, Option.isNone_some, Option.isNone_none, eq_self, true_and, and_true, and_self, hv.2, rowF_get hb, cW]
    rw [and_bit (wd64_lt f _) (by omega), wd64_test (by omega), show k / 64 * 64 + k % 64 = k by omega]
    unfold hasV at hk; rw [decide_eq_true c] at hk; exact hk
theorem Has_nil {h : Heap} {v : Int} {K : Bool → Heap → Prop} (hk : K false h) : vset_Set_Has none v h K := by
  unfold vset_Set_Has
  exact qcallP3.of _ _ _ (fun Q hQ => bit_nil hQ) (iteB_neg rfl hk)
theorem Put_of {h : Heap} {v : Int} {K : Bool → Heap → Prop} (hn : n ≤ 4096) (s : St h0 h (vS a n f ++ R)) (hk : ∀ h', St h0 h' (vS a n (putV f n v true) ++ R) → K (decide (inV v n) && !f v.toNat) h') : vset_Set_Put a.ptr v h K := by
  unfold vset_Set_Put
  have hv : isV h a n f := St.isV s fun x hx => by simp [hx]
  refine bit_q hn hv (fun c => ?_) (fun k e hkn => ?_)
  · refine iteB_pos rfl ?_
    unfold putV at hk; rw [if_neg c, decide_eq_false c] at hk; exact hk h s
  · subst e
    have hb : k / 64 < nw n := by unfold nw; omega
    have c : inV (k : Int) n := ⟨by omega, by omega⟩
    unfold putV at hk
    rw [if_pos c, decide_eq_true c, Int.toNat_natCast, Bool.true_and] at hk
    refine iteB_neg rfl ?_
    simp -zeta (disch := omega) only [chkP_some, iteB_true, iteB_false, add_mk, Nat.zero_add, Nat.add_zero, Nat.mul_one, Nat.reduceAdd, Int.toNat_natCast, ex_int, ex_slice, ex_ptr, ex_bool, ex_str, ex_flt, ex_any, bnd_in, List.getElem?_cons_zero, List.getElem?_cons_succ, List.set_cons_zero, List.set_cons_succ, List.cons_append, List.nil_append, bne_self_eq_false, beq_self_eq_true, Bool.not_true, Bool.not_false, Option.isNone_some, Option.isNone_none, eq_self, true_and, and_true, and_self, hv.2, rowF_get hb, cW]
    rw [and_bit (wd64_lt f _) (by omega), wd64_test (by omega), show k / 64 * 64 + k % 64 = k by omega]
    refine iteB_intro (fun e => ?_) (fun e => ?_)
    · rw [e] at hk
      have : put f k true = f := funext fun x => by unfold put; split; (rename_i h; subst h; exact e.symm); rfl
      rw [this] at hk; exact hk h s
    · rw [e] at hk
      refine St.st1 s (by rw [rowF_len]; exact hb) fun h2 s2 => hk h2 ?_
      have h2 : 2 ^ (k % 64) < 2 ^ 64 := Nat.pow_lt_pow_right (by omega) (by omega)
      rw [u64_or_nat _ _ (wd64_lt f _) h2, wd64_or (by omega), show k / 64 * 64 + k % 64 = k by omega] at s2
      rw [show Value.int .u64 (wd64 (put f k true) (k / 64) : Int) = cW (wd64 (put f k true) (k / 64)) from rfl, rowF_set, wd64_put] at s2
      exact s2
theorem Put_nil {h : Heap} {v : Int} {K : Bool → Heap → Prop} (hk : K false h) : vset_Set_Put none v h K := by
  unfold vset_Set_Put
  exact qcallP3.of _ _ _ (fun Q hQ => bit_nil hQ) (iteB_pos rfl hk)
end
def putL (n : Nat) (l : List Int) (f : Nat → Bool) : Nat → Bool := l.foldl (fun f v => putV f n v true) f
theorem putL_snoc (n : Nat) (l : List Int) (v : Int) (f : Nat → Bool) : putL n (l ++ [v]) f = putV (putL n l f) n v true := by unfold putL; rw [List.foldl_append]; rfl
theorem clean_putL {n : Nat} : ∀ {l : List Int} {f : Nat → Bool}, clean f n → clean (putL n l f) n
  | [], f, h => h
  | v :: l, f, h => clean_putL (l := l) (clean_put h)
theorem clean_none (n : Nat) : clean (fun _ => false) n := fun _ _ => rfl

section
variable {h0 : Base} {R : Rws} {a : VA} {n : Nat} {f : Nat → Bool}
theorem vof_l0 {K2 : Heap → Prop} {k cl : Nat} {q : Option Addr} {l : List Int} (hn : n ≤ 4096) (hl : l.length = k) (hb : k < 2 ^ 40) (kl : Keeps h0 R q (l.map (Value.int .i64)))
    (hk : ∀ h', St h0 h' (vS a n (putL n l fun _ => false) ++ R) → K2 h') :
    ∀ (d i : Nat) (h : Heap), i + d = k → St h0 h (vS a n (putL n (l.take i) fun _ => false) ++ R) → vset_Of.l0 K2 (d + 1) a.ptr q k cl (k : Int) (i : Int) h
  | 0, i, h, hi, s => by
    unfold vset_Of.l0 vset_Of.b0
    rw [List.take_of_length_le (by omega)] at s
    exact iteB_neg (decide_eq_false (by omega)) (hk h s)
  | d + 1, i, h, hi, s => by
    unfold vset_Of.l0 vset_Of.b0
    obtain ⟨x, hx⟩ := get_lt (l := l) (i := i) (by omega)
    have vl : valsAt h q (l.map (Value.int .i64)) := kl.app.at0 s
    have v0 := fun {G : Int → Prop} => vals_int (G := G) vl (show (l.map (Value.int .i64))[i]? = some (.int .i64 x) by simp [hx])
    refine iteB_pos (decide_eq_true (by omega)) ?_
    simp -zeta (disch := omega) only [chkP_some, iteB_true, iteB_false, add_mk, Nat.zero_add, Nat.add_zero, Nat.mul_one, Nat.reduceAdd, Int.toNat_natCast, ex_int, ex_slice, ex_ptr, ex_bool, ex_str, ex_flt, ex_any, bnd_in, List.getElem?_cons_zero, List.getElem?_cons_succ, List.set_cons_zero, List.set_cons_succ, List.cons_append, List.nil_append, bne_self_eq_false, beq_self_eq_true, Bool.not_true, Bool.not_false, Option.isNone_some, Option.isNone_none, eq_self, true_and, and_true, and_self, v0]
    refine callP1.self (Put_of hn s fun h2 s2 => ?_)
    rw [wrap64 (by omega) (by omega)]
    refine vof_l0 hn hl hb kl hk d (i + 1) h2 (by omega) ?_
    rw [take_snoc hx, putL_snoc]; exact s2
theorem VOf_of {h : Heap} {m : Int} {k cl : Nat} {q : Option Addr} {l : List Int} {K : Option Addr → Heap → Prop} (hl : l.length = k) (hb : k < 2 ^ 40) (kl : Keeps h0 R q (l.map (Value.int .i64))) (s : St h0 h R)
    (hk : ∀ a h', St h0 h' (vS a (roomV m) (putL (roomV m) l fun _ => false) ++ R) → K a.ptr h') : vset_Of m q k cl h K := by
  unfold vset_Of
  exact callP1.self (VNew_of s fun a h1 s1 => ⟨k + 1, vof_l0 (roomV_le m) hl hb kl (fun h2 s2 => hk a h2 s2) k 0 h1 (by omega) s1⟩)

end
end Go.Proofs.YtbhndlpjfncliaaGreat
