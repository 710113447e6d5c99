/-
  Sets: what the program's functions do.
-/
import Derived.Test.YtmojgekepkpfcaaDoorV2
import Derived.Test.YtmojgekepkpfcaaDoorMp
import Derived.Test.YtmojgekepkpfcaaDoorG2
namespace Go.Proofs.YtmojgekepkpfcaaDoor
set_option linter.unusedVariables false
set_option linter.unusedSimpArgs false
set_option linter.unnecessarySimpa false
open Go.Hp Go.RowKit
attribute [local irreducible] Go.Hp.iteB Go.Hp.stC Go.Hp.newP

/-! ### Rows by functions, of any kind -/
def rowF {α : Type} (c : α → Value) (n : Nat) (g : Nat → α) : List Value := (List.range n).map fun i => c (g i)
section
variable {α : Type} {c : α → Value} {n : Nat} {g : Nat → α}
theorem rowF_len : (rowF c n g).length = n := by simp [rowF]
theorem rowF_get {i : Nat} (h : i < n) : (rowF c n g)[i]? = some (c (g i)) := by simp [rowF, h]
theorem rowF_set {i : Nat} {x : α} : (rowF c n g).set i (c x) = rowF c n (upd g i x) := by
  apply List.ext_getElem?
  intro j
  rw [List.getElem?_set]
  by_cases hj : j < n
  · rw [rowF_get hj, rowF_get hj, rowF_len]
    by_cases e : i = j
    · subst e; rw [if_pos rfl, if_pos hj, upd_same]
    · rw [if_neg e, upd_ne _ _ (fun h => e h.symm)]
  · rw [List.getElem?_eq_none (by rw [rowF_len]; omega), List.getElem?_eq_none (by rw [rowF_len]; omega), rowF_len]
    by_cases e : i = j
    · rw [if_pos e, if_neg (by omega)]
    · rw [if_neg e]
theorem rowF_congr {f : Nat → α} (h : ∀ i, i < n → f i = g i) : rowF c n f = rowF c n g := by
  unfold rowF; exact List.map_congr_left fun i hi => by rw [h i (List.mem_range.1 hi)]
theorem rowF_zero {z : α} : zeroRow [c z] n = rowF c n fun _ => z := by
  rw [zeroRow_tab]
  apply List.ext_getElem?
  intro j
  by_cases hj : j < n
  · rw [rowF_get hj]
    have := tab_get (w := 1) (n := n) (f := fun _ o => ([c z] : List Value)[o]?.getD undef) hj (show 0 < 1 by omega)
    rw [Nat.mul_one, Nat.add_zero] at this
    exact this
  · rw [List.getElem?_eq_none (by rw [tab_length]; simp; omega), List.getElem?_eq_none (by rw [rowF_len]; omega)]
end
def cW (w : Nat) : Value := .int .u64 (w : Int)
def nw (n : Nat) : Nat := (n + 63) / 64
/-- A set in memory. -/
abbrev VA := Nat × Nat
def VA.ptr (a : VA) : Option Addr := some ⟨a.1, 0, none⟩
def vS (a : VA) (n : Nat) (f : Nat → Bool) : Rws := [(a.1, [.int .i64 (n : Int), .slice (some ⟨a.2, 0, none⟩) (nw n) (nw n)]), (a.2, rowF cW (nw n) (wd64 f))]
def isV (h : Heap) (a : VA) (n : Nat) (f : Nat → Bool) : Prop := (∀ j, cell h ⟨a.1, j, none⟩ = ([.int .i64 (n : Int), .slice (some ⟨a.2, 0, none⟩) (nw n) (nw n)] : List Value)[j]?) ∧ ∀ j, cell h ⟨a.2, j, none⟩ = (rowF cW (nw n) (wd64 f))[j]?
theorem St.isV {h0 : Base} {h : Heap} {L : Rws} {a : VA} {n : Nat} {f : Nat → Bool} (s : St h0 h L) (hs : ∀ x ∈ vS a n f, x ∈ L) : isV h a n f := ⟨s.rd (hs _ (by simp [vS])), s.rd (hs _ (by simp [vS]))⟩
abbrev inV (v : Int) (n : Nat) : Prop := 0 ≤ v ∧ v < (n : Int)
def hasV (f : Nat → Bool) (n : Nat) (v : Int) : Bool := decide (inV v n) && f v.toNat
def putV (f : Nat → Bool) (n : Nat) (v : Int) (b : Bool) : Nat → Bool := if inV v n then put f v.toNat b else f
def clean (f : Nat → Bool) (n : Nat) : Prop := ∀ v, n ≤ v → f v = false
theorem clean_put {f : Nat → Bool} {n : Nat} {v : Int} {b : Bool} (h : clean f n) : clean (putV f n v b) n := fun x hx => by
  unfold putV
  split
  · rename_i c
    unfold put; rw [if_neg (by have := c.1; have := c.2; omega)]; exact h x hx
  · exact h x hx
theorem wd64_put {f : Nat → Bool} {k : Nat} {b : Bool} : upd (wd64 f) (k / 64) (wd64 (put f k b) (k / 64)) = wd64 (put f k b) := by
  funext i
  by_cases e : i = k / 64
  · subst e; rw [upd_same]
  · rw [upd_ne _ _ e, wd64_other (fun h => e h.symm)]
def roomV (m : Int) : Nat := (if 4096 < (if 0 > m then 0 else m) then 4096 else (if 0 > m then 0 else m)).toNat
theorem roomV_le (m : Int) : roomV m ≤ 4096 := by unfold roomV; split <;> (try split) <;> omega
theorem roomV_cast (m : Int) : (if 4096 < (if 0 > m then 0 else m) then (4096 : Int) else (if 0 > m then 0 else m)) = (roomV m : Int) := by unfold roomV; split <;> (try split) <;> omega
theorem roomV_self {n : Nat} (h : n ≤ 4096) : roomV (n : Int) = n := by unfold roomV; split <;> (try split) <;> omega

section
variable {h0 : Base} {R : Rws} {a : VA} {n : Nat} {f : Nat → Bool}
theorem VNew_of {h : Heap} {m : Int} {K : Option Addr → Heap → Prop} (s : St h0 h R) (hk : ∀ a h', St h0 h' (vS a (roomV m) (fun _ => false) ++ R) → K (VA.ptr a) h') : vset_New m h K := by
  unfold vset_New
  have hr := roomV_le m
  rw [roomV_cast]
  refine bindV_intro fun n2 e2 => bindV_intro fun n3 e3 => ?_
  subst e2
  have e4 : IntKind.i64.wrap (n3.tdiv 64) = (nw (roomV m) : Int) := by
    rw [wrap64 (x := (roomV m : Int) + 64) (by omega) (by omega), wrap64 (by omega) (by omega)] at e3
    rw [e3, Int.tdiv_eq_ediv_of_nonneg (by omega), wrap64 (by omega) (by omega)]
    unfold nw; omega
  rw [e4]
  have hnw : nw (roomV m) ≤ 64 := by unfold nw; omega
  refine ⟨by decide, ⟨by omega, by omega, by omega, by omega⟩, ?_⟩
  rw [Int.toNat_natCast, show ([.int .u64 0] : List Value) = [cW 0] from rfl, rowF_zero]
  refine s.new_ fun bw h1 s1 => s1.new_ fun b h2 s2 => hk (b, bw) h2 ?_
  have e5 : (fun _ : Nat => 0) = wd64 fun _ => false := funext fun i => (wd_eq (g := fun _ => false) (k := 64) (by decide) fun j _ => Nat.zero_testBit j)
  rw [e5] at s2
  exact s2
theorem VRoom_of {h : Heap} {K : Int → Heap → Prop} (hv : isV h a n f) (hk : K n h) : vset_Set_Room a.ptr h K := by
  unfold vset_Set_Room VA.ptr
  refine iteB_neg rfl ?_
  simp -zeta (disch := omega) only [chkP_some, iteB_true, iteB_false, add_mk, Nat.zero_add, Nat.add_zero, Nat.mul_one, Nat.reduceAdd, Int.toNat_natCast, ex_int, ex_slice, ex_ptr, ex_bool, ex_str, ex_flt, ex_any, bnd_in, List.getElem?_cons_zero, List.getElem?_cons_succ, List.set_cons_zero, List.set_cons_succ, List.cons_append, List.nil_append, bne_self_eq_false, beq_self_eq_true, Bool.not_true, Bool.not_false, Option.isNone_some, Option.isNone_none, eq_self, true_and, and_true, and_self, hv.1]
  exact hk
theorem VRoom_nil {h : Heap} {K : Int → Heap → Prop} (hk : K 0 h) : vset_Set_Room none h K := by unfold vset_Set_Room; exact iteB_pos rfl hk
theorem bit_of {h : Heap} {v : Int} {K : Option Addr → Int → Bool → Heap → Prop} (hn : n ≤ 4096) (hv : isV h a n f) (no : ¬ inV v n → K none 0 false h) (yes : ∀ k : Nat, v = k → k < n → K (some ⟨a.2, k / 64, none⟩) ((2 ^ (k % 64) : Nat) : Int) true h) : vset_Set_bit a.ptr v h K := by
  unfold vset_Set_bit
  intro j
  have J : inV v n → j := fun c => by
    obtain ⟨k, rfl⟩ : ∃ k : Nat, v = k := ⟨v.toNat, by omega⟩
    have hk : k < n := by omega
    have e1 : IntKind.i64.wrap ((k : Int).tdiv 64) = ((k / 64 : Nat) : Int) := by rw [Int.tdiv_eq_ediv_of_nonneg (by omega), wrap64 (by omega) (by omega)]; omega
    have e2 : (k : Int).tmod 64 = ((k % 64 : Nat) : Int) := by rw [Int.tmod_eq_emod_of_nonneg (by omega)]; omega
    have e3 : IntKind.u64.wrap ((1 : Int) * 2 ^ (min (k % 64) 64)) = ((2 ^ (k % 64) : Nat) : Int) := by
      have hp : 2 ^ (k % 64) < 18446744073709551616 := Nat.pow_lt_pow_right (n := 64) (by omega) (by omega)
      rw [Nat.min_eq_left (by omega), Int.one_mul, wrap_u64, show (2 : Int) ^ (k % 64) = ((2 ^ (k % 64) : Nat) : Int) from (Int.natCast_pow 2 _).symm]
      generalize 2 ^ (k % 64) = p at *
      omega
    have hb : k / 64 < nw n := by unfold nw; omega
    simp -zeta only [j]
    rw [e1, e2, Int.toNat_natCast, Int.toNat_natCast, e3]
    unfold VA.ptr
    simp -zeta (disch := omega) only [chkP_some, iteB_true, iteB_false, add_mk, Nat.zero_add, Nat.add_zero, Nat.mul_one, Nat.reduceAdd, Int.toNat_natCast, ex_int, ex_slice, ex_ptr, ex_bool, ex_str, ex_flt, ex_any, bnd_in, List.getElem?_cons_zero, List.getElem?_cons_succ, List.set_cons_zero, List.set_cons_succ, List.cons_append, List.nil_append, bne_self_eq_false, beq_self_eq_true, Bool.not_true, Bool.not_false, Option.isNone_some, Option.isNone_none, eq_self, true_and, and_true, and_self, hv.1]
    exact ⟨by decide, by decide, by omega, yes k rfl hk⟩
  clear_value j
  refine iteB_intro (fun c => no (fun h => by have := of_decide_eq_true c; omega)) (fun c => ?_)
  have c := of_decide_eq_false c
  refine qcallP1.of _ (fun Q hQ => VRoom_of hv hQ) ?_
  refine iteB_intro (fun c2 => no (fun h => by have := of_decide_eq_true c2; omega)) (fun c2 => J ?_)
  have c2 := of_decide_eq_false c2
  exact ⟨by omega, by omega⟩
theorem bit_nil {h : Heap} {v : Int} {K : Option Addr → Int → Bool → Heap → Prop} (no : K none 0 false h) : vset_Set_bit none v h K := by
  unfold vset_Set_bit
  intro j
  clear_value j
  refine iteB_intro (fun c => no) (fun c => ?_)
  have c := of_decide_eq_false c
  exact qcallP1.of _ (fun Q hQ => VRoom_nil hQ) (iteB_pos (decide_eq_true (by omega)) no)
theorem bit_q {h : Heap} {v : Int} {K : Option Addr → Int → Bool → Prop} (hn : n ≤ 4096) (hv : isV h a n f) (no : ¬ inV v n → K none 0 false) (yes : ∀ k : Nat, v = k → k < n → K (some ⟨a.2, k / 64, none⟩) ((2 ^ (k % 64) : Nat) : Int) true) : qcallP3 h (vset_Set_bit a.ptr v h) K := by
  by_cases c : inV v n
  · obtain ⟨k, rfl⟩ : ∃ k : Nat, v = k := ⟨v.toNat, by omega⟩
    refine qcallP3.of (some ⟨a.2, k / 64, none⟩) ((2 ^ (k % 64) : Nat) : Int) true (fun Q hQ => bit_of hn hv (fun d => absurd c d) (fun k' e _ => ?_)) (yes k rfl (by omega))
    have e : k' = k := by omega
    subst e; exact hQ
  · exact qcallP3.of _ _ _ (fun Q hQ => bit_of hn hv (fun _ => hQ) (fun k e hk => absurd ⟨by omega, by omega⟩ c)) (no c)
theorem Has_of {h : Heap} {v : Int} {K : Bool → Heap → Prop} (hn : n ≤ 4096) (hv : isV h a n f) (hk : K (hasV f n v) h) : vset_Set_Has a.ptr v h K := by
  unfold vset_Set_Has
  refine bit_q hn hv (fun c => ?_) (fun k e hkn => ?_)
  · refine iteB_neg rfl ?_
    unfold hasV at hk; rw [decide_eq_false c] at hk; exact hk
  · subst e
    have hb : k / 64 < nw n := by unfold nw; omega
    refine iteB_pos rfl ?_
    have c : inV (k : Int) n := ⟨by omega, by omega⟩
    simp -zeta (disch := omega) only [chkP_some, iteB_true, iteB_false, add_mk, Nat.zero_add, Nat.add_zero, Nat.mul_one, Nat.reduceAdd, Int.toNat_natCast, ex_int, ex_slice, ex_ptr, ex_bool, ex_str, ex_flt, ex_any, bnd_in, List.getElem?_cons_zero, List.getElem?_cons_succ, List.set_cons_zero, List.set_cons_succ, List.cons_append, List.nil_append, bne_self_eq_false, beq_self_eq_true, Bool.not_true, Bool.not_false, Option.isNone_some, Option.isNone_none, eq_self, true_and, and_true, and_self, hv.2, rowF_get hb, cW]
    rw [and_bit (wd64_lt f _) (by omega), wd64_test (by omega), show k / 64 * 64 + k % 64 = k by omega]
    unfold hasV at hk; rw [decide_eq_true c] at hk; exact hk
theorem Has_nil {h : Heap} {v : Int} {K : Bool → Heap → Prop} (hk : K false h) : vset_Set_Has none v h K := by
  unfold vset_Set_Has
  exact qcallP3.of _ _ _ (fun Q hQ => bit_nil hQ) (iteB_neg rfl hk)
theorem Put_of {h : Heap} {v : Int} {K : Bool → Heap → Prop} (hn : n ≤ 4096) (s : St h0 h (vS a n f ++ R)) (hk : ∀ h', St h0 h' (vS a n (putV f n v true) ++ R) → K (decide (inV v n) && !f v.toNat) h') : vset_Set_Put a.ptr v h K := by
  unfold vset_Set_Put
  have hv : isV h a n f := St.isV s fun x hx => by simp [hx]
  refine bit_q hn hv (fun c => ?_) (fun k e hkn => ?_)
  · refine iteB_pos rfl ?_
    unfold putV at hk; rw [if_neg c, decide_eq_false c] at hk; exact hk h s
  · subst e
    have hb : k / 64 < nw n := by unfold nw; omega
    have c : inV (k : Int) n := ⟨by omega, by omega⟩
    unfold putV at hk
    rw [if_pos c, decide_eq_true c, Int.toNat_natCast, Bool.true_and] at hk
    refine iteB_neg rfl ?_
    simp -zeta (disch := omega) only [chkP_some, iteB_true, iteB_false, add_mk, Nat.zero_add, Nat.add_zero, Nat.mul_one, Nat.reduceAdd, Int.toNat_natCast, ex_int, ex_slice, ex_ptr, ex_bool, ex_str, ex_flt, ex_any, bnd_in, List.getElem?_cons_zero, List.getElem?_cons_succ, List.set_cons_zero, List.set_cons_succ, List.cons_append, List.nil_append, bne_self_eq_false, beq_self_eq_true, Bool.not_true, Bool.not_false, Option.isNone_some, Option.isNone_none, eq_self, true_and, and_true, and_self, hv.2, rowF_get hb, cW]
    rw [and_bit (wd64_lt f _) (by omega), wd64_test (by omega), show k / 64 * 64 + k % 64 = k by omega]
    refine iteB_intro (fun e => ?_) (fun e => ?_)
    · rw [e] at hk
      have : put f k true = f := funext fun x => by unfold put; split; (rename_i h; subst h; exact e.symm); rfl
      rw [this] at hk; exact hk h s
    · rw [e] at hk
      refine St.st1 s (by rw [rowF_len]; exact hb) fun h2 s2 => hk h2 ?_
      have h2 : 2 ^ (k % 64) < 2 ^ 64 := Nat.pow_lt_pow_right (by omega) (by omega)
      rw [u64_or_nat _ _ (wd64_lt f _) h2, wd64_or (by omega), show k / 64 * 64 + k % 64 = k by omega] at s2
      rw [show Value.int .u64 (wd64 (put f k true) (k / 64) : Int) = cW (wd64 (put f k true) (k / 64)) from rfl, rowF_set, wd64_put] at s2
      exact s2
theorem Put_nil {h : Heap} {v : Int} {K : Bool → Heap → Prop} (hk : K false h) : vset_Set_Put none v h K := by
  unfold vset_Set_Put
  exact qcallP3.of _ _ _ (fun Q hQ => bit_nil hQ) (iteB_pos rfl hk)
theorem Drop_of {h : Heap} {v : Int} {K : Bool → Heap → Prop} (hn : n ≤ 4096) (s : St h0 h (vS a n f ++ R)) (hk : ∀ h', St h0 h' (vS a n (putV f n v false) ++ R) → K (hasV f n v) h') : vset_Set_Drop a.ptr v h K := by
  unfold vset_Set_Drop
  have hv : isV h a n f := St.isV s fun x hx => by simp [hx]
  refine bit_q hn hv (fun c => ?_) (fun k e hkn => ?_)
  · refine iteB_pos rfl ?_
    unfold putV hasV at hk; rw [if_neg c, decide_eq_false c] at hk; exact hk h s
  · subst e
    have hb : k / 64 < nw n := by unfold nw; omega
    have c : inV (k : Int) n := ⟨by omega, by omega⟩
    unfold putV hasV at hk
    rw [if_pos c, decide_eq_true c, Int.toNat_natCast, Bool.true_and] at hk
    refine iteB_neg rfl ?_
    simp -zeta (disch := omega) only [chkP_some, iteB_true, iteB_false, add_mk, Nat.zero_add, Nat.add_zero, Nat.mul_one, Nat.reduceAdd, Int.toNat_natCast, ex_int, ex_slice, ex_ptr, ex_bool, ex_str, ex_flt, ex_any, bnd_in, List.getElem?_cons_zero, List.getElem?_cons_succ, List.set_cons_zero, List.set_cons_succ, List.cons_append, List.nil_append, bne_self_eq_false, beq_self_eq_true, Bool.not_true, Bool.not_false, Option.isNone_some, Option.isNone_none, eq_self, true_and, and_true, and_self, hv.2, rowF_get hb, cW]
    have ab := and_bit (w := wd64 f (k / 64)) (j := k % 64) (wd64_lt f _) (by omega)
    rw [wd64_test (by omega), show k / 64 * 64 + k % 64 = k by omega] at ab
    have ab2 : (bits .and .u64 (wd64 f (k / 64) : Int) ((2 ^ (k % 64) : Nat) : Int) == (0 : Int)) = !f k := by rw [← ab]; simp [bne]
    rw [ab2]
    refine iteB_intro (fun e => ?_) (fun e => ?_)
    · have e : f k = false := by simpa using e
      rw [e] at hk
      have : put f k false = f := funext fun x => by unfold put; split; (rename_i h; subst h; exact e.symm); rfl
      rw [this] at hk; exact hk h s
    · have e : f k = true := by simpa using e
      rw [e] at hk
      refine St.st1 s (by rw [rowF_len]; exact hb) fun h2 s2 => hk h2 ?_
      rw [andNot_bit (by omega), show k / 64 * 64 + k % 64 = k by omega] at s2
      rw [show Value.int .u64 (wd64 (put f k false) (k / 64) : Int) = cW (wd64 (put f k false) (k / 64)) from rfl, rowF_set, wd64_put] at s2
      exact s2
theorem Drop_nil {h : Heap} {v : Int} {K : Bool → Heap → Prop} (hk : K false h) : vset_Set_Drop none v h K := by
  unfold vset_Set_Drop
  exact qcallP3.of _ _ _ (fun Q hQ => bit_nil hQ) (iteB_pos rfl hk)
theorem Parts_of {h : Heap} {u v : Int} {K : Bool → Heap → Prop} (hn : n ≤ 4096) (hv : isV h a n f) (hk : K (decide (inV u n) && (decide (inV v n) && !(hasV f n u == hasV f n v))) h) : vset_Parts a.ptr u v h K := by
  unfold vset_Parts
  refine bit_q hn hv (fun c => ?_) (fun k e hkn => ?_) <;> refine bit_q hn hv (fun c2 => ?_) (fun k2 e2 hkn2 => ?_)
  · rw [decide_eq_false c] at hk; exact iteB_neg rfl hk
  · rw [decide_eq_false c] at hk; exact iteB_neg rfl hk
  · rw [decide_eq_false c2, Bool.false_and, Bool.and_false] at hk; exact iteB_pos rfl (iteB_neg rfl hk)
  · rw [decide_eq_true (show inV u n from ⟨by omega, by omega⟩), decide_eq_true (show inV v n from ⟨by omega, by omega⟩), Bool.true_and, Bool.true_and] at hk
    exact iteB_pos rfl (iteB_pos rfl (qcallP1.of _ (fun Q hQ => Has_of hn hv hQ) (qcallP1.of _ (fun Q hQ => Has_of hn hv hQ) hk)))
theorem Parts_nil {h : Heap} {u v : Int} {K : Bool → Heap → Prop} (hk : K false h) : vset_Parts none u v h K := by
  unfold vset_Parts
  exact qcallP3.of _ _ _ (fun Q hQ => bit_nil hQ) (qcallP3.of _ _ _ (fun Q hQ => bit_nil hQ) (iteB_neg rfl hk))

/-! ### How many -/
theorem and127 {c : Nat} (h : c < 9223372036854775808) : bits .and .i64 (c : Int) 127 = ((c % 128 : Nat) : Int) := by
  unfold bits
  rw [wrap_i64_eq]
  show (((((BitVec.ofInt 64 (c : Int) : BitVec 64) &&& (BitVec.ofInt 64 127 : BitVec 64)).toNat : Nat) : Int) + 9223372036854775808) % 18446744073709551616 - 9223372036854775808 = _
  have e1 : (BitVec.ofInt 64 (c : Int)).toNat = c := by rw [BitVec.toNat_ofInt]; omega
  have e2 : (BitVec.ofInt 64 127).toNat = 2 ^ 7 - 1 := by decide
  rw [BitVec.toNat_and, e1, e2, Nat.and_two_pow_sub_one_eq_mod]
  omega
theorem and_lim (w k c : Nat) : w &&& rep c k ≤ rep c k := Nat.and_le_right
theorem Ones_of {h : Heap} {w : Nat} {K : Int → Heap → Prop} (hw : w < 18446744073709551616) (hk : K (cnt 64 w : Nat) h) : bits_OnesCount64 (w : Int) h K := by
  unfold bits_OnesCount64
  have r1 : rep 85 8 = 6148914691236517205 := by decide
  have r2 : rep 51 8 = 3689348814741910323 := by decide
  have r3 : rep 15 8 = 1085102592571150095 := by decide
  refine ⟨by decide, bindV_intro fun n2 e2 => bindV_intro fun n3 e3 => ?_⟩
  have l1 := and_lim (w / 2) 8 85
  have l2 := and_lim w 8 85
  rw [fdiv_nat, show (6148914691236517205 : Int) = ((rep 85 8 : Nat) : Int) by rw [r1]; rfl, u64_and_nat _ _ (by omega) (by omega)] at e2
  rw [show (6148914691236517205 : Int) = ((rep 85 8 : Nat) : Int) by rw [r1]; rfl, u64_and_nat _ _ hw (by omega), e2, show ((w / 2 ^ 1 &&& rep 85 8 : Nat) : Int) + ((w &&& rep 85 8 : Nat) : Int) = ((x1 8 w : Nat) : Int) by unfold x1; rw [Int.natCast_add], wrap_u64] at e3
  have m1 : x1 8 w ≤ 2 * rep 85 8 := by unfold x1; omega
  have e3 : n3 = ((x1 8 w : Nat) : Int) := by rw [e3]; omega
  subst e3
  generalize hx : x1 8 w = x at *
  refine ⟨by decide, bindV_intro fun n4 e4 => bindV_intro fun n5 e5 => ?_⟩
  have l3 := and_lim (x / 4) 8 51
  have l4 := and_lim x 8 51
  rw [fdiv_nat, show (3689348814741910323 : Int) = ((rep 51 8 : Nat) : Int) by rw [r2]; rfl, u64_and_nat _ _ (by omega) (by omega)] at e4
  rw [show (3689348814741910323 : Int) = ((rep 51 8 : Nat) : Int) by rw [r2]; rfl, u64_and_nat _ _ (by omega) (by omega), e4, show ((x / 2 ^ 2 &&& rep 51 8 : Nat) : Int) + ((x &&& rep 51 8 : Nat) : Int) = ((x2 8 x : Nat) : Int) by unfold x2; rw [Int.natCast_add], wrap_u64] at e5
  have m2 : x2 8 x ≤ 2 * rep 51 8 := by unfold x2; omega
  have e5 : n5 = ((x2 8 x : Nat) : Int) := by rw [e5]; omega
  subst e5
  generalize hy : x2 8 x = y at *
  refine ⟨by decide, bindV_intro fun n6 e6 => ?_⟩
  have e7 : IntKind.u64.wrap (((y : Nat) : Int).fdiv (2 ^ 4) + ((y : Nat) : Int)) = ((y / 16 + y : Nat) : Int) := by
    rw [fdiv_nat, wrap_u64, show (2 : Nat) ^ 4 = 16 from rfl]; omega
  rw [e7, show (1085102592571150095 : Int) = ((rep 15 8 : Nat) : Int) by rw [r3]; rfl, u64_and_nat _ _ (by omega) (by omega)] at e6
  have e8 : n6 = ((xF 8 w : Nat) : Int) := by rw [e6]; unfold xF x3; rw [hx, hy]
  subst e8
  obtain ⟨o1, o2, o3, o4⟩ := ones (w := w) rfl rfl rfl
  generalize xF 8 w = z at *
  refine ⟨by decide, by decide, ?_⟩
  have f1 : IntKind.u64.wrap (((z : Nat) : Int) + ((z : Nat) : Int).fdiv (2 ^ 8)) = ((z + z / 256 : Nat) : Int) := by
    rw [fdiv_nat, wrap_u64, show (2 : Nat) ^ 8 = 256 from rfl]; omega
  rw [f1]
  generalize z + z / 256 = a1 at *
  refine bindV_intro fun n7 e7 => bindV_intro fun n8 e8 => ?_
  rw [fdiv_nat] at e7
  have f2 : n8 = ((a1 + a1 / 65536 : Nat) : Int) := by
    rw [e8, e7, wrap_u64, show (2 : Nat) ^ 16 = 65536 from rfl]; omega
  subst f2
  generalize a1 + a1 / 65536 = b1 at *
  refine ⟨by decide, bindV_intro fun n9 e9 => ?_⟩
  have f3 : IntKind.u64.wrap (((b1 : Nat) : Int) + ((b1 : Nat) : Int).fdiv (2 ^ 32)) = ((b1 + b1 / 4294967296 : Nat) : Int) := by
    rw [fdiv_nat, wrap_u64, show (2 : Nat) ^ 32 = 4294967296 from rfl]; omega
  rw [f3, wrap64 (by omega) (by omega)] at e9
  subst e9
  rw [and127 o2, o1]
  exact hk
end
end Go.Proofs.YtmojgekepkpfcaaDoor
