/-
  Ranks: unlike ones of a row that rises: the library's Compact, and the document's Distinct.
-/
import Derived.Test.YtlfcfoodlbbbjaaK13
namespace Go.Proofs.Ytlfcfoodlbbbjaa
set_option linter.unusedVariables false
set_option linter.unusedSimpArgs false
set_option linter.unnecessarySimpa false
open Go.Hp Go.RowKit
attribute [local irreducible] Go.Hp.iteB Go.Hp.stC Go.Hp.newP

/-- Of the first k those that differ from the one ahead. -/
def comp (l : List Int) : Nat → List Int
  | 0 => []
  | k + 1 => comp l k ++ (if k = 0 ∨ l.getD k 0 ≠ l.getD (k - 1) 0 then [l.getD k 0] else [])
theorem comp_succ (l : List Int) (k : Nat) : comp l (k + 1) = comp l k ++ (if k = 0 ∨ l.getD k 0 ≠ l.getD (k - 1) 0 then [l.getD k 0] else []) := rfl
theorem comp_le (l : List Int) : ∀ k, (comp l k).length ≤ k
  | 0 => Nat.le_refl _
  | k + 1 => by
    have := comp_le l k
    unfold comp; rw [List.length_append]; split <;> simp <;> omega
theorem comp_pos (l : List Int) {k : Nat} (h : 0 < k) : 0 < (comp l k).length := by
  induction k with
  | zero => omega
  | succ k ih =>
    unfold comp; rw [List.length_append]
    rcases Nat.eq_zero_or_pos k with rfl | hk
    · simp
    · have := ih hk; omega
theorem comp_all {l : List Int} : ∀ {k : Nat}, k ≤ l.length → (∀ i, 0 < i → i < k → l.getD i 0 ≠ l.getD (i - 1) 0) → comp l k = l.take k
  | 0, _, _ => by simp [comp]
  | k + 1, hk, h => by
    unfold comp
    rw [comp_all (by omega) (fun i h0 hi => h i h0 (by omega))]
    obtain ⟨x, hx⟩ := get_lt (l := l) (i := k) (by omega)
    rw [take_snoc hx]
    congr 1
    rw [if_pos]
    · simp [List.getD, hx]
    · rcases Nat.eq_zero_or_pos k with rfl | hk
      · exact .inl rfl
      · exact .inr (h k hk (by omega))

/-- Many cells stored: what lies ahead stays. -/
theorem many2 {h0 : Heap} {R : Rws} {b off : Nat} {K : Heap → Prop} {n : Nat} {fr : List Value} (hk : ∀ h' cs', cs'.length = n → cs'.take off = fr → St h0 h' ((b, cs') :: R) → K h') :
    ∀ (vs : List Value) (i : Nat) (cs : List Value) (h : Heap), St h0 h ((b, cs) :: R) → cs.length = n → cs.take off = fr → (∀ v ∈ vs, flat v = true) → off + i + vs.length ≤ n → stL vs h ⟨b, off, none⟩ i K
  | [], i, cs, h, s, hc, hf0, _, _ => by unfold stL; exact hk h cs hc hf0 s
  | v :: vs, i, cs, h, s, hc, hf0, hf, hl => by
    unfold stL
    rw [hf v (by simp)]
    simp only [add_mk]
    simp only [List.length_cons] at hl
    exact s.st0 (by omega) fun h2 s2 => many2 hk vs (i + 1) _ h2 s2 (by simpa using hc) (by rw [List.take_set_of_le (by omega)]; exact hf0) (fun x hx => hf x (by simp [hx])) (by omega)
theorem flat_zr {z : Value} (hz : flat z = true) : ∀ n, ∀ v ∈ zeroRow [z] n, flat v = true
  | 0, v, hv => by simp [zeroRow] at hv
  | n + 1, v, hv => by
    simp only [zeroRow, List.cons_append, List.nil_append, List.mem_cons] at hv
    rcases hv with rfl | hv
    · exact hz
    · exact flat_zr hz n v hv
theorem clear2 {h0 h : Heap} {R : Rws} {b off n : Nat} {cs : List Value} {z : Value} {K : Heap → Prop} (s : St h0 h ((b, cs) :: R)) (hz : flat z = true) (hl : off + n ≤ cs.length) (hk : ∀ h' cs', cs'.length = cs.length → cs'.take off = cs.take off → St h0 h' ((b, cs') :: R) → K h') :
    clearP [z] (some ⟨b, off, none⟩) n h K :=
  many2 hk (zeroRow [z] n) 0 cs h s rfl rfl (flat_zr hz n) (by rw [length_zeroRow]; simp; omega)

section
variable {h0 : Heap} {R : Rws}

theorem comp_l1 {K4 : Int → Heap → Prop} {b n c k : Nat} {l : List Int} {z : List Value} (hl : l.length = n) (hc : c = n + z.length) (hn : n < 2 ^ 40) (hk0 : 0 < k) (hkn : k < n)
    (hk : ∀ h' cs', cs'.length = c → cs'.take (comp l n).length = (comp l n).map (Value.int .i64) → St h0 h' ((b, cs') :: R) → K4 ((comp l n).length : Nat) h') :
    ∀ (d i : Nat) (h : Heap) (cs : List Value), i + d = n - k → 0 < i → cs.length = c → cs.take (comp l (k + i)).length = (comp l (k + i)).map (Value.int .i64) → (comp l (k + i)).length < k + i → (∀ j, k + i ≤ j + 1 → cs[j]? = (l.map (Value.int .i64) ++ z)[j]?) → St h0 h ((b, cs) :: R) →
      slices_Compact_Lint64_int64.l1 K4 (d + 1) (some ⟨b, 0, none⟩) n c ((comp l (k + i)).length : Nat) (some ⟨b, k, none⟩) (n - k) (c - k) (i : Int) h
  | 0, i, h, cs, hi, hi0, hcl, hct, hlt, hrest, s => by
    unfold slices_Compact_Lint64_int64.l1 slices_Compact_Lint64_int64.b1
    have e : k + i = n := by omega
    rw [e] at hct ⊢
    exact iteB_neg (decide_eq_false (by omega)) (hk h cs hcl hct s)
  | d + 1, i, h, cs, hi, hi0, hcl, hct, hlt, hrest, s => by
    unfold slices_Compact_Lint64_int64.l1 slices_Compact_Lint64_int64.b1
    obtain ⟨x, hx⟩ := get_lt (l := l) (i := k + i) (by omega)
    obtain ⟨y, hy⟩ := get_lt (l := l) (i := k + i - 1) (by omega)
    have gx : cs[k + i]? = some (.int .i64 x) := by rw [hrest (k + i) (by omega), List.getElem?_append_left (by simp; omega)]; simp [hx]
    have gy : cs[k + i - 1]? = some (.int .i64 y) := by rw [hrest (k + i - 1) (by omega), List.getElem?_append_left (by simp; omega)]; simp [hy]
    have cl := comp_le l (k + i)
    refine iteB_pos (decide_eq_true (by omega)) ?_
    rw [wrap64 (x := (i : Int) - 1) (by omega) (by omega), show (i : Int) - 1 = ((i - 1 : Nat) : Int) by omega]
    have gy2 : cell h ⟨b, k + (i - 1), none⟩ = some (.int .i64 y) := by rw [s.rd0, show k + (i - 1) = k + i - 1 by omega]; exact gy
    have gx2 : cell h ⟨b, k + i, none⟩ = some (.int .i64 x) := by rw [s.rd0]; exact gx
    simp -zeta (disch := omega) only [chkP_some, iteB_true, iteB_false, add_mk, Nat.zero_add, Nat.add_zero, Nat.mul_one, Nat.reduceAdd, Int.toNat_natCast, ex_int, ex_slice, ex_ptr, ex_bool, ex_str, ex_flt, ex_any, bnd_in, List.getElem?_cons_zero, List.getElem?_cons_succ, List.set_cons_zero, List.set_cons_succ, List.cons_append, List.nil_append, bne_self_eq_false, beq_self_eq_true, Bool.not_true, Bool.not_false, Option.isNone_some, Option.isNone_none, eq_self, true_and, and_true, and_self, gx2, gy2]
    have e2 : comp l (k + (i + 1)) = comp l (k + i) ++ (if x ≠ y then [x] else []) := by
      show comp l (k + i + 1) = _
      rw [comp_succ]
      have ex : l.getD (k + i) 0 = x := by simp [List.getD, hx]
      have ey : l.getD (k + i - 1) 0 = y := by simp [List.getD, hy]
      rw [ex, ey]
      have e0 : (k + i = 0 ∨ x ≠ y) ↔ x ≠ y := ⟨fun h => h.resolve_left (by omega), .inr⟩
      simp only [e0]
    refine iteB_intro (fun e => ?_) (fun e => ?_)
    · have e : x ≠ y := by simpa using e
      rw [if_pos e] at e2
      have hlen : (comp l (k + (i + 1))).length = (comp l (k + i)).length + 1 := by rw [e2]; simp
      refine s.st0 (by omega) fun h2 s2 => ?_
      rw [wrap64 (by omega) (by omega), wrap64 (by omega) (by omega)]
      have r := comp_l1 hl hc hn hk0 hkn hk d (i + 1) h2 _ (by omega) (by omega) (by simpa using hcl) (by
        rw [hlen, e2, List.take_add_one, List.take_set_of_le (Nat.le_refl _), hct]
        rw [List.getElem?_set_self (by omega)]; simp) (by rw [hlen]; omega) (fun j hj => by
        rw [List.getElem?_set_ne (by omega)]; exact hrest j (by omega)) s2
      rw [hlen] at r
      exact r
    · have e : x = y := by simpa using e
      rw [if_neg (fun h => h e), List.append_nil] at e2
      rw [wrap64 (by omega) (by omega)]
      have r := comp_l1 hl hc hn hk0 hkn hk d (i + 1) h cs (by omega) (by omega) hcl (by rw [e2]; exact hct) (by rw [e2]; omega) (fun j hj => hrest j (by omega)) s
      rw [e2] at r
      exact r

theorem comp_l0 {K0 : Option Addr → Nat → Nat → Heap → Prop} {K2 : Heap → Prop} {b n c : Nat} {l : List Int} {z : List Value} {h : Heap} (hl : l.length = n) (hc : c = n + z.length) (hn : n < 2 ^ 40) (s : St h0 h ((b, l.map (Value.int .i64) ++ z) :: R))
    (hk0 : ∀ h' z', c = (comp l n).length + z'.length → St h0 h' ((b, (comp l n).map (Value.int .i64) ++ z') :: R) → K0 (some ⟨b, 0, none⟩) (comp l n).length c h')
    (hk2 : comp l n = l → K2 h) :
    ∀ (d i : Nat), i + d = n → 0 < i → comp l i = l.take i → slices_Compact_Lint64_int64.l0 K0 K2 (d + 1) (some ⟨b, 0, none⟩) n c (i : Int) h
  | 0, i, hi, hi0, hcm => by
    unfold slices_Compact_Lint64_int64.l0 slices_Compact_Lint64_int64.b0
    have e : i = n := by omega
    subst e
    exact iteB_neg (decide_eq_false (by omega)) (hk2 (by rw [hcm, List.take_of_length_le (by omega)]))
  | d + 1, i, hi, hi0, hcm => by
    unfold slices_Compact_Lint64_int64.l0 slices_Compact_Lint64_int64.b0
    obtain ⟨x, hx⟩ := get_lt (l := l) (i := i) (by omega)
    obtain ⟨y, hy⟩ := get_lt (l := l) (i := i - 1) (by omega)
    have gx : cell h ⟨b, i, none⟩ = some (.int .i64 x) := by rw [s.rd0, List.getElem?_append_left (by simp; omega)]; simp [hx]
    have gy : cell h ⟨b, i - 1, none⟩ = some (.int .i64 y) := by rw [s.rd0, List.getElem?_append_left (by simp; omega)]; simp [hy]
    refine iteB_pos (decide_eq_true (by omega)) ?_
    rw [wrap64 (x := (i : Int) - 1) (by omega) (by omega), show (i : Int) - 1 = ((i - 1 : Nat) : Int) by omega]
    simp -zeta (disch := omega) only [chkP_some, iteB_true, iteB_false, add_mk, Nat.zero_add, Nat.add_zero, Nat.mul_one, Nat.reduceAdd, Int.toNat_natCast, ex_int, ex_slice, ex_ptr, ex_bool, ex_str, ex_flt, ex_any, bnd_in, List.getElem?_cons_zero, List.getElem?_cons_succ, List.set_cons_zero, List.set_cons_succ, List.cons_append, List.nil_append, bne_self_eq_false, beq_self_eq_true, Bool.not_true, Bool.not_false, Option.isNone_some, Option.isNone_none, eq_self, true_and, and_true, and_self, gx, gy]
    have e2 : comp l (i + 1) = comp l i ++ (if x ≠ y then [x] else []) := by
      rw [comp_succ]
      have ex : l.getD i 0 = x := by simp [List.getD, hx]
      have ey : l.getD (i - 1) 0 = y := by simp [List.getD, hy]
      rw [ex, ey]
      have e0 : (i = 0 ∨ x ≠ y) ↔ x ≠ y := ⟨fun h => h.resolve_left (by omega), .inr⟩
      simp only [e0]
    refine iteB_intro (fun e => ?_) (fun e => ?_)
    · have e : x = y := by simpa using e
      rw [if_neg (fun h => h e), List.append_nil] at e2
      refine ⟨by omega, n - i - 1 + 1, ?_⟩
      have eq1 : (if c = i then (some ⟨b, 0, none⟩ : Option Addr) else (some (⟨b, 0, none⟩ : Addr)).map (·.add (i * 1))) = some ⟨b, i, none⟩ := by rw [if_neg (by omega)]; simp
      have hci : (comp l (i + 1)).length = i := by rw [e2, hcm, List.length_take]; omega
      have r := comp_l1 (K4 := fun z1010 h1011 => (0 ≤ z1010 ∧ z1010 ≤ (n : Int)) ∧ clearP [(.int .i64 0)] (if c = z1010.toNat then (some ⟨b, 0, none⟩) else (some (⟨b, 0, none⟩ : Addr)).map (·.add (z1010.toNat * 1))) (n - z1010.toNat) h1011 fun h1013 => ((0 ≤ z1010 ∧ z1010 ≤ (c : Int)) ∧ (K0 (if c = 0 then (some ⟨b, 0, none⟩) else (some (⟨b, 0, none⟩ : Addr)).map (·.add (0 * 1))) z1010.toNat c h1013)))
        (z := z) hl hc hn hi0 (by omega) (fun h' cs' h1 h2 s' => ?_) (n - i - 1) 1 h (l.map (Value.int .i64) ++ z) (by omega) (by omega) (by simp; omega) (by
          rw [hci, e2, hcm, List.take_append_of_le_length (by simp; omega), List.map_take]) (by rw [hci]; omega) (fun j _ => rfl) s
      · rw [hci] at r
        simp only [Nat.mul_one] at eq1
        rw [← eq1] at r
        simp -zeta only [Nat.mul_one, Nat.zero_mul] at r
        exact r
      · have cn := comp_le l n
        rw [Int.toNat_natCast]
        have c0 : ¬ c = 0 := by omega
        have cne : ¬ c = (comp l n).length := by
          have h3 : (comp l n).length < n := by
            have h4 : ∀ m, i + 1 ≤ m → (comp l m).length < m := by
              intro m hm
              induction m with
              | zero => omega
              | succ m ih =>
                rcases Nat.lt_or_ge i m with h5 | h5
                · have := ih (by omega)
                  rw [comp_succ, List.length_append]; split <;> simp <;> omega
                · have : m = i := by omega
                  subst this; omega
            exact h4 n (by omega)
          omega
        rw [if_neg cne, if_neg c0]
        simp only [Option.map_some, add_mk, Nat.zero_add, Nat.mul_one, Nat.zero_mul, Nat.add_zero]
        refine ⟨by omega, clear2 s' rfl (by omega) fun h3 cs3 e3 t3 s3 => ⟨by omega, ?_⟩⟩
        have e4 : cs3 = (comp l n).map (Value.int .i64) ++ cs3.drop (comp l n).length := by rw [← h2, ← t3]; exact (List.take_append_drop _ _).symm
        refine hk0 h3 (cs3.drop (comp l n).length) (by rw [List.length_drop]; omega) ?_
        rw [← e4]; exact s3
    · have e : x ≠ y := by simpa using e
      rw [if_pos e] at e2
      rw [wrap64 (by omega) (by omega)]
      exact comp_l0 hl hc hn s hk0 hk2 d (i + 1) (by omega) (by omega) (by rw [e2, hcm, take_snoc hx])

theorem Compact_of {h : Heap} {n c : Nat} {q : Option Addr} {l : List Int} {X : Rws} {K : Option Addr → Nat → Nat → Heap → Prop} (hl : l.length = n) (hc : n < 2 ^ 40) (o : Own q c (l.map (Value.int .i64)) X) (s : St h0 h (X ++ R))
    (hk : ∀ X' h', Own q c ((comp l n).map (Value.int .i64)) X' → St h0 h' (X' ++ R) → K q (comp l n).length c h') : slices_Compact_Lint64_int64 q n c h K := by
  unfold slices_Compact_Lint64_int64
  by_cases h2 : n < 2
  · refine iteB_pos (decide_eq_true (by omega)) ?_
    have e : comp l n = l := by rw [comp_all (by omega) (fun i h0 hi => absurd hi (by omega)), List.take_of_length_le (by omega)]
    have := hk X h (by rw [e]; exact o) s
    rw [e, hl] at this; exact this
  · refine iteB_neg (decide_eq_false (by omega)) ⟨n - 1 + 1, ?_⟩
    rcases o with ⟨rfl, rfl, hl0, rfl⟩ | ⟨b, z, rfl, hcz, rfl⟩
    · have : l = [] := by simpa using hl0
      subst this; simp at hl; omega
    · have r := comp_l0 (K0 := K) (K2 := fun h4 => K (some ⟨b, 0, none⟩) n c h4) (z := z) hl (by rw [hcz]; simp; omega) hc s (fun h' z' e' s' => hk [(b, (comp l n).map (Value.int .i64) ++ z')] h' (.inr ⟨b, z', rfl, by rw [e']; simp, rfl⟩) s')
        (fun e => by
          have := hk [(b, l.map (Value.int .i64) ++ z)] h (by rw [e]; exact .inr ⟨b, z, rfl, hcz, rfl⟩) s
          rw [e, hl] at this; exact this) (n - 1) 1 (by omega) (by omega) (by rw [comp_all (by omega) (fun i h0 hi => absurd hi (by omega))])
      exact r
end
end Go.Proofs.Ytlfcfoodlbbbjaa
