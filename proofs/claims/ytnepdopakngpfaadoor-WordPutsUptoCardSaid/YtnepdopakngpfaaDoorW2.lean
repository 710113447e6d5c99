/-
  Texts: whether one is plain, and where a word stands: the program's and the document's.
-/
import Derived.Test.YtnepdopakngpfaaDoorW1
import Derived.Test.YtnepdopakngpfaaDoorShI
import Derived.Test.YtnepdopakngpfaaDoorWk
namespace Go.Proofs.YtnepdopakngpfaaDoor
set_option linter.unusedVariables false
set_option linter.unusedSimpArgs false
open Go.Proofs Go.Shelf Go.RowKit Go.Hp
attribute [local irreducible] Go.Hp.iteB Go.Hp.stC Go.Hp.newP
def plP (r : Nat) : Bool := decide (r < 33) || decide (126 < r)
def plB (b : UInt8) : Bool := plP b.toNat
theorem plain_fn (x : Nat) (W : World) : Calls Tryd.prog 44 #[.int .i32 (x : Int)] W fun e w' => e = .returned (.bool (plP x)) ∧ ∃ q, w' = W.drewN q := by
  have hp : plP x = (decide ((x : Int) < 33) || decide ((126 : Int) < x)) := by
    unfold plP
    congr 1 <;> exact decide_eq_decide.2 (by omega)
  rw [hp]
  go_enter Tryd.func44, Tryd.ntmps44
  go_wp2
  all_goals go_ret
  all_goals refine ⟨?_, 0, rfl⟩
  all_goals first | rfl | simp_all
theorem IndexFunc_of {s : ByteArray} {h : Heap} {K : Int → Heap → Prop} (hk : ∀ n h', decide (0 ≤ n) = (bytes s).any plB → Ext h h' → K n h') : strings_IndexFunc_word_Plain_c1 s h K := by
  intro w hw
  subst hw
  have cI := Any.strings_IndexFunc_runes Tryd.idxF 44 #[] (enters_of Tryd.func44 (by kernel_rfl) rfl) plP s w (fun W x _ _ => plain_fn x W)
  change Calls Tryd.prog 43 _ _ _ at cI
  refine ⟨enters_of Tryd.func43 (by kernel_rfl) rfl _ _, cI.mono ?_⟩
  rintro e w' ⟨rfl, hb⟩
  refine ⟨_, rfl, out_below hb, hk _ _ ?_ (ext_below hb)⟩
  have := idx_sign plP plB true s (fun b _ => rfl) (fun b hb => by unfold plB plP; simp; omega) (fun r hr => by unfold plP; simp; omega) s.size 0 (by omega)
  apply Bool.eq_iff_iff.2
  rw [decide_eq_true_iff, List.any_eq_true]
  unfold Lib.idxFunc
  rw [this]
  constructor
  · rintro ⟨j, _, h, hb⟩
    exact ⟨_, List.mem_of_getElem? (Lib.data_getElem? s j h), hb⟩
  · rintro ⟨b, hm, hb⟩
    obtain ⟨j, hj⟩ := List.mem_iff_getElem?.1 hm
    have h : j < s.size := by rw [Lib.size_eq]; exact (List.getElem?_eq_some_iff.1 hj).1
    refine ⟨j, Nat.zero_le _, h, ?_⟩
    have := Lib.data_getElem? s j h
    rw [this] at hj
    rw [Option.some.inj hj]; exact hb
theorem Plain_of {s : ByteArray} {h : Heap} {K : Bool → Heap → Prop} (hk : ∀ h', Ext h h' → K (!(bytes s).any plB) h') : word_Plain s h K := by
  unfold word_Plain
  refine callP1.self (IndexFunc_of fun n h' hn e => ?_)
  have : decide (n < 0) = !(bytes s).any plB := by rw [← hn]; by_cases c : n < 0 <;> simp [c] <;> omega
  rw [this]
  exact hk h' e
theorem byte_at {s : ByteArray} {i : Nat} (h : i < s.size) : ∃ b : UInt8, s[i]? = some b ∧ (bytes s)[i]? = some b := ⟨s[i]'h, getElem?_pos s i h, Lib.data_getElem? s i h⟩
theorem rplain_l0 {s : ByteArray} {h : Heap} {K0 : Bool → Heap → Prop} {K2 : Heap → Prop} (hs : s.size ≤ 2 ^ 40) (h0 : (bytes s).any plB = true → K0 false h) (hk : (bytes s).any plB = false → K2 h) :
    ∀ (d i : Nat), i + d = s.size → (∀ j b, j < i → (bytes s)[j]? = some b → plB b = false) → straitref07_Plain.l0 K0 K2 (d + 1) s (i : Int) h
  | 0, i, hi, hb => by
    unfold straitref07_Plain.l0 straitref07_Plain.b0
    refine iteB_neg (decide_eq_false (by omega)) (hk ?_)
    rw [List.any_eq_false]
    intro b hm
    obtain ⟨j, hj⟩ := List.mem_iff_getElem?.1 hm
    have hl := (List.getElem?_eq_some_iff.1 hj).1
    have : (bytes s).length = s.size := (Lib.size_eq s).symm
    rw [hb j b (by omega) hj]; decide
  | d + 1, i, hi, hb => by
    unfold straitref07_Plain.l0 straitref07_Plain.b0
    obtain ⟨b, g1, g2⟩ := byte_at (s := s) (i := i) (by omega)
    refine iteB_pos (decide_eq_true (by omega)) ⟨by omega, b, by rw [Int.toNat_natCast]; exact g1, ?_⟩
    have bad : plB b = true → K0 false h := fun hp => h0 (List.any_eq_true.2 ⟨b, List.mem_of_getElem? g2, hp⟩)
    refine iteB_intro (fun e => bad ?_) fun e => ⟨by omega, b, by rw [Int.toNat_natCast]; exact g1, iteB_intro (fun e2 => bad ?_) fun e2 => ?_⟩
    · have := of_decide_eq_true e
      unfold plB plP; simp; omega
    · have := of_decide_eq_true e2
      unfold plB plP; simp; omega
    · have e := of_decide_eq_false e
      have e2 := of_decide_eq_false e2
      rw [wrap64 (by omega) (by omega)]
      refine rplain_l0 hs h0 hk d (i + 1) (by omega) fun j b' hj hb' => ?_
      by_cases ej : j = i
      · subst ej
        rw [g2] at hb'
        obtain rfl := Option.some.inj hb'
        unfold plB plP
        simp; omega
      · exact hb j b' (by omega) hb'
theorem RPlain_of {s : ByteArray} {h : Heap} {K : Bool → Heap → Prop} (hs : s.size ≤ 2 ^ 40) (hk : K (!(bytes s).any plB) h) : straitref07_Plain s h K := by
  unfold straitref07_Plain
  refine ⟨s.size + 1, rplain_l0 hs (fun e => ?_) (fun e => ?_) s.size 0 (by omega) fun j b hj => by omega⟩
  · rw [e] at hk; exact hk
  · rw [e] at hk; exact hk
/-! ### Where a word stands -/
def firstK (s : ByteArray) : List ByteArray → Nat → Int
  | [], _ => -1
  | x :: r, i => if x.toList = s.toList then (i : Int) else firstK s r (i + 1)
theorem firstK_cons (s x : ByteArray) (r : List ByteArray) (i : Nat) : firstK s (x :: r) i = if x.toList = s.toList then (i : Int) else firstK s r (i + 1) := rfl
section
variable {s : ByteArray} {h : Heap} {l : List ByteArray} {q : Option Addr} {c : Nat} {K0 : Int → Heap → Prop} {K2 : Heap → Prop}
theorem index_l0 (v : valsAt h q (l.map Value.string)) (hn : l.length ≤ 2 ^ 40) (h0 : firstK s l 0 ≠ -1 → K0 (firstK s l 0) h) (hk : firstK s l 0 = -1 → K2 h) :
    ∀ (d i : Nat), i + d = l.length → firstK s (l.drop i) i = firstK s l 0 → slices_Index_Lstring_string.l0 K0 K2 (d + 1) q l.length c s (l.length : Int) (i : Int) h
  | 0, i, hi, he => by
    unfold slices_Index_Lstring_string.l0 slices_Index_Lstring_string.b0
    refine iteB_neg (decide_eq_false (by omega)) (hk ?_)
    rw [← he, List.drop_of_length_le (by omega)]; rfl
  | d + 1, i, hi, he => by
    unfold slices_Index_Lstring_string.l0 slices_Index_Lstring_string.b0
    obtain ⟨x, hx⟩ := get_lt (l := l) (i := i) (by omega)
    obtain ⟨a, ha, g⟩ := v i (.string x) (by rw [List.getElem?_map, hx]; rfl)
    rw [drop_cons hx, firstK_cons] at he
    refine iteB_pos (decide_eq_true (by omega)) ?_
    rw [ha]
    simp -zeta only [chkP_some, Int.toNat_natCast, Nat.mul_one]
    rw [← ha]
    refine ⟨by omega, _, g, iteB_intro (fun e => ?_) fun e => ?_⟩
    · have e : s.toList = x.toList := by simpa using e
      rw [if_pos e.symm] at he
      rw [he]
      exact h0 (by omega)
    · have e : ¬ s.toList = x.toList := by simpa using e
      rw [if_neg (fun hh => e hh.symm)] at he
      rw [wrap64 (by omega) (by omega)]
      exact index_l0 v hn h0 hk d (i + 1) (by omega) he
theorem rkey_l0 (v : valsAt h q (l.map Value.string)) (hn : l.length ≤ 2 ^ 40) (h0 : firstK s l 0 ≠ -1 → K0 (firstK s l 0) h) (hk : firstK s l 0 = -1 → K2 h) :
    ∀ (d i : Nat), i + d = l.length → firstK s (l.drop i) i = firstK s l 0 → straitref07_Key.l0 K0 K2 (d + 1) s q l.length c (i : Int) h
  | 0, i, hi, he => by
    unfold straitref07_Key.l0 straitref07_Key.b0
    refine iteB_neg (decide_eq_false (by omega)) (hk ?_)
    rw [← he, List.drop_of_length_le (by omega)]; rfl
  | d + 1, i, hi, he => by
    unfold straitref07_Key.l0 straitref07_Key.b0
    obtain ⟨x, hx⟩ := get_lt (l := l) (i := i) (by omega)
    obtain ⟨a, ha, g⟩ := v i (.string x) (by rw [List.getElem?_map, hx]; rfl)
    rw [drop_cons hx, firstK_cons] at he
    refine iteB_pos (decide_eq_true (by omega)) ?_
    rw [ha]
    simp -zeta only [chkP_some, Int.toNat_natCast, Nat.mul_one]
    rw [← ha]
    refine ⟨by omega, _, g, iteB_intro (fun e => ?_) fun e => ?_⟩
    · have e : x.toList = s.toList := by simpa using e
      rw [if_pos e] at he
      rw [he]
      exact h0 (by omega)
    · have e : ¬ x.toList = s.toList := by simpa using e
      rw [if_neg e] at he
      rw [wrap64 (by omega) (by omega)]
      exact rkey_l0 v hn h0 hk d (i + 1) (by omega) he
theorem Key_of {K : Int → Heap → Prop} (v : valsAt h q (l.map Value.string)) (hn : l.length ≤ 2 ^ 40) (hk : K (firstK s l 0) h) : word_Key s q l.length c h K := by
  unfold word_Key
  refine qcallP1.of (firstK s l 0) (fun Q hQ => ?_) hk
  unfold slices_Index_Lstring_string
  exact ⟨l.length + 1, index_l0 v hn (fun _ => hQ) (fun e => by rw [e] at hQ; exact hQ) l.length 0 (by omega) rfl⟩
theorem RKey_of {K : Int → Heap → Prop} (v : valsAt h q (l.map Value.string)) (hn : l.length ≤ 2 ^ 40) (hk : K (firstK s l 0) h) : straitref07_Key s q l.length c h K := by
  unfold straitref07_Key
  exact ⟨l.length + 1, rkey_l0 v hn (fun _ => hk) (fun e => by rw [e] at hk; exact hk) l.length 0 (by omega) rfl⟩
end
end Go.Proofs.YtnepdopakngpfaaDoor
