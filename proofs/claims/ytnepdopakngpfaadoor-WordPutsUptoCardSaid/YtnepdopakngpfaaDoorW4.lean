/-
  Texts: lines, the program's and the document's.
-/
import Derived.Test.YtnepdopakngpfaaDoorW3
namespace Go.Proofs.YtnepdopakngpfaaDoor
set_option linter.unusedVariables false
set_option linter.unusedSimpArgs false
set_option linter.unnecessarySimpa false
open Go.Proofs Go.Shelf Go.RowKit Go.Hp
attribute [local irreducible] Go.Hp.iteB Go.Hp.stC Go.Hp.newP
theorem toList_nil_iff {l : List UInt8} : ((str l).toList == (⟨#[]⟩ : ByteArray).toList) = decide (l = []) := by
  have e : (⟨#[]⟩ : ByteArray).toList = [] := toList_str []
  rw [toList_str, e]
  cases l <;> simp
/-- Texts zeroed. -/
theorem strs_zero : ∀ n, zeroRow [Value.string ⟨#[]⟩] n = List.replicate n (Value.string ⟨#[]⟩)
  | 0 => rfl
  | n + 1 => by rw [zeroRow, strs_zero n, List.replicate_succ]; rfl
theorem strV_snoc (ls : List (List UInt8)) (l : List UInt8) : strV ls ++ [Value.string (str l)] = strV (ls ++ [l]) := by simp [strV]
section
variable {h0 : Base} {R : Rws}
theorem lines_l0 {K2 : ByteArray → Option Addr → Nat → Nat → Heap → Prop} {L : List UInt8} (hm : MaxThere h0.heap) (hL : L.length ≤ 2 ^ 20)
    (hk : ∀ h' l q cap X done, done ++ [l] = segA 10 [] L → (l = [] ∨ (Lib.cut l [10]).2.2 = false) → Own q cap (strV done) X → St h0 h' (X ++ R) → K2 (str l) q done.length cap h') :
    ∀ (d : Nat) (l : List UInt8) (q : Option Addr) (cap : Nat) (X : Rws) (done : List (List UInt8)) (h : Heap), l.length ≤ d → l.length + done.length ≤ L.length → done ++ segA 10 [] l = segA 10 [] L → Own q cap (strV done) X → St h0 h (X ++ R) →
      word_Lines.l0 K2 (d + 1) (str l) q done.length cap h := by
  intro d
  induction d with
  | zero =>
    intro l q cap X done h hd hs he o s
    unfold word_Lines.l0 word_Lines.b0
    obtain rfl : l = [] := List.length_eq_zero_iff.1 (by omega)
    rw [toList_nil_iff]
    exact iteB_neg rfl (hk h [] q cap X done he (.inl rfl) o s)
  | succ d ih =>
    intro l q cap X done h hd hs he o s
    unfold word_Lines.l0 word_Lines.b0
    rw [toList_nil_iff]
    by_cases c : l = []
    · subst c
      exact iteB_neg rfl (hk h [] q cap X done he (.inl rfl) o s)
    · refine iteB_pos (by simp [c]) (callP3.self (Cut_of (by rw [str_size]; omega) (hm.ext s.ext) ?_))
      have eb : bytes (⟨#[10]⟩ : ByteArray) = [10] := rfl
      rw [bytes_str, eb]
      refine iteB_intro (fun e => ?_) fun e => ?_
      · have e : (Lib.cut l [10]).2.2 = false := by simpa using e
        refine hk h l q cap X done ?_ (.inr e) o s
        rw [← he, segA_cut_no e]
      · have e : (Lib.cut l [10]).2.2 = true := by simpa using e
        obtain ⟨e1, e2⟩ := segA_cut_yes e
        refine Own.push1 o s (strV_len done).symm rfl (by rw [strV_len]; omega) fun q2 c2 X2 h2 o2 s2 => ?_
        rw [strV_len]
        have := ih (Lib.cut l [10]).2.1 q2 c2 X2 (done ++ [(Lib.cut l [10]).1]) h2 (by omega) (by simp; omega) (by rw [← he, e1]; simp) (by rw [← strV_snoc]; exact o2) s2
        rw [List.length_append] at this
        exact this
/-- What lines come to. -/
theorem Lines_of {h : Heap} {L : List UInt8} {K : Option Addr → Nat → Nat → Bool → Heap → Prop} (hm : MaxThere h0.heap) (hL : L.length ≤ 2 ^ 20) (s : St h0 h R)
    (hno : ∀ h' X done l, done ++ [l] = segA 10 [] L → l ≠ [] → St h0 h' (X ++ R) → K none 0 0 false h')
    (hk : ∀ h' q cap X done, done ++ [[]] = segA 10 [] L → Own q cap (strV done) X → St h0 h' (X ++ R) → K q done.length cap true h') : word_Lines (str L) h K := by
  unfold word_Lines
  refine callP1.self (Count_of ?_)
  rw [bytes_str]
  have hc : Lib.countByte L 10 ≤ L.length := List.count_le_length
  refine ⟨⟨by omega, by omega, by omega, by omega⟩, s.new_ fun b h1 s1 => ⟨L.length + 1, ?_⟩⟩
  rw [Int.toNat_natCast] at s1 ⊢
  have o1 : Own (some ⟨b, 0, none⟩) (Lib.countByte L 10) (strV []) [(b, zeroRow [Value.string ⟨#[]⟩] (Lib.countByte L 10))] := .inr ⟨b, zeroRow [Value.string ⟨#[]⟩] (Lib.countByte L 10), rfl, by rw [strs_zero]; simp [strV], by simp [strV]⟩
  refine lines_l0 (R := R) hm hL (fun h2 l q cap X done he hl o s2 => ?_) L.length L _ _ _ [] h1 (Nat.le_refl _) (by simp) rfl o1 s1
  rw [toList_nil_iff]
  by_cases c : l = []
  · subst c
    exact iteB_neg rfl (hk h2 q cap X done he o s2)
  · exact iteB_pos (by simp [c]) (hno h2 X done l he c s2)
/-! ### The document's -/
theorem rlines_l0 {K2 : Option Addr → Nat → Nat → Int → Heap → Prop} {L : List UInt8} {t : Addr} (hL : L.length ≤ 2 ^ 20)
    (hk : ∀ h' q cap X done f, f ≤ L.length → done ++ [L.drop f] = segA 10 [] L → Own q cap (strV done) X → St h0 h' (X ++ R) → K2 q done.length cap (f : Int) h') :
    ∀ (d i f : Nat) (q : Option Addr) (cap : Nat) (X : Rws) (done : List (List UInt8)) (h : Heap), i + d = L.length → f ≤ i → done.length ≤ i → done ++ segA 10 ((L.take i).drop f) (L.drop i) = segA 10 [] L → Own q cap (strV done) X → St h0 h (X ++ R) →
      straitref07_Lines.l0 K2 (d + 1) (str L) t q done.length cap (f : Int) (i : Int) h := by
  intro d
  induction d with
  | zero =>
    intro i f q cap X done h hi hf hdl he o s
    unfold straitref07_Lines.l0 straitref07_Lines.b0
    rw [str_size]
    refine iteB_neg (decide_eq_false (by omega)) (hk h q cap X done f (by omega) ?_ o s)
    rw [← he, List.drop_of_length_le (l := L) (i := i) (by omega), List.take_of_length_le (by omega)]; rfl
  | succ d ih =>
    intro i f q cap X done h hi hf hdl he o s
    unfold straitref07_Lines.l0 straitref07_Lines.b0
    rw [str_size]
    obtain ⟨b, g1, g2⟩ := byte_at (s := str L) (i := i) (by rw [str_size]; omega)
    rw [bytes_str] at g2
    have hd : L.drop i = b :: L.drop (i + 1) := drop_cons g2
    rw [hd, segA_cons] at he
    refine iteB_pos (decide_eq_true (by omega)) ⟨by omega, b, by rw [Int.toNat_natCast]; exact g1, iteB_intro (fun e => ?_) fun e => ?_⟩
    · have e : b = 10 := by
        have e : (b.toNat : Int) = 10 := by simpa using e
        exact UInt8.toNat_inj.1 (show b.toNat = (10 : UInt8).toNat from by have : (10 : UInt8).toNat = 10 := rfl; omega)
      rw [if_pos e] at he
      refine ⟨by omega, by omega, ?_⟩
      rw [Int.toNat_natCast, Int.toNat_natCast, extract_str, bytes_str]
      refine Own.push1 o s (strV_len done).symm rfl (by rw [strV_len]; omega) fun q2 c2 X2 h2 o2 s2 => ?_
      rw [strV_len, wrap64 (by omega) (by omega)]
      have := ih (i + 1) (i + 1) q2 c2 X2 (done ++ [(L.take i).drop f]) h2 (by omega) (Nat.le_refl _) (by simp; omega) (by
        rw [← he, List.drop_of_length_le (l := L.take (i + 1)) (i := i + 1) (by simp; omega)]; simp) (by rw [← strV_snoc]; exact o2) s2
      rw [List.length_append] at this
      exact this
    · have e : ¬ b = 10 := by
        intro hb
        subst hb
        simp at e
      rw [if_neg e] at he
      rw [wrap64 (by omega) (by omega)]
      refine ih (i + 1) f q cap X done h (by omega) (by omega) (by omega) ?_ o s
      rw [← he, take_snoc g2, List.drop_append_of_le_length (by simp; have := lt_get g2; omega)]
theorem RLines_of {h : Heap} {L : List UInt8} {K : Option Addr → Nat → Nat → Bool → Heap → Prop} (hL : L.length ≤ 2 ^ 20) (s : St h0 h R)
    (hno : ∀ h' X done l, done ++ [l] = segA 10 [] L → l ≠ [] → St h0 h' (X ++ R) → K none 0 0 false h')
    (hk : ∀ h' q cap X Y done, done ++ [[]] = segA 10 [] L → Own q cap (strV done) X → St h0 h' (X ++ (Y ++ R)) → K q done.length cap true h') : straitref07_Lines (str L) h K := by
  unfold straitref07_Lines
  refine s.new_ fun t h1 s1 => ⟨L.length + 1, rlines_l0 (R := (t, [.slice none 0 0, .bool false]) :: R) hL (fun h2 q cap X done f hf he o s2 => ?_) L.length 0 0 none 0 [] [] h1 (by omega) (Nat.le_refl _) (by simp) (by simp) (by simpa [strV] using Own.nil) s1⟩
  have s3 : St h0 h2 ((t, [.slice none 0 0, .bool false]) :: (X ++ R)) := (St.re s2 (by intro a; simp only [cntR_append, cntR_cons, cntR_nil, List.cons_append, List.nil_append, List.set_cons_zero, List.set_cons_succ]; omega))
  rw [str_size]
  refine iteB_intro (fun e => ?_) fun e => ?_
  · have e := of_decide_eq_true e
    refine s3.st0 (by simp) fun h4 s4 => ?_
    rw [add_mk, Nat.zero_add]
    refine s4.st0 (by simp) fun h5 s5 => ⟨_, _, _, s5.rd0 0, _, s5.rd0 1, ?_⟩
    refine hno h5 ((t, [.slice none 0 0, .bool false]) :: X) done (L.drop f) he ?_ s5
    intro h
    have := congrArg List.length h
    simp at this
    omega
  · have e := of_decide_eq_false e
    refine s3.st0 (by simp) fun h4 s4 => ?_
    rw [add_mk, Nat.zero_add]
    refine s4.st0 (by simp) fun h5 s5 => ⟨_, _, _, s5.rd0 0, _, s5.rd0 1, ?_⟩
    rw [List.drop_of_length_le (l := L) (i := f) (by omega)] at he
    exact hk h5 q cap X [(t, [.slice q done.length cap, .bool true])] done he o (St.re s5 (by intro a; simp only [cntR_append, cntR_cons, cntR_nil, List.cons_append, List.nil_append, List.set_cons_zero, List.set_cons_succ]; omega))
end
end Go.Proofs.YtnepdopakngpfaaDoor
