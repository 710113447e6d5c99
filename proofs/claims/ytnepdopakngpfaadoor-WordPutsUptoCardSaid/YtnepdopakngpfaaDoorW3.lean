/-
  Texts, plainly: cut into pieces at a byte.
-/
import Derived.Test.YtnepdopakngpfaaDoorW2
import Derived.Lib.SplitLaws
namespace Go.Proofs.YtnepdopakngpfaaDoor
set_option linter.unusedVariables false
set_option linter.unusedSimpArgs false
open Go.Proofs Go.Shelf Go.RowKit Go.Hp
/-- The text of some bytes. -/
def str (l : List UInt8) : ByteArray := ⟨l.toArray⟩
theorem bytes_str (l : List UInt8) : bytes (str l) = l := rfl
theorem str_bytes (s : ByteArray) : str (bytes s) = s := rfl
theorem bytes_len (s : ByteArray) : (bytes s).length = s.size := (Lib.size_eq s).symm
theorem str_size (l : List UInt8) : (str l).size = l.length := by rw [← bytes_len, bytes_str]
theorem str_inj {l m : List UInt8} : str l = str m ↔ l = m := ⟨fun h => by rw [← bytes_str l, h, bytes_str], fun h => by rw [h]⟩
theorem toList_str (l : List UInt8) : (str l).toList = l := by rw [Lib.toList_data]; rfl
theorem toList_bytes (s : ByteArray) : s.toList = bytes s := Lib.toList_data s
theorem extract_str (s : ByteArray) (i j : Nat) : s.extract i j = str (((bytes s).take j).drop i) := by
  rw [← str_bytes (s.extract i j)]
  congr 1
  show (s.extract i j).data.toList = _
  rw [Lib.extract_data, List.drop_take]
def strV (ls : List (List UInt8)) : List Value := ls.map fun l => Value.string (str l)
theorem strV_map (ls : List (List UInt8)) : strV ls = (ls.map str).map Value.string := by simp [strV]
theorem strV_len (ls : List (List UInt8)) : (strV ls).length = ls.length := by simp [strV]
/-- The pieces, cut at a byte; what stands ahead of the first goes with it. -/
def segA (c : UInt8) : List UInt8 → List UInt8 → List (List UInt8)
  | acc, [] => [acc]
  | acc, b :: l => if b = c then acc :: segA c [] l else segA c (acc ++ [b]) l
theorem segA_nil (c : UInt8) (acc : List UInt8) : segA c acc [] = [acc] := rfl
theorem segA_cons (c : UInt8) (acc : List UInt8) (b : UInt8) (l : List UInt8) : segA c acc (b :: l) = if b = c then acc :: segA c [] l else segA c (acc ++ [b]) l := rfl
theorem segA_miss {c : UInt8} : ∀ {l acc : List UInt8}, Lib.indexByte l c = -1 → segA c acc l = [acc ++ l]
  | [], acc, _ => by simp [segA]
  | b :: l, acc, h => by
    unfold Lib.indexByte at h
    have hg := Lib.indexByte_ge l c
    by_cases e : b = c
    · subst e; simp at h
    · have e2 : (b == c) = false := by simpa using e
      rw [e2, if_neg (by decide)] at h
      have h2 : Lib.indexByte l c = -1 := by
        by_cases e3 : Lib.indexByte l c = -1
        · exact e3
        · have e4 : (Lib.indexByte l c == -1) = false := by simpa using e3
          rw [e4, if_neg (by decide)] at h; omega
      rw [segA_cons, if_neg e, segA_miss h2]
      simp
theorem segA_hit {c : UInt8} : ∀ {l acc : List UInt8} {i : Nat}, Lib.indexByte l c = (i : Int) → segA c acc l = (acc ++ l.take i) :: segA c [] (l.drop (i + 1))
  | [], acc, i, h => by unfold Lib.indexByte at h; omega
  | b :: l, acc, i, h => by
    unfold Lib.indexByte at h
    have hg := Lib.indexByte_ge l c
    by_cases e : b = c
    · subst e
      simp at h
      have : i = 0 := by omega
      subst this
      rw [segA_cons, if_pos rfl]; simp
    · have e2 : (b == c) = false := by simpa using e
      rw [e2, if_neg (by decide)] at h
      by_cases e3 : Lib.indexByte l c = -1
      · rw [e3] at h; simp at h
      · have e4 : (Lib.indexByte l c == -1) = false := by simpa using e3
        rw [e4, if_neg (by decide)] at h
        obtain ⟨k, rfl⟩ : ∃ k, i = k + 1 := ⟨i - 1, by omega⟩
        rw [segA_cons, if_neg e, segA_hit (i := k) (by omega)]
        simp
theorem segA_cut_no {c : UInt8} {l : List UInt8} (h : (Lib.cut l [c]).2.2 = false) : segA c [] l = [l] := by
  unfold Lib.cut at h
  rw [Lib.index_one] at h
  have hg := Lib.indexByte_ge l c
  split at h
  · cases h
  · rw [segA_miss (by omega)]; rfl
theorem segA_cut_yes {c : UInt8} {l : List UInt8} (h : (Lib.cut l [c]).2.2 = true) : segA c [] l = (Lib.cut l [c]).1 :: segA c [] (Lib.cut l [c]).2.1 ∧ (Lib.cut l [c]).2.1.length < l.length := by
  have hr := Lib.index_room l [c]
  unfold Lib.cut at h ⊢
  rw [Lib.index_one] at *
  split at h
  · rename_i h0
    rw [if_pos h0]
    have := hr h0
    simp at this
    refine ⟨?_, by simp; omega⟩
    have := segA_hit (c := c) (l := l) (acc := []) (i := (Lib.indexByte l c).toNat) (by omega)
    simpa using this
  · cases h
theorem splitK_segs (c : UInt8) : ∀ (k : Nat) (l : List UInt8), l.count c = k → Lib.splitK [c] 0 k l = segA c [] l := by
  intro k
  induction k with
  | zero =>
    intro l h
    unfold Lib.splitK
    have hg := Lib.indexByte_ge l c
    by_cases e : Lib.indexByte l c = -1
    · rw [segA_miss e]; rfl
    · have hm : c ∈ l := by
        apply Classical.byContradiction
        intro hn
        have : ∀ l : List UInt8, c ∉ l → Lib.indexByte l c = -1 := by
          intro l
          induction l with
          | nil => intro _; rfl
          | cons b l ih =>
            intro hn
            simp at hn
            unfold Lib.indexByte
            rw [if_neg (by simpa using fun e => hn.1 e.symm), ih hn.2]; rfl
        exact e (this l hn)
      have := List.count_pos_iff.2 hm
      omega
  | succ k ih =>
    intro l h
    unfold Lib.splitK
    rw [Lib.index_one]
    have hg := Lib.indexByte_ge l c
    by_cases e : Lib.indexByte l c = -1
    · rw [if_pos (beq_iff_eq.2 e), segA_miss e]; rfl
    · rw [if_neg (fun h => e (beq_iff_eq.1 h))]
      have hc := Lib.count_hit (s := l) (sub := [c]) (i := (Lib.indexByte l c).toNat) (by simp) (by rw [Lib.index_one]; omega)
      rw [Lib.count_one, Lib.count_one] at hc
      rw [ih _ (by omega), segA_hit (l := l) (acc := []) (i := (Lib.indexByte l c).toNat) (by omega)]
      simp
end Go.Proofs.YtnepdopakngpfaaDoor
