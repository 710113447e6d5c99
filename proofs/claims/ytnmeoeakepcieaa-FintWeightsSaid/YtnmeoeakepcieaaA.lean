/-
  Slices that a function makes for itself, and appends to.
-/
import Derived.Test.YtnmeoeakepcieaaFw9
namespace Go.Hp
set_option linter.unusedVariables false
set_option linter.unusedSimpArgs false
open Go.RowKit

/-- A slice of one's own (made behind 'h0'): what it holds, with room behind. -/
def ownS (h0 h : Heap) (q : Option Addr) (cap : Nat) (l : List Value) : Prop :=
  (q = none ∧ cap = 0 ∧ l = []) ∨ ∃ (b : Nat) (cs : List Value), q = some ⟨b, 0, none⟩ ∧ h0.size ≤ b ∧ row h b cs ∧ cs.length = cap ∧ l.length ≤ cap ∧ ∀ (i : Nat) (v : Value), l[i]? = some v → cs[i]? = some v

theorem ownS.nil (h0 h : Heap) : ownS h0 h none 0 [] := .inl ⟨rfl, rfl, rfl⟩
theorem ownS.vals {h0 h : Heap} {q : Option Addr} {cap : Nat} {l : List Value} (o : ownS h0 h q cap l) : valsAt h q l := by
  rcases o with ⟨rfl, rfl, rfl⟩ | ⟨b, cs, rfl, _, r, _, _, hl⟩
  · intro i v hi; simp at hi
  · exact valsAt.row r (fun i v hi => by rw [Nat.zero_add]; exact hl i v hi)
theorem ownS.ext {h0 h h' : Heap} {q : Option Addr} {cap : Nat} {l : List Value} (o : ownS h0 h q cap l) (e : Ext h h') : ownS h0 h' q cap l := by
  rcases o with h | ⟨b, cs, h1, h2, r, h3⟩
  · exact .inl h
  · exact .inr ⟨b, cs, h1, h2, r.ext e, h3⟩
theorem ownS.other {h0 h : Heap} {q : Option Addr} {cap : Nat} {l : List Value} (o : ownS h0 h q cap l) {p : Addr} (hp : ∀ b, q = some ⟨b, 0, none⟩ → p.block ≠ b) (v : Value) : ownS h0 (setC h p v) q cap l := by
  rcases o with h | ⟨b, cs, h1, h2, r, h3⟩
  · exact .inl h
  · exact .inr ⟨b, cs, h1, h2, r.other (hp b h1) v, h3⟩
theorem ownS.mono {h0 h1 h : Heap} {q : Option Addr} {cap : Nat} {l : List Value} (o : ownS h1 h q cap l) (hs : h0.size ≤ h1.size) : ownS h0 h q cap l := by
  rcases o with h | ⟨b, cs, g1, g2, r, g3⟩
  · exact .inl h
  · exact .inr ⟨b, cs, g1, Nat.le_trans hs g2, r, g3⟩

theorem cellsAt_row {h : Heap} {b : Nat} {cs : List Value} (r : row h b cs) {n : Nat} (hn : n ≤ cs.length) : cellsAt h (some ⟨b, 0, none⟩) n (cs.take n) :=
  ⟨by rw [List.length_take]; omega, fun j hj => ⟨_, rfl, by rw [add_mk, r.cell, Nat.zero_add, List.getElem?_take, if_pos hj]⟩⟩

theorem length_zeroRow1 (z : Value) (n : Nat) : (zeroRow [z] n).length = n := by
  induction n with
  | zero => rfl
  | succ n ih => simp [zeroRow, ih]

/-- One value appended. -/
theorem ownS.app {h0 h : Heap} {q : Option Addr} {cap : Nat} {l : List Value} {e : TypeId} {bytes : Nat} {z v : Value} {K : Option Addr → Nat → Nat → Heap → Prop} (o : ownS h0 h q cap l) (ex : Ext h0 h) (hf : flat v = true)
    (hb : (l.length + 1) * bytes ≤ 2 ^ 46 ∧ l.length + 1 ≤ 2 ^ 46)
    (hk : ∀ q' c' h', ownS h0 h' q' c' (l ++ [v]) → Ext h0 h' → Chg (fun b => q = some ⟨b, 0, none⟩) h h' → (∀ b, q' = some ⟨b, 0, none⟩ → q = some ⟨b, 0, none⟩ ∨ b = h.size) → K q' (l.length + 1) c' h') :
    appP e 1 bytes [z] q l.length cap 1 [v] h K := by
  rcases o with ⟨rfl, rfl, rfl⟩ | ⟨b, cs, rfl, hb0, r, hcs, hlc, hl⟩
  · refine ⟨fun h => absurd h (by simp), fun _ => ⟨hb.1, hb.2, [], ⟨rfl, fun j hj => absurd hj (by simp)⟩, fun c hc => ?_⟩⟩
    refine hk _ _ _ (.inr ⟨h.size, _, rfl, ex.size, row.new h _ e, ?_, ?_, ?_⟩) (ex.push _) ((Ext.refl h).push _).chg (fun b hb => .inr (by simpa using hb.symm))
    · simp only [List.nil_append, List.length_append, List.length_singleton, length_zeroRow1]; simp at hc ⊢; omega
    · simpa using hc
    · intro i w hi
      have : i = 0 := by
        rcases i with _ | i
        · rfl
        · simp at hi
      subst this; simpa using hi
  · refine ⟨fun hc => ?_, fun hc => ⟨hb.1, hb.2, cs.take l.length, ?_, fun c hcc => ?_⟩⟩
    · show stL [v] h ((⟨b, 0, none⟩ : Addr).add (l.length * 1)) 0 _
      unfold stL
      rw [hf]
      simp only [add_mk, Nat.zero_add, Nat.mul_one, Nat.add_zero]
      refine stC_row r (by omega) ?_
      unfold stL
      refine hk _ _ _ (.inr ⟨b, _, rfl, hb0, r.set l.length v, by simpa using hcs, by simpa using hc, ?_⟩) (ex.setC hb0 v) (Chg.setC (fun x => some (⟨b, 0, none⟩ : Addr) = some ⟨x, 0, none⟩) h (p := ⟨b, l.length, none⟩) rfl v) (fun b' hb' => .inl hb')
      intro i w hi
      rw [List.getElem?_set]
      by_cases c : l.length = i
      · subst c
        rw [if_pos rfl, if_pos (by omega)]
        rw [List.getElem?_append_right (Nat.le_refl _)] at hi; simpa using hi
      · rw [if_neg c]
        by_cases d : i < l.length
        · rw [List.getElem?_append_left d] at hi; exact hl i w hi
        · rw [List.getElem?_append_right (by omega)] at hi
          have : i - l.length ≠ 0 := by omega
          rw [List.getElem?_eq_none (by simp; omega)] at hi; cases hi
    · rw [Nat.mul_one]; exact cellsAt_row r (by omega)
    · have hlen : (cs.take l.length).length = l.length := by rw [List.length_take]; omega
      refine hk _ _ _ (.inr ⟨h.size, _, rfl, ex.size, row.new h _ e, ?_, by simpa using hcc, ?_⟩) (ex.push _) ((Ext.refl h).push _).chg (fun b hb => .inr (by simpa using hb.symm))
      · simp only [List.length_append, hlen, List.length_singleton, length_zeroRow1]; omega
      · intro i w hi
        by_cases d : i < l.length
        · rw [List.getElem?_append_left d] at hi
          rw [List.append_assoc, List.getElem?_append_left (by omega), List.getElem?_take, if_pos d]; exact hl i w hi
        · rw [List.getElem?_append_right (by omega)] at hi
          rw [List.append_assoc, List.getElem?_append_right (by omega), hlen]
          have : i - l.length = 0 := by
            rcases Nat.eq_zero_or_pos (i - l.length) with e | e
            · exact e
            · rw [List.getElem?_eq_none (by simp; omega)] at hi; cases hi
          rw [this] at hi ⊢; simpa using hi
end Go.Hp
