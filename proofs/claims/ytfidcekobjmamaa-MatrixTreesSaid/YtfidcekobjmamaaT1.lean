/-
  Trees: how deep a vertex is; the plain part.
-/
import Derived.Test.YtfidcekobjmamaaWk
namespace Go.Hp
set_option linter.unusedVariables false
set_option linter.unusedSimpArgs false
set_option linter.unnecessarySimpa false

/-- 'v' is so deep below a root. 'U': who is above. -/
def hasD (U : Nat → Int) (n : Nat) : Nat → Nat → Prop
  | 0, v => v < n ∧ U v = -1
  | d + 1, v => v < n ∧ ∃ u : Nat, U v = (u : Int) ∧ hasD U n d u

theorem hasD.lt {U : Nat → Int} {n d v : Nat} (h : hasD U n d v) : v < n := by cases d <;> exact h.1
theorem hasD.uniq {U : Nat → Int} {n : Nat} : ∀ {d e v : Nat}, hasD U n d v → hasD U n e v → d = e
  | 0, 0, _, _, _ => rfl
  | 0, e + 1, v, h1, h2 => by obtain ⟨_, u, hu, _⟩ := h2; have := h1.2; omega
  | d + 1, 0, v, h1, h2 => by obtain ⟨_, u, hu, _⟩ := h1; have := h2.2; omega
  | d + 1, e + 1, v, h1, h2 => by
    obtain ⟨_, u, hu, a⟩ := h1
    obtain ⟨_, u', hu', b⟩ := h2
    obtain rfl : u = u' := by omega
    rw [hasD.uniq a b]

/-- 'k' steps up from 'v'. -/
def upN (U : Nat → Int) : Nat → Nat → Nat
  | 0, v => v
  | k + 1, v => upN U k (U v).toNat

theorem hasD.up {U : Nat → Int} {n d v u : Nat} (h : hasD U n d v) (hu : U v = (u : Int)) : ∃ e, d = e + 1 ∧ hasD U n e u := by
  cases d with
  | zero => have := h.2; omega
  | succ e =>
    obtain ⟨_, u', hu', h⟩ := h
    obtain rfl : u = u' := by omega
    exact ⟨e, rfl, h⟩
theorem hasD.upN {U : Nat → Int} {n : Nat} : ∀ {k d v : Nat}, k ≤ d → hasD U n d v → hasD U n (d - k) (Hp.upN U k v)
  | 0, d, v, _, h => h
  | k + 1, 0, v, hk, h => absurd hk (by omega)
  | k + 1, d + 1, v, hk, h => by
    obtain ⟨_, u, hu, h⟩ := h
    have := hasD.upN (k := k) (d := d) (v := u) (by omega) h
    unfold Hp.upN
    rw [hu, Int.toNat_natCast, show d + 1 - (k + 1) = d - k by omega]
    exact this

theorem nodup_le {n : Nat} {l : List Nat} (h : l.Nodup) (hl : ∀ x ∈ l, x < n) : l.length ≤ n := by
  have := List.Nodup.length_le_of_subset h (l₂ := List.range n) (fun x hx => List.mem_range.2 (hl x hx))
  simpa using this

/-- Nobody is deeper than there are others. -/
theorem hasD.lt_n {U : Nat → Int} {n d v : Nat} (h : hasD U n d v) : d < n := by
  have hn : ((List.range (d + 1)).map fun k => Hp.upN U k v).Nodup := by
    rw [List.Nodup, List.pairwise_map]
    refine List.Pairwise.imp_of_mem (fun {a b} ha hb hab e => ?_) (List.nodup_range (n := d + 1))
    have ha := List.mem_range.1 ha
    have hb := List.mem_range.1 hb
    have h1 := h.upN (k := a) (by omega)
    have h2 := h.upN (k := b) (by omega)
    rw [e] at h1
    have := h1.uniq h2
    exact hab (by omega)
  have := nodup_le hn (fun x hx => by
    obtain ⟨k, hk, rfl⟩ := List.mem_map.1 hx
    exact (h.upN (k := k) (by have := List.mem_range.1 hk; omega)).lt)
  simp at this; omega

/-- What the document asks of a tree. -/
structure RightT (up w : List Int) : Prop where
  len : w.length = up.length
  max : up.length ≤ 4096
  each : ∀ v, v < up.length → -1 ≤ up.getD v 0 ∧ up.getD v 0 < up.length ∧ 0 ≤ w.getD v 0 ∧ (up.getD v 0 = -1 → w.getD v 0 = 0)
  roots : (up.filter (· == -1)).length = min up.length 1
  deep : ∀ v, v < up.length → ∃ d, hasD (fun v => up.getD v 0) up.length d v

/-- A way up: each one is the one above of the one before it. -/
def isWay (U : Nat → Int) : List Nat → Nat → Prop
  | [], _ => True
  | [v], e => U v = (e : Int)
  | v :: w :: r, e => U v = (w : Int) ∧ isWay U (w :: r) e
theorem isWay_snoc {U : Nat → Int} : ∀ {l : List Nat} {e f : Nat}, isWay U l e → U e = (f : Int) → isWay U (l ++ [e]) f
  | [], e, f, _, h => h
  | [v], e, f, h1, h => ⟨h1, h⟩
  | v :: w :: r, e, f, h1, h => ⟨h1.1, isWay_snoc h1.2 h⟩
theorem isWay_deep {U : Nat → Int} {n : Nat} : ∀ {l : List Nat} {e d : Nat}, isWay U l e → (∀ v ∈ l, v < n) → hasD U n d e → ∀ i v, l[i]? = some v → hasD U n (d + (l.length - i)) v
  | [], e, d, _, _, _, i, v, hv => by simp at hv
  | [u], e, d, h1, hl, h, i, v, hv => by
    cases i with
    | zero => simp at hv; subst hv; exact ⟨hl u (by simp), e, h1, h⟩
    | succ i => simp at hv
  | u :: w :: r, e, d, h1, hl, h, i, v, hv => by
    cases i with
    | zero =>
      simp at hv; subst hv
      have := isWay_deep (l := w :: r) h1.2 (fun x hx => hl x (by simp [List.mem_cons.1 hx])) h 0 w rfl
      exact ⟨hl u (by simp), w, h1.1, by simpa using this⟩
    | succ i =>
      have := isWay_deep (l := w :: r) h1.2 (fun x hx => hl x (by simp [List.mem_cons.1 hx])) h i v (by simpa using hv)
      rw [show (u :: w :: r).length - (i + 1) = (w :: r).length - i by simp]
      exact this
/-- From a way's start one is as much deeper as the way is long. -/
theorem isWay_start {U : Nat → Int} {n : Nat} : ∀ {l : List Nat} {v e d : Nat}, isWay U (v :: l) e → hasD U n d v → l.length + 1 ≤ d ∧ hasD U n (d - (l.length + 1)) e
  | [], v, e, d, h1, h => by
    obtain ⟨d', rfl, h'⟩ := h.up h1; exact ⟨by simp, by simpa using h'⟩
  | w :: r, v, e, d, h1, h => by
    obtain ⟨d', rfl, h'⟩ := h.up h1.1
    have := isWay_start h1.2 h'
    refine ⟨by simp; omega, ?_⟩
    rw [show d' + 1 - ((w :: r).length + 1) = d' - (r.length + 1) by simp]
    exact this.2
end Go.Hp
