/-
  Trees: ways up, and where two of them meet: the plain part.
-/
import Derived.Test.YtfidcekobjmamaaT9
namespace Go.Proofs.Ytfidcekobjmamaa
set_option linter.unusedVariables false
set_option linter.unusedSimpArgs false
set_option linter.unnecessarySimpa false
open Go.Hp Go.RowKit

section
variable {U : Nat → Int} {n : Nat}
/-- The way up from a vertex. -/
abbrev ways (U : Nat → Int) (n v : Nat) : List Nat := upL U n (n + 1) (v : Int)
theorem upL_fuel : ∀ {d f v : Nat}, hasD U n d v → d < f → upL U n f (v : Int) = upL U n (d + 1) (v : Int)
  | 0, f + 1, v, h, hf => by
    unfold upL
    rw [if_pos ⟨by omega, by have := h.1; omega⟩, if_pos ⟨by omega, by have := h.1; omega⟩, Int.toNat_natCast, h.2, upL_neg (by decide), upL_neg (by decide)]
  | d + 1, f + 1, v, h, hf => by
    obtain ⟨hv, u, hu, hd⟩ := h
    unfold upL
    rw [if_pos ⟨by omega, by omega⟩, if_pos ⟨by omega, by omega⟩, Int.toNat_natCast, hu, upL_fuel hd (by omega)]
theorem ways_root {v : Nat} (h : hasD U n 0 v) : ways U n v = [v] := by
  have := h.1
  unfold ways upL
  rw [if_pos ⟨by omega, by omega⟩, Int.toNat_natCast, h.2, upL_neg (by decide)]
theorem ways_cons {d v f : Nat} (h : hasD U n (d + 1) v) (hf : U v = (f : Int)) : ways U n v = v :: ways U n f := by
  obtain ⟨e, he, hd⟩ := h.up hf
  have : e = d := by omega
  subst this
  have h1 := h.lt; have h2 := h.lt_n
  unfold ways
  conv => lhs; unfold upL
  rw [if_pos ⟨by omega, by omega⟩, Int.toNat_natCast, hf, upL_fuel hd (by omega), upL_fuel hd (f := n + 1) (by omega)]
theorem ways_deep : ∀ {d v : Nat}, hasD U n d v → ∀ x ∈ ways U n v, ∃ e, hasD U n e x ∧ (x = v ∨ e < d)
  | 0, v, h, x, hx => by
    rw [ways_root h] at hx
    have : x = v := by simpa using hx
    subst this; exact ⟨0, h, .inl rfl⟩
  | d + 1, v, h, x, hx => by
    have h' := h
    obtain ⟨_, f, hf, hd⟩ := h
    rw [ways_cons h' hf] at hx
    rcases List.mem_cons.1 hx with rfl | hx
    · exact ⟨d + 1, h', .inl rfl⟩
    · obtain ⟨e, he, hc⟩ := ways_deep hd x hx
      refine ⟨e, he, .inr ?_⟩
      rcases hc with rfl | hc
      · have := he.uniq hd; omega
      · omega
theorem ways_self {d v : Nat} (h : hasD U n d v) : v ∈ ways U n v := by
  cases d with
  | zero => rw [ways_root h]; simp
  | succ d => obtain ⟨_, f, hf, _⟩ := id h; rw [ways_cons h hf]; simp
theorem ways_nodup : ∀ {d v : Nat}, hasD U n d v → (ways U n v).Nodup
  | 0, v, h => by rw [ways_root h]; simp
  | d + 1, v, h => by
    have h' := h
    obtain ⟨_, f, hf, hd⟩ := h
    rw [ways_cons h' hf]
    refine List.nodup_cons.2 ⟨fun hx => ?_, ways_nodup hd⟩
    obtain ⟨e, he, hc⟩ := ways_deep hd v hx
    have := he.uniq h'
    rcases hc with rfl | hc
    · have := he.uniq hd; omega
    · omega
theorem ways_lt {v x : Nat} (h : x ∈ ways U n v) : x < n := upL_lt x h

/-- Where two ways meet: what lies ahead of that on each is not on the other one. -/
structure Meets (a b a1 : List Nat) (top : Nat) (b1 : List Nat) : Prop where
  ex : ∃ r, a = a1 ++ top :: r ∧ b = b1 ++ top :: r
  na : ∀ x ∈ a1, x ∉ b
  nb : ∀ x ∈ b1, x ∉ a
theorem Meets.swap {a b a1 b1 : List Nat} {top : Nat} (h : Meets a b a1 top b1) : Meets b a b1 top a1 := by
  obtain ⟨⟨r, h1, h2⟩, h3, h4⟩ := h
  exact ⟨⟨r, h2, h1⟩, h4, h3⟩
theorem split_uniq {p : Nat → Prop} : ∀ {a1 a1' r r' : List Nat} {t t' : Nat}, a1 ++ t :: r = a1' ++ t' :: r' → (∀ x ∈ a1, ¬ p x) → (∀ x ∈ a1', ¬ p x) → p t → p t' → a1 = a1' ∧ t = t'
  | [], [], _, _, _, _, h, _, _, _, _ => ⟨rfl, by simpa using (List.cons.inj h).1⟩
  | [], x :: l, _, _, _, _, h, _, h2, h3, _ => by
    have := (List.cons.inj h).1
    subst this; exact absurd h3 (h2 _ (by simp))
  | x :: l, [], _, _, _, _, h, h1, _, _, h4 => by
    have := (List.cons.inj h).1
    subst this; exact absurd h4 (h1 _ (by simp))
  | x :: l, y :: m, _, _, _, _, h, h1, h2, h3, h4 => by
    obtain ⟨rfl, h⟩ := List.cons.inj h
    have g := split_uniq (a1 := l) (a1' := m) (by simpa using h) (fun z hz => h1 z (by simp [hz])) (fun z hz => h2 z (by simp [hz])) h3 h4
    exact ⟨by rw [g.1], g.2⟩
theorem Meets.uniq {a b a1 b1 a1' b1' : List Nat} {top top' : Nat} (h : Meets a b a1 top b1) (h' : Meets a b a1' top' b1') : a1 = a1' ∧ top = top' ∧ b1 = b1' := by
  obtain ⟨⟨r, e1, e2⟩, h3, h4⟩ := h
  obtain ⟨⟨r', g1, g2⟩, h3', h4'⟩ := h'
  obtain ⟨q1, q2⟩ := split_uniq (p := (· ∈ b)) (e1.symm.trans g1) h3 h3' (by rw [e2]; simp) (by rw [g2]; simp)
  obtain ⟨q3, _⟩ := split_uniq (p := (· ∈ a)) (e2.symm.trans g2) h4 h4' (by rw [e1]; simp) (by rw [g1]; simp)
  exact ⟨q1, q2, q3⟩
end

theorem meetF_meets {up : List Int} {n : Nat} {D : Nat → Int} (hup : up.length = n) (hone : (up.filter (· == -1)).length ≤ 1) (hD : DR up n D) : ∀ {m u v : Nat}, u < n → v < n → D u + D v ≤ m →
    Meets (ways (UU up) n u) (ways (UU up) n v) (meetF (UU up) D (m + 1) u v).1 (meetF (UU up) D (m + 1) u v).2.1 (meetF (UU up) D (m + 1) u v).2.2
  | m, u, v, hu, hv, hm => by
    obtain ⟨du, hdu, hdu2⟩ := hD u hu
    obtain ⟨dv, hdv, hdv2⟩ := hD v hv
    unfold meetF
    by_cases e : u = v
    · rw [if_pos e]
      subst e
      have hw : ∃ r, ways (UU up) n u = u :: r := by
        cases du with
        | zero => exact ⟨[], ways_root hdu2⟩
        | succ d => obtain ⟨_, f, hf, _⟩ := id hdu2; exact ⟨_, ways_cons hdu2 hf⟩
      obtain ⟨r, hr⟩ := hw
      exact ⟨⟨r, by simpa using hr, by simpa using hr⟩, by simp, by simp⟩
    · rw [if_neg e]
      by_cases c : D u ≥ D v
      · rw [if_pos c]
        obtain ⟨f, hf, hfn, hDf⟩ := meetF_step hup hone hD hu hv e c
        obtain ⟨df, hdf, hdf2⟩ := hD f hfn
        rw [hf, Int.toNat_natCast]
        cases m with
        | zero => omega
        | succ m =>
          obtain ⟨⟨r, h1, h2⟩, h3, h4⟩ := meetF_meets hup hone hD (m := m) hfn hv (by omega)
          have hdu' : du = df + 1 := by omega
          subst hdu'
          have hw := ways_cons hdu2 hf
          have nu : u ∉ ways (UU up) n v := fun hx => by
            obtain ⟨e', he', hc⟩ := ways_deep hdv2 u hx
            have := he'.uniq hdu2
            rcases hc with rfl | hc
            · exact e rfl
            · omega
          refine ⟨⟨r, by rw [hw, h1]; rfl, h2⟩, fun x hx => ?_, fun x hx hxa => ?_⟩
          · rcases List.mem_cons.1 hx with rfl | hx
            · exact nu
            · exact h3 x hx
          · rw [hw] at hxa
            rcases List.mem_cons.1 hxa with rfl | hxa
            · exact nu (by rw [h2]; simp [hx])
            · exact h4 x hx hxa
      · rw [if_neg c]
        obtain ⟨f, hf, hfn, hDf⟩ := meetF_step hup hone hD hv hu (Ne.symm e) (by omega)
        obtain ⟨df, hdf, hdf2⟩ := hD f hfn
        rw [hf, Int.toNat_natCast]
        cases m with
        | zero => omega
        | succ m =>
          obtain ⟨⟨r, h1, h2⟩, h3, h4⟩ := meetF_meets hup hone hD (m := m) hu hfn (by omega)
          have hdv' : dv = df + 1 := by omega
          subst hdv'
          have hw := ways_cons hdv2 hf
          have nv : v ∉ ways (UU up) n u := fun hx => by
            obtain ⟨e', he', hc⟩ := ways_deep hdu2 v hx
            have := he'.uniq hdv2
            rcases hc with rfl | hc
            · exact e rfl
            · omega
          refine ⟨⟨r, h1, by rw [hw, h2]; rfl⟩, fun x hx hxa => ?_, fun x hx => ?_⟩
          · rw [hw] at hxa
            rcases List.mem_cons.1 hxa with rfl | hxa
            · exact nv (by rw [h1]; simp [hx])
            · exact h3 x hx hxa
          · rcases List.mem_cons.1 hx with rfl | hx
            · exact nv
            · exact h4 x hx
end Go.Proofs.Ytfidcekobjmamaa
