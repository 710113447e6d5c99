/-
  Numbers in digits: dec.formed.
-/
import Derived.Test.YtmejnpadgbdhaaaGreatDoorE4
import Derived.Test.YtmejnpadgbdhaaaGreatDoorE6
import Derived.Laws.RangeString
import Derived.Laws.RangeAny
namespace Go.Proofs.YtmejnpadgbdhaaaGreatDoor
set_option linter.unusedVariables false
set_option linter.unusedSimpArgs false
open Go.Proofs Go.Shelf Go.RowKit Go.Hp
attribute [local irreducible] Go.Hp.iteB Go.Hp.stC Go.Hp.newP
/-- What the range says from a place on. -/
def scanB (low : Bool) (B : List UInt8) (p : Nat) : Bool := (B.drop p).all dgB && !(p == 0 && B.head? == some 48 && (low || decide (1 < B.length)))
theorem scan_end {low : Bool} {B : List UInt8} {p : Nat} (h : B.length ≤ p) (h0 : 0 < p ∨ B = []) : scanB low B p = true := by
  rw [scanB, List.drop_eq_nil_of_le h]
  rcases h0 with h0 | rfl
  · simp; omega
  · simp
theorem ext_setO {g0 h : Heap} {b : Nat} {o : Obj} (e : Ext g0 h) (hb : g0.size ≤ b) : Ext g0 (setO h b o) :=
  ⟨by simpa [setO] using e.size, fun i hi => by simp only [setO]; rw [Array.getElem?_setIfInBounds_ne (by omega)]; exact e.at_ i hi⟩
theorem get_setO {h : Heap} {b : Nat} {o o' : Obj} (hb : h[b]? = some o') : (setO h b o)[b]? = some o := by
  simp only [setO]
  rw [Array.getElem?_setIfInBounds_self_of_lt (Array.getElem?_eq_some_iff.1 hb).1]
theorem formed_l0 {g0 : Heap} {b : Nat} (hb : g0.size ≤ b) {s : ByteArray} {low : Bool} {K0 : Bool → Heap → Prop} {K2 : Heap → Prop}
    (h0 : ∀ h', Ext g0 h' → scanB low (bytes s) 0 = false → K0 false h') (hk : ∀ h', Ext g0 h' → scanB low (bytes s) 0 = true → K2 h') :
    ∀ (d p : Nat) (h : Heap), s.size - p ≤ d → p ≤ s.size → Ext g0 h → h[b]? = some (.stringIter s p) → (0 < p ∨ p = 0) → scanB low (bytes s) p = scanB low (bytes s) 0 → dec_formed.l0 K0 K2 (d + 1) s low ⟨b, 0, none⟩ h := by
  intro d
  induction d with
  | zero =>
    intro p h hd hp e hi h1 hs
    unfold dec_formed.l0 dec_formed.b0
    refine ⟨⟨rfl, rfl⟩, s, p, hi, fun _ => hk h e ?_, fun hlt => by omega⟩
    rw [← hs]
    refine scan_end (by rw [bytes_len]; omega) ?_
    by_cases c : 0 < p
    · exact .inl c
    · exact .inr (List.length_eq_zero_iff.1 (by rw [bytes_len]; omega))
  | succ d ih =>
    intro p h hd hp e hi h1 hs
    unfold dec_formed.l0 dec_formed.b0
    refine ⟨⟨rfl, rfl⟩, s, p, hi, fun hn => hk h e ?_, fun hlt => ?_⟩
    · rw [← hs]
      refine scan_end (by rw [bytes_len]; omega) ?_
      by_cases c : 0 < p
      · exact .inl c
      · exact .inr (List.length_eq_zero_iff.1 (by rw [bytes_len]; omega))
    · rw [bindV_eq]
      have e' : Ext g0 (setO h b (.stringIter s (p + (Utf8.decode s p).2))) := ext_setO e hb
      have hg : (bytes s)[p]? = some (s[p]'hlt) := Lib.data_getElem? s p hlt
      have hlen : p < (bytes s).length := by rw [bytes_len]; exact hlt
      have hg' : (bytes s)[p] = s[p]'hlt := by rw [List.getElem?_eq_getElem hlen] at hg; exact Option.some.inj hg
      have hdrop : (bytes s).drop p = (s[p]'hlt) :: (bytes s).drop (p + 1) := by rw [List.drop_eq_getElem_cons hlen, hg']
      have bad : dgB (s[p]'hlt) = false → scanB low (bytes s) 0 = false := fun hd => by rw [← hs, scanB, hdrop]; simp [hd]
      by_cases ha : (s[p]'hlt).toNat < 128
      · rw [decode_ascii s p hlt ha] at e' ⊢
        have hi' := get_setO (o := .stringIter s (p + 1)) hi
        refine iteB_intro (fun c => h0 _ e' (bad ?_)) fun c1 => iteB_intro (fun c => h0 _ e' (bad ?_)) fun c2 => ?_
        · have c : ((s[p]'hlt).toNat : Int) < 48 := by simpa using c
          cases hdg : dgB (s[p]'hlt); rfl; have := dg_iff.1 hdg; omega
        · have c : ((s[p]'hlt).toNat : Int) > 57 := by simpa using c
          cases hdg : dgB (s[p]'hlt); rfl; have := dg_iff.1 hdg; omega
        · have c1 : 48 ≤ (s[p]'hlt).toNat := by
            have : ¬ ((s[p]'hlt).toNat : Int) < 48 := by simpa using c1
            omega
          have c2 : (s[p]'hlt).toNat ≤ 57 := by
            have : ¬ ((s[p]'hlt).toNat : Int) > 57 := by simpa using c2
            omega
          have hdg : dgB (s[p]'hlt) = true := dg_iff.2 ⟨c1, c2⟩
          have go : (p = 0 → (s[p]'hlt) = 48 → (low || decide (1 < (bytes s).length)) = false) → dec_formed.l0 K0 K2 (d + 1) s low ⟨b, 0, none⟩ (setO h b (.stringIter s (p + 1))) := fun hz => by
            refine ih (p + 1) _ (by omega) hlt e' hi' (.inl (by omega)) ?_
            rw [← hs, scanB, scanB, hdrop]
            by_cases z : p = 0
            · subst z
              by_cases q : (s[0]'hlt) = 48
              · rw [hz rfl q]; simp [hdg]
              · have : (bytes s).head? = some (s[0]'hlt) := by rw [List.head?_eq_getElem?]; exact hg
                simp [hdg, this, q]
            · simp [hdg, z]
          refine iteB_intro (fun c3 => ?_) fun c3 => ?_
          · have c3 : (s[p]'hlt) = 48 := UInt8.toNat_inj.1 (by
              have : ((s[p]'hlt).toNat : Int) = 48 := by simpa using c3
              have e48 : (48 : UInt8).toNat = 48 := rfl
              omega)
            refine iteB_intro (fun c4 => ?_) fun c4 => ?_
            · have c4 : p = 0 := by
                have : (p : Int) = 0 := by simpa using c4
                omega
              subst c4
              have hh : (bytes s).head? = some 48 := by rw [List.head?_eq_getElem?, hg, c3]
              refine iteB_intro (fun c5 => h0 _ e' ?_) fun c5 => iteB_intro (fun c6 => h0 _ e' ?_) fun c6 => go fun _ _ => ?_
              · rw [scanB, hh, c5]; simp
              · have c6 : 1 < s.size := by
                  have : ((s.size : Int)) > 1 := by simpa using c6
                  omega
                rw [scanB, hh, bytes_len]; simp [c6]
              · have c6 : ¬ 1 < s.size := by
                  have : ¬ ((s.size : Int)) > 1 := by simpa using c6
                  omega
                rw [c5, bytes_len]; simp [c6]
            · exact go fun z _ => absurd (by subst z; rfl) (Bool.eq_false_iff.1 c4)
          · exact go fun _ q => absurd (by rw [q]; rfl) (Bool.eq_false_iff.1 c3)
      · obtain ⟨d1, d2⟩ := decode_high s p hlt (by omega)
        have hx : dgB (s[p]'hlt) = false := by cases hdg : dgB (s[p]'hlt); rfl; have := dg_iff.1 hdg; omega
        refine iteB_intro (fun c => h0 _ e' (bad hx)) fun c1 => iteB_intro (fun c => h0 _ e' (bad hx)) fun c2 => ?_
        have : ¬ (((Utf8.decode s p).1 : Int)) > 57 := by simpa using c2
        omega
theorem scan_nat (low : Bool) (B : List UInt8) (h : low = true → True) : (scanB low B 0 && !decide (B = [])) = (natB B && !(low && B == [48])) := by
  unfold scanB natB
  rw [List.drop_zero]
  cases B with
  | nil => simp
  | cons c r =>
    cases hd : (c :: r).all dgB with
    | false => simp
    | true =>
      by_cases q : c = 48
      · subst q
        cases r with
        | nil => cases low <;> simp
        | cons x y => cases low <;> simp
      · have q' : (c == 48) = false := by simpa using q
        cases low <;> simp [q', bne]
theorem nil_text (s : ByteArray) : (s.toList == (⟨#[]⟩ : ByteArray).toList) = decide (bytes s = []) := by
  have e : (⟨#[]⟩ : ByteArray).toList = [] := toList_str []
  rw [toList_bytes, e]
  cases bytes s <;> simp
theorem Formed_of {s : ByteArray} {h : Heap} {K : Bool → Heap → Prop} (hk : ∀ h', Ext h h' → K (formL (bytes s)) h') : dec_formed s h K := by
  unfold dec_formed
  refine callP2.self (CutPrefix_of ?_)
  have e45 : bytes (⟨#[45]⟩ : ByteArray) = [45] := rfl
  rw [e45]
  generalize hlo : Lib.hasPrefix (bytes s) [45] = low
  generalize hB : Lib.trimPrefix (bytes s) [45] = B
  have hf : (scanB low B 0 && !decide (B = [])) = formL (bytes s) := by
    rw [scan_nat low B (fun _ => trivial)]
    unfold formL
    cases hs : bytes s with
    | nil =>
      rw [hs] at hlo hB
      have : low = false := by rw [← hlo]; rfl
      subst this
      have : B = [] := by rw [← hB]; rfl
      subst this
      simp [natB]
    | cons c r =>
      rw [hs] at hlo hB
      by_cases q : c = 45
      · subst q
        have : low = true := by rw [← hlo]; simp [Lib.hasPrefix]
        subst this
        have : B = r := by rw [← hB]; simp [Lib.trimPrefix, Lib.hasPrefix]
        subst this
        simp [bne]
      · have q' : ((45:UInt8) == c) = false := by simpa using Ne.symm q
        have : low = false := by rw [← hlo]; simp [Lib.hasPrefix, List.isPrefixOf, q']
        subst this
        have : B = c :: r := by
          rw [← hB]
          have hp : Lib.hasPrefix (c :: r) [45] = false := hlo
          rw [Lib.trimPrefix, hp]; rfl
        subst this
        simp [q]
  have hsz : (str B).size = B.length := str_size B
  refine new_fresh ?_
  refine ⟨(str B).size + 1, ?_⟩
  have e0 : Ext h (h.push (.stringIter (str B) 0)) := ⟨by simp, fun i hi => by rw [Array.getElem?_push_lt hi]; simp [hi]⟩
  refine formed_l0 (g0 := h) (b := h.size) (Nat.le_refl _) (fun h' e hz => ?_) (fun h' e hz => ?_) (str B).size 0 _ (Nat.le_refl _) (Nat.zero_le _) e0 (by simp) (.inr rfl) rfl
  · rw [bytes_str] at hz
    rw [hz, Bool.false_and] at hf
    rw [hf]; exact hk h' e
  · rw [bytes_str] at hz
    rw [hz, Bool.true_and] at hf
    rw [nil_text, bytes_str, hf]; exact hk h' e
end Go.Proofs.YtmejnpadgbdhaaaGreatDoor
