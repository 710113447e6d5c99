/-
  Answers: the document's bytes of a text.
-/
import Derived.Test.YtmejnpadgbdhaaaGreatDoorA7
import Derived.Test.YtmejnpadgbdhaaaGreatDoorR1
import Derived.Test.YtmejnpadgbdhaaaGreatDoorR2
namespace Go.Proofs.YtmejnpadgbdhaaaGreatDoor
set_option linter.unusedVariables false
set_option linter.unusedSimpArgs false
set_option linter.unnecessarySimpa false
open Go.Proofs Go.Shelf Go.RowKit Go.Hp
attribute [local irreducible] Go.Hp.iteB Go.Hp.stC Go.Hp.newP
theorem rdig_of {c : UInt8} {h : Heap} {K : Int → Heap → Prop} (hk : K (nib c : Int) h) : straitref48_digit (c.toNat : Int) h K := by
  unfold straitref48_digit
  have hl := c.toNat_lt
  intro j
  have J : ¬ (48 ≤ c.toNat ∧ c.toNat ≤ 57) → j := fun hn => by
    simp -zeta only [j]
    refine iteB_intro (fun e => iteB_intro (fun e2 => bindV_intro fun m hm => ?_) fun e2 => ?_) fun e => ?_
    · have e := of_decide_eq_true e
      have e2 := of_decide_eq_true e2
      rw [u8wrap (x := (c.toNat : Int) - 97) (by omega) (by omega), u8wrap (by omega) (by omega)] at hm
      have : nib c = c.toNat - 87 := by unfold nib; rw [if_neg hn, if_pos (by omega)]
      rw [this] at hk
      rw [hm, show (c.toNat : Int) - 97 + 10 = ((c.toNat - 87 : Nat) : Int) by omega]
      exact hk
    · have e2 := of_decide_eq_false e2
      have : nib c = 16 := by unfold nib; rw [if_neg hn, if_neg (by omega)]
      rw [this] at hk; exact hk
    · have e := of_decide_eq_false e
      have : nib c = 16 := by unfold nib; rw [if_neg hn, if_neg (by omega)]
      rw [this] at hk; exact hk
  clear_value j
  refine iteB_intro (fun e => iteB_intro (fun e2 => ?_) fun e2 => J ?_) fun e => J ?_
  · have e := of_decide_eq_true e
    have e2 := of_decide_eq_true e2
    have : nib c = c.toNat - 48 := by unfold nib; rw [if_pos (by omega)]
    rw [this] at hk
    rw [u8wrap (by omega) (by omega), show (c.toNat : Int) - 48 = ((c.toNat - 48 : Nat) : Int) by omega]
    exact hk
  · have e2 := of_decide_eq_false e2
    omega
  · have e := of_decide_eq_false e
    omega
section
variable {h0 : Base} {R : Rws}
theorem rbytes_l0 {K0 : Heap → Prop} {K2 : Option Addr → Nat → Nat → Heap → Prop} {l : List UInt8} {t : Nat} (hl : l.length ≤ 2 ^ 20)
    (hbad : ∀ h' X, nibs l = false → St h0 h' ((t, [.slice none 0 0, .bool false]) :: (X ++ R)) → K0 h')
    (hk : ∀ h' q c X, (∀ x ∈ l.take (2 * (l.length / 2)), nib x < 16) → Own q c (byV (pairsB (l.take (2 * (l.length / 2))))) X → St h0 h' ((t, [.slice none 0 0, .bool false]) :: (X ++ R)) → K2 q (l.length / 2) c h') :
    ∀ (d k : Nat) (q : Option Addr) (c : Nat) (X : Rws) (h : Heap), k + d = l.length / 2 → (∀ x ∈ l.take (2 * k), nib x < 16) → Own q c (byV (pairsB (l.take (2 * k)))) X → St h0 h ((t, [.slice none 0 0, .bool false]) :: (X ++ R)) →
      straitref48_Bytes.l0 K0 K2 (d + 1) (str l) ⟨t, 0, none⟩ q k c ((2 * k : Nat) : Int) h := by
  intro d
  induction d with
  | zero =>
    intro k q c X h hi ha o s
    unfold straitref48_Bytes.l0 straitref48_Bytes.b0
    obtain rfl : k = l.length / 2 := by omega
    rw [str_size, wrap64 (by omega) (by omega)]
    exact iteB_neg (decide_eq_false (by omega)) (hk h q c X ha o s)
  | succ d ih =>
    intro k q c X h hi ha o s
    unfold straitref48_Bytes.l0 straitref48_Bytes.b0
    obtain ⟨x, g1, g2⟩ := byte_at (s := str l) (i := 2 * k) (by rw [str_size]; omega)
    obtain ⟨y, g3, g4⟩ := byte_at (s := str l) (i := 2 * k + 1) (by rw [str_size]; omega)
    rw [bytes_str] at g2 g4
    rw [str_size, wrap64 (x := ((2 * k : Nat) : Int) + 1) (by omega) (by omega), show ((2 * k : Nat) : Int) + 1 = ((2 * k + 1 : Nat) : Int) by omega, Int.toNat_natCast, Int.toNat_natCast]
    have hlen : (byV (pairsB (l.take (2 * k)))).length = k := by rw [byV_len, pairs_len k _ (by rw [List.length_take]; omega)]
    have bad : ∀ z ∈ l, ¬ nib z < 16 → nibs l = false := fun z hz hn => by
      unfold nibs
      rw [List.all_eq_false]
      exact ⟨z, hz, by simpa using hn⟩
    have fl : nibs l = false → (stC h ⟨t, 0, none⟩ (.slice none 0 0) fun h1013 => stC h1013 ((⟨t, 0, none⟩ : Addr).add 1) (.bool false) fun h1014 => K0 h1014) := fun hb => by
      refine s.st0 (by simp) fun h2 s2 => ?_
      rw [add_mk, Nat.zero_add]
      exact s2.st0 (by simp) fun h3 s3 => hbad h3 X hb s3
    refine iteB_pos (decide_eq_true (by omega)) ⟨by omega, x, g1, qcallP1.of _ (fun Q hQ => rdig_of hQ) ⟨by omega, y, g3, qcallP1.of _ (fun Q hQ => rdig_of hQ) (iteB_intro (fun e => fl (bad x (List.mem_of_getElem? g2) ?_)) fun e => iteB_intro (fun e2 => fl (bad y (List.mem_of_getElem? g4) ?_)) fun e2 => bindV_intro fun m hm => ?_)⟩⟩
    · have e := of_decide_eq_true e
      omega
    · have e2 := of_decide_eq_true e2
      omega
    · have e := of_decide_eq_false e
      have e2 := of_decide_eq_false e2
      have hx : nib x < 16 := by omega
      have hy : nib y < 16 := by omega
      rw [u8wrap (x := 16 * (nib x : Int)) (by omega) (by omega), u8wrap (by omega) (by omega)] at hm
      have hv : m = ((UInt8.ofNat (16 * nib x + nib y)).toNat : Int) := by rw [pair_nat hx hy]; omega
      rw [hv]
      have s' : St h0 h (X ++ ((t, [.slice none 0 0, .bool false]) :: R)) := (St.re s (by intro a; simp only [cntR_append, cntR_cons, cntR_nil, List.cons_append, List.nil_append, List.set_cons_zero, List.set_cons_succ]; omega))
      refine Own.push1 o s' hlen.symm rfl (by rw [hlen]; omega) fun q2 c2 X2 h2 o2 s2 => ?_
      rw [hlen, wrap64 (by omega) (by omega), show ((2 * k : Nat) : Int) + 2 = ((2 * (k + 1) : Nat) : Int) by omega]
      have ht : l.take (2 * (k + 1)) = l.take (2 * k) ++ [x, y] := by
        rw [show 2 * (k + 1) = 2 * k + 1 + 1 by omega, take_snoc g4, take_snoc g2]; simp
      refine ih (k + 1) q2 c2 X2 h2 (by omega) (fun z hz => ?_) ?_ (St.re s2 (by intro a; simp only [cntR_append, cntR_cons, cntR_nil, List.cons_append, List.nil_append, List.set_cons_zero, List.set_cons_succ]; omega))
      · rw [ht] at hz
        rcases List.mem_append.1 hz with hz | hz
        · exact ha z hz
        · simp at hz
          rcases hz with rfl | rfl
          · exact hx
          · exact hy
      · rw [ht, pairs_snoc k _ x y (by rw [List.length_take]; omega), byV_app]
        exact o2
theorem RBytes_of {h : Heap} {l : List UInt8} {K : Option Addr → Nat → Nat → Bool → Heap → Prop} (hl : l.length ≤ 2 ^ 20) (s : St h0 h R)
    (hk : ∀ h' q c X, Keeps h0 X q (byV (bytesB l)) → St h0 h' (X ++ R) → K q (bytesB l).length c (bytesO l) h') : straitref48_Bytes (str l) h K := by
  unfold straitref48_Bytes
  refine s.new_ (cs := [.slice none 0 0, .bool false]) fun t h1 s1 => ?_
  rw [toList_dot]
  simp -zeta only [add_mk, Nat.zero_add]
  by_cases c : l = [46]
  · subst c
    exact iteB_pos rfl (s1.st0 (by simp) fun h2 s2 => s2.st0 (by simp) fun h3 s3 => ⟨_, _, _, s3.rd0 0, _, s3.rd0 1, hk h3 none 0 [_] Keeps.nil s3⟩)
  · refine iteB_neg (by simp [c]) ⟨l.length / 2 + 1, ?_⟩
    have bad : bytesO l = false → ∀ h' X T, St h0 h' ((t, T) :: (X ++ R)) → T = [.slice none 0 0, .bool false] → (∃ (x9 : Option Addr) (x9l : Nat) (x9c : Nat), cell h' ⟨t, 0, none⟩ = some (.slice x9 x9l x9c) ∧ ∃ (x10 : Bool), cell h' ⟨t, 1, none⟩ = some (.bool x10) ∧ K x9 x9l x9c x10 h') := fun ho h' X T s' hT => by
      subst hT
      have e : bytesB l = [] := by unfold bytesB; rw [if_neg c, ho]; rfl
      have := hk h' none 0 ((t, [.slice none 0 0, .bool false]) :: X) (by rw [e]; exact Keeps.nil) s'
      rw [e, ho] at this
      exact ⟨_, _, _, s'.rd0 0, _, s'.rd0 1, this⟩
    refine rbytes_l0 (t := t) hl (fun h' X hn s' => bad ?_ h' X _ s' rfl) (fun h' q cc X hn o s' => ?_) (l.length / 2) 0 none 0 [] h1 (by omega) (by simp) (by simpa [byV, pairsB] using Own.nil) s1
    · unfold bytesO; rw [hn]; simp [c]
    · refine iteB_intro (fun e => ?_) fun e => ⟨by decide, iteB_intro (fun e2 => ?_) fun e2 => ?_⟩
      · have e : l = [] := by
          have e : ((str l).size : Int) = 0 := by simpa using e
          rw [str_size] at e
          exact List.length_eq_zero_iff.1 (by omega)
        refine s'.st0 (by simp) fun h2 s2 => s2.st0 (by simp) fun h3 s3 => bad (by rw [e]; rfl) h3 X _ s3 rfl
      · have e2 : ((str l).size : Int).tmod 2 = 1 := by simpa using e2
        rw [str_size, Int.tmod_eq_emod_of_nonneg (by omega)] at e2
        have ho : bytesO l = false := by
          have : ¬ l.length % 2 = 0 := by omega
          unfold bytesO
          simp [c, this]
        refine s'.st0 (by simp) fun h2 s2 => s2.st0 (by simp) fun h3 s3 => bad ho h3 X _ s3 rfl
      · have e0 : l ≠ [] := fun hh => by rw [hh] at e; simp [str_size] at e
        have e2 : ¬ ((str l).size : Int).tmod 2 = 1 := by simpa using e2
        rw [str_size, Int.tmod_eq_emod_of_nonneg (by omega)] at e2
        have h2 : l.length % 2 = 0 := by omega
        have e3 : 2 * (l.length / 2) = l.length := by omega
        rw [e3, List.take_length] at hn o
        have hnb : nibs l = true := by unfold nibs; rw [List.all_eq_true]; exact fun x hx => decide_eq_true (hn x hx)
        have ho : bytesO l = true := by unfold bytesO; rw [hnb]; simp [e0, h2]
        have eb : bytesB l = pairsB l := by unfold bytesB; rw [if_neg c, if_pos ho]
        have el : (pairsB l).length = l.length / 2 := pairs_len _ l (by omega)
        refine s'.st0 (by simp) fun h2 s2 => s2.st0 (by simp) fun h3 s3 => ?_
        have s3 : St h0 h3 ((t, [.slice q (l.length / 2) cc, .bool true]) :: (X ++ R)) := s3
        have := hk h3 q cc ((t, [.slice q (l.length / 2) cc, .bool true]) :: X) (by rw [eb]; exact o.keeps fun y hy => by simp [hy]) s3
        rw [eb, el, ho] at this
        exact ⟨_, _, _, s3.rd0 0, _, s3.rd0 1, this⟩
end
end Go.Proofs.YtmejnpadgbdhaaaGreatDoor
