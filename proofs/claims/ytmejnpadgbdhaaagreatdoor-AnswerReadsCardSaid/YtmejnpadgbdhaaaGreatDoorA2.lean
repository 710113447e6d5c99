/-
  Answers: bytes as digits, and back: the program's.
-/
import Derived.Test.YtmejnpadgbdhaaaGreatDoorA1
import Derived.Test.YtmejnpadgbdhaaaGreatDoorC2
import Derived.Test.YtmejnpadgbdhaaaGreatDoorE10
namespace Go.Proofs.YtmejnpadgbdhaaaGreatDoor
set_option linter.unusedVariables false
set_option linter.unusedSimpArgs false
set_option linter.unnecessarySimpa false
open Go.Proofs Go.Shelf Go.RowKit Go.Hp
attribute [local irreducible] Go.Hp.iteB Go.Hp.stC Go.Hp.newP
def byV (l : List UInt8) : List Value := l.map fun b => Value.int .u8 (b.toNat : Int)
theorem byV_len (l : List UInt8) : (byV l).length = l.length := by simp [byV]
theorem byV_get {l : List UInt8} {i : Nat} {x : UInt8} (h : l[i]? = some x) : (byV l)[i]? = some (.int .u8 (x.toNat : Int)) := by unfold byV; rw [List.getElem?_map, h]; rfl
theorem byV_app (a b : List UInt8) : byV (a ++ b) = byV a ++ byV b := by simp [byV]
theorem bytesAt_of {h : Heap} {q : Option Addr} {l : List UInt8} (v : valsAt h q (byV l)) : bytesAt h q l.length l := ⟨rfl, fun j b hj => v j _ (byV_get hj)⟩
theorem hex_digit (n : Fin 16) : (⟨#[48, 49, 50, 51, 52, 53, 54, 55, 56, 57, 97, 98, 99, 100, 101, 102]⟩ : ByteArray)[n.val]? = some (hx n.val) := by revert n; decide +kernel
theorem hi_nib (x : UInt8) : ((x.toNat : Int)).fdiv (2 ^ 4) = ((x.toNat / 16 : Nat) : Int) := by
  rw [Int.fdiv_eq_ediv_of_nonneg _ (by decide)]; omega
theorem lo_all : ∀ n : Fin 256, bits .and .u8 (n.val : Int) 15 = ((n.val % 16 : Nat) : Int) := by decide +kernel
theorem lo_nib (x : UInt8) : bits .and .u8 (x.toNat : Int) 15 = ((x.toNat % 16 : Nat) : Int) := lo_all ⟨x.toNat, x.toNat_lt⟩
section
variable {h0 : Base} {R : Rws}
theorem hex_l0 {K2 : Option Addr → Nat → Nat → Heap → Prop} {q : Option Addr} {c : Nat} {b : List UInt8} (kq : Keeps h0 R q (byV b)) (hb : b.length ≤ 2 ^ 20)
    (hk : ∀ h' q2 c2 X Y, Own q2 c2 (byV (hexF b)) X → St h0 h' (X ++ (Y ++ R)) → K2 q2 (hexF b).length c2 h') :
    ∀ (d i : Nat) (q2 : Option Addr) (c2 : Nat) (X Y : Rws) (h : Heap), i + d = b.length → Own q2 c2 (byV (hexF (b.take i))) X → St h0 h (X ++ (Y ++ R)) →
      command_Hex.l0 K2 (d + 1) q2 (hexF (b.take i)).length c2 q b.length c (b.length : Int) (i : Int) h := by
  intro d
  induction d with
  | zero =>
    intro i q2 c2 X Y h hi o s
    unfold command_Hex.l0 command_Hex.b0
    rw [List.take_of_length_le (by omega)] at o ⊢
    exact iteB_neg (decide_eq_false (by omega)) (hk h q2 c2 X Y o s)
  | succ d ih =>
    intro i q2 c2 X Y h hi o s
    unfold command_Hex.l0 command_Hex.b0
    obtain ⟨x, hx0⟩ := get_lt (l := b) (i := i) (by omega)
    obtain ⟨a, ha, g⟩ := kq h _ s (fun y hy => by simp [hy]) i _ (byV_get hx0)
    have hlt := x.toNat_lt
    have hlen : (hexF (b.take i)).length = 2 * i := by rw [hexF_len, List.length_take]; omega
    refine iteB_pos (decide_eq_true (by omega)) ?_
    rw [ha]
    simp -zeta only [chkP_some, Int.toNat_natCast, Nat.mul_one]
    rw [← ha]
    refine ⟨by omega, _, g, ?_⟩
    rw [hi_nib, lo_nib]
    refine ⟨by decide, by omega, _, by rw [Int.toNat_natCast]; exact hex_digit ⟨x.toNat / 16, by omega⟩, by omega, _, by rw [Int.toNat_natCast]; exact hex_digit ⟨x.toNat % 16, by omega⟩, ?_⟩
    refine s.new_ (cs := byV [hx (x.toNat / 16), hx (x.toNat % 16)]) fun g2 h2 s2 => ?_
    have s3 : St h0 h2 (X ++ ((g2, byV [hx (x.toNat / 16), hx (x.toNat % 16)]) :: Y ++ R)) := (St.re s2 (by intro a; simp only [cntR_append, cntR_cons, cntR_nil, List.cons_append, List.nil_append, List.set_cons_zero, List.set_cons_succ]; omega))
    have kg : Keeps h0 ((g2, byV [hx (x.toNat / 16), hx (x.toNat % 16)]) :: Y ++ R) (some ⟨g2, 0, none⟩) (byV [hx (x.toNat / 16), hx (x.toNat % 16)]) := Keeps.row (by simp)
    refine Own.pushAll o s3 (byV_len _).symm (kg h2 _ s3 fun y hy => by simp at hy ⊢; rcases hy with hy | hy | hy <;> simp [hy]) rfl rfl (fun v hv => by
      simp [byV] at hv
      rcases hv with rfl | rfl <;> rfl) (by rw [byV_len, hlen]; omega) fun q4 c4 X4 h4 o4 s4 => ?_
    rw [byV_len, wrap64 (by omega) (by omega)]
    rw [← byV_app, ← hexF_snoc, ← take_snoc hx0] at o4
    have hl4 : (hexF (b.take i)).length + 2 = (hexF (b.take (i + 1))).length := by rw [take_snoc hx0, hexF_snoc, List.length_append]; rfl
    rw [hl4]
    exact ih (i + 1) q4 c4 X4 _ h4 (by omega) o4 s4
theorem own_len {q : Option Addr} {c : Nat} {l : List Value} {X : Rws} (o : Own q c l X) : l.length ≤ c := by
  rcases o with ⟨_, rfl, rfl, _⟩ | ⟨b, z, _, rfl, _⟩
  · simp
  · simp
end
theorem u8_zero : ∀ n, zeroRow [Value.int .u8 0] n = List.replicate n (Value.int .u8 0)
  | 0 => rfl
  | n + 1 => by rw [zeroRow, u8_zero n, List.replicate_succ]; rfl
theorem Hex_of {h : Heap} {q : Option Addr} {c : Nat} {b : List UInt8} {K : ByteArray → Heap → Prop} (v : valsAt h q (byV b)) (hb : b.length ≤ 2 ^ 20) (hk : ∀ h', Ext h h' → K (str (hexL b)) h') : command_Hex q b.length c h K := by
  unfold command_Hex
  by_cases e : b = []
  · subst e
    exact iteB_pos rfl (hk h (Ext.refl h))
  · have hp : 0 < b.length := List.length_pos_iff.2 e
    have eh : hexL b = hexF b := by unfold hexL; rw [if_neg e]
    rw [eh] at hk
    rw [wrap64 (by omega) (by omega)]
    refine iteB_neg (by simp [e]) ⟨⟨by omega, by omega, by omega, by omega⟩, (St.refl h).new_ fun g h1 s1 => ⟨b.length + 1, ?_⟩⟩
    have o1 : Own (some ⟨g, 0, none⟩) (2 * (b.length : Int)).toNat (byV (hexF (b.take 0))) [(g, zeroRow [Value.int .u8 0] (2 * (b.length : Int)).toNat)] := .inr ⟨g, zeroRow [Value.int .u8 0] (2 * (b.length : Int)).toNat, rfl, by rw [u8_zero]; simp [byV, hexF], by simp [byV, hexF]⟩
    have := hex_l0 (h0 := (h : Base)) (R := []) (K2 := fun z4 z4l z4c h5 => ∃ l7 : List UInt8, bytesAt h5 z4 z4l l7 ∧ (K (⟨l7.toArray⟩ : ByteArray) h5)) (c := c) (Keeps.old v) hb (fun h2 q2 c2 X Y o s2 => ⟨hexF b, bytesAt_of (o.vals s2), hk h2 s2.ext⟩) b.length 0 _ _ _ [] h1 (by omega) o1 s1
    exact this
/-! ### Back -/
theorem index_all : ∀ n : Fin 256, Lib.indexByte hexD (UInt8.ofNat n.val) = if nib (UInt8.ofNat n.val) < 16 then (nib (UInt8.ofNat n.val) : Int) else -1 := by decide +kernel
theorem index_nib (c : UInt8) : Lib.indexByte hexD c = if nib c < 16 then (nib c : Int) else -1 := by
  have := index_all ⟨c.toNat, c.toNat_lt⟩
  simp only [UInt8.ofNat_toNat] at this
  exact this
theorem IndexByte_of {c : UInt8} {h : Heap} {K : Int → Heap → Prop} (hk : K (if nib c < 16 then (nib c : Int) else -1) h) :
    strings_IndexByte (⟨#[48, 49, 50, 51, 52, 53, 54, 55, 56, 57, 97, 98, 99, 100, 101, 102]⟩ : ByteArray) (c.toNat : Int) h K := by
  intro w hw
  subst hw
  refine ⟨enters_of Tryz.func36 (by kernel_rfl) rfl _ _, (Tryz.strings_IndexByte _ _ w).mono ?_⟩
  rintro e w' ⟨rfl, rfl⟩
  refine ⟨_, rfl, Out.refl _, ?_⟩
  have e1 : ((c.toNat : Int)).toNat.toUInt8 = c := by rw [Int.toNat_natCast]; exact UInt8.ofNat_toNat
  rw [e1]
  have e2 : (⟨#[48, 49, 50, 51, 52, 53, 54, 55, 56, 57, 97, 98, 99, 100, 101, 102]⟩ : ByteArray).data.toList = hexD := rfl
  rw [e2, index_nib]
  exact hk
theorem or_all : ∀ a n : Fin 16, bits .or .u8 (IntKind.u8.wrap ((a.val : Int) * 2 ^ 4)) (IntKind.u8.wrap (n.val : Int)) = ((16 * a.val + n.val : Nat) : Int) := by decide +kernel
def tabB (m : Nat) (f : Nat → Nat) : List Value := (List.range m).map fun j => Value.int .u8 (f j : Int)
theorem tabB_len (m : Nat) (f : Nat → Nat) : (tabB m f).length = m := by simp [tabB]
theorem tabB_get {m : Nat} {f : Nat → Nat} {j : Nat} (h : j < m) : (tabB m f)[j]? = some (.int .u8 (f j : Int)) := by
  unfold tabB; rw [List.getElem?_map, List.getElem?_range h]; rfl
theorem tabB_set {m : Nat} {f g : Nat → Nat} {k x : Nat} (hk : g k = x) (ho : ∀ j, j ≠ k → g j = f j) : (tabB m f).set k (.int .u8 (x : Int)) = tabB m g := by
  apply List.ext_getElem?
  intro j
  rw [List.getElem?_set]
  rcases Nat.lt_or_ge j m with hj | hj
  · split
    · rename_i e
      subst e
      rw [if_pos (by rw [tabB_len]; exact hj), tabB_get hj, hk]
    · rename_i e
      rw [tabB_get hj, tabB_get hj, ho j (fun h => e h.symm)]
  · rw [List.getElem?_eq_none (by rw [tabB_len]; exact hj), List.getElem?_eq_none (l := tabB m g) (by rw [tabB_len]; exact hj)]
    split
    · rename_i e
      rw [if_neg (by rw [tabB_len]; omega)]
    · rfl
def gB (l : List UInt8) (i j : Nat) : Nat := if 2 * j + 1 < i then 16 * nib (l.getD (2 * j) 0) + nib (l.getD (2 * j + 1) 0) else if 2 * j < i then nib (l.getD (2 * j) 0) else 0
theorem pairs_get : ∀ (m : Nat) (l : List UInt8), l.length = 2 * m → ∀ j, j < m → (pairsB l)[j]? = some (UInt8.ofNat (16 * nib (l.getD (2 * j) 0) + nib (l.getD (2 * j + 1) 0)))
  | 0, l, h, j, hj => by omega
  | m + 1, [], h, j, hj => by simp at h
  | m + 1, [x], h, j, hj => by simp at h; omega
  | m + 1, x :: y :: r, h, 0, hj => rfl
  | m + 1, x :: y :: r, h, j + 1, hj => by
    show (pairsB r)[j]? = _
    rw [pairs_get m r (by simp at h; omega) j (by omega)]
    rw [show 2 * (j + 1) = 2 * j + 1 + 1 by omega]
    rfl
theorem pairs_tab {l : List UInt8} {m : Nat} (h : l.length = 2 * m) (hn : nibs l = true) : tabB m (gB l (2 * m)) = byV (pairsB l) := by
  apply List.ext_getElem?
  intro j
  rcases Nat.lt_or_ge j m with hj | hj
  · have nb : ∀ k, k < l.length → nib (l.getD k 0) < 16 := fun k hk => by
      have := List.all_eq_true.1 hn (l.getD k 0) (by rw [List.getD_eq_getElem?_getD, List.getElem?_eq_getElem hk]; exact List.getElem_mem hk)
      exact of_decide_eq_true this
    have h1 := nb (2 * j) (by omega)
    have h2 := nb (2 * j + 1) (by omega)
    rw [tabB_get hj, byV_get (pairs_get m l h j hj), pair_nat h1 h2]
    unfold gB
    rw [if_pos (by omega)]
  · rw [List.getElem?_eq_none (by rw [tabB_len]; exact hj), List.getElem?_eq_none (by rw [byV_len, pairs_len m l h]; exact hj)]
section
variable {h0 : Base} {R : Rws}
theorem bytes_l0 {K0 : Option Addr → Nat → Nat → Bool → Heap → Prop} {K2 : Heap → Prop} {l : List UInt8} {b m : Nat} (hm : l.length = 2 * m) (hl : l.length ≤ 2 ^ 20)
    (hbad : ∀ h' cs, nibs l = false → St h0 h' ((b, cs) :: R) → K0 none 0 0 false h') (hk : ∀ h', nibs l = true → St h0 h' ((b, byV (pairsB l)) :: R) → K2 h') :
    ∀ (d i : Nat) (h : Heap), i + d = l.length → (∀ x ∈ l.take i, nib x < 16) → St h0 h ((b, tabB m (gB l i)) :: R) → command_Bytes.l0 K0 K2 (d + 1) (str l) ⟨b, 0, none⟩ m m (l.length : Int) (i : Int) h
  | 0, i, h, hi, ha, s => by
    unfold command_Bytes.l0 command_Bytes.b0
    rw [List.take_of_length_le (by omega)] at ha
    have hn : nibs l = true := by unfold nibs; rw [List.all_eq_true]; exact fun x hx => decide_eq_true (ha x hx)
    have e : i = 2 * m := by omega
    rw [e, pairs_tab hm hn] at s
    exact iteB_neg (decide_eq_false (by omega)) (hk h hn s)
  | d + 1, i, h, hi, ha, s => by
    unfold command_Bytes.l0 command_Bytes.b0
    obtain ⟨x, g1, g2⟩ := byte_at (s := str l) (i := i) (by rw [str_size]; omega)
    rw [bytes_str] at g2
    have t2 : (i : Int).tdiv 2 = ((i / 2 : Nat) : Int) := by rw [Int.tdiv_eq_ediv_of_nonneg (by omega)]; omega
    have hxi : l.getD i 0 = x := by rw [List.getD_eq_getElem?_getD, g2]; rfl
    refine iteB_pos (decide_eq_true (by omega)) ⟨by omega, x, by rw [Int.toNat_natCast]; exact g1, callP1.self (IndexByte_of ?_)⟩
    by_cases hn : nib x < 16
    · rw [if_pos hn, t2, wrap64 (x := ((i / 2 : Nat) : Int)) (by omega) (by omega)]
      refine iteB_neg (decide_eq_false (by omega)) ⟨by decide, by decide, by omega, _, by rw [add_mk, Nat.zero_add, Int.toNat_natCast, Nat.mul_one, s.rd0]; exact tabB_get (by omega), by decide, bindV_intro fun v hv => ⟨by omega, ?_⟩⟩
      rw [add_mk, Nat.zero_add, Int.toNat_natCast, Nat.mul_one]
      have hg : gB l i (i / 2) < 16 := by
        unfold gB
        rw [if_neg (by omega)]
        split
        · have hlt : 2 * (i / 2) < l.length := by omega
          refine ha _ ?_
          rw [List.getD_eq_getElem?_getD, List.getElem?_eq_getElem hlt, Option.getD_some]
          rw [List.mem_take_iff_getElem]
          exact ⟨2 * (i / 2), by omega, rfl⟩
        · omega
      have hv' : v = ((16 * gB l i (i / 2) + nib x : Nat) : Int) := by rw [hv]; exact or_all ⟨gB l i (i / 2), hg⟩ ⟨nib x, hn⟩
      rw [hv']
      refine s.st0 (by rw [tabB_len]; omega) fun h2 s2 => ?_
      rw [tabB_set (g := gB l (i + 1)) ?_ ?_] at s2
      · rw [wrap64 (by omega) (by omega)]
        refine bytes_l0 hm hl hbad hk d (i + 1) h2 (by omega) (fun y hy => ?_) s2
        rw [take_snoc g2] at hy
        rcases List.mem_append.1 hy with hy | hy
        · exact ha y hy
        · obtain rfl : y = x := by simpa using hy
          exact hn
      · unfold gB
        obtain ⟨k, hk'⟩ : ∃ k, i = 2 * k ∨ i = 2 * k + 1 := ⟨i / 2, by omega⟩
        rcases hk' with hk' | hk'
        · subst hk'
          have e2 : 2 * k / 2 = k := by omega
          rw [e2, if_neg (by omega), if_pos (by omega), if_neg (by omega), if_neg (by omega), hxi]; omega
        · subst hk'
          have e2 : (2 * k + 1) / 2 = k := by omega
          rw [e2, if_pos (by omega), if_neg (by omega), if_pos (by omega), hxi]
      · intro j hj
        unfold gB
        by_cases c1 : 2 * j + 1 < i
        · rw [if_pos c1, if_pos (by omega)]
        · rw [if_neg c1, if_neg (by omega)]
          by_cases c2 : 2 * j < i
          · rw [if_pos c2, if_pos (by omega)]
          · rw [if_neg c2, if_neg (by omega)]
    · rw [if_neg hn]
      refine iteB_pos rfl (hbad h _ ?_ s)
      unfold nibs
      rw [List.all_eq_false]
      exact ⟨x, List.mem_of_getElem? g2, by simpa using hn⟩
theorem toList_dot {l : List UInt8} : ((str l).toList == (⟨#[46]⟩ : ByteArray).toList) = decide (l = [46]) := by
  have e : (⟨#[46]⟩ : ByteArray).toList = [46] := toList_str [46]
  rw [toList_str, e]
  by_cases h : l = [46]
  · subst h; rfl
  · simp [h]
theorem Bytes_of {h : Heap} {l : List UInt8} {K : Option Addr → Nat → Nat → Bool → Heap → Prop} (hl : l.length ≤ 2 ^ 20) (s : St h0 h R)
    (hk : ∀ h' q c X, Keeps h0 X q (byV (bytesB l)) → St h0 h' (X ++ R) → K q (bytesB l).length c (bytesO l) h') : command_Bytes (str l) h K := by
  unfold command_Bytes
  rw [toList_dot]
  by_cases c : l = [46]
  · subst c
    exact iteB_pos rfl (hk h none 0 [] Keeps.nil s)
  · refine iteB_neg (by simp [c]) ?_
    have bad : bytesO l = false → ∀ h' X, St h0 h' (X ++ R) → K none 0 0 false h' := fun ho h' X s' => by
      have e : bytesB l = [] := by unfold bytesB; rw [if_neg c, ho]; rfl
      have := hk h' none 0 X (by rw [e]; exact Keeps.nil) s'
      rw [e, ho] at this; exact this
    intro j
    have J : l ≠ [] → l.length % 2 = 0 → j := fun h1 h2 => by
      simp -zeta only [j]
      clear j
      rw [str_size]
      have hp : 0 < l.length := List.length_pos_iff.2 h1
      have t2 : (l.length : Int).tdiv 2 = ((l.length / 2 : Nat) : Int) := by rw [Int.tdiv_eq_ediv_of_nonneg (by omega)]; omega
      rw [t2, wrap64 (by omega) (by omega), Int.toNat_natCast]
      have ho : bytesO l = nibs l := by unfold bytesO; simp [c, h1, h2]
      refine ⟨by decide, ⟨by omega, by omega, by omega, by omega⟩, s.new_ fun b h3 s3 => ⟨l.length + 1, ?_⟩⟩
      have e0 : zeroRow [Value.int .u8 0] (l.length / 2) = tabB (l.length / 2) (gB l 0) := by
        rw [u8_zero]
        unfold tabB
        apply List.ext_getElem?
        intro i
        rcases Nat.lt_or_ge i (l.length / 2) with hi | hi
        · rw [List.getElem?_replicate, if_pos hi, List.getElem?_map, List.getElem?_range hi]; rfl
        · rw [List.getElem?_eq_none (by simpa using hi), List.getElem?_eq_none (by simpa using hi)]
      rw [e0] at s3
      refine bytes_l0 (m := l.length / 2) (by omega) hl (fun h4 cs hn s4 => bad (by rw [ho]; exact hn) h4 [_] s4) (fun h4 hn s4 => ?_) l.length 0 h3 (by omega) (by simp) s3
      have e : bytesB l = pairsB l := by unfold bytesB; rw [if_neg c, if_pos (by rw [ho]; exact hn)]
      have el : (pairsB l).length = l.length / 2 := pairs_len _ l (by omega)
      have := hk h4 (some ⟨b, 0, none⟩) (l.length / 2) [(b, byV (pairsB l))] (by rw [e]; exact Keeps.row (by simp)) s4
      rw [e, el, ho, hn] at this
      exact this
    clear_value j
    rw [toList_nil_iff]
    refine iteB_intro (fun e => bad ?_ h [] s) fun e => ⟨by decide, iteB_intro (fun e2 => bad ?_ h [] s) fun e2 => J (by simpa using e) ?_⟩
    · have e : l = [] := by simpa using e
      subst e; rfl
    · have e2 := of_decide_eq_true e2
      rw [str_size, Int.tmod_eq_emod_of_nonneg (by omega)] at e2
      have : ¬ l.length % 2 = 0 := by omega
      unfold bytesO
      simp [c, this]
    · have e2 := of_decide_eq_false e2
      rw [str_size, Int.tmod_eq_emod_of_nonneg (by omega)] at e2
      omega
end
end Go.Proofs.YtmejnpadgbdhaaaGreatDoor
