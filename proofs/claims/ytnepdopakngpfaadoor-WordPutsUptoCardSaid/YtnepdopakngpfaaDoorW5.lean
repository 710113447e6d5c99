/-
  Texts: words, the program's and the document's.
-/
import Derived.Test.YtnepdopakngpfaaDoorW4
namespace Go.Proofs.YtnepdopakngpfaaDoor
set_option linter.unusedVariables false
set_option linter.unusedSimpArgs false
set_option linter.unnecessarySimpa false
open Go.Proofs Go.Shelf Go.RowKit Go.Hp
attribute [local irreducible] Go.Hp.iteB Go.Hp.stC Go.Hp.newP
/-- Is it a word? -/
def wdB (l : List UInt8) : Bool := !(decide (l = [])) && !(l.any spB)
theorem right_of {h : Heap} {l : List UInt8} {K : Bool → Heap → Prop} (hl : l.length ≤ 2 ^ 20) (hk : ∀ h', Ext h h' → K (wdB l) h') : word_right (str l) h K := by
  unfold word_right
  rw [toList_nil_iff]
  by_cases c : l = []
  · have : wdB l = false := by unfold wdB; simp [c]
    rw [this] at hk
    exact iteB_neg (by simp [c]) (hk h (Ext.refl h))
  · refine iteB_pos (by simp [c]) (callP1.self ?_)
    unfold strings_ContainsAny
    refine callP1.self (IndexAny_of (by rw [str_size]; omega) fun n h' hn e => ?_)
    rw [bytes_str] at hn
    have : (!(decide (n ≥ 0))) = wdB l := by
      unfold wdB
      rw [← hn]
      simp [c]
    rw [this]
    exact hk h' e
theorem wrong_of {h : Heap} {l : List UInt8} {K : Bool → Heap → Prop} (hl : l.length ≤ 2 ^ 20) (hk : ∀ h', Ext h h' → K (!wdB l) h') : word_Words_c1 (str l) h K := by
  unfold word_Words_c1
  exact callP1.self (right_of hl hk)
theorem split_eq (L : List UInt8) : Lib.splitB ⟨#[32]⟩ 0 (Lib.countB (str L) ⟨#[32]⟩) (str L) = (segA 32 [] L).map str := by
  have h1 := Lib.splitB_data ⟨#[32]⟩ 0 (Lib.countB (str L) ⟨#[32]⟩) (str L)
  have h2 : Lib.countB (str L) ⟨#[32]⟩ = L.count 32 := Lib.count_one 32 L
  have h3 : (⟨#[32]⟩ : ByteArray).data.toList = [32] := rfl
  have h4 : (str L).data.toList = L := rfl
  rw [h3, h4, h2, splitK_segs 32 _ L rfl] at h1
  rw [h2]
  have h5 := congrArg (List.map str) h1
  rw [List.map_map] at h5
  rw [← h5]
  exact (List.map_id _).symm
section
variable {h0 : Base} {R : Rws}
theorem any_l0 {K0 : Int → Heap → Prop} {K2 : Heap → Prop} {q : Option Addr} {c : Nat} {ls : List (List UInt8)} (kq : Keeps h0 R q (strV ls)) (hn : ls.length ≤ 2 ^ 40) (hl : ∀ l ∈ ls, l.length ≤ 2 ^ 20)
    (hbad : ∀ n h', (0 : Int) ≤ n → ls.all wdB = false → St h0 h' R → K0 n h') (hk : ∀ h', ls.all wdB = true → St h0 h' R → K2 h') :
    ∀ (d i : Nat) (h : Heap), i + d = ls.length → (∀ l ∈ ls.take i, wdB l = true) → St h0 h R → slices_IndexFunc_Lstring_string_word_Words_c1.l0 K0 K2 (d + 1) q ls.length c (ls.length : Int) (i : Int) h
  | 0, i, h, hi, hb, s => by
    unfold slices_IndexFunc_Lstring_string_word_Words_c1.l0 slices_IndexFunc_Lstring_string_word_Words_c1.b0
    rw [List.take_of_length_le (by omega)] at hb
    exact iteB_neg (decide_eq_false (by omega)) (hk h (List.all_eq_true.2 hb) s)
  | d + 1, i, h, hi, hb, s => by
    unfold slices_IndexFunc_Lstring_string_word_Words_c1.l0 slices_IndexFunc_Lstring_string_word_Words_c1.b0
    obtain ⟨x, hx⟩ := get_lt (l := ls) (i := i) (by omega)
    obtain ⟨a, ha, g⟩ := kq h R s (fun _ h => h) i (.string (str x)) (by unfold strV; rw [List.getElem?_map, hx]; rfl)
    refine iteB_pos (decide_eq_true (by omega)) ?_
    rw [ha]
    simp -zeta only [chkP_some, Int.toNat_natCast, Nat.mul_one]
    rw [← ha]
    refine ⟨by omega, _, g, callP1.self (wrong_of (hl x (List.mem_of_getElem? hx)) fun h' e => iteB_intro (fun e2 => ?_) fun e2 => ?_)⟩
    · refine hbad _ h' (by omega) ?_ (s.ofExt e)
      rw [List.all_eq_false]
      exact ⟨x, List.mem_of_getElem? hx, by simpa using e2⟩
    · rw [wrap64 (by omega) (by omega)]
      refine any_l0 kq hn hl hbad hk d (i + 1) h' (by omega) (fun l hl' => ?_) (s.ofExt e)
      rw [take_snoc hx] at hl'
      rcases List.mem_append.1 hl' with hl' | hl'
      · exact hb l hl'
      · have : l = x := by simpa using hl'
        rw [this]; simpa using e2
theorem segA_lens (c : UInt8) (n : Nat) : ∀ (l acc : List UInt8), acc.length + l.length ≤ n → (∀ x ∈ segA c acc l, x.length ≤ n) ∧ (segA c acc l).length ≤ l.length + 1
  | [], acc, h => by simp [segA] at *; omega
  | b :: l, acc, h => by
    rw [segA_cons]
    simp at h
    by_cases e : b = c
    · rw [if_pos e]
      obtain ⟨h1, h2⟩ := segA_lens c n l [] (by simp; omega)
      refine ⟨fun x hx => ?_, by simp; omega⟩
      rcases List.mem_cons.1 hx with rfl | hx
      · omega
      · exact h1 x hx
    · rw [if_neg e]
      obtain ⟨h1, h2⟩ := segA_lens c n l (acc ++ [b]) (by simp; omega)
      exact ⟨h1, by simp; omega⟩
theorem Words_of {h : Heap} {L : List UInt8} {K : Option Addr → Nat → Nat → Bool → Heap → Prop} (hm : MaxThere h0.heap) (hL : L.length ≤ 2 ^ 20) (s : St h0 h R)
    (h1 : L = [] → K none 0 0 true h) (h2 : L ≠ [] → (segA 32 [] L).all wdB = false → ∀ h' Y, St h0 h' (Y ++ R) → K none 0 0 false h')
    (hk : L ≠ [] → (segA 32 [] L).all wdB = true → ∀ h' b, St h0 h' ((b, strV (segA 32 [] L)) :: R) → K (some ⟨b, 0, none⟩) (segA 32 [] L).length (segA 32 [] L).length true h') : word_Words (str L) h K := by
  unfold word_Words
  rw [toList_nil_iff]
  by_cases c : L = []
  · exact iteB_pos (by simp [c]) (h1 c)
  · refine iteB_neg (by simp [c]) (callP3.self (Split_of (by rw [str_size]; omega) (hm.ext s.ext) (by decide) ?_))
    have hlen : Lib.countB (str L) ⟨#[32]⟩ + 1 = (segA 32 [] L).length := by
      have := Lib.splitB_all ⟨#[32]⟩ (by decide) 0 _ (str L) rfl
      rw [split_eq, List.length_map] at this
      exact this.symm
    rw [hlen, split_eq, ← strV_map]
    obtain ⟨g1, g2⟩ := segA_lens 32 L.length L [] (by simp)
    refine s.new_ fun b h3 s3 => callP1.self ?_
    unfold slices_ContainsFunc_Lstring_string_word_Words_c1
    refine callP1.self ?_
    unfold slices_IndexFunc_Lstring_string_word_Words_c1
    refine ⟨(segA 32 [] L).length + 1, any_l0 (R := (b, strV (segA 32 [] L)) :: R) (Keeps.row (by simp)) (by omega) (fun l hl => by have := g1 l hl; omega) (fun n h4 hn hb s4 => ?_) (fun h4 hb s4 => ?_) (segA 32 [] L).length 0 h3 (by omega) (by simp) s3⟩
    · exact iteB_pos (decide_eq_true (by omega)) (h2 c hb h4 [_] s4)
    · exact iteB_neg (by decide) (hk c hb h4 b s4)
/-! ### The document's -/
theorem rword_l0 {h : Heap} {K0 : Bool → Heap → Prop} {K2 : Heap → Prop} {l : List UInt8} (hl : l.length ≤ 2 ^ 20) (hbad : l.any spB = true → K0 false h) (hk : l.any spB = false → K2 h) :
    ∀ (d i : Nat), i + d = l.length → (∀ b ∈ l.take i, spB b = false) → straitref07_word.l0 K0 K2 (d + 1) (str l) (i : Int) h
  | 0, i, hi, hb => by
    unfold straitref07_word.l0 straitref07_word.b0
    rw [str_size]
    rw [List.take_of_length_le (by omega)] at hb
    refine iteB_neg (decide_eq_false (by omega)) (hk ?_)
    rw [List.any_eq_false]
    intro b hm; rw [hb b hm]; decide
  | d + 1, i, hi, hb => by
    unfold straitref07_word.l0 straitref07_word.b0
    rw [str_size]
    obtain ⟨b, g1, g2⟩ := byte_at (s := str l) (i := i) (by rw [str_size]; omega)
    rw [bytes_str] at g2
    have bad : spB b = true → K0 false h := fun hp => hbad (List.any_eq_true.2 ⟨b, List.mem_of_getElem? g2, hp⟩)
    have n10 : b.toNat = 10 → b = 10 := fun h => UInt8.toNat_inj.1 (show b.toNat = (10 : UInt8).toNat from h)
    have n32 : b.toNat = 32 → b = 32 := fun h => UInt8.toNat_inj.1 (show b.toNat = (32 : UInt8).toNat from h)
    refine iteB_pos (decide_eq_true (by omega)) ⟨by omega, b, by rw [Int.toNat_natCast]; exact g1, iteB_intro (fun e => bad ?_) fun e => ⟨by omega, b, by rw [Int.toNat_natCast]; exact g1, iteB_intro (fun e2 => bad ?_) fun e2 => ?_⟩⟩
    · have e : (b.toNat : Int) = 10 := by simpa using e
      rw [n10 (by omega)]; rfl
    · have e2 : (b.toNat : Int) = 32 := by simpa using e2
      rw [n32 (by omega)]; rfl
    · have e : ¬ b = 10 := fun hb => by subst hb; simp at e
      have e2 : ¬ b = 32 := fun hb => by subst hb; simp at e2
      rw [wrap64 (by omega) (by omega)]
      refine rword_l0 hl hbad hk d (i + 1) (by omega) fun b' hm => ?_
      rw [take_snoc g2] at hm
      rcases List.mem_append.1 hm with hm | hm
      · exact hb b' hm
      · have : b' = b := by simpa using hm
        rw [this]; unfold spB; simp [e, e2]
theorem Rword_of {h : Heap} {K : Bool → Heap → Prop} {l : List UInt8} (hl : l.length ≤ 2 ^ 20) (hk : K (wdB l) h) : straitref07_word (str l) h K := by
  unfold straitref07_word
  refine ⟨l.length + 1, rword_l0 hl (fun e => ?_) (fun e => ?_) l.length 0 (by omega) (by simp)⟩
  · have : wdB l = false := by unfold wdB; rw [e]; simp
    rw [this] at hk; exact hk
  · rw [str_size]
    have : decide ((l.length : Int) > 0) = wdB l := by
      unfold wdB; rw [e]
      cases l <;> simp
    rw [this]; exact hk
theorem rwords_l0 {K0 : Heap → Prop} {K2 : Option Addr → Nat → Nat → Heap → Prop} {L : List UInt8} {t : Nat} {v0 : List Value} (hL : L.length ≤ 2 ^ 20) (hne : L ≠ []) (hv0 : v0.length = 2)
    (hbad : (segA 32 [] L).all wdB = false → ∀ h' X, St h0 h' ((t, [.slice none 0 0, .bool false]) :: (X ++ R)) → K0 h')
    (hk : (segA 32 [] L).all wdB = true → ∀ h' q cap X, Own q cap (strV (segA 32 [] L)) X → St h0 h' ((t, v0) :: (X ++ R)) → K2 q (segA 32 [] L).length cap h') :
    ∀ (d i f : Nat) (q : Option Addr) (cap : Nat) (X : Rws) (done : List (List UInt8)) (h : Heap), i + d = L.length + 1 → done.length ≤ i → (∀ l ∈ done, wdB l = true) →
      ((i ≤ L.length ∧ f ≤ i ∧ done ++ segA 32 ((L.take i).drop f) (L.drop i) = segA 32 [] L) ∨ (i = L.length + 1 ∧ done = segA 32 [] L)) → Own q cap (strV done) X → St h0 h ((t, v0) :: (X ++ R)) →
      straitref07_Words.l0 K0 K2 (d + 1) (str L) ⟨t, 0, none⟩ q done.length cap (f : Int) (i : Int) h := by
  intro d
  induction d with
  | zero =>
    intro i f q cap X done h hi hdl hw he o s
    unfold straitref07_Words.l0 straitref07_Words.b0
    intro j
    rw [str_size]
    obtain ⟨_, rfl⟩ := he.resolve_left (by omega)
    exact iteB_neg (decide_eq_false (by omega)) (hk (List.all_eq_true.2 hw) h q cap X o s)
  | succ d ih =>
    intro i f q cap X done h hi hdl hw he o s
    unfold straitref07_Words.l0 straitref07_Words.b0
    obtain ⟨hiL, hf, he⟩ := he.resolve_right (by omega)
    have hpos : 0 < L.length := List.length_pos_iff.2 hne
    intro j
    rw [str_size]
    refine iteB_pos (decide_eq_true (by omega)) (iteB_pos (decide_eq_true (by omega)) ?_)
    simp -zeta only [j]
    clear j
    intro j
    have hseg : ((L.take i).drop f).length ≤ 2 ^ 20 := by simp; omega
    have JT : (∀ rest, segA 32 ((L.take i).drop f) (L.drop i) = ((L.take i).drop f) :: rest → (i = L.length ∧ rest = []) ∨ (i < L.length ∧ rest = segA 32 [] (L.drop (i + 1))) → j true) := fun rest hr hcase => by
      simp -zeta only [j]
      refine iteB_pos rfl ?_
      rw [str_size]
      refine ⟨by omega, by omega, ?_⟩
      rw [Int.toNat_natCast, Int.toNat_natCast, extract_str, bytes_str]
      rw [hr] at he
      refine qcallP1.of _ (fun Q hQ => Rword_of hseg hQ) (iteB_intro (fun e => ?_) fun e => ?_)
      · have e : wdB ((L.take i).drop f) = false := by simpa using e
        refine s.st0 (by omega) fun h2 s2 => ?_
        rw [add_mk, Nat.zero_add]
        refine s2.st0 (by simp; omega) fun h3 s3 => hbad ?_ h3 X ?_
        · rw [List.all_eq_false]
          exact ⟨(L.take i).drop f, by rw [← he]; simp, by rw [e]; decide⟩
        · match v0, hv0, s3 with
          | [x, y], _, s3 => exact s3
      · have e : wdB ((L.take i).drop f) = true := by simpa using e
        refine ⟨by omega, by omega, ?_⟩
        have s' : St h0 h (X ++ ((t, v0) :: R)) := (St.re s (by intro a; simp only [cntR_append, cntR_cons, cntR_nil, List.cons_append, List.nil_append, List.set_cons_zero, List.set_cons_succ]; omega))
        refine Own.push1 o s' (strV_len done).symm rfl (by rw [strV_len]; omega) fun q2 c2 X2 h2 o2 s2 => ?_
        rw [strV_len, wrap64 (by omega) (by omega)]
        have := ih (i + 1) (i + 1) q2 c2 X2 (done ++ [(L.take i).drop f]) h2 (by omega) (by simp; omega) (fun l hl => by
          rcases List.mem_append.1 hl with hl | hl
          · exact hw l hl
          · have : l = (L.take i).drop f := by simpa using hl
            rw [this]; exact e) (by
          rcases hcase with ⟨h1, rfl⟩ | ⟨h1, rfl⟩
          · exact .inr ⟨by omega, he⟩
          · refine .inl ⟨by omega, Nat.le_refl _, ?_⟩
            rw [← he, List.drop_of_length_le (l := L.take (i + 1)) (i := i + 1) (by simp; omega)]; simp) (by rw [← strV_snoc]; exact o2) (St.re s2 (by intro a; simp only [cntR_append, cntR_cons, cntR_nil, List.cons_append, List.nil_append, List.set_cons_zero, List.set_cons_succ]; omega))
        rw [List.length_append] at this
        exact this
    have JF : ∀ b, L[i]? = some b → b ≠ 32 → j false := fun b g hb => by
      simp -zeta only [j]
      refine iteB_neg rfl ?_
      rw [wrap64 (by omega) (by omega)]
      have hd : L.drop i = b :: L.drop (i + 1) := drop_cons g
      have hlt := lt_get g
      refine ih (i + 1) f q cap X done h (by omega) (by omega) hw (.inl ⟨by omega, by omega, ?_⟩) o s
      rw [← he, hd, segA_cons, if_neg hb, take_snoc g, List.drop_append_of_le_length (by simp; omega)]
    clear_value j
    refine iteB_intro (fun e => ?_) fun e => ?_
    · have e : i = L.length := by have e : (i : Int) = (L.length : Int) := by simpa [str_size] using e
                                  omega
      exact JT [] (by rw [List.drop_of_length_le (l := L) (i := i) (by omega)]; rfl) (.inl ⟨e, rfl⟩)
    · have e : i < L.length := by have e : ¬ (i : Int) = (L.length : Int) := by simpa [str_size] using e
                                  omega
      obtain ⟨b, g1, g2⟩ := byte_at (s := str L) (i := i) (by rw [str_size]; omega)
      rw [bytes_str] at g2
      refine ⟨by omega, b, by rw [Int.toNat_natCast]; exact g1, ?_⟩
      by_cases hb : b = 32
      · have : ((b.toNat : Int) == 32) = true := by subst hb; rfl
        rw [this]
        refine JT (segA 32 [] (L.drop (i + 1))) ?_ (.inr ⟨e, rfl⟩)
        rw [drop_cons g2, segA_cons, if_pos hb]
      · have : ((b.toNat : Int) == 32) = false := by
          have : ¬ b.toNat = 32 := fun h => hb (UInt8.toNat_inj.1 (show b.toNat = (32 : UInt8).toNat from h))
          simp; omega
        rw [this]
        exact JF b g2 hb
end
end Go.Proofs.YtnepdopakngpfaaDoor
