/-
  Numbers in digits: the document's form and Parse.
-/
import Derived.Test.YtmejnpadgbdhaaaGreatDoorE10
namespace Go.Proofs.YtmejnpadgbdhaaaGreatDoor
set_option linter.unusedVariables false
set_option linter.unusedSimpArgs false
set_option linter.unnecessarySimpa false
open Go.Proofs Go.Shelf Go.RowKit Go.Hp
attribute [local irreducible] Go.Hp.iteB Go.Hp.stC Go.Hp.newP
theorem rform_l0 {h : Heap} {K0 : Bool → Heap → Prop} {K2 : Heap → Prop} {l : List UInt8} (hl : l.length ≤ 2 ^ 40) (hb : l.all dgB = false → K0 false h) (hk : l.all dgB = true → K2 h) :
    ∀ (d i : Nat), i + d = l.length → (∀ b ∈ l.take i, dgB b = true) → straitref06_form.l0 K0 K2 (d + 1) (str l) (i : Int) h
  | 0, i, hi, ha => by
    unfold straitref06_form.l0 straitref06_form.b0
    rw [str_size]
    rw [List.take_of_length_le (by omega)] at ha
    exact iteB_neg (decide_eq_false (by omega)) (hk (List.all_eq_true.2 ha))
  | d + 1, i, hi, ha => by
    unfold straitref06_form.l0 straitref06_form.b0
    obtain ⟨b, g1, g2⟩ := byte_at (s := str l) (i := i) (by rw [str_size]; omega)
    rw [bytes_str] at g2
    have bad : dgB b = false → K0 false h := fun hp => hb (by rw [List.all_eq_false]; exact ⟨b, List.mem_of_getElem? g2, by rw [hp]; decide⟩)
    rw [str_size]
    refine iteB_pos (decide_eq_true (by omega)) ⟨by omega, b, by rw [Int.toNat_natCast]; exact g1, iteB_intro (fun e => bad ?_) fun e => ⟨by omega, b, by rw [Int.toNat_natCast]; exact g1, iteB_intro (fun e2 => bad ?_) fun e2 => ?_⟩⟩
    · have e := of_decide_eq_true e
      cases hd : dgB b with
      | false => rfl
      | true => have := dg_iff.1 hd; omega
    · have e2 := of_decide_eq_true e2
      cases hd : dgB b with
      | false => rfl
      | true => have := dg_iff.1 hd; omega
    · have e := of_decide_eq_false e
      have e2 := of_decide_eq_false e2
      rw [wrap64 (by omega) (by omega)]
      refine rform_l0 hl hb hk d (i + 1) (by omega) fun b' hm => ?_
      rw [take_snoc g2] at hm
      rcases List.mem_append.1 hm with hm | hm
      · exact ha b' hm
      · obtain rfl : b' = b := by simpa using hm
        exact dg_iff.2 (by omega)
theorem n48 {b : UInt8} : ((b.toNat : Int) != 48) = (b != 48) := by
  by_cases h : b = 48
  · subst h; rfl
  · have : ¬ b.toNat = 48 := fun e => h (UInt8.toNat_inj.1 e)
    have h1 : ((b.toNat : Int) != 48) = true := by simp; omega
    have h2 : (b != 48) = true := by simp [h]
    rw [h1, h2]
theorem toList_zero {l : List UInt8} : ((str l).toList == (⟨#[48]⟩ : ByteArray).toList) = (l == [48]) := by
  have e : (⟨#[48]⟩ : ByteArray).toList = [48] := toList_str [48]
  rw [toList_str, e]
theorem RForm_of {l : List UInt8} {h : Heap} {K : Bool → Heap → Prop} (hl : l.length ≤ 2 ^ 40) (hk : K (formL l) h) : straitref06_form (str l) h K := by
  unfold straitref06_form
  intro j
  have J : ∀ x : List UInt8, x.length ≤ 2 ^ 40 → K (natB x) h → j (str x) := fun x hx hkx => by
    simp -zeta only [j]
    clear j
    refine ⟨x.length + 1, rform_l0 hx (fun e => ?_) (fun e => ?_) x.length 0 (by omega) (by simp)⟩
    · have : natB x = false := by unfold natB; rw [e]; rfl
      rw [this] at hkx; exact hkx
    · rw [str_size, toList_zero]
      match x, hx, hkx, e with
      | [], _, hkx, _ => exact iteB_neg rfl hkx
      | c :: r, _, hkx, e =>
        refine iteB_pos (decide_eq_true (by simp <;> omega)) (iteB_intro (fun e2 => ?_) fun e2 => ⟨by decide, c, ?_, ?_⟩)
        · have : natB (c :: r) = true := by unfold natB; rw [e, e2]; rfl
          rw [this] at hkx; exact hkx
        · have := byte_at (s := str (c :: r)) (i := 0) (by rw [str_size]; simp)
          obtain ⟨b, g1, g2⟩ := this
          obtain rfl : c = b := by simpa [bytes_str] using g2
          exact g1
        · have : natB (c :: r) = (c != 48) := by unfold natB; rw [e, e2]; simp
          rw [this] at hkx
          rw [n48]; exact hkx
  clear_value j
  rw [str_size]
  match l, hl, hk with
  | [], _, hk => exact iteB_neg rfl (J [] (by simp) hk)
  | c :: r, hl, hk =>
    refine iteB_pos (decide_eq_true (by simp <;> omega)) ⟨by decide, c, ?_, ?_⟩
    · obtain ⟨b, g1, g2⟩ := byte_at (s := str (c :: r)) (i := 0) (by rw [str_size]; simp)
      obtain rfl : c = b := by simpa [bytes_str] using g2
      exact g1
    · rw [n45]
      refine iteB_intro (fun e => ⟨⟨by decide, by simp; omega⟩, ?_⟩) fun e => ?_
      · have e : c = 45 := by simpa using e
        subst e
        have hx : (str (45 :: r)).extract (1 : Int).toNat (str (45 :: r)).size = str r := by
          rw [extract_str, bytes_str, str_size, List.take_length]; rfl
        rw [str_size] at hx
        have hF : formL (45 :: r) = (natB r && r != [48]) := by unfold formL; rw [if_pos (show (45 :: r).head? = some 45 from rfl)]; rfl
        rw [hF] at hk
        rw [hx, toList_zero]
        refine iteB_intro (fun e2 => ?_) fun e2 => J r (by simp at hl; omega) ?_
        · have e2 : r = [48] := by simpa using e2
          subst e2
          exact hk
        · have e2 : (r != [48]) = true := by simpa using e2
          rw [e2, Bool.and_true] at hk
          exact hk
      · have e : ¬ c = 45 := by simpa using e
        have hF : formL (c :: r) = natB (c :: r) := by unfold formL; rw [if_neg (by simp [e])]
        rw [hF] at hk
        exact J (c :: r) hl hk
theorem rparse_l0 {h : Heap} {K2 : Int → Heap → Prop} {l : List UInt8} {a : Addr} {low : Bool} (hl : l.length ≤ 2 ^ 40) (hd : ∀ b ∈ l, b ≠ 45 → dgB b = true)
    (hk : ∀ v, (sgnI low (valN 0 (bodyL l)) - v) % 18446744073709551616 = 0 → inR v = true → K2 v h) :
    ∀ (d i : Nat) (v : Int), i + d = l.length → (sgnI low (valN 0 (bodyL (l.take i))) - v) % 18446744073709551616 = 0 → inR v = true → straitref06_Parse.l0 K2 (d + 1) (str l) a v low (i : Int) h
  | 0, i, v, hi, hv, hr => by
    unfold straitref06_Parse.l0 straitref06_Parse.b0
    rw [str_size]
    rw [List.take_of_length_le (by omega)] at hv
    exact iteB_neg (decide_eq_false (by omega)) (hk v hv hr)
  | d + 1, i, v, hi, hv, hr => by
    unfold straitref06_Parse.l0 straitref06_Parse.b0
    obtain ⟨b, g1, g2⟩ := byte_at (s := str l) (i := i) (by rw [str_size]; omega)
    rw [bytes_str] at g2
    rw [str_size]
    refine iteB_pos (decide_eq_true (by omega)) ⟨by omega, b, by rw [Int.toNat_natCast]; exact g1, iteB_intro (fun e => ?_) fun e => ?_⟩
    · have e : ((b.toNat : Int) == 45) = false := by simpa [bne] using e
      rw [n45] at e
      have e : b ≠ 45 := by simpa using e
      have hg := dg_iff.1 (hd b (List.mem_of_getElem? g2) e)
      refine ⟨by omega, b, by rw [Int.toNat_natCast]; exact g1, ?_⟩
      rw [u8wrap (by omega) (by omega), wrap64 (x := (b.toNat : Int) - 48) (by omega) (by omega)]
      have ht : bodyL (l.take (i + 1)) = bodyL (l.take i) ++ [b] := by
        unfold bodyL
        rw [take_snoc g2, List.filter_append]; simp [e]
      have hV : valN 0 (bodyL (l.take (i + 1))) = valN 0 (bodyL (l.take i)) * 10 + (b.toNat - 48) := by
        rw [ht, valN_app, valN_cons]; rfl
      generalize valN 0 (bodyL (l.take i)) = x at hv hV
      refine bindV_intro fun m hm => iteB_intro (fun e2 => bindV_intro fun m2 hm2 => ?_) fun e2 => bindV_intro fun m2 hm2 => ?_
      · rw [hm, wrap64 (x := 0 - ((b.toNat : Int) - 48)) (by omega) (by omega), wrap_i64_eq, wrap_i64_eq] at hm2
        subst e2
        rw [wrap64 (by omega) (by omega)]
        refine rparse_l0 hl hd hk d (i + 1) m2 (by omega) ?_ (inR_iff.2 (by omega))
        rw [hV]
        unfold sgnI at hv ⊢
        rw [if_pos rfl] at hv ⊢
        omega
      · rw [hm, wrap_i64_eq, wrap_i64_eq] at hm2
        subst e2
        rw [wrap64 (by omega) (by omega)]
        refine rparse_l0 hl hd hk d (i + 1) m2 (by omega) ?_ (inR_iff.2 (by omega))
        rw [hV]
        unfold sgnI at hv ⊢
        rw [if_neg (by decide)] at hv ⊢
        omega
    · have e : ((b.toNat : Int) == 45) = true := by simpa [bne] using e
      rw [n45] at e
      have e : b = 45 := by simpa using e
      rw [wrap64 (by omega) (by omega)]
      refine rparse_l0 hl hd hk d (i + 1) v (by omega) ?_ hr
      have ht : bodyL (l.take (i + 1)) = bodyL (l.take i) := by
        unfold bodyL
        rw [take_snoc g2, List.filter_append]; simp [e]
      rw [ht]; exact hv
theorem RParse_of {l : List UInt8} {h : Heap} {K : Int → Int → Heap → Prop} (hl : l.length ≤ 2 ^ 40) (hk : ∀ h', Ext h h' → K (parN l) (parE l) h') : straitref06_Parse (str l) h K := by
  unfold straitref06_Parse
  refine (St.refl h).new_ fun t h1 s1 => qcallP1.of _ (fun Q hQ => RForm_of hl hQ) (iteB_intro (fun e => ?_) fun e => ?_)
  · have e : formL l = false := by simpa using e
    obtain ⟨g1, g2⟩ := par_no e
    rw [g1, g2] at hk
    refine s1.st0 (by simp) fun h2 s2 => ?_
    rw [add_mk, Nat.zero_add]
    exact s2.st0 (by simp) fun h3 s3 => ⟨_, s3.rd0 0, _, s3.rd0 1, hk h3 s3.ext⟩
  · have e : formL l = true := by simpa using e
    obtain ⟨c, r, hcr, hv, hd⟩ := form_parts e
    refine ⟨by decide, c, ?_, ?_⟩
    · obtain ⟨b, g1, g2⟩ := byte_at (s := str l) (i := 0) (by rw [str_size, hcr]; simp)
      have : c = b := by rw [bytes_str, hcr] at g2; simpa using g2
      rw [this]; exact g1
    · rw [n45]
      have out : inR (valI l) = false → ∀ h2 R, St (h : Base) h2 ((t, [.int .i64 0, .int .i64 0]) :: R) → (stC h2 ⟨t, 0, none⟩ (.int .i64 0) fun h5 => stC h5 ((⟨t, 0, none⟩ : Addr).add 1) (.int .i64 10) fun h6 => (∃ (x7 : Int), cell h6 ⟨t, 0, none⟩ = some (.int .i64 x7) ∧ ∃ (x8 : Int), cell h6 ((⟨t, 0, none⟩ : Addr).add 1) = some (.int .i64 x8) ∧ K x7 x8 h6)) := fun hi h2 R s2 => by
        obtain ⟨g1, g2⟩ := par_out e hi
        rw [g1, g2] at hk
        refine s2.st0 (by simp) fun h3 s3 => ?_
        rw [add_mk, Nat.zero_add]
        exact s3.st0 (by simp) fun h4 s4 => ⟨_, s4.rd0 0, _, s4.rd0 1, hk h4 s4.ext⟩
      refine ⟨l.length + 1, rparse_l0 (low := c == 45) hl hd (fun v hm hr => ?_) l.length 0 0 (by omega) ?_ (by decide)⟩
      · rw [hv] at hm
        obtain ⟨w1, w2⟩ := wrap_itoa (w := v) e hr ⟨(valI l - v) / 18446744073709551616, by omega⟩
        rw [str_size]
        refine iteB_intro (fun e2 => out (form_long e (by have e2 := of_decide_eq_true e2; omega)) h1 [] s1) fun e2 => ?_
        obtain ⟨r0, r1⟩ := inR_iff.1 hr
        refine callP1.self (RPrint_of r0 r1 fun h2 e2 => ?_)
        rw [toList_str, toList_str]
        have s2 := s1.ofExt e2
        refine iteB_intro (fun e3 => out ?_ h2 [] s2) fun e3 => ?_
        · cases hi : inR (valI l) with
          | false => rfl
          | true => rw [w1.2 hi] at e3; simp at e3
        · have e3 : Lib.itoa v = l := by simpa using e3
          have hi := w1.1 e3
          obtain ⟨g1, g2⟩ := par_ok e hi
          rw [g1, g2, ← w2 hi] at hk
          refine s2.st0 (by simp) fun h3 s3 => ?_
          rw [add_mk, Nat.zero_add]
          exact s3.st0 (by simp) fun h4 s4 => ⟨_, s4.rd0 0, _, s4.rd0 1, hk h4 s4.ext⟩
      · unfold sgnI; cases (c == 45) <;> rfl
end Go.Proofs.YtmejnpadgbdhaaaGreatDoor
