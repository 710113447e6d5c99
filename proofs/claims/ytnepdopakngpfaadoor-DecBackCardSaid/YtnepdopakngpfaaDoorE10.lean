/-
  Numbers in digits: Parse and Nat, the program's and the document's.
-/
import Derived.Test.YtnepdopakngpfaaDoorE9
namespace Go.Proofs.YtnepdopakngpfaaDoor
set_option linter.unusedVariables false
set_option linter.unusedSimpArgs false
set_option linter.unnecessarySimpa false
open Go.Proofs Go.Shelf Go.RowKit Go.Hp
attribute [local irreducible] Go.Hp.iteB Go.Hp.stC Go.Hp.newP
theorem var_ext {P : Program} {h h' : Heap} {n : String} {cs : Array Value} (g : Nat) (hg : P.globalNamed n = some g) (e : Ext h h') (t : ∀ w : World, w.heap = h → w.var? P n = some cs) : ∀ w : World, w.heap = h' → w.var? P n = some cs := by
  intro w hw
  have := t { w with heap := h } rfl
  unfold World.var? at this ⊢
  rw [hg] at this ⊢
  simp only [Option.bind_some] at this ⊢
  rw [hw]
  have hlt : g < h.size := by
    rcases Nat.lt_or_ge g h.size with hl | hl
    · exact hl
    · rw [Array.getElem?_eq_none hl] at this; cases this
  rw [e.at_ g hlt]; exact this
theorem pow_named : ∃ g, Tryd.prog.globalNamed "internal/strconv.uint64pow10" = some g := Option.isSome_iff_exists.1 (show (Tryd.prog.globalNamed "internal/strconv.uint64pow10").isSome = true by kernel_rfl)
theorem TabP.ext {h h' : Heap} (t : TabP h) (e : Ext h h') : TabP h' := by
  obtain ⟨g, hg⟩ := pow_named
  exact var_ext g hg e t
/-- What the walks need of the variables. -/
structure Facts (h : Heap) : Prop where
  tab : TabP h
  err : ErrR h
  max : MaxThere h
theorem Facts.ext {h h' : Heap} (f : Facts h) (e : Ext h h') : Facts h' := ⟨f.tab.ext e, f.err.ext e, f.max.ext e⟩
/-! ### The program's -/
theorem Parse_of {l : List UInt8} {h : Heap} {K : Int → Int → Heap → Prop} (f : Facts h) (hl : l.length ≤ 2 ^ 40) (hk : ∀ h', Ext h h' → K (parN l) (parE l) h') : dec_Parse (str l) h K := by
  unfold dec_Parse
  refine callP1.self (Formed_of fun h1 e1 => ?_)
  rw [bytes_str]
  refine iteB_intro (fun e => ?_) fun e => ?_
  · have e : formL l = false := by simpa using e
    obtain ⟨g1, g2⟩ := par_no e
    rw [g1, g2] at hk
    exact hk h1 e1
  · have e : formL l = true := by simpa using e
    have hp := parse_form e
    cases hi : inR (valI l) with
    | true =>
      rw [if_pos (inR_iff.1 hi)] at hp
      obtain ⟨g1, g2⟩ := par_ok e hi
      rw [g1, g2] at hk
      refine callP2.self (ParseInt_ok (v := valI l) (by rw [str_size]; exact hl) hp fun h2 e2 => ?_)
      rw [nilP_nil]
      exact iteB_neg rfl (hk h2 (e1.trans e2))
    | false =>
      have hn : ¬ (-9223372036854775808 ≤ valI l ∧ valI l ≤ 9223372036854775807) := fun hh => by rw [inR_iff.2 hh] at hi; cases hi
      rw [if_neg hn] at hp
      obtain ⟨g1, g2⟩ := par_out e hi
      rw [g1, g2] at hk
      refine callP2.self (ParseInt_range (by rw [str_size]; exact hl) (f.err.ext e1) hp fun n t v h2 e2 => ?_)
      rw [nilP_iface]
      exact iteB_pos rfl (hk h2 (e1.trans e2))
theorem Print_of {n : Int} {h : Heap} {K : ByteArray → Heap → Prop} (f : Facts h) (hn : inR n = true) (hk : ∀ h', Ext h h' → K (str (Lib.itoa n)) h') : dec_Print n h K := by
  unfold dec_Print
  obtain ⟨h0, h1⟩ := inR_iff.1 hn
  exact callP1.self (FormatInt_of f.tab h0 h1 hk)
/-- What a text comes to, as a number from 0 to some greatest one. -/
def natN (l : List UInt8) (m : Int) : Int := if parE l = 0 ∧ (parN l < 0 ∨ parN l > m) then 0 else parN l
def natE (l : List UInt8) (m : Int) : Int := if parE l = 0 ∧ (parN l < 0 ∨ parN l > m) then 10 else parE l
theorem par_zero {l : List UInt8} (h : parE l ≠ 0) : parN l = 0 := by
  unfold parN
  unfold parE at h
  split
  · rename_i hc
    simp only [Bool.and_eq_true] at hc
    rw [if_pos hc.1, if_pos hc.2] at h
    exact absurd rfl h
  · rfl
theorem Nat_of {l : List UInt8} {m : Int} {h : Heap} {K : Int → Int → Heap → Prop} (f : Facts h) (hl : l.length ≤ 2 ^ 40) (hk : ∀ h', Ext h h' → K (natN l m) (natE l m) h') : dec_Nat (str l) m h K := by
  unfold dec_Nat
  refine callP2.self (Parse_of f hl fun h1 e1 => iteB_intro (fun e => ?_) fun e => ?_)
  · have e : parE l ≠ 0 := by simpa using e
    have hz := par_zero e
    unfold natN natE at hk
    rw [if_neg (fun hh => e hh.1), if_neg (fun hh => e hh.1), hz] at hk
    exact hk h1 e1
  · have e : parE l = 0 := by simpa using e
    have bad : (parN l < 0 ∨ parN l > m) → K 0 10 h1 := fun hb => by
      unfold natN natE at hk
      rw [if_pos ⟨e, hb⟩, if_pos ⟨e, hb⟩] at hk
      exact hk h1 e1
    refine iteB_intro (fun e2 => ?_) fun e2 => iteB_intro (fun e3 => bad (.inr (of_decide_eq_true e3))) fun e3 => ?_
    · exact iteB_pos e2 (bad (.inl (of_decide_eq_true e2)))
    · have e2 := of_decide_eq_false e2
      have e3 := of_decide_eq_false e3
      unfold natN natE at hk
      rw [if_neg (by rintro ⟨_, h | h⟩ <;> contradiction), if_neg (by rintro ⟨_, h | h⟩ <;> contradiction), e] at hk
      exact hk h1 e1
/-! ### The document's -/
def sgnI (low : Bool) (x : Nat) : Int := if low then -(x : Int) else (x : Int)
def bodyL (l : List UInt8) : List UInt8 := l.filter fun b => b != 45
theorem filter_dig : ∀ {l : List UInt8}, l.all dgB = true → bodyL l = l := by
  intro l h
  unfold bodyL
  rw [List.filter_eq_self]
  intro b hb
  have := List.all_eq_true.1 h b hb
  by_cases e : b = 45
  · subst e; simp [dgB] at this
  · simp [e]
theorem form_parts {l : List UInt8} (h : formL l = true) : ∃ c r, l = c :: r ∧ sgnI (c == 45) (valN 0 (bodyL l)) = valI l ∧ (∀ b ∈ l, b ≠ 45 → dgB b = true) := by
  unfold formL at h
  split at h
  · rename_i hh
    match l, hh with
    | c :: r, hh =>
      simp at hh; subst hh
      rw [List.tail_cons, Bool.and_eq_true] at h
      have ha := natB_all h.1
      refine ⟨45, r, rfl, ?_, fun b hb hn => ?_⟩
      · have : bodyL (45 :: r) = r := by
          have := filter_dig ha
          unfold bodyL at this ⊢
          rw [List.filter_cons_of_neg (by decide)]; exact this
        rw [this]; unfold valI; rw [if_pos (show (45 :: r).head? = some 45 from rfl)]; rfl
      · rcases List.mem_cons.1 hb with rfl | hb
        · exact absurd rfl hn
        · exact List.all_eq_true.1 ha b hb
  · rename_i hh
    have ha := natB_all h
    match l, hh, ha, h with
    | [], _, _, h => exact absurd rfl (natB_ne h)
    | c :: r, hh, ha, h =>
      refine ⟨c, r, rfl, ?_, fun b hb hn => List.all_eq_true.1 ha b hb⟩
      have hc : (c == 45) = false := by
        have : ¬ c = 45 := fun e => hh (by rw [e]; rfl)
        simp [this]
      rw [filter_dig ha, hc]; unfold valI; rw [if_neg hh]; rfl
theorem rparse_l0 {h : Heap} {K2 : Int → Heap → Prop} {l : List UInt8} {a : Addr} {low : Bool} (hl : l.length ≤ 2 ^ 40) (hd : ∀ b ∈ l, b ≠ 45 → dgB b = true)
    (hk : ∀ v, (sgnI low (valN 0 (bodyL l)) - v) % 18446744073709551616 = 0 → inR v = true → K2 v h) :
    ∀ (d i : Nat) (v : Int), i + d = l.length → (sgnI low (valN 0 (bodyL (l.take i))) - v) % 18446744073709551616 = 0 → inR v = true → straitref06_Parse.l0 K2 (d + 1) (str l) a v low (i : Int) h
  | 0, i, v, hi, hv, hr => by
    unfold straitref06_Parse.l0 straitref06_Parse.b0
    rw [str_size]
    rw [List.take_of_length_le (by omega)] at hv
    exact iteB_neg (decide_eq_false (by omega)) (hk v hv hr)
  | d + 1, i, v, hi, hv, hr => by
    unfold straitref06_Parse.l0 straitref06_Parse.b0
    obtain ⟨b, g1, g2⟩ := byte_at (s := str l) (i := i) (by rw [str_size]; omega)
    rw [bytes_str] at g2
    rw [str_size]
    refine iteB_pos (decide_eq_true (by omega)) ⟨by omega, b, by rw [Int.toNat_natCast]; exact g1, iteB_intro (fun e => ?_) fun e => ?_⟩
    · have e : ((b.toNat : Int) == 45) = false := by simpa [bne] using e
      rw [n45] at e
      have e : b ≠ 45 := by simpa using e
      have hg := dg_iff.1 (hd b (List.mem_of_getElem? g2) e)
      refine ⟨by omega, b, by rw [Int.toNat_natCast]; exact g1, ?_⟩
      rw [u8wrap (by omega) (by omega), wrap64 (x := (b.toNat : Int) - 48) (by omega) (by omega)]
      have ht : bodyL (l.take (i + 1)) = bodyL (l.take i) ++ [b] := by
        unfold bodyL
        rw [take_snoc g2, List.filter_append]; simp [e]
      have hV : valN 0 (bodyL (l.take (i + 1))) = valN 0 (bodyL (l.take i)) * 10 + (b.toNat - 48) := by
        rw [ht, valN_app, valN_cons]; rfl
      generalize valN 0 (bodyL (l.take i)) = x at hv hV
      refine bindV_intro fun m hm => iteB_intro (fun e2 => bindV_intro fun m2 hm2 => ?_) fun e2 => bindV_intro fun m2 hm2 => ?_
      · rw [hm, wrap64 (x := 0 - ((b.toNat : Int) - 48)) (by omega) (by omega), wrap_i64_eq, wrap_i64_eq] at hm2
        subst e2
        rw [wrap64 (by omega) (by omega)]
        refine rparse_l0 hl hd hk d (i + 1) m2 (by omega) ?_ (inR_iff.2 (by omega))
        rw [hV]
        unfold sgnI at hv ⊢
        rw [if_pos rfl] at hv ⊢
        omega
      · rw [hm, wrap_i64_eq, wrap_i64_eq] at hm2
        subst e2
        rw [wrap64 (by omega) (by omega)]
        refine rparse_l0 hl hd hk d (i + 1) m2 (by omega) ?_ (inR_iff.2 (by omega))
        rw [hV]
        unfold sgnI at hv ⊢
        rw [if_neg (by decide)] at hv ⊢
        omega
    · have e : ((b.toNat : Int) == 45) = true := by simpa [bne] using e
      rw [n45] at e
      have e : b = 45 := by simpa using e
      rw [wrap64 (by omega) (by omega)]
      refine rparse_l0 hl hd hk d (i + 1) v (by omega) ?_ hr
      have ht : bodyL (l.take (i + 1)) = bodyL (l.take i) := by
        unfold bodyL
        rw [take_snoc g2, List.filter_append]; simp [e]
      rw [ht]; exact hv
theorem RParse_of {l : List UInt8} {h : Heap} {K : Int → Int → Heap → Prop} (hl : l.length ≤ 2 ^ 40) (hk : ∀ h', Ext h h' → K (parN l) (parE l) h') : straitref06_Parse (str l) h K := by
  unfold straitref06_Parse
  refine (St.refl h).new_ fun t h1 s1 => qcallP1.of _ (fun Q hQ => RForm_of hl hQ) (iteB_intro (fun e => ?_) fun e => ?_)
  · have e : formL l = false := by simpa using e
    obtain ⟨g1, g2⟩ := par_no e
    rw [g1, g2] at hk
    refine s1.st0 (by simp) fun h2 s2 => ?_
    rw [add_mk, Nat.zero_add]
    exact s2.st0 (by simp) fun h3 s3 => ⟨_, s3.rd0 0, _, s3.rd0 1, hk h3 s3.ext⟩
  · have e : formL l = true := by simpa using e
    obtain ⟨c, r, hcr, hv, hd⟩ := form_parts e
    refine ⟨by decide, c, ?_, ?_⟩
    · obtain ⟨b, g1, g2⟩ := byte_at (s := str l) (i := 0) (by rw [str_size, hcr]; simp)
      have : c = b := by rw [bytes_str, hcr] at g2; simpa using g2
      rw [this]; exact g1
    · rw [n45]
      have out : inR (valI l) = false → ∀ h2 R, St (h : Base) h2 ((t, [.int .i64 0, .int .i64 0]) :: R) → (stC h2 ⟨t, 0, none⟩ (.int .i64 0) fun h5 => stC h5 ((⟨t, 0, none⟩ : Addr).add 1) (.int .i64 10) fun h6 => (∃ (x7 : Int), cell h6 ⟨t, 0, none⟩ = some (.int .i64 x7) ∧ ∃ (x8 : Int), cell h6 ((⟨t, 0, none⟩ : Addr).add 1) = some (.int .i64 x8) ∧ K x7 x8 h6)) := fun hi h2 R s2 => by
        obtain ⟨g1, g2⟩ := par_out e hi
        rw [g1, g2] at hk
        refine s2.st0 (by simp) fun h3 s3 => ?_
        rw [add_mk, Nat.zero_add]
        exact s3.st0 (by simp) fun h4 s4 => ⟨_, s4.rd0 0, _, s4.rd0 1, hk h4 s4.ext⟩
      refine ⟨l.length + 1, rparse_l0 (low := c == 45) hl hd (fun v hm hr => ?_) l.length 0 0 (by omega) ?_ (by decide)⟩
      · rw [hv] at hm
        obtain ⟨w1, w2⟩ := wrap_itoa (w := v) e hr ⟨(valI l - v) / 18446744073709551616, by omega⟩
        rw [str_size]
        refine iteB_intro (fun e2 => out (form_long e (by have e2 := of_decide_eq_true e2; omega)) h1 [] s1) fun e2 => ?_
        obtain ⟨r0, r1⟩ := inR_iff.1 hr
        refine callP1.self (RPrint_of r0 r1 fun h2 e2 => ?_)
        rw [toList_str, toList_str]
        have s2 := s1.ofExt e2
        refine iteB_intro (fun e3 => out ?_ h2 [] s2) fun e3 => ?_
        · cases hi : inR (valI l) with
          | false => rfl
          | true => rw [w1.2 hi] at e3; simp at e3
        · have e3 : Lib.itoa v = l := by simpa using e3
          have hi := w1.1 e3
          obtain ⟨g1, g2⟩ := par_ok e hi
          rw [g1, g2, ← w2 hi] at hk
          refine s2.st0 (by simp) fun h3 s3 => ?_
          rw [add_mk, Nat.zero_add]
          exact s3.st0 (by simp) fun h4 s4 => ⟨_, s4.rd0 0, _, s4.rd0 1, hk h4 s4.ext⟩
      · unfold sgnI; cases (c == 45) <;> rfl
theorem RNat_of {l : List UInt8} {m : Int} {h : Heap} {K : Int → Int → Heap → Prop} (hl : l.length ≤ 2 ^ 40) (hk : ∀ h', Ext h h' → K (natN l m) (natE l m) h') : straitref06_Nat (str l) m h K := by
  unfold straitref06_Nat
  refine (St.refl h).new_ fun t h1 s1 => callP2.self (RParse_of hl fun h2 e2 => ?_)
  have s2 := s1.ofExt e2
  refine s2.new_ fun t2 h3 s3 => s3.st0 (by simp) fun h4 s4 => ?_
  rw [add_mk, Nat.zero_add]
  refine s4.st0 (by simp) fun h5 s5 => ?_
  intro j
  have J : ∀ y : Bool, y = decide (parE l = 0 ∧ (parN l < 0 ∨ parN l > m)) → j y := fun y hy => by
    simp -zeta only [j]
    clear j
    unfold natN natE at hk
    refine iteB_intro (fun e => ?_) fun e => ?_
    · rw [e] at hy
      have hy := of_decide_eq_true hy.symm
      rw [if_pos hy, if_pos hy] at hk
      refine s5.st1 (by simp) fun h6 s6 => ?_
      rw [add_mk, Nat.zero_add]
      exact s6.st1 (by simp) fun h7 s7 => ⟨_, s7.rd1 0, _, s7.rd1 1, hk h7 s7.ext⟩
    · rw [e] at hy
      have hy := of_decide_eq_false hy.symm
      rw [if_neg hy, if_neg hy] at hk
      refine ⟨_, s5.rd0 0, _, s5.rd0 1, s5.st1 (by simp) fun h6 s6 => ?_⟩
      rw [add_mk, Nat.zero_add]
      exact s6.st1 (by simp) fun h7 s7 => ⟨_, s7.rd1 0, _, s7.rd1 1, hk h7 s7.ext⟩
  clear_value j
  refine ⟨_, s5.rd0 1, iteB_intro (fun e => ⟨_, s5.rd0 0, iteB_intro (fun e2 => J true ?_) fun e2 => ⟨_, s5.rd0 0, J _ ?_⟩⟩) fun e => J false ?_⟩
  · have e : parE l = 0 := by simpa using e
    exact (decide_eq_true ⟨e, .inl (of_decide_eq_true e2)⟩).symm
  · have e : parE l = 0 := by simpa using e
    have e2 := of_decide_eq_false e2
    exact decide_eq_decide.2 ⟨fun hh => ⟨e, .inr hh⟩, fun hh => hh.2.resolve_left e2⟩
  · have e : ¬ parE l = 0 := by simpa using e
    exact (decide_eq_false fun hh => e hh.1).symm
end Go.Proofs.YtnepdopakngpfaaDoor
