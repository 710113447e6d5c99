/-
  Numbers in digits: the program's Parse and Print.
-/
import Derived.Test.YtmejnpadgbdhaaaGreatDoorE9
namespace Go.Proofs.YtmejnpadgbdhaaaGreatDoor
set_option linter.unusedVariables false
set_option linter.unusedSimpArgs false
set_option linter.unnecessarySimpa false
open Go.Proofs Go.Shelf Go.RowKit Go.Hp
attribute [local irreducible] Go.Hp.iteB Go.Hp.stC Go.Hp.newP
theorem var_ext {P : Program} {h h' : Heap} {n : String} {cs : Array Value} (g : Nat) (hg : P.globalNamed n = some g) (e : Ext h h') (t : ∀ w : World, w.heap = h → w.var? P n = some cs) : ∀ w : World, w.heap = h' → w.var? P n = some cs := by
  intro w hw
  have := t { w with heap := h } rfl
  unfold World.var? at this ⊢
  rw [hg] at this ⊢
  simp only [Option.bind_some] at this ⊢
  rw [hw]
  have hlt : g < h.size := by
    rcases Nat.lt_or_ge g h.size with hl | hl
    · exact hl
    · rw [Array.getElem?_eq_none hl] at this; cases this
  rw [e.at_ g hlt]; exact this
theorem pow_named : ∃ g, Tryz.prog.globalNamed "internal/strconv.uint64pow10" = some g := Option.isSome_iff_exists.1 (show (Tryz.prog.globalNamed "internal/strconv.uint64pow10").isSome = true by kernel_rfl)
theorem TabP.ext {h h' : Heap} (t : TabP h) (e : Ext h h') : TabP h' := by
  obtain ⟨g, hg⟩ := pow_named
  exact var_ext g hg e t
/-- What the walks need of the variables. -/
structure Facts (h : Heap) : Prop where
  tab : TabP h
  err : ErrR h
  max : MaxThere h
theorem Facts.ext {h h' : Heap} (f : Facts h) (e : Ext h h') : Facts h' := ⟨f.tab.ext e, f.err.ext e, f.max.ext e⟩
theorem Parse_of {l : List UInt8} {h : Heap} {K : Int → Int → Heap → Prop} (f : Facts h) (hl : l.length ≤ 2 ^ 40) (hk : ∀ h', Ext h h' → K (parN l) (parE l) h') : dec_Parse (str l) h K := by
  unfold dec_Parse
  refine callP1.self (Formed_of fun h1 e1 => ?_)
  rw [bytes_str]
  refine iteB_intro (fun e => ?_) fun e => ?_
  · have e : formL l = false := by simpa using e
    obtain ⟨g1, g2⟩ := par_no e
    rw [g1, g2] at hk
    exact hk h1 e1
  · have e : formL l = true := by simpa using e
    have hp := parse_form e
    cases hi : inR (valI l) with
    | true =>
      rw [if_pos (inR_iff.1 hi)] at hp
      obtain ⟨g1, g2⟩ := par_ok e hi
      rw [g1, g2] at hk
      refine callP2.self (ParseInt_ok (v := valI l) (by rw [str_size]; exact hl) hp fun h2 e2 => ?_)
      rw [nilP_nil]
      exact iteB_neg rfl (hk h2 (e1.trans e2))
    | false =>
      have hn : ¬ (-9223372036854775808 ≤ valI l ∧ valI l ≤ 9223372036854775807) := fun hh => by rw [inR_iff.2 hh] at hi; cases hi
      rw [if_neg hn] at hp
      obtain ⟨g1, g2⟩ := par_out e hi
      rw [g1, g2] at hk
      refine callP2.self (ParseInt_range (by rw [str_size]; exact hl) (f.err.ext e1) hp fun n t v h2 e2 => ?_)
      rw [nilP_iface]
      exact iteB_pos rfl (hk h2 (e1.trans e2))
theorem Print_of {n : Int} {h : Heap} {K : ByteArray → Heap → Prop} (f : Facts h) (hn : inR n = true) (hk : ∀ h', Ext h h' → K (str (Lib.itoa n)) h') : dec_Print n h K := by
  unfold dec_Print
  obtain ⟨h0, h1⟩ := inR_iff.1 hn
  exact callP1.self (FormatInt_of f.tab h0 h1 hk)
def sgnI (low : Bool) (x : Nat) : Int := if low then -(x : Int) else (x : Int)
def bodyL (l : List UInt8) : List UInt8 := l.filter fun b => b != 45
theorem filter_dig : ∀ {l : List UInt8}, l.all dgB = true → bodyL l = l := by
  intro l h
  unfold bodyL
  rw [List.filter_eq_self]
  intro b hb
  have := List.all_eq_true.1 h b hb
  by_cases e : b = 45
  · subst e; simp [dgB] at this
  · simp [e]
theorem form_parts {l : List UInt8} (h : formL l = true) : ∃ c r, l = c :: r ∧ sgnI (c == 45) (valN 0 (bodyL l)) = valI l ∧ (∀ b ∈ l, b ≠ 45 → dgB b = true) := by
  unfold formL at h
  split at h
  · rename_i hh
    match l, hh with
    | c :: r, hh =>
      simp at hh; subst hh
      rw [List.tail_cons, Bool.and_eq_true] at h
      have ha := natB_all h.1
      refine ⟨45, r, rfl, ?_, fun b hb hn => ?_⟩
      · have : bodyL (45 :: r) = r := by
          have := filter_dig ha
          unfold bodyL at this ⊢
          rw [List.filter_cons_of_neg (by decide)]; exact this
        rw [this]; unfold valI; rw [if_pos (show (45 :: r).head? = some 45 from rfl)]; rfl
      · rcases List.mem_cons.1 hb with rfl | hb
        · exact absurd rfl hn
        · exact List.all_eq_true.1 ha b hb
  · rename_i hh
    have ha := natB_all h
    match l, hh, ha, h with
    | [], _, _, h => exact absurd rfl (natB_ne h)
    | c :: r, hh, ha, h =>
      refine ⟨c, r, rfl, ?_, fun b hb hn => List.all_eq_true.1 ha b hb⟩
      have hc : (c == 45) = false := by
        have : ¬ c = 45 := fun e => hh (by rw [e]; rfl)
        simp [this]
      rw [filter_dig ha, hc]; unfold valI; rw [if_neg hh]; rfl
end Go.Proofs.YtmejnpadgbdhaaaGreatDoor
