/-
  Texts: words as lines and lines as texts: the document's, and the law of what is put.
-/
import Derived.Test.YtnepdopakngpfaaDoorWB
namespace Go.Proofs.YtnepdopakngpfaaDoor
set_option linter.unusedVariables false
set_option linter.unusedSimpArgs false
set_option linter.unnecessarySimpa false
open Go.Proofs Go.Shelf Go.RowKit Go.Hp
attribute [local irreducible] Go.Hp.iteB Go.Hp.stC Go.Hp.newP
theorem tailJ_snoc : ∀ (r : List (List UInt8)) (a x : List UInt8), tailJ a (r ++ [x]) = tailJ a r ++ [32] ++ x
  | [], a, x => rfl
  | y :: r, a, x => by rw [List.cons_append, tailJ, tailJ_snoc r, tailJ]
theorem joinB_snoc {a : List (List UInt8)} (x : List UInt8) (h : a ≠ []) : joinB (a ++ [x]) = joinB a ++ [32] ++ x := by
  match a, h with
  | y :: r, _ => rw [List.cons_append, joinB, tailJ_snoc, joinB]
theorem sumL_take : ∀ (ls : List (List UInt8)) (i : Nat), sumL (ls.take i) ≤ sumL ls
  | [], i => by simp
  | x :: r, 0 => by simp [sumL]
  | x :: r, i + 1 => by
    rw [List.take_succ_cons, sumL_cons, sumL_cons]
    have := sumL_take r i
    omega
section
variable {g0 : Heap} {q : Option Addr} {c : Nat}
theorem rline_l0 {K0 : Heap → Prop} {K2 : ByteArray → Heap → Prop} {t : Nat} {ls : List (List UInt8)} {T : List Value} (hT2 : T.length = 2) (v : valsAt g0 q (strV ls)) (hb : ls.length ≤ 2 ^ 20) (hT : sumL ls ≤ 2 ^ 20)
    (hbad : ls.all wdB = false → ∀ h', St (g0 : Base) h' [(t, [.string ⟨#[]⟩, .bool false])] → K0 h') (hk : ls.all wdB = true → ∀ h', St (g0 : Base) h' [(t, T)] → K2 (str (joinB ls)) h') :
    ∀ (d i : Nat) (h : Heap), i + d = ls.length → (∀ x ∈ ls.take i, wdB x = true) → St (g0 : Base) h [(t, T)] → straitref07_Line.l0 K0 K2 (d + 1) q ls.length c ⟨t, 0, none⟩ (str (joinB (ls.take i))) (i : Int) h
  | 0, i, h, hi, ha, s => by
    unfold straitref07_Line.l0 straitref07_Line.b0
    rw [List.take_of_length_le (by omega)] at ha ⊢
    exact iteB_neg (decide_eq_false (by omega)) (hk (List.all_eq_true.2 ha) h s)
  | d + 1, i, h, hi, ha, s => by
    unfold straitref07_Line.l0 straitref07_Line.b0
    obtain ⟨x, hx⟩ := get_lt (l := ls) (i := i) (by omega)
    have hxl := sumL_mem (List.mem_of_getElem? hx)
    obtain ⟨a, haq, g⟩ := (v.ext s.ext) i (.string (str x)) (by unfold strV; rw [List.getElem?_map, hx]; rfl)
    have hj := sumL_join (ls.take i)
    have hst := sumL_take ls i
    have hlt : (ls.take i).length = i := by rw [List.length_take]; omega
    refine iteB_pos (decide_eq_true (by omega)) ?_
    rw [haq]
    simp -zeta only [chkP_some, Int.toNat_natCast, Nat.mul_one]
    refine ⟨by omega, _, g, qcallP1.of _ (fun Q hQ => Rword_of (by omega) hQ) (iteB_intro (fun e => ?_) fun e => ?_)⟩
    · have e : wdB x = false := by simpa using e
      refine s.st0 (by omega) fun h2 s2 => ?_
      rw [add_mk, Nat.zero_add]
      refine s2.st0 (by simp; omega) fun h3 s3 => hbad ?_ h3 ?_
      · rw [List.all_eq_false]
        exact ⟨x, List.mem_of_getElem? hx, by rw [e]; decide⟩
      · match T, hT2, s3 with
        | [p, r], _, s3 => exact s3
    · have e : wdB x = true := by simpa using e
      have e32 : (⟨#[32]⟩ : ByteArray) = str [32] := rfl
      rw [e32, str_app, str_size, str_size]
      have next : ∀ w, w = joinB (ls.take (i + 1)) → straitref07_Line.l0 K0 K2 (d + 1) q ls.length c ⟨t, 0, none⟩ (str w) (IntKind.i64.wrap ((i : Int) + 1)) h := fun w hw => by
        rw [hw, wrap64 (by omega) (by omega)]
        refine rline_l0 hT2 v hb hT hbad hk d (i + 1) h (by omega) (fun y hy => ?_) s
        rw [take_snoc hx] at hy
        rcases List.mem_append.1 hy with hy | hy
        · exact ha y hy
        · obtain rfl : y = x := by simpa using hy
          exact e
      rw [haq] at next
      refine iteB_intro (fun e1 => ⟨by simp only [List.length_cons, List.length_nil]; omega, by omega, _, g, by rw [str_size, str_size]; simp only [List.length_append, List.length_cons, List.length_nil]; omega, ?_⟩) fun e1 => ⟨by omega, _, g, by rw [str_size]; omega, ?_⟩
      · have e1 := of_decide_eq_true e1
        rw [str_app]
        exact next _ (by rw [take_snoc hx, joinB_snoc _ (by intro hh; rw [hh] at hlt; simp at hlt; omega)])
      · have e1 := of_decide_eq_false e1
        obtain rfl : i = 0 := by omega
        rw [str_app]
        exact next _ (by rw [take_snoc hx]; rfl)
theorem RLine_of {ls : List (List UInt8)} {K : ByteArray → Bool → Heap → Prop} (v : valsAt g0 q (strV ls)) (hb : ls.length ≤ 2 ^ 20) (hT : sumL ls ≤ 2 ^ 20)
    (hk : ∀ h', Ext g0 h' → K (str (lineL ls)) (ls.all wdB) h') : straitref07_Line q ls.length c g0 K := by
  unfold straitref07_Line
  refine (St.refl g0).new_ (cs := [.string ⟨#[]⟩, .bool false]) fun t h1 s1 => ⟨ls.length + 1, rline_l0 (T := [.string ⟨#[]⟩, .bool false]) rfl v hb hT (fun e h' s' => ?_) (fun e h' s' => ?_) ls.length 0 h1 (by omega) (by simp) s1⟩
  · have := hk h' s'.ext
    unfold lineL at this
    rw [e] at this
    exact ⟨_, s'.rd0 0, _, by rw [add_mk]; exact s'.rd0 1, this⟩
  · refine s'.st0 (by simp) fun h2 s2 => ?_
    rw [add_mk, Nat.zero_add]
    refine s2.st0 (by simp) fun h3 s3 => ⟨_, s3.rd0 0, _, s3.rd0 1, ?_⟩
    have := hk h3 s3.ext
    unfold lineL at this
    rw [e] at this
    exact this
/-! ### Texts -/
def textOk (ls : List (List (List UInt8))) : Bool := ls.all fun r => r.all wdB
def textF (ls : List (List (List UInt8))) : List UInt8 := ls.flatMap fun r => joinB r ++ [10]
def textT (ls : List (List (List UInt8))) : List UInt8 := if textOk ls = true then textF ls else []
def bulkR (ls : List (List (List UInt8))) : Nat := (ls.map fun r => sumL r + r.length + 1).sum
theorem bulk_cons (r : List (List UInt8)) (ls : List (List (List UInt8))) : bulkR (r :: ls) = (sumL r + r.length + 1) + bulkR ls := by simp [bulkR]
theorem bulk_mem : ∀ {ls : List (List (List UInt8))} {r : List (List UInt8)}, r ∈ ls → sumL r + r.length + 1 ≤ bulkR ls
  | x :: ls, r, h => by
    rw [bulk_cons]
    rcases List.mem_cons.1 h with rfl | h
    · omega
    · have := bulk_mem h; omega
theorem bulk_len : ∀ (ls : List (List (List UInt8))), ls.length ≤ bulkR ls
  | [] => by simp
  | x :: ls => by rw [bulk_cons]; have := bulk_len ls; simp; omega
theorem textF_len : ∀ (ls : List (List (List UInt8))), (textF ls).length ≤ bulkR ls
  | [] => by simp [textF]
  | x :: ls => by
    have h1 := textF_len ls
    have h2 := sumL_join x
    rw [bulk_cons]
    show ((joinB x ++ [10]) ++ textF ls).length ≤ _
    simp; omega
theorem bulk_take : ∀ (ls : List (List (List UInt8))) (i : Nat), bulkR (ls.take i) ≤ bulkR ls
  | [], i => by simp
  | x :: r, 0 => by simp [bulkR]
  | x :: r, i + 1 => by
    rw [List.take_succ_cons, bulk_cons, bulk_cons]
    have := bulk_take r i
    omega
theorem textF_snoc (ls : List (List (List UInt8))) (r : List (List UInt8)) : textF (ls ++ [r]) = textF ls ++ joinB r ++ [10] := by simp [textF]
/-- Rows of texts, in memory. -/
def rowsOf (h : Heap) (q : Option Addr) (ls : List (List (List UInt8))) : Prop := ∀ i r, ls[i]? = some r → ∃ a, q = some a ∧ ∃ qi ci, cell h (a.add i) = some (.slice qi r.length ci) ∧ r.length ≤ ci ∧ valsAt h qi (strV r)
theorem rowsOf.ext {h h' : Heap} {ls : List (List (List UInt8))} (v : rowsOf h q ls) (e : Ext h h') : rowsOf h' q ls := fun i r hr => by
  obtain ⟨a, ha, qi, ci, g, hc, vv⟩ := v i r hr
  exact ⟨a, ha, qi, ci, e.cell' g, hc, vv.ext e⟩
theorem text_l0 {K0 : ByteArray → Bool → Heap → Prop} {K2 : Heap → Prop} {b : Nat} {ls : List (List (List UInt8))} (v : rowsOf g0 q ls) (hB : bulkR ls ≤ 2 ^ 20)
    (hbad : textOk ls = false → ∀ h', Ext g0 h' → K0 ⟨#[]⟩ false h') (hk : textOk ls = true → ∀ h', Ext g0 h' → BH g0.size b (textF ls) h' → K2 h') :
    ∀ (d i : Nat) (h : Heap), i + d = ls.length → (∀ r ∈ ls.take i, r.all wdB = true) → Ext g0 h → BH g0.size b (textF (ls.take i)) h → word_Text.l0 K0 K2 (d + 1) ⟨b, 0, none⟩ q ls.length c (ls.length : Int) (i : Int) h
  | 0, i, h, hi, ha, e, k => by
    unfold word_Text.l0 word_Text.b0
    rw [List.take_of_length_le (by omega)] at ha k
    exact iteB_neg (decide_eq_false (by omega)) (hk (List.all_eq_true.2 ha) h e k)
  | d + 1, i, h, hi, ha, e, k => by
    unfold word_Text.l0 word_Text.b0
    have hbl := bulk_len ls
    obtain ⟨r, hr⟩ := get_lt (l := ls) (i := i) (by omega)
    have hrb := bulk_mem (List.mem_of_getElem? hr)
    obtain ⟨a, haq, qi, ci, g, hc, vv⟩ := (v.ext e) i r hr
    have hlt := textF_len (ls.take i)
    have hbt := bulk_take ls i
    have hj := sumL_join r
    refine iteB_pos (decide_eq_true (by omega)) ?_
    rw [haq]
    simp -zeta only [chkP_some, Int.toNat_natCast, Nat.mul_one]
    rw [← haq]
    refine ⟨by omega, _, _, _, g, callP2.self (Line_of vv hc (by omega) (by omega) fun h2 e2 => iteB_intro (fun e3 => ?_) fun e3 => ?_)⟩
    · have e3 : r.all wdB = false := by simpa using e3
      refine hbad ?_ h2 (e.trans e2)
      unfold textOk
      rw [List.all_eq_false]
      exact ⟨r, List.mem_of_getElem? hr, by rw [e3]; decide⟩
    · have e3 : r.all wdB = true := by simpa using e3
      have el : lineL r = joinB r := by unfold lineL; rw [if_pos e3]
      rw [el]
      refine callP2.self (WriteString_of (e.trans e2) (k.ext e2) (by omega) fun _ _ h3 e4 k3 => callP1.self (WriteByte_of e4 k3 (by simp only [List.length_append]; omega) fun _ h4 e5 k4 => ?_))
      rw [wrap64 (by omega) (by omega)]
      refine text_l0 v hB hbad hk d (i + 1) h4 (by omega) (fun y hy => ?_) e5 ?_
      · rw [take_snoc hr] at hy
        rcases List.mem_append.1 hy with hy | hy
        · exact ha y hy
        · obtain rfl : y = r := by simpa using hy
          exact e3
      · rw [take_snoc hr, textF_snoc]; exact k4
theorem bldr_new (h : Heap) : BH h.size h.size [] (h.push (.cells #[.pointer none, .slice none 0 0] 75)) := fun w hw =>
  bldr_heap (w := (({ w with heap := h } : World).alloc (.cells #[.pointer none, .slice none 0 0] 75))) hw (Lib.fresh_isBuilder 75 5 { w with heap := h })
theorem Text_of {ls : List (List (List UInt8))} {K : ByteArray → Bool → Heap → Prop} (v : rowsOf g0 q ls) (hB : bulkR ls ≤ 2 ^ 20) (hk : ∀ h', Ext g0 h' → K (str (textT ls)) (textOk ls) h') : word_Text q ls.length c g0 K := by
  unfold word_Text
  refine new_fresh ⟨ls.length + 1, text_l0 v hB (fun e h' x => ?_) (fun e h' x k => callP1.self (String_of x k fun h2 e2 => ?_)) ls.length 0 _ (by omega) (by simp) ((Ext.refl g0).push _) (bldr_new g0)⟩
  · have := hk h' x
    unfold textT at this
    rw [e] at this
    exact this
  · have := hk h2 e2
    unfold textT at this
    rw [e, if_pos rfl] at this
    exact this
theorem rtext_l0 {K0 : Heap → Prop} {K2 : ByteArray → Heap → Prop} {t : Nat} {ls : List (List (List UInt8))} {T : List Value} (hT2 : T.length = 2) (v : rowsOf g0 q ls) (hB : bulkR ls ≤ 2 ^ 20)
    (hbad : textOk ls = false → ∀ h' X, St (g0 : Base) h' ((t, [.string ⟨#[]⟩, .bool false]) :: X) → K0 h') (hk : textOk ls = true → ∀ h' X, St (g0 : Base) h' ((t, T) :: X) → K2 (str (textF ls)) h') :
    ∀ (d i : Nat) (h : Heap) (X : Rws), i + d = ls.length → (∀ r ∈ ls.take i, r.all wdB = true) → St (g0 : Base) h ((t, T) :: X) → straitref07_Text.l0 K0 K2 (d + 1) q ls.length c ⟨t, 0, none⟩ (str (textF (ls.take i))) (i : Int) h
  | 0, i, h, X, hi, ha, s => by
    unfold straitref07_Text.l0 straitref07_Text.b0
    rw [List.take_of_length_le (by omega)] at ha ⊢
    exact iteB_neg (decide_eq_false (by omega)) (hk (List.all_eq_true.2 ha) h X s)
  | d + 1, i, h, X, hi, ha, s => by
    unfold straitref07_Text.l0 straitref07_Text.b0
    have hbl := bulk_len ls
    obtain ⟨r, hr⟩ := get_lt (l := ls) (i := i) (by omega)
    have hrb := bulk_mem (List.mem_of_getElem? hr)
    obtain ⟨a, haq, qi, ci, g, hc, vv⟩ := (v.ext s.ext) i r hr
    have hlt := textF_len (ls.take i)
    have hbt := bulk_take ls i
    have hj := sumL_join r
    refine iteB_pos (decide_eq_true (by omega)) ?_
    rw [haq]
    simp -zeta only [chkP_some, Int.toNat_natCast, Nat.mul_one]
    rw [← haq]
    refine ⟨by omega, _, _, _, g, callP2.self (RLine_of vv (by omega) (by omega) fun h2 e2 => ?_)⟩
    refine (s.ofExt e2).new_ (cs := [.string ⟨#[]⟩, .bool false]) fun u h3 s3 => s3.st0 (by simp) fun h4 s4 => ?_
    rw [add_mk, Nat.zero_add]
    refine s4.st0 (by simp) fun h5 s5 => ⟨_, s5.rd0 1, iteB_intro (fun e3 => ?_) fun e3 => ⟨_, s5.rd0 0, ?_⟩⟩
    · have e3 : r.all wdB = false := by simpa using e3
      refine s5.st1 (by omega) fun h6 s6 => ?_
      rw [add_mk, Nat.zero_add]
      refine s6.st1 (by simp; omega) fun h7 s7 => ?_
      match T, hT2, s7 with
      | [p, r'], _, s7 =>
        refine hbad ?_ h7 _ s7.pull1
        unfold textOk
        rw [List.all_eq_false]
        exact ⟨r, List.mem_of_getElem? hr, by rw [e3]; decide⟩
    · have e3 : r.all wdB = true := by simpa using e3
      have el : lineL r = joinB r := by unfold lineL; rw [if_pos e3]
      have e10 : (⟨#[10]⟩ : ByteArray) = str [10] := rfl
      rw [el, e10, str_app, str_app, str_size, str_size, str_size, str_size]
      refine ⟨by omega, by simp only [List.length_append, List.length_cons, List.length_nil]; omega, ?_⟩
      rw [wrap64 (by omega) (by omega)]
      have := rtext_l0 hT2 v hB hbad hk d (i + 1) h5 _ (by omega) (fun y hy => by
        rw [take_snoc hr] at hy
        rcases List.mem_append.1 hy with hy | hy
        · exact ha y hy
        · obtain rfl : y = r := by simpa using hy
          exact e3) s5.pull1
      rw [take_snoc hr, textF_snoc] at this
      exact this
theorem RText_of {ls : List (List (List UInt8))} {K : ByteArray → Bool → Heap → Prop} (v : rowsOf g0 q ls) (hB : bulkR ls ≤ 2 ^ 20) (hk : ∀ h', Ext g0 h' → K (str (textT ls)) (textOk ls) h') : straitref07_Text q ls.length c g0 K := by
  unfold straitref07_Text
  refine (St.refl g0).new_ (cs := [.string ⟨#[]⟩, .bool false]) fun t h1 s1 => ⟨ls.length + 1, rtext_l0 (T := [.string ⟨#[]⟩, .bool false]) rfl v hB (fun e h' X s' => ?_) (fun e h' X s' => ?_) ls.length 0 h1 [] (by omega) (by simp) s1⟩
  · have := hk h' s'.ext
    unfold textT at this
    rw [e] at this
    exact ⟨_, s'.rd0 0, _, by rw [add_mk]; exact s'.rd0 1, this⟩
  · refine s'.st0 (by simp) fun h2 s2 => ?_
    rw [add_mk, Nat.zero_add]
    refine s2.st0 (by simp) fun h3 s3 => ⟨_, s3.rd0 0, _, s3.rd0 1, ?_⟩
    have := hk h3 s3.ext
    unfold textT at this
    rw [e, if_pos rfl] at this
    exact this
end
end Go.Proofs.YtnepdopakngpfaaDoor
