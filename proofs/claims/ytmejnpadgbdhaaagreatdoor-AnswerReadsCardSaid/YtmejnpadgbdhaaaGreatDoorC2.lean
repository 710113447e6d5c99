/-
  Words, keys and joins: the program's and the document's.
-/
import Derived.Test.YtmejnpadgbdhaaaGreatDoorC0
import Derived.Test.YtmejnpadgbdhaaaGreatDoorE9
namespace Go.Proofs.YtmejnpadgbdhaaaGreatDoor
set_option linter.unusedVariables false
set_option linter.unusedSimpArgs false
set_option linter.unnecessarySimpa false
open Go.Proofs Go.Shelf Go.RowKit Go.Hp
attribute [local irreducible] Go.Hp.iteB Go.Hp.stC Go.Hp.newP
theorem right_of {h : Heap} {l : List UInt8} {K : Bool → Heap → Prop} (hl : l.length ≤ 2 ^ 20) (hk : ∀ h', Ext h h' → K (wdB l) h') : word_right (str l) h K := by
  unfold word_right
  rw [toList_nil_iff]
  by_cases c : l = []
  · have : wdB l = false := by unfold wdB; simp [c]
    rw [this] at hk
    exact iteB_neg (by simp [c]) (hk h (Ext.refl h))
  · refine iteB_pos (by simp [c]) (callP1.self ?_)
    unfold strings_ContainsAny
    refine callP1.self (IndexAny_of (by rw [str_size]; omega) fun n h' hn e => ?_)
    rw [bytes_str] at hn
    have : (!(decide (n ≥ 0))) = wdB l := by
      unfold wdB
      rw [← hn]
      simp [c]
    rw [this]
    exact hk h' e
theorem wrong_of {h : Heap} {l : List UInt8} {K : Bool → Heap → Prop} (hl : l.length ≤ 2 ^ 20) (hk : ∀ h', Ext h h' → K (!wdB l) h') : word_Words_c1 (str l) h K := by
  unfold word_Words_c1
  exact callP1.self (right_of hl hk)
theorem split_eq (L : List UInt8) : Lib.splitB ⟨#[32]⟩ 0 (Lib.countB (str L) ⟨#[32]⟩) (str L) = (segA 32 [] L).map str := by
  have h1 := Lib.splitB_data ⟨#[32]⟩ 0 (Lib.countB (str L) ⟨#[32]⟩) (str L)
  have h2 : Lib.countB (str L) ⟨#[32]⟩ = L.count 32 := Lib.count_one 32 L
  have h3 : (⟨#[32]⟩ : ByteArray).data.toList = [32] := rfl
  have h4 : (str L).data.toList = L := rfl
  rw [h3, h4, h2, splitK_segs 32 _ L rfl] at h1
  rw [h2]
  have h5 := congrArg (List.map str) h1
  rw [List.map_map] at h5
  rw [← h5]
  exact (List.map_id _).symm
section
variable {h0 : Base} {R : Rws}
theorem any_l0 {K0 : Int → Heap → Prop} {K2 : Heap → Prop} {q : Option Addr} {c : Nat} {ls : List (List UInt8)} (kq : Keeps h0 R q (strV ls)) (hn : ls.length ≤ 2 ^ 40) (hl : ∀ l ∈ ls, l.length ≤ 2 ^ 20)
    (hbad : ∀ n h', (0 : Int) ≤ n → ls.all wdB = false → St h0 h' R → K0 n h') (hk : ∀ h', ls.all wdB = true → St h0 h' R → K2 h') :
    ∀ (d i : Nat) (h : Heap), i + d = ls.length → (∀ l ∈ ls.take i, wdB l = true) → St h0 h R → slices_IndexFunc_Lstring_string_word_Words_c1.l0 K0 K2 (d + 1) q ls.length c (ls.length : Int) (i : Int) h
  | 0, i, h, hi, hb, s => by
    unfold slices_IndexFunc_Lstring_string_word_Words_c1.l0 slices_IndexFunc_Lstring_string_word_Words_c1.b0
    rw [List.take_of_length_le (by omega)] at hb
    exact iteB_neg (decide_eq_false (by omega)) (hk h (List.all_eq_true.2 hb) s)
  | d + 1, i, h, hi, hb, s => by
    unfold slices_IndexFunc_Lstring_string_word_Words_c1.l0 slices_IndexFunc_Lstring_string_word_Words_c1.b0
    obtain ⟨x, hx⟩ := get_lt (l := ls) (i := i) (by omega)
    obtain ⟨a, ha, g⟩ := kq h R s (fun _ h => h) i (.string (str x)) (by unfold strV; rw [List.getElem?_map, hx]; rfl)
    refine iteB_pos (decide_eq_true (by omega)) ?_
    rw [ha]
    simp -zeta only [chkP_some, Int.toNat_natCast, Nat.mul_one]
    rw [← ha]
    refine ⟨by omega, _, g, callP1.self (wrong_of (hl x (List.mem_of_getElem? hx)) fun h' e => iteB_intro (fun e2 => ?_) fun e2 => ?_)⟩
    · refine hbad _ h' (by omega) ?_ (s.ofExt e)
      rw [List.all_eq_false]
      exact ⟨x, List.mem_of_getElem? hx, by simpa using e2⟩
    · rw [wrap64 (by omega) (by omega)]
      refine any_l0 kq hn hl hbad hk d (i + 1) h' (by omega) (fun l hl' => ?_) (s.ofExt e)
      rw [take_snoc hx] at hl'
      rcases List.mem_append.1 hl' with hl' | hl'
      · exact hb l hl'
      · have : l = x := by simpa using hl'
        rw [this]; simpa using e2
theorem Words_of {h : Heap} {L : List UInt8} {K : Option Addr → Nat → Nat → Bool → Heap → Prop} (hm : MaxThere h0.heap) (hL : L.length ≤ 2 ^ 20) (s : St h0 h R)
    (h1 : L = [] → K none 0 0 true h) (h2 : L ≠ [] → (segA 32 [] L).all wdB = false → ∀ h' Y, St h0 h' (Y ++ R) → K none 0 0 false h')
    (hk : L ≠ [] → (segA 32 [] L).all wdB = true → ∀ h' b, St h0 h' ((b, strV (segA 32 [] L)) :: R) → K (some ⟨b, 0, none⟩) (segA 32 [] L).length (segA 32 [] L).length true h') : word_Words (str L) h K := by
  unfold word_Words
  rw [toList_nil_iff]
  by_cases c : L = []
  · exact iteB_pos (by simp [c]) (h1 c)
  · refine iteB_neg (by simp [c]) (callP3.self (Split_of (by rw [str_size]; omega) (hm.ext s.ext) (by decide) ?_))
    have hlen : Lib.countB (str L) ⟨#[32]⟩ + 1 = (segA 32 [] L).length := by
      have := Lib.splitB_all ⟨#[32]⟩ (by decide) 0 _ (str L) rfl
      rw [split_eq, List.length_map] at this
      exact this.symm
    rw [hlen, split_eq, ← strV_map]
    obtain ⟨g1, g2⟩ := segA_lens 32 L.length L [] (by simp)
    refine s.new_ fun b h3 s3 => callP1.self ?_
    unfold slices_ContainsFunc_Lstring_string_word_Words_c1
    refine callP1.self ?_
    unfold slices_IndexFunc_Lstring_string_word_Words_c1
    refine ⟨(segA 32 [] L).length + 1, any_l0 (R := (b, strV (segA 32 [] L)) :: R) (Keeps.row (by simp)) (by omega) (fun l hl => by have := g1 l hl; omega) (fun n h4 hn hb s4 => ?_) (fun h4 hb s4 => ?_) (segA 32 [] L).length 0 h3 (by omega) (by simp) s3⟩
    · exact iteB_pos (decide_eq_true (by omega)) (h2 c hb h4 [_] s4)
    · exact iteB_neg (by decide) (hk c hb h4 b s4)
theorem keeps_none {R : Rws} : Keeps h0 R none (strV []) := Keeps.nil
theorem Words_res {h : Heap} {L : List UInt8} {K : Option Addr → Nat → Nat → Bool → Heap → Prop} (hm : MaxThere h0.heap) (hL : L.length ≤ 2 ^ 20) (s : St h0 h R)
    (hk : ∀ h' q c X, Keeps h0 (X ++ R) q (strV (wsL L)) → St h0 h' (X ++ R) → K q (wsL L).length c (wsB L) h') : word_Words (str L) h K := by
  refine Words_of hm hL s (fun h1 => ?_) (fun h1 h2 h' Y s' => ?_) fun h1 h2 h' b s' => ?_
  · subst h1
    exact hk h none 0 [] keeps_none s
  · obtain ⟨e1, e2⟩ := ws_no h1 h2
    have := hk h' none 0 Y (by rw [e2]; exact keeps_none) s'
    rw [e1, e2] at this; exact this
  · obtain ⟨e1, e2⟩ := ws_yes h1 h2
    have := hk h' (some ⟨b, 0, none⟩) (segA 32 [] L).length [(b, strV (segA 32 [] L))] (by rw [e2]; exact Keeps.row (by simp)) s'
    rw [e1, e2] at this; exact this
theorem Words_res2 {h : Heap} {L : List UInt8} {K : Option Addr → Nat → Nat → Bool → Heap → Prop} (hm : MaxThere h0.heap) (hL : L.length ≤ 2 ^ 20) (s : St h0 h R)
    (hk : ∀ h' q c X, (wsL L).length ≤ c → Keeps h0 (X ++ R) q (strV (wsL L)) → St h0 h' (X ++ R) → K q (wsL L).length c (wsB L) h') : word_Words (str L) h K := by
  refine Words_of hm hL s (fun h1 => ?_) (fun h1 h2 h' Y s' => ?_) fun h1 h2 h' b s' => ?_
  · subst h1
    exact hk h none 0 [] (Nat.le_refl _) keeps_none s
  · obtain ⟨e1, e2⟩ := ws_no h1 h2
    have := hk h' none 0 Y (by rw [e2]; exact Nat.le_refl _) (by rw [e2]; exact keeps_none) s'
    rw [e1, e2] at this; exact this
  · obtain ⟨e1, e2⟩ := ws_yes h1 h2
    have := hk h' (some ⟨b, 0, none⟩) (segA 32 [] L).length [(b, strV (segA 32 [] L))] (by rw [e2]; exact Nat.le_refl _) (by rw [e2]; exact Keeps.row (by simp)) s'
    rw [e1, e2] at this; exact this
end
section
variable {g0 : Heap} {q : Option Addr} {c : Nat}
theorem vals_tail {h : Heap} {q : Option Addr} {l : List Value} (v : valsAt h q l) : valsAt h (q.map (·.add (1 * 1))) (l.drop 1) := fun i x hi => by
  rw [List.getElem?_drop] at hi
  obtain ⟨a, rfl, hc⟩ := v (1 + i) x hi
  exact ⟨a.add (1 * 1), rfl, by rw [← hc]; congr 1; simp [Addr.add, Nat.add_assoc]⟩
theorem join_l0 {h : Heap} {K3 : Int → Heap → Prop} {c1 : ByteArray} {p : Option Addr} {n0 c0 : Nat} {ls : List (List UInt8)} (v : valsAt h q (strV ls)) (hb : ls.length ≤ 2 ^ 20) {s0 : Nat} (hs0 : s0 ≤ 2 ^ 21)
    (hk : K3 ((s0 + sumL ls : Nat) : Int) h) (hT : sumL ls ≤ 2 ^ 21) :
    ∀ (d i s1 : Nat), i + d = ls.length → s1 + sumL (ls.drop i) = s0 + sumL ls → strings_Join.l0 K3 (d + 1) p n0 c0 c1 (s1 : Int) q ls.length c (ls.length : Int) (i : Int) h
  | 0, i, s1, hi, hs => by
    unfold strings_Join.l0 strings_Join.b0
    rw [List.drop_of_length_le (by omega)] at hs
    have : s1 = s0 + sumL ls := by simpa [sumL] using hs
    rw [this]
    exact iteB_neg (decide_eq_false (by omega)) hk
  | d + 1, i, s1, hi, hs => by
    unfold strings_Join.l0 strings_Join.b0
    obtain ⟨x, hx⟩ := get_lt (l := ls) (i := i) (by omega)
    obtain ⟨a, ha, g⟩ := v i (.string (str x)) (by unfold strV; rw [List.getElem?_map, hx]; rfl)
    rw [drop_cons hx, sumL_cons] at hs
    refine iteB_pos (decide_eq_true (by omega)) ?_
    rw [ha]
    simp -zeta only [chkP_some, Int.toNat_natCast, Nat.mul_one]
    rw [← ha]
    refine ⟨by omega, _, g, bindV_intro fun m hm => ?_⟩
    rw [wrap64 (by omega) (by omega)] at hm
    rw [str_size]
    refine iteB_neg (decide_eq_false (by omega)) (bindV_intro fun m2 hm2 => ?_)
    rw [wrap64 (by omega) (by omega)] at hm2
    rw [hm2, wrap64 (by omega) (by omega)]
    rw [show ((s1 : Int) + (x.length : Int)) = ((s1 + x.length : Nat) : Int) by omega]
    exact join_l0 v hb hs0 hk hT d (i + 1) (s1 + x.length) (by omega) (by omega)
theorem join_l1 {K5 : Heap → Prop} {b : Nat} {ls : List (List UInt8)} {w : List UInt8} (v : valsAt g0 q (strV ls)) (hb : ls.length ≤ 2 ^ 20) (hT : sumL ls ≤ 2 ^ 21)
    (hk : ∀ h' , Ext g0 h' → BH g0.size b w h' → K5 h') :
    ∀ (d i : Nat) (h : Heap) (acc : List UInt8), i + d = ls.length → acc.length + sumL (ls.drop i) + d ≤ 2 ^ 24 → tailJ acc (ls.drop i) = w → Ext g0 h → BH g0.size b acc h →
      strings_Join.l1 K5 (d + 1) ⟨#[32]⟩ ⟨b, 0, none⟩ q ls.length c (ls.length : Int) (i : Int) h
  | 0, i, h, acc, hi, hl, hw, e, k => by
    unfold strings_Join.l1 strings_Join.b1
    rw [List.drop_of_length_le (by omega)] at hw
    have hw : acc = w := hw
    subst hw
    exact iteB_neg (decide_eq_false (by omega)) (hk h e k)
  | d + 1, i, h, acc, hi, hl, hw, e, k => by
    unfold strings_Join.l1 strings_Join.b1
    obtain ⟨x, hx⟩ := get_lt (l := ls) (i := i) (by omega)
    have hxl := sumL_mem (List.mem_of_getElem? hx)
    obtain ⟨a, ha, g⟩ := (v.ext e) i (.string (str x)) (by unfold strV; rw [List.getElem?_map, hx]; rfl)
    rw [drop_cons hx] at hw hl
    rw [sumL_cons] at hl
    have hw : tailJ (acc ++ [32] ++ x) (ls.drop (i + 1)) = w := hw
    refine iteB_pos (decide_eq_true (by omega)) ?_
    rw [ha]
    simp -zeta only [chkP_some, Int.toNat_natCast, Nat.mul_one]
    rw [← ha]
    refine ⟨by omega, _, g, callP2.self (WriteString_of (s := [32]) e k (by simp; omega) fun _ _ h2 e2 k2 => callP2.self (WriteString_of e2 k2 (by simp; omega) fun _ _ h3 e3 k3 => ?_))⟩
    rw [wrap64 (by omega) (by omega)]
    refine join_l1 v hb hT hk d (i + 1) h3 (acc ++ [32] ++ x) (by omega) (by simp; omega) hw e3 k3
theorem Join_of {h : Heap} {ls : List (List UInt8)} {K : ByteArray → Heap → Prop} (v : valsAt h q (strV ls)) (hc : ls.length ≤ c) (hb : ls.length ≤ 2 ^ 20) (hT : sumL ls ≤ 2 ^ 21) (hk : ∀ h', Ext h h' → K (str (joinB ls)) h') : strings_Join q ls.length c ⟨#[32]⟩ h K := by
  unfold strings_Join
  refine iteB_intro (fun e => ?_) fun e => iteB_intro (fun e2 => ?_) fun e2 => ?_
  · have e : ls.length = 0 := by have e : (ls.length : Int) = 0 := by simpa using e
                                 omega
    obtain rfl := List.length_eq_zero_iff.1 e
    exact hk h (Ext.refl h)
  · have e2 : ls.length = 1 := by have e2 : (ls.length : Int) = 1 := by simpa using e2
                                  omega
    obtain ⟨x, rfl⟩ : ∃ x, ls = [x] := by
      match ls, e2 with
      | [x], _ => exact ⟨x, rfl⟩
    obtain ⟨a, ha, g⟩ := v 0 (.string (str x)) rfl
    rw [ha]
    simp -zeta only [chkP_some]
    exact ⟨by omega, _, g, hk h (Ext.refl h)⟩
  · have n2 : 2 ≤ ls.length := by
      have e : ¬ (ls.length : Int) = 0 := by simpa using e
      have e2 : ¬ (ls.length : Int) = 1 := by simpa using e2
      omega
    obtain ⟨x, r, hls⟩ : ∃ x r, ls = x :: r := by
      match ls, n2 with
      | x :: r, _ => exact ⟨x, r, rfl⟩
    intro j
    have J : j (((ls.length - 1 : Nat) : Int)) := by
      simp -zeta only [j]
      clear j
      refine ⟨ls.length + 1, join_l0 v hb (s0 := ls.length - 1) (by omega) ?_ hT ls.length 0 (ls.length - 1) (by omega) rfl⟩
      refine new_fresh ?_
      refine callP0.self (Grow_of ((Ext.refl h).push _) (Nat.le_refl _) (by simp) (by omega) fun h2 e2 k2 => ?_)
      obtain ⟨a, ha, g⟩ := (v.ext e2) 0 (.string (str x)) (by rw [hls]; rfl)
      rw [ha]
      simp -zeta only [chkP_some]
      have hx := sumL_mem (ls := ls) (x := x) (by rw [hls]; simp)
      refine ⟨by omega, _, g, callP2.self (WriteString_of e2 k2 (by simp; omega) fun _ _ h3 e3 k3 => ⟨by omega, ?_⟩)⟩
      rw [← ha]
      have e1 : (1 : Int).toNat = 1 := rfl
      rw [e1, if_neg (by omega)]
      have vt := vals_tail v
      have hd : (strV ls).drop 1 = strV r := by rw [hls]; rfl
      rw [hd] at vt
      have hr : ls.length - 1 = r.length := by rw [hls]; simp
      rw [hr]
      have hsr : sumL r ≤ sumL ls := by rw [hls, sumL_cons]; omega
      refine ⟨r.length + 1, join_l1 (g0 := h) (w := joinB ls) vt (by omega) (by omega) (fun h4 e4 k4 => callP1.self (String_of e4 k4 fun h5 e5 => hk h5 e5)) r.length 0 h3 x (by omega) ?_ (by rw [hls]; rfl) e3 (by simpa using k3)⟩
      simp
      omega
    clear_value j
    have hw1 : IntKind.i64.wrap ((ls.length : Int) - 1) = ((ls.length - 1 : Nat) : Int) := by rw [wrap64 (by omega) (by omega)]; omega
    have es : (⟨#[32]⟩ : ByteArray).size = 1 := rfl
    rw [es, hw1]
    refine iteB_pos (by decide) ⟨by omega, bindV_intro fun m hm => ?_⟩
    have hq : (2 : Int) ≤ (9223372036854775807 : Int).tdiv ((ls.length - 1 : Nat) : Int) ∧ (9223372036854775807 : Int).tdiv ((ls.length - 1 : Nat) : Int) ≤ 9223372036854775807 := by
      have e3 : (9223372036854775807 : Int).tdiv ((ls.length - 1 : Nat) : Int) = ((9223372036854775807 / (ls.length - 1) : Nat) : Int) := rfl
      rw [e3]
      have h1 : 2 ≤ 9223372036854775807 / (ls.length - 1) := (Nat.le_div_iff_mul_le (by omega)).2 (by omega)
      have h2 : 9223372036854775807 / (ls.length - 1) ≤ 9223372036854775807 := Nat.div_le_self _ _
      omega
    rw [wrap64 (by omega) (by omega)] at hm
    refine iteB_neg (decide_eq_false (by omega)) (bindV_intro fun m2 hm2 => ?_)
    rw [wrap64 (by omega) (by omega)] at hm2
    have : IntKind.i64.wrap (0 + m2) = ((ls.length - 1 : Nat) : Int) := by rw [wrap64 (by omega) (by omega)]; omega
    rw [this]
    exact J
end
def numV (l : List Int) : List Value := l.map (Value.int .i64)
theorem numV_len (l : List Int) : (numV l).length = l.length := by simp [numV]
theorem numV_get {l : List Int} {i : Nat} {x : Int} (h : l[i]? = some x) : (numV l)[i]? = some (.int .i64 x) := by unfold numV; rw [List.getElem?_map, h]; rfl
theorem tailJ_snoc : ∀ (r : List (List UInt8)) (a x : List UInt8), tailJ a (r ++ [x]) = tailJ a r ++ [32] ++ x
  | [], a, x => rfl
  | y :: r, a, x => by rw [List.cons_append, tailJ, tailJ_snoc r, tailJ]
theorem joinB_snoc {a : List (List UInt8)} (x : List UInt8) (h : a ≠ []) : joinB (a ++ [x]) = joinB a ++ [32] ++ x := by
  match a, h with
  | y :: r, _ => rw [List.cons_append, joinB, tailJ_snoc, joinB]
theorem sum_itoa : ∀ (l : List Int), (∀ n ∈ l, inR n = true) → sumL (l.map Lib.itoa) ≤ 20 * l.length
  | [], _ => by simp [sumL]
  | n :: r, h => by
    have := sum_itoa r fun m hm => h m (by simp [hm])
    obtain ⟨h0, h1⟩ := inR_iff.1 (h n (by simp))
    have := itoa_len h0 h1
    rw [List.map_cons, sumL_cons]; simp; omega
theorem list_len {l : List Int} (h : ∀ n ∈ l, inR n = true) (i : Nat) : (joinB ((l.take i).map Lib.itoa)).length ≤ 21 * l.length := by
  have h1 := sumL_join ((l.take i).map Lib.itoa)
  have h2 := sum_itoa (l.take i) fun n hn => h n (List.mem_of_mem_take hn)
  rw [List.length_map] at h1
  have h3 : (l.take i).length ≤ l.length := by rw [List.length_take]; omega
  omega
end Go.Proofs.YtmejnpadgbdhaaaGreatDoor
