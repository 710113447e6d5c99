/-
  Answers, plainly: what a line's words tell, and the words of an answer.
-/
import Derived.Test.YtmejnpadgbdhaaaGreatDoorC0
import Derived.Test.YtmejnpadgbdhaaaGreatDoorC1
namespace Go.Proofs.YtmejnpadgbdhaaaGreatDoor
set_option linter.unusedVariables false
set_option linter.unusedSimpArgs false
open Go.Proofs Go.Lib
/-- An answer. -/
structure Ans where
  e : Int
  n : List Int
  sd : List Int
  b : List UInt8
def Ans.none : Ans := ⟨0, [], [], []⟩
structure Ans.Valid (a : Ans) : Prop where
  e : inR a.e = true
  n : ∀ x ∈ a.n, inR x = true
  sd : ∀ x ∈ a.sd, inR x = true
def okW : List UInt8 := [111, 107]
def errW : List UInt8 := [101, 114, 114, 111, 114]
def sideW : List UInt8 := [115, 105, 100, 101]
def bytesW : List UInt8 := [98, 121, 116, 101, 115]
def headW (e : Int) : List (List UInt8) := if e = 0 then [okW] else [errW, itoa e]
def sideL (l : List Int) : List (List UInt8) := if l = [] then [] else sideW :: l.map itoa
def byteL (b : List UInt8) : List (List UInt8) := if b = [] then [] else [bytesW, hexL b]
def ansW (a : Ans) : List (List UInt8) := headW a.e ++ (a.n.map itoa ++ (sideL a.sd ++ byteL a.b))
def ansT (a : Ans) : List UInt8 := joinB (ansW a)
/-! ### The program's way -/
def takeN : List (List UInt8) → List Int × List (List UInt8)
  | [] => ([], [])
  | x :: r => if parE x = 0 then (parN x :: (takeN r).1, (takeN r).2) else ([], x :: r)
def headP (W : List (List UInt8)) : Option (Int × List (List UInt8)) := match W with
  | [] => .none
  | w :: r => if w = okW then some (0, r) else if w = errW then (match r with
    | [] => .none
    | x :: r2 => if parE x = 0 ∧ parN x ≠ 0 then some (parN x, r2) else .none) else .none
def sideP (r : List (List UInt8)) : Option (List Int × List (List UInt8)) := match r with
  | [] => some ([], [])
  | w :: r2 => if w = sideW then (if (takeN r2).1 = [] then .none else some (takeN r2)) else some ([], w :: r2)
def byteP (r : List (List UInt8)) : Option (List UInt8 × List (List UInt8)) := match r with
  | [] => some ([], [])
  | w :: r2 => if w = bytesW then (match r2 with
    | [x] => if bytesO x = true ∧ bytesB x ≠ [] then some (bytesB x, []) else .none
    | _ => some ([], r2)) else some ([], w :: r2)
def progP (W : List (List UInt8)) : Option Ans := match headP W with
  | .none => .none
  | some (e, r) => match sideP (takeN r).2 with
    | .none => .none
    | some (sd, r2) => match byteP r2 with
      | .none => .none
      | some (b, r3) => if r3 = [] then some ⟨e, (takeN r).1, sd, b⟩ else .none
/-! ### The document's way -/
def docStep (W : List (List UInt8)) (i : Nat) (x : List UInt8) (p : Int) (a : Ans) : Int × Ans :=
  if x = sideW then (1, a) else if x = bytesW then (2, a)
  else if x = errW ∧ i + 1 < W.length then (p, { a with e := parN (W.getD 1 []) })
  else if p = 2 then (p, { a with b := bytesB x })
  else if p = 1 then (p, { a with sd := a.sd ++ [parN x] })
  else if parE x = 0 ∧ (1 < i ∨ W.getD 0 [] = okW) then (p, { a with n := a.n ++ [parN x] }) else (p, a)
def docF (W : List (List UInt8)) : List (List UInt8) → Nat → Int → Ans → Ans
  | [], _, _, a => a
  | x :: r, i, p, a => docF W r (i + 1) (docStep W i x p a).1 (docStep W i x p a).2
def docP (W : List (List UInt8)) : Ans := docF W W 0 0 Ans.none
/-! ### Words -/
theorem form_ne {x w : List UInt8} (h : formL x = true) (hw : formL w = false) : x ≠ w := fun e => by rw [e, hw] at h; cases h
theorem itoa_nes (n : Int) : itoa n ≠ okW ∧ itoa n ≠ errW ∧ itoa n ≠ sideW ∧ itoa n ≠ bytesW :=
  have h := (itoa_form n).1
  ⟨form_ne h (by decide), form_ne h (by decide), form_ne h (by decide), form_ne h (by decide)⟩
theorem hex_nes (b : List UInt8) : hexL b ≠ errW ∧ hexL b ≠ sideW ∧ hexL b ≠ bytesW := by
  have h := (hex_back b).1
  refine ⟨fun e => ?_, fun e => ?_, fun e => ?_⟩ <;> (rw [e] at h; exact absurd h (by decide))
theorem wd_clean {x : List UInt8} (h0 : x ≠ []) (h : ∀ c ∈ x, c ≠ 32 ∧ c ≠ 10) : wdB x = true := by
  unfold wdB
  simp only [Bool.and_eq_true, Bool.not_eq_true', decide_eq_false_iff_not]
  refine ⟨h0, ?_⟩
  rw [List.any_eq_false]
  intro c hc
  unfold spB
  simp [(h c hc).1, (h c hc).2]
theorem dig_clean {l : List UInt8} (h : formL l = true) : ∀ c ∈ l, c ≠ 32 ∧ c ≠ 10 := by
  intro c hc
  unfold formL at h
  have key : ∀ r : List UInt8, natB r = true → ∀ c ∈ r, c ≠ 32 ∧ c ≠ 10 := fun r hr c hc => by
    have := List.all_eq_true.1 (natB_all hr) c hc
    constructor <;> (rintro rfl; simp [dgB] at this)
  split at h
  · rename_i hh
    match l, hh with
    | a :: r, hh =>
      simp at hh; subst hh
      simp only [List.tail_cons, Bool.and_eq_true] at h
      rcases List.mem_cons.1 hc with rfl | hc
      · exact ⟨by decide, by decide⟩
      · exact key r h.1 c hc
  · exact key l h c hc
theorem itoa_wd (n : Int) : wdB (itoa n) = true := wd_clean (itoa_ne n) (dig_clean (itoa_form n).1)
theorem hex_wd (b : List UInt8) : wdB (hexL b) = true := wd_clean (hex_clean b).1 (hex_clean b).2
theorem map_wd (l : List Int) : (l.map itoa).all wdB = true := by
  rw [List.all_eq_true]
  intro x hx
  obtain ⟨n, _, rfl⟩ := List.mem_map.1 hx
  exact itoa_wd n
theorem ans_wd (a : Ans) : (ansW a).all wdB = true := by
  unfold ansW
  rw [List.all_append, List.all_append, List.all_append, map_wd]
  have h1 : (headW a.e).all wdB = true := by
    unfold headW
    split
    · decide
    · rw [List.all_cons, List.all_cons, itoa_wd]; decide
  have h2 : (sideL a.sd).all wdB = true := by
    unfold sideL
    split
    · rfl
    · rw [List.all_cons, map_wd]; decide
  have h3 : (byteL a.b).all wdB = true := by
    unfold byteL
    split
    · rfl
    · rw [List.all_cons, List.all_cons, hex_wd]; decide
  rw [h1, h2, h3]; rfl
theorem ans_ws (a : Ans) : wsB (ansT a) = true ∧ wsL (ansT a) = ansW a := words_line (ans_wd a)
def stopB (r : List (List UInt8)) : Prop := r = [] ∨ ∃ x s, r = x :: s ∧ parE x ≠ 0
theorem takeN_map : ∀ (l : List Int) {r : List (List UInt8)}, (∀ n ∈ l, inR n = true) → stopB r → takeN (l.map itoa ++ r) = (l, r)
  | [], r, _, hr => by
    rcases hr with rfl | ⟨x, s, rfl, hx⟩
    · rfl
    · show takeN (x :: s) = _
      rw [takeN, if_neg hx]
  | n :: l, r, h, hr => by
    obtain ⟨p1, p2⟩ := par_itoa (h n (by simp))
    rw [List.map_cons, List.cons_append, takeN, if_pos p2, p1, takeN_map l (fun m hm => h m (by simp [hm])) hr]
theorem takeN_in : ∀ (r : List (List UInt8)), ∀ x ∈ (takeN r).1, inR x = true
  | [], x, h => by cases h
  | w :: r, x, h => by
    rw [takeN] at h
    split at h
    · rcases List.mem_cons.1 h with rfl | h
      · exact parN_in w
      · exact takeN_in r x h
    · cases h
theorem byte_stop (b : List UInt8) : stopB (byteL b) := by
  unfold byteL
  split
  · exact .inl rfl
  · exact .inr ⟨_, _, rfl, by decide⟩
theorem side_stop (l : List Int) (b : List UInt8) : stopB (sideL l ++ byteL b) := by
  unfold sideL
  split
  · exact byte_stop b
  · exact .inr ⟨_, _, rfl, by decide⟩
theorem byteP_of (b : List UInt8) : byteP (byteL b) = some (b, []) := by
  unfold byteL
  split
  · rename_i h; rw [h]; rfl
  · rename_i h
    obtain ⟨h1, h2⟩ := hex_back b
    show (if bytesW = bytesW then (if bytesO (hexL b) = true ∧ bytesB (hexL b) ≠ [] then some (bytesB (hexL b), []) else none) else some ([], [bytesW, hexL b])) = _
    rw [if_pos rfl, if_pos ⟨h1, by rw [h2]; exact h⟩, h2]
theorem sideP_of {l : List Int} (b : List UInt8) (hl : ∀ n ∈ l, inR n = true) : sideP (sideL l ++ byteL b) = some (l, byteL b) := by
  unfold sideL
  split
  · rename_i h
    rw [h, List.nil_append]
    unfold byteL
    split
    · rfl
    · show (if bytesW = sideW then (if (takeN [hexL b]).1 = [] then none else some (takeN [hexL b])) else some ([], [bytesW, hexL b])) = _
      rw [if_neg (by decide)]
  · rename_i h
    show (if sideW = sideW then (if (takeN (l.map itoa ++ byteL b)).1 = [] then none else some (takeN (l.map itoa ++ byteL b))) else some ([], sideW :: (l.map itoa ++ byteL b))) = _
    rw [if_pos rfl, takeN_map l hl (byte_stop b), if_neg h]
theorem headP_of {e : Int} (he : inR e = true) (r : List (List UInt8)) : headP (headW e ++ r) = some (e, r) := by
  unfold headW
  split
  · rename_i h
    unfold headP
    simp only [List.cons_append, List.nil_append, if_true]
    rw [h]
  · rename_i h
    obtain ⟨p1, p2⟩ := par_itoa he
    show (if errW = okW then some (0, itoa e :: r) else if errW = errW then (if parE (itoa e) = 0 ∧ parN (itoa e) ≠ 0 then some (parN (itoa e), r) else none) else none) = _
    rw [if_neg (by decide), if_pos rfl, if_pos ⟨p2, by rw [p1]; exact h⟩, p1]
theorem prog_ans {a : Ans} (v : a.Valid) : progP (ansW a) = some a := by
  unfold progP ansW
  rw [headP_of v.e]
  simp only
  rw [takeN_map a.n v.n (side_stop a.sd a.b)]
  simp only
  rw [sideP_of a.b v.sd]
  simp only
  rw [byteP_of]
  simp
theorem headP_in {W : List (List UInt8)} {e : Int} {r : List (List UInt8)} (h : headP W = some (e, r)) : inR e = true := by
  unfold headP at h
  split at h
  · cases h
  · split at h
    · injection h with h; injection h with h1 h2; rw [← h1]; decide
    · split at h
      · split at h
        · cases h
        · split at h
          · injection h with h; injection h with h1 h2; rw [← h1]; exact parN_in _
          · cases h
      · cases h
theorem sideP_in {r r2 : List (List UInt8)} {l : List Int} (h : sideP r = some (l, r2)) : ∀ x ∈ l, inR x = true := by
  unfold sideP at h
  split at h
  · injection h with h; injection h with h1 h2; rw [← h1]; intro x hx; cases hx
  · split at h
    · split at h
      · cases h
      · injection h with h
        have := congrArg Prod.fst h
        simp only at this
        rw [← this]
        exact takeN_in _
    · injection h with h; injection h with h1 h2; rw [← h1]; intro x hx; cases hx
theorem prog_valid {W : List (List UInt8)} {a : Ans} (h : progP W = some a) : a.Valid := by
  unfold progP at h
  split at h
  · cases h
  · rename_i e r h1
    split at h
    · cases h
    · rename_i sd r2 h2
      split at h
      · cases h
      · split at h
        · injection h with h
          rw [← h]
          exact ⟨headP_in h1, takeN_in r, sideP_in h2⟩
        · cases h
/-! ### The document's way comes to the same -/
theorem docF_nums (W : List (List UInt8)) : ∀ (l : List Int) (r : List (List UInt8)) (i : Nat) (a : Ans), (∀ n ∈ l, inR n = true) → (1 < i ∨ W.getD 0 [] = okW) → docF W (l.map itoa ++ r) i 0 a = docF W r (i + l.length) 0 { a with n := a.n ++ l }
  | [], r, i, a, _, _ => by simp
  | n :: l, r, i, a, h, hi => by
    obtain ⟨p1, p2⟩ := par_itoa (h n (by simp))
    obtain ⟨_, n2, n3, n4⟩ := itoa_nes n
    have e : docStep W i (itoa n) 0 a = (0, { a with n := a.n ++ [n] }) := by
      unfold docStep
      rw [if_neg n3, if_neg n4, if_neg (fun hh => n2 hh.1), if_neg (by decide), if_neg (by decide), if_pos ⟨p2, hi⟩, p1]
    rw [List.map_cons, List.cons_append, docF, e]
    simp only
    rw [docF_nums W l r (i + 1) _ (fun m hm => h m (by simp [hm])) (hi.imp (fun h => by omega) id)]
    simp only [List.append_assoc, List.cons_append, List.nil_append, List.length_cons]
    rw [show i + 1 + l.length = i + (l.length + 1) by omega]
theorem docF_sd (W : List (List UInt8)) : ∀ (l : List Int) (r : List (List UInt8)) (i : Nat) (a : Ans), (∀ n ∈ l, inR n = true) → docF W (l.map itoa ++ r) i 1 a = docF W r (i + l.length) 1 { a with sd := a.sd ++ l }
  | [], r, i, a, _ => by simp
  | n :: l, r, i, a, h => by
    obtain ⟨p1, p2⟩ := par_itoa (h n (by simp))
    obtain ⟨_, n2, n3, n4⟩ := itoa_nes n
    have e : docStep W i (itoa n) 1 a = (1, { a with sd := a.sd ++ [n] }) := by
      unfold docStep
      rw [if_neg n3, if_neg n4, if_neg (fun hh => n2 hh.1), if_neg (by decide), if_pos rfl, p1]
    rw [List.map_cons, List.cons_append, docF, e]
    simp only
    rw [docF_sd W l r (i + 1) _ (fun m hm => h m (by simp [hm]))]
    simp only [List.append_assoc, List.cons_append, List.nil_append, List.length_cons]
    rw [show i + 1 + l.length = i + (l.length + 1) by omega]
theorem docF_byte (W : List (List UInt8)) (b : List UInt8) (i : Nat) (p : Int) (a : Ans) (ha : a.b = []) : docF W (byteL b) i p a = { a with b := b } := by
  unfold byteL
  split
  · rename_i h; rw [h, docF, ← ha]
  · obtain ⟨n1, n2, n3⟩ := hex_nes b
    have e1 : docStep W i bytesW p a = (2, a) := by unfold docStep; rw [if_neg (by decide), if_pos rfl]
    have e2 : docStep W (i + 1) (hexL b) 2 a = (2, { a with b := b }) := by
      unfold docStep
      rw [if_neg n2, if_neg n3, if_neg (fun hh => n1 hh.1), if_pos rfl, (hex_back b).2]
    rw [docF, e1]
    simp only
    rw [docF, e2]
    simp only
    rw [docF]
theorem docF_side (W : List (List UInt8)) {l : List Int} (b : List UInt8) (i : Nat) (a : Ans) (hl : ∀ n ∈ l, inR n = true) (ha : a.b = []) (hs : a.sd = []) : docF W (sideL l ++ byteL b) i 0 a = { a with sd := l, b := b } := by
  unfold sideL
  split
  · rename_i h; rw [h, List.nil_append, docF_byte W b i 0 a ha, ← hs]
  · have e1 : docStep W i sideW 0 a = (1, a) := by unfold docStep; rw [if_pos rfl]
    rw [List.cons_append, docF, e1]
    simp only
    rw [docF_sd W l _ _ _ hl, docF_byte W b _ _ _ (show ({ a with sd := a.sd ++ l } : Ans).b = [] from ha)]
    simp [hs]
theorem doc_ans {a : Ans} (v : a.Valid) : docP (ansW a) = a := by
  unfold docP
  generalize hW : ansW a = W
  have h0 : W = headW a.e ++ (a.n.map itoa ++ (sideL a.sd ++ byteL a.b)) := hW.symm
  by_cases he : a.e = 0
  · have e1 : headW a.e = [okW] := by unfold headW; rw [if_pos he]
    rw [e1] at h0
    have hg : W.getD 0 [] = okW := by rw [h0]; rfl
    have e2 : docStep W 0 okW 0 Ans.none = (0, Ans.none) := by
      unfold docStep
      rw [if_neg (by decide), if_neg (by decide), if_neg (fun hh => absurd hh.1 (by decide)), if_neg (by decide), if_neg (by decide), if_neg (fun hh => absurd hh.1 (by decide))]
    rw [show docF W W = docF W (okW :: (a.n.map itoa ++ (sideL a.sd ++ byteL a.b))) by rw [← List.singleton_append (x := okW), ← h0]]
    rw [docF, e2]
    simp only
    rw [docF_nums W a.n _ _ _ v.n (.inr hg), docF_side W a.b _ _ v.sd rfl rfl]
    show (⟨0, [] ++ a.n, a.sd, a.b⟩ : Ans) = a
    rw [← he, List.nil_append]
  · have e1 : headW a.e = [errW, itoa a.e] := by unfold headW; rw [if_neg he]
    rw [e1] at h0
    have hg : W.getD 1 [] = itoa a.e := by rw [h0]; rfl
    have hg0 : W.getD 0 [] ≠ okW := by rw [h0]; show errW ≠ okW; decide
    have hl : 0 + 1 < W.length := by rw [h0]; simp
    obtain ⟨p1, p2⟩ := par_itoa v.e
    obtain ⟨_, n2, n3, n4⟩ := itoa_nes a.e
    have e2 : docStep W 0 errW 0 Ans.none = (0, { Ans.none with e := a.e }) := by
      unfold docStep
      rw [if_neg (by decide), if_neg (by decide), if_pos ⟨rfl, hl⟩, hg, p1]
    have e3 : docStep W (0 + 1) (itoa a.e) 0 { Ans.none with e := a.e } = (0, { Ans.none with e := a.e }) := by
      unfold docStep
      rw [if_neg n3, if_neg n4, if_neg (fun hh => n2 hh.1), if_neg (by decide), if_neg (by decide), if_neg (fun hh => hh.2.elim (by decide) hg0)]
    rw [show docF W W = docF W (errW :: itoa a.e :: (a.n.map itoa ++ (sideL a.sd ++ byteL a.b))) by
      have : errW :: itoa a.e :: (a.n.map itoa ++ (sideL a.sd ++ byteL a.b)) = W := h0.symm
      rw [this]]
    rw [docF, e2]
    simp only
    rw [docF, e3]
    simp only
    rw [docF_nums W a.n _ _ _ v.n (.inl (by omega)), docF_side W a.b _ _ v.sd rfl rfl]
    show (⟨a.e, [] ++ a.n, a.sd, a.b⟩ : Ans) = a
    rw [List.nil_append]
theorem step_valid {W : List (List UInt8)} {i : Nat} {x : List UInt8} {p : Int} {a : Ans} (v : a.Valid) : (docStep W i x p a).2.Valid := by
  have app : ∀ (l : List Int), (∀ y ∈ l, inR y = true) → ∀ y ∈ l ++ [parN x], inR y = true := fun l hl y hy => by
    rcases List.mem_append.1 hy with hy | hy
    · exact hl y hy
    · obtain rfl : y = parN x := by simpa using hy
      exact parN_in x
  unfold docStep
  split
  · exact v
  · split
    · exact v
    · split
      · exact ⟨parN_in _, v.n, v.sd⟩
      · split
        · exact ⟨v.e, v.n, v.sd⟩
        · split
          · exact ⟨v.e, v.n, app _ v.sd⟩
          · split
            · exact ⟨v.e, app _ v.n, v.sd⟩
            · exact v
theorem docF_valid (W : List (List UInt8)) : ∀ (r : List (List UInt8)) (i : Nat) (p : Int) (a : Ans), a.Valid → (docF W r i p a).Valid
  | [], i, p, a, v => v
  | x :: r, i, p, a, v => by rw [docF]; exact docF_valid W r _ _ _ (step_valid v)
theorem none_valid : Ans.none.Valid := ⟨by decide, fun x h => (by cases h), fun x h => (by cases h)⟩
theorem doc_valid (W : List (List UInt8)) : (docP W).Valid := docF_valid W W 0 0 _ none_valid
/-- What a line comes to. -/
def ansOk (L : List UInt8) : Bool := wsB L && decide (ansT (docP (wsL L)) = L)
def ansR (L : List UInt8) : Ans := if ansOk L = true then docP (wsL L) else Ans.none
theorem ansR_valid (L : List UInt8) : (ansR L).Valid := by
  unfold ansR; split
  · exact doc_valid _
  · exact none_valid
theorem ok_no {L : List UInt8} (h : wsB L = false) : ansOk L = false ∧ ansR L = Ans.none := by
  have : ansOk L = false := by unfold ansOk; rw [h]; rfl
  exact ⟨this, by unfold ansR; rw [this]; rfl⟩
theorem prog_none {L : List UInt8} (h : progP (wsL L) = none) : ansOk L = false ∧ ansR L = Ans.none := by
  have : ansOk L = false := by
    unfold ansOk
    by_cases hd : ansT (docP (wsL L)) = L
    · have e := (ans_ws (docP (wsL L))).2
      rw [hd] at e
      have := prog_ans (doc_valid (wsL L))
      rw [← e, h] at this; cases this
    · rw [decide_eq_false hd, Bool.and_false]
  exact ⟨this, by unfold ansR; rw [this]; rfl⟩
theorem prog_some {L : List UInt8} {a : Ans} (hw : wsB L = true) (h : progP (wsL L) = some a) : (ansT a = L → ansOk L = true ∧ ansR L = a) ∧ (ansT a ≠ L → ansOk L = false ∧ ansR L = Ans.none) := by
  have v := prog_valid h
  constructor
  · intro hT
    have e := (ans_ws a).2
    rw [hT] at e
    have hd : docP (wsL L) = a := by rw [e]; exact doc_ans v
    have ho : ansOk L = true := by unfold ansOk; rw [hw, hd, hT]; simp
    exact ⟨ho, by unfold ansR; rw [if_pos ho, hd]⟩
  · intro hT
    have ho : ansOk L = false := by
      unfold ansOk
      by_cases hd : ansT (docP (wsL L)) = L
      · have e := (ans_ws (docP (wsL L))).2
        rw [hd] at e
        have := prog_ans (doc_valid (wsL L))
        rw [← e, h] at this
        injection this with this
        rw [← this] at hd
        exact absurd hd hT
      · rw [decide_eq_false hd, Bool.and_false]
    exact ⟨ho, by unfold ansR; rw [ho]; rfl⟩
/-- An answer that was printed. -/
theorem ans_back {a : Ans} (v : a.Valid) : ansOk (ansT a) = true ∧ ansR (ansT a) = a := by
  obtain ⟨h1, h2⟩ := ans_ws a
  exact (prog_some h1 (by rw [h2]; exact prog_ans v)).1 rfl
theorem ok_text {L : List UInt8} (h : ansOk L = true) : ansT (ansR L) = L := by
  unfold ansR
  rw [if_pos h]
  unfold ansOk at h
  simp only [Bool.and_eq_true, decide_eq_true_eq] at h
  exact h.2
end Go.Proofs.YtmejnpadgbdhaaaGreatDoor
