/-
  Answers: the words of a line, taken one behind the other: the program's.
-/
import Derived.Test.YtmejnpadgbdhaaaGreatDoorA3
namespace Go.Proofs.YtmejnpadgbdhaaaGreatDoor
set_option linter.unusedVariables false
set_option linter.unusedSimpArgs false
set_option linter.unnecessarySimpa false
open Go.Proofs Go.Shelf Go.RowKit Go.Hp
attribute [local irreducible] Go.Hp.iteB Go.Hp.stC Go.Hp.newP
theorem keeps_tail {h0 : Base} {R : Rws} {q : Option Addr} {c : Nat} {x : List UInt8} {r : List (List UInt8)} (hc : (x :: r).length ≤ c) (k : Keeps h0 R q (strV (x :: r))) : Keeps h0 R (if c = 1 then q else q.map (·.add (1 * 1))) (strV r) := by
  by_cases e : c = 1
  · have : r = [] := by
      rw [List.length_cons] at hc
      exact List.length_eq_zero_iff.1 (by omega)
    subst this
    exact Keeps.nil
  · rw [if_neg e]
    exact fun h L s hs => vals_tail (k h L s hs)
/-- Where a line is taken apart: the result's box, the words that are left, the answer so far. -/
def PSt (h0 : Base) (R : Rws) (t ln an : Nat) (W : List (List UInt8)) (a : Ans) (h : Heap) : Prop :=
  ∃ (q : Option Addr) (c : Nat) (qn : Option Addr) (cn : Nat) (qs : Option Addr) (cs : Nat) (qb : Option Addr) (cb : Nat) (XN XS Y : Rws), W.length ≤ c ∧ Keeps h0 ((t, recA Ans.none none none none 0 0 0) :: (Y ++ R)) q (strV W) ∧ Own qn cn (numV a.n) XN ∧ Own qs cs (numV a.sd) XS ∧ Keeps h0 (Y ++ R) qb (byV a.b) ∧
    St h0 h ((ln, [.slice q W.length c]) :: (an, recA a qn qs qb cn cs cb) :: (t, recA Ans.none none none none 0 0 0) :: (XN ++ (XS ++ (Y ++ R))))
section
variable {h0 : Base} {R : Rws} {t ln an : Nat} {W : List (List UInt8)} {a : Ans} {h : Heap}
theorem PSt.ofExt (p : PSt h0 R t ln an W a h) {h' : Heap} (e : Ext h h') : PSt h0 R t ln an W a h' := by
  obtain ⟨q, c, qn, cn, qs, cs, qb, cb, XN, XS, Y, p1, p2, p3, p4, p5, s⟩ := p
  exact ⟨q, c, qn, cn, qs, cs, qb, cb, XN, XS, Y, p1, p2, p3, p4, p5, s.ofExt e⟩
theorem PSt.ext (p : PSt h0 R t ln an W a h) : Ext h0.heap h := by
  obtain ⟨q, c, qn, cn, qs, cs, qb, cb, XN, XS, Y, p1, p2, p3, p4, p5, s⟩ := p
  exact s.ext
theorem PSt.box (p : PSt h0 R t ln an W a h) : ∃ X, St h0 h ((t, recA Ans.none none none none 0 0 0) :: (X ++ R)) := by
  obtain ⟨q, c, qn, cn, qs, cs, qb, cb, XN, XS, Y, p1, p2, p3, p4, p5, s⟩ := p
  refine ⟨(ln, [.slice q W.length c]) :: (an, recA a qn qs qb cn cs cb) :: (XN ++ (XS ++ Y)), (St.re s (by intro a; simp only [cntR_append, cntR_cons, cntR_nil, List.cons_append, List.nil_append, List.set_cons_zero, List.set_cons_succ]; omega))⟩
theorem word_of {w : List UInt8} {K : Bool → Heap → Prop} (p : PSt h0 R t ln an W a h) (hk1 : ∀ r h', W = w :: r → PSt h0 R t ln an r a h' → K true h') (hk0 : (∀ r, W ≠ w :: r) → K false h) :
    answer_line_word (some ⟨ln, 0, none⟩) (str w) h K := by
  obtain ⟨q, c, qn, cn, qs, cs, qb, cb, XN, XS, Y, p1, p2, p3, p4, p5, s⟩ := p
  unfold answer_line_word
  intro j
  simp -zeta only [chkP_some]
  refine ⟨_, _, _, s.rd0 0, iteB_intro (fun e => hk0 ?_) fun e => ?_⟩
  · intro r hr
    rw [hr] at e
    simp at e
    omega
  · match W, p1, p2, s, hk1, hk0, e with
    | x :: r, p1, p2, s, hk1, hk0, e =>
      obtain ⟨ad, ha, g⟩ := p2 h _ s (fun y hy => by simp at hy ⊢; rcases hy with hy | hy | hy <;> simp [hy]) 0 (.string (str x)) rfl
      refine ⟨_, _, _, s.rd0 0, ?_⟩
      rw [ha] at *
      simp -zeta only [chkP_some]
      refine ⟨⟨by decide, by rw [List.length_cons]; omega⟩, str x, g, ?_⟩
      rw [toList_str, toList_str]
      refine iteB_intro (fun e2 => hk0 fun r' hr => ?_) fun e2 => ?_
      · injection hr with h1 h2
        subst h1
        simp at e2
      · have e2 : x = w := by simpa using e2
        subst e2
        simp -zeta only [j]
        clear j
        have e1 : (1 : Int).toNat = 1 := rfl
        refine ⟨_, _, _, s.rd0 0, ⟨by decide, by rw [List.length_cons]; omega⟩, s.st0 (by simp) fun h2 s2 => hk1 r h2 rfl ?_⟩
        rw [e1] at s2
        refine ⟨_, c - 1, qn, cn, qs, cs, qb, cb, XN, XS, Y, by rw [List.length_cons] at p1; omega, keeps_tail p1 p2, p3, p4, p5, ?_⟩
        have el : (x :: r).length - 1 = r.length := by simp
        rw [el] at s2
        exact s2
    | [], _, _, _, _, _, e => simp at e
theorem number_of {K : Int → Bool → Heap → Prop} (p : PSt h0 R t ln an W a h) (f : Facts h0.heap) (hx : ∀ x ∈ W, x.length ≤ 2 ^ 20) (hk0 : W = [] → K 0 false h)
    (hk1 : ∀ x r h', W = x :: r → parE x = 0 → PSt h0 R t ln an r a h' → K (parN x) true h') (hk2 : ∀ x r h', W = x :: r → parE x ≠ 0 → PSt h0 R t ln an W a h' → K (parN x) false h') :
    answer_line_number (some ⟨ln, 0, none⟩) h K := by
  obtain ⟨q, c, qn, cn, qs, cs, qb, cb, XN, XS, Y, p1, p2, p3, p4, p5, s⟩ := p
  unfold answer_line_number
  simp -zeta only [chkP_some]
  refine ⟨_, _, _, s.rd0 0, iteB_intro (fun e => hk0 ?_) fun e => ?_⟩
  · exact List.length_eq_zero_iff.1 (by have e : (W.length : Int) = 0 := by simpa using e
                                        omega)
  · match W, p1, p2, s, hx, hk1, hk2, e with
    | x :: r, p1, p2, s, hx, hk1, hk2, e =>
      obtain ⟨ad, ha, g⟩ := p2 h _ s (fun y hy => by simp at hy ⊢; rcases hy with hy | hy | hy <;> simp [hy]) 0 (.string (str x)) rfl
      refine ⟨_, _, _, s.rd0 0, ?_⟩
      rw [ha] at *
      simp -zeta only [chkP_some]
      refine ⟨⟨by decide, by rw [List.length_cons]; omega⟩, str x, g, callP2.self (Parse_of (f.ext s.ext) (Nat.le_trans (hx x (by simp)) (by decide)) fun h2 e2 => ?_)⟩
      have s2 := s.ofExt e2
      refine iteB_intro (fun e3 => ?_) fun e3 => ?_
      · rw [e3]
        have e3 : parE x = 0 := by simpa using e3
        have e1 : (1 : Int).toNat = 1 := rfl
        refine ⟨_, _, _, s2.rd0 0, ⟨by decide, by rw [List.length_cons]; omega⟩, s2.st0 (by simp) fun h3 s3 => hk1 x r h3 rfl e3 ?_⟩
        rw [e1] at s3
        refine ⟨_, c - 1, qn, cn, qs, cs, qb, cb, XN, XS, Y, by rw [List.length_cons] at p1; omega, keeps_tail p1 p2, p3, p4, p5, ?_⟩
        have el : (x :: r).length - 1 = r.length := by simp
        rw [el] at s3
        exact s3
      · rw [e3]
        have e3 : parE x ≠ 0 := by simpa using e3
        exact hk2 x r h2 rfl e3 ⟨q, c, qn, cn, qs, cs, qb, cb, XN, XS, Y, p1, p2, p3, p4, p5, s2⟩
    | [], _, _, _, _, _, _, e => simp at e
theorem put1_of {x : Int} {K : Heap → Prop} (p : PSt h0 R t ln an W a h) (hl : a.n.length + 1 ≤ 2 ^ 20) (hk : ∀ h', PSt h0 R t ln an W { a with n := a.n ++ [x] } h' → K h') : answer_Parse_c1 x ⟨an, 0, none⟩ h K := by
  obtain ⟨q, c, qn, cn, qs, cs, qb, cb, XN, XS, Y, p1, p2, p3, p4, p5, s⟩ := p
  unfold answer_Parse_c1
  refine ⟨_, _, _, by rw [add_mk]; exact s.rd1 1, ?_⟩
  have s' : St h0 h (XN ++ ((an, recA a qn qs qb cn cs cb) :: (ln, [.slice q W.length c]) :: (t, recA Ans.none none none none 0 0 0) :: (XS ++ (Y ++ R)))) := (St.re s (by intro a; simp only [cntR_append, cntR_cons, cntR_nil, List.cons_append, List.nil_append, List.set_cons_zero, List.set_cons_succ]; omega))
  refine Own.push1 p3 s' (numV_len _).symm rfl (by rw [numV_len]; omega) fun q2 c2 X2 h2 o2 s2 => ?_
  rw [numV_len, add_mk, Nat.zero_add]
  have s3 : St h0 h2 ((an, recA a qn qs qb cn cs cb) :: (ln, [.slice q W.length c]) :: (t, recA Ans.none none none none 0 0 0) :: (X2 ++ (XS ++ (Y ++ R)))) := (St.re s2 (by intro a; simp only [cntR_append, cntR_cons, cntR_nil, List.cons_append, List.nil_append, List.set_cons_zero, List.set_cons_succ]; omega))
  refine s3.st0 (by simp [recA]) fun h3 s4 => hk h3 ⟨q, c, q2, c2, qs, cs, qb, cb, X2, XS, Y, p1, p2, by simpa [numV] using o2, p4, p5, ?_⟩
  have er : (recA a qn qs qb cn cs cb).set 1 (.slice q2 (a.n.length + 1) c2) = recA { a with n := a.n ++ [x] } q2 qs qb c2 cs cb := by simp [recA]
  rw [er] at s4
  exact s4.pull1
theorem put2_of {x : Int} {K : Heap → Prop} (p : PSt h0 R t ln an W a h) (hl : a.sd.length + 1 ≤ 2 ^ 20) (hk : ∀ h', PSt h0 R t ln an W { a with sd := a.sd ++ [x] } h' → K h') : answer_Parse_c2 x ⟨an, 0, none⟩ h K := by
  obtain ⟨q, c, qn, cn, qs, cs, qb, cb, XN, XS, Y, p1, p2, p3, p4, p5, s⟩ := p
  unfold answer_Parse_c2
  refine ⟨_, _, _, by rw [add_mk]; exact s.rd1 2, ?_⟩
  have s' : St h0 h (XS ++ ((an, recA a qn qs qb cn cs cb) :: (ln, [.slice q W.length c]) :: (t, recA Ans.none none none none 0 0 0) :: (XN ++ (Y ++ R)))) := (St.re s (by intro a; simp only [cntR_append, cntR_cons, cntR_nil, List.cons_append, List.nil_append, List.set_cons_zero, List.set_cons_succ]; omega))
  refine Own.push1 p4 s' (numV_len _).symm rfl (by rw [numV_len]; omega) fun q2 c2 X2 h2 o2 s2 => ?_
  rw [numV_len, add_mk, Nat.zero_add]
  have s3 : St h0 h2 ((an, recA a qn qs qb cn cs cb) :: (ln, [.slice q W.length c]) :: (t, recA Ans.none none none none 0 0 0) :: (XN ++ (X2 ++ (Y ++ R)))) := (St.re s2 (by intro a; simp only [cntR_append, cntR_cons, cntR_nil, List.cons_append, List.nil_append, List.set_cons_zero, List.set_cons_succ]; omega))
  refine s3.st0 (by simp [recA]) fun h3 s4 => hk h3 ⟨q, c, qn, cn, q2, c2, qb, cb, XN, X2, Y, p1, p2, p3, by simpa [numV] using o2, p5, ?_⟩
  have er : (recA a qn qs qb cn cs cb).set 2 (.slice q2 (a.sd.length + 1) c2) = recA { a with sd := a.sd ++ [x] } qn q2 qb cn c2 cb := by simp [recA]
  rw [er] at s4
  exact s4.pull1
theorem all1_l0 (f : Facts h0.heap) {K : Heap → Prop} : ∀ (r : List (List UInt8)) (x : Int) (a : Ans) (h : Heap), (∀ y ∈ r, y.length ≤ 2 ^ 20) → a.n.length + r.length + 1 ≤ 2 ^ 20 → PSt h0 R t ln an r a h →
    (∀ h', PSt h0 R t ln an (takeN r).2 { a with n := a.n ++ x :: (takeN r).1 } h' → K h') → answer_all_answer_line_number_answer_Parse_c1.l0 K (r.length + 2) ⟨ln, 0, none⟩ ⟨an, 0, none⟩ x true h
  | [], x, a, h, hx, hl, p, hk => by
    unfold answer_all_answer_line_number_answer_Parse_c1.l0 answer_all_answer_line_number_answer_Parse_c1.b0
    refine iteB_pos rfl (callP0.self (put1_of p (by simp at hl; omega) fun h2 p2 => callP2.self (number_of p2 f hx (fun _ => ?_) (fun x r h' e => by cases e) (fun x r h' e => by cases e))))
    unfold answer_all_answer_line_number_answer_Parse_c1.l0 answer_all_answer_line_number_answer_Parse_c1.b0
    exact iteB_neg rfl (hk h2 p2)
  | y :: r, x, a, h, hx, hl, p, hk => by
    unfold answer_all_answer_line_number_answer_Parse_c1.l0 answer_all_answer_line_number_answer_Parse_c1.b0
    rw [List.length_cons] at hl
    refine iteB_pos rfl (callP0.self (put1_of p (by omega) fun h2 p2 => callP2.self (number_of p2 f hx (fun e => by cases e) (fun x2 r2 h' e e0 p3 => ?_) (fun x2 r2 h' e e0 p3 => ?_))))
    · obtain ⟨rfl, rfl⟩ : y = x2 ∧ r = r2 := by injection e with e1 e2; exact ⟨e1, e2⟩
      refine all1_l0 f r (parN y) { a with n := a.n ++ [x] } h' (fun z hz => hx z (by simp [hz])) (by simp; omega) p3 fun h4 p4 => hk h4 ?_
      rw [takeN, if_pos e0]
      simpa using p4
    · obtain ⟨rfl, rfl⟩ : y = x2 ∧ r = r2 := by injection e with e1 e2; exact ⟨e1, e2⟩
      rw [List.length_cons]
      unfold answer_all_answer_line_number_answer_Parse_c1.l0 answer_all_answer_line_number_answer_Parse_c1.b0
      refine iteB_neg rfl (hk h' ?_)
      rw [takeN, if_neg e0]
      exact p3
theorem all1_of (f : Facts h0.heap) {K : Heap → Prop} (hx : ∀ y ∈ W, y.length ≤ 2 ^ 20) (hl : a.n.length + W.length ≤ 2 ^ 20) (p : PSt h0 R t ln an W a h)
    (hk : ∀ h', PSt h0 R t ln an (takeN W).2 { a with n := a.n ++ (takeN W).1 } h' → K h') : answer_all_answer_line_number_answer_Parse_c1 ⟨ln, 0, none⟩ ⟨an, 0, none⟩ h K := by
  unfold answer_all_answer_line_number_answer_Parse_c1
  refine callP2.self (number_of p f hx (fun e => ⟨1, ?_⟩) (fun x r h' e e0 p3 => ?_) (fun x r h' e e0 p3 => ⟨1, ?_⟩))
  · unfold answer_all_answer_line_number_answer_Parse_c1.l0 answer_all_answer_line_number_answer_Parse_c1.b0
    refine iteB_neg rfl (hk h ?_)
    rw [e] at p ⊢
    simpa [takeN] using p
  · rw [e] at hx hl hk
    rw [List.length_cons] at hl
    refine ⟨r.length + 2, all1_l0 f r (parN x) a h' (fun z hz => hx z (by simp [hz])) (by omega) p3 fun h4 p4 => hk h4 ?_⟩
    rw [takeN, if_pos e0]
    exact p4
  · unfold answer_all_answer_line_number_answer_Parse_c1.l0 answer_all_answer_line_number_answer_Parse_c1.b0
    refine iteB_neg rfl (hk h' ?_)
    rw [e] at p3 ⊢
    rw [takeN, if_neg e0]
    simpa using p3
theorem all2_l0 (f : Facts h0.heap) {K : Heap → Prop} : ∀ (r : List (List UInt8)) (x : Int) (a : Ans) (h : Heap), (∀ y ∈ r, y.length ≤ 2 ^ 20) → a.sd.length + r.length + 1 ≤ 2 ^ 20 → PSt h0 R t ln an r a h →
    (∀ h', PSt h0 R t ln an (takeN r).2 { a with sd := a.sd ++ x :: (takeN r).1 } h' → K h') → answer_all_answer_line_number_answer_Parse_c2.l0 K (r.length + 2) ⟨ln, 0, none⟩ ⟨an, 0, none⟩ x true h
  | [], x, a, h, hx, hl, p, hk => by
    unfold answer_all_answer_line_number_answer_Parse_c2.l0 answer_all_answer_line_number_answer_Parse_c2.b0
    refine iteB_pos rfl (callP0.self (put2_of p (by simp at hl; omega) fun h2 p2 => callP2.self (number_of p2 f hx (fun _ => ?_) (fun x r h' e => by cases e) (fun x r h' e => by cases e))))
    unfold answer_all_answer_line_number_answer_Parse_c2.l0 answer_all_answer_line_number_answer_Parse_c2.b0
    exact iteB_neg rfl (hk h2 p2)
  | y :: r, x, a, h, hx, hl, p, hk => by
    unfold answer_all_answer_line_number_answer_Parse_c2.l0 answer_all_answer_line_number_answer_Parse_c2.b0
    rw [List.length_cons] at hl
    refine iteB_pos rfl (callP0.self (put2_of p (by omega) fun h2 p2 => callP2.self (number_of p2 f hx (fun e => by cases e) (fun x2 r2 h' e e0 p3 => ?_) (fun x2 r2 h' e e0 p3 => ?_))))
    · obtain ⟨rfl, rfl⟩ : y = x2 ∧ r = r2 := by injection e with e1 e2; exact ⟨e1, e2⟩
      refine all2_l0 f r (parN y) { a with sd := a.sd ++ [x] } h' (fun z hz => hx z (by simp [hz])) (by simp; omega) p3 fun h4 p4 => hk h4 ?_
      rw [takeN, if_pos e0]
      simpa using p4
    · obtain ⟨rfl, rfl⟩ : y = x2 ∧ r = r2 := by injection e with e1 e2; exact ⟨e1, e2⟩
      rw [List.length_cons]
      unfold answer_all_answer_line_number_answer_Parse_c2.l0 answer_all_answer_line_number_answer_Parse_c2.b0
      refine iteB_neg rfl (hk h' ?_)
      rw [takeN, if_neg e0]
      exact p3
theorem all2_of (f : Facts h0.heap) {K : Heap → Prop} (hx : ∀ y ∈ W, y.length ≤ 2 ^ 20) (hl : a.sd.length + W.length ≤ 2 ^ 20) (p : PSt h0 R t ln an W a h)
    (hk : ∀ h', PSt h0 R t ln an (takeN W).2 { a with sd := a.sd ++ (takeN W).1 } h' → K h') : answer_all_answer_line_number_answer_Parse_c2 ⟨ln, 0, none⟩ ⟨an, 0, none⟩ h K := by
  unfold answer_all_answer_line_number_answer_Parse_c2
  refine callP2.self (number_of p f hx (fun e => ⟨1, ?_⟩) (fun x r h' e e0 p3 => ?_) (fun x r h' e e0 p3 => ⟨1, ?_⟩))
  · unfold answer_all_answer_line_number_answer_Parse_c2.l0 answer_all_answer_line_number_answer_Parse_c2.b0
    refine iteB_neg rfl (hk h ?_)
    rw [e] at p ⊢
    simpa [takeN] using p
  · rw [e] at hx hl hk
    rw [List.length_cons] at hl
    refine ⟨r.length + 2, all2_l0 f r (parN x) a h' (fun z hz => hx z (by simp [hz])) (by omega) p3 fun h4 p4 => hk h4 ?_⟩
    rw [takeN, if_pos e0]
    exact p4
  · unfold answer_all_answer_line_number_answer_Parse_c2.l0 answer_all_answer_line_number_answer_Parse_c2.b0
    refine iteB_neg rfl (hk h' ?_)
    rw [e] at p3 ⊢
    rw [takeN, if_neg e0]
    simpa using p3
theorem takeN_mem : ∀ (r : List (List UInt8)), (∀ y ∈ (takeN r).2, y ∈ r) ∧ (takeN r).1.length + (takeN r).2.length = r.length
  | [] => ⟨fun y hy => hy, rfl⟩
  | x :: r => by
    obtain ⟨h1, h2⟩ := takeN_mem r
    rw [takeN]
    split
    · exact ⟨fun y hy => List.mem_cons_of_mem _ (h1 y hy), by simp; omega⟩
    · exact ⟨fun y hy => hy, by simp⟩
end
end Go.Proofs.YtmejnpadgbdhaaaGreatDoor
