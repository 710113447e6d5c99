/-
  Answers: a line is read: the document's.
-/
import Derived.Test.YtmejnpadgbdhaaaGreatDoorB1
namespace Go.Proofs.YtmejnpadgbdhaaaGreatDoor
set_option linter.unusedVariables false
set_option linter.unusedSimpArgs false
set_option linter.unnecessarySimpa false
open Go.Proofs Go.Shelf Go.RowKit Go.Hp
attribute [local irreducible] Go.Hp.iteB Go.Hp.stC Go.Hp.newP
/-- The result's box: an answer, and whether there is one. -/
def recD (a : Ans) (q1 q2 q3 : Option Addr) (c1 c2 c3 : Nat) (ok : Bool) : List Value := [.int .i64 a.e, .slice q1 a.n.length c1, .slice q2 a.sd.length c2, .slice q3 a.b.length c3, .bool ok]
abbrev recN : List Value := recD Ans.none none none none 0 0 0 false
/-- Where the document is: its words, and the answer so far. -/
def DSt (h0 : Base) (R : Rws) (t wr an : Nat) (q : Option Addr) (c : Nat) (W : List (List UInt8)) (a : Ans) (h : Heap) : Prop :=
  ∃ (qn : Option Addr) (cn : Nat) (qs : Option Addr) (cs : Nat) (qb : Option Addr) (cb : Nat) (XN XS Y : Rws), Own qn cn (numV a.n) XN ∧ Own qs cs (numV a.sd) XS ∧ Keeps h0 (Y ++ R) qb (byV a.b) ∧
    St h0 h ((wr, [.slice q W.length c, .bool true]) :: (an, recA a qn qs qb cn cs cb) :: (t, recN) :: (XN ++ (XS ++ (Y ++ R))))
section
variable {h0 : Base} {R : Rws} {t wr an : Nat} {q : Option Addr} {c : Nat} {W : List (List UInt8)}
theorem DSt.junk {a : Ans} {h : Heap} {g : Nat × List Value} {qn : Option Addr} {cn : Nat} {qs : Option Addr} {cs : Nat} {qb : Option Addr} {cb : Nat} {XN XS Y : Rws} (p1 : Own qn cn (numV a.n) XN) (p2 : Own qs cs (numV a.sd) XS) (p3 : Keeps h0 (Y ++ R) qb (byV a.b))
    (s : St h0 h (g :: (wr, [.slice q W.length c, .bool true]) :: (an, recA a qn qs qb cn cs cb) :: (t, recN) :: (XN ++ (XS ++ (Y ++ R))))) : DSt h0 R t wr an q c W a h :=
  ⟨qn, cn, qs, cs, qb, cb, XN, XS, g :: Y, p1, p2, p3.cons, (St.re s (by intro a; simp only [cntR_append, cntR_cons, cntR_nil, List.cons_append, List.nil_append, List.set_cons_zero, List.set_cons_succ]; omega))⟩
theorem cmp_str (x w : List UInt8) : ((str x).toList == (str w).toList) = decide (x = w) := by
  rw [toList_str, toList_str]
  by_cases h : x = w
  · rw [h]; simp
  · simp [h]
theorem doc_l0 {K2 : Heap → Prop} {s0 : ByteArray} (hW : W.length ≤ 2 ^ 15) (hx : ∀ x ∈ W, x.length ≤ 2 ^ 15) (kw : Keeps h0 ((t, recN) :: R) q (strV W)) :
    ∀ (r : List (List UInt8)) (i : Nat) (p : Int) (a : Ans) (h : Heap), W.drop i = r → i + r.length = W.length → a.n.length ≤ i → a.sd.length ≤ i → a.b.length ≤ 2 ^ 15 → DSt h0 R t wr an q c W a h →
      (∀ h', (docF W r i p a).n.length ≤ W.length → (docF W r i p a).sd.length ≤ W.length → (docF W r i p a).b.length ≤ 2 ^ 15 → DSt h0 R t wr an q c W (docF W r i p a) h' → K2 h') → straitref49_Parse.l0 K2 (r.length + 1) s0 ⟨t, 0, none⟩ ⟨wr, 0, none⟩ ⟨an, 0, none⟩ p (i : Int) h := by
  intro r
  induction r with
  | nil =>
    intro i p a h hd hi hn hs hb d hk
    unfold straitref49_Parse.l0 straitref49_Parse.b0
    rw [List.length_nil] at hi
    obtain ⟨qn, cn, qs, cs, qb, cb, XN, XS, Y, p1, p2, p3, s⟩ := id d
    exact ⟨_, _, _, s.rd0 0, iteB_neg (decide_eq_false (by omega)) (hk h (by rw [docF]; omega) (by rw [docF]; omega) hb d)⟩
  | cons x r ih =>
    intro i p a h hd hi hn hs hb d hk
    unfold straitref49_Parse.l0 straitref49_Parse.b0
    rw [List.length_cons] at hi
    have gx : W[i]? = some x := by
      have : (W.drop i)[0]? = some x := by rw [hd]; rfl
      simpa using this
    have hr : W.drop (i + 1) = r := by
      have := drop_cons gx
      rw [hd] at this
      injection this with _ h2
      exact h2.symm
    have hxl := hx x (List.mem_of_getElem? gx)
    obtain ⟨qn, cn, qs, cs, qb, cb, XN, XS, Y, p1, p2, p3, s⟩ := d
    have rdW : ∀ {h' : Heap} {L : Rws}, St h0 h' L → (∀ y ∈ (t, recN) :: R, y ∈ L) → ∀ (k : Nat) (z : List UInt8), W[k]? = some z → ∃ ad, q = some ad ∧ cell h' (ad.add k) = some (.string (str z)) := fun s hs k z hz => kw _ _ s hs k _ (by unfold strV; rw [List.getElem?_map, hz]; rfl)
    refine ⟨_, _, _, s.rd0 0, iteB_pos (decide_eq_true (by omega)) ?_⟩
    intro j
    have J : ∀ p' a' h', docStep W i x p a = (p', a') → a'.n.length ≤ i + 1 → a'.sd.length ≤ i + 1 → a'.b.length ≤ 2 ^ 15 → DSt h0 R t wr an q c W a' h' → j p' h' := fun p' a' h' he g1 g2 g3 d' => by
      simp -zeta only [j]
      rw [wrap64 (by omega) (by omega)]
      have e : docF W (x :: r) i p a = docF W r (i + 1) p' a' := by rw [docF, he]
      rw [e] at hk
      exact ih (i + 1) p' a' h' hr (by omega) g1 g2 g3 d' hk
    clear_value j
    clear ih hk
    have sub0 : ∀ y ∈ (t, recN) :: R, y ∈ (wr, [.slice q W.length c, .bool true]) :: (an, recA a qn qs qb cn cs cb) :: (t, recN) :: (XN ++ (XS ++ (Y ++ R))) := fun y hy => by simp at hy ⊢; rcases hy with hy | hy <;> simp [hy]
    obtain ⟨ad, hq, g⟩ := rdW s sub0 i x gx
    refine ⟨_, _, _, s.rd0 0, ?_⟩
    rw [hq]
    simp -zeta only [chkP_some, Int.toNat_natCast, Nat.mul_one]
    refine ⟨by omega, str x, g, callP2.self (RParse_of (Nat.le_trans hxl (by decide)) fun h1 e1 => (s.ofExt e1).new_ (cs := [.int .i64 0, .int .i64 0]) fun g2 h2 s2 => s2.st0 (by simp) fun h3 s3 => ?_)⟩
    rw [add_mk, Nat.zero_add]
    refine s3.st0 (by simp) fun h4 s4 => ?_
    have s4 : St h0 h4 ((g2, [.int .i64 (parN x), .int .i64 (parE x)]) :: (wr, [.slice q W.length c, .bool true]) :: (an, recA a qn qs qb cn cs cb) :: (t, recN) :: (XN ++ (XS ++ (Y ++ R)))) := s4
    clear s2 s3 s g sub0
    have sub4 : ∀ y ∈ (t, recN) :: R, y ∈ (g2, [.int .i64 (parN x), .int .i64 (parE x)]) :: (wr, [.slice q W.length c, .bool true]) :: (an, recA a qn qs qb cn cs cb) :: (t, recN) :: (XN ++ (XS ++ (Y ++ R))) := fun y hy => by simp at hy ⊢; rcases hy with hy | hy <;> simp [hy]
    have at4 : ∀ (k : Nat) (z : List UInt8), W[k]? = some z → cell h4 (ad.add k) = some (.string (str z)) := fun k z hz => by
      obtain ⟨ad', h1, h2⟩ := rdW s4 sub4 k z hz
      rw [hq] at h1
      cases h1
      exact h2
    have d4 : DSt h0 R t wr an q c W a h4 := DSt.junk p1 p2 p3 s4
    have eS : (⟨#[115, 105, 100, 101]⟩ : ByteArray) = str sideW := rfl
    have eB : (⟨#[98, 121, 116, 101, 115]⟩ : ByteArray) = str bytesW := rfl
    have eE : (⟨#[101, 114, 114, 111, 114]⟩ : ByteArray) = str errW := rfl
    have eO : (⟨#[111, 107]⟩ : ByteArray) = str okW := rfl
    rw [eS, eB, eE, eO]
    refine ⟨_, _, _, s4.rd1 0, ?_⟩
    rw [hq]
    simp -zeta only [chkP_some]
    refine ⟨by omega, str x, at4 i x gx, ?_⟩
    rw [cmp_str]
    by_cases c1 : x = sideW
    · refine iteB_pos (decide_eq_true c1) (J 1 a h4 ?_ (by omega) (by omega) hb d4)
      unfold docStep; rw [if_pos c1]
    · refine iteB_neg (decide_eq_false c1) ⟨_, _, _, s4.rd1 0, ?_⟩
      rw [hq]
      simp -zeta only [chkP_some]
      refine ⟨by omega, str x, at4 i x gx, ?_⟩
      rw [cmp_str]
      by_cases c2 : x = bytesW
      · refine iteB_pos (decide_eq_true c2) (J 2 a h4 ?_ (by omega) (by omega) hb d4)
        unfold docStep; rw [if_neg c1, if_pos c2]
      · refine iteB_neg (decide_eq_false c2) ?_
        intro j2
        have J2T : x = errW → i + 1 < W.length → j2 true := fun c3 c4 => by
          simp -zeta only [j2]
          obtain ⟨z, hz⟩ := get_lt (l := W) (i := 1) (by omega)
          have hg : W.getD 1 [] = z := by rw [List.getD_eq_getElem?_getD, hz]; rfl
          refine iteB_pos rfl ⟨_, _, _, s4.rd1 0, ?_⟩
          rw [hq]
          simp -zeta only [chkP_some]
          have e1 : (1 : Int).toNat = 1 := rfl
          rw [e1]
          refine ⟨by omega, str z, at4 1 z hz, callP2.self (RParse_of (Nat.le_trans (hx z (List.mem_of_getElem? hz)) (by decide)) fun h5 e5 => (s4.ofExt e5).st2 (by simp [recA]) fun h6 s6 => ?_)⟩
          have s6 : St h0 h6 ((g2, [.int .i64 (parN x), .int .i64 (parE x)]) :: (wr, [.slice q W.length c, .bool true]) :: (an, recA { a with e := parN z } qn qs qb cn cs cb) :: (t, recN) :: (XN ++ (XS ++ (Y ++ R)))) := s6
          refine J p { a with e := parN z } h6 ?_ (by simp only; omega) (by simp only; omega) hb (DSt.junk (a := { a with e := parN z }) p1 p2 p3 s6)
          unfold docStep
          rw [if_neg c1, if_neg c2, if_pos ⟨c3, c4⟩, hg]
        have J2F : ¬ (x = errW ∧ i + 1 < W.length) → j2 false := fun c3 => by
          simp -zeta only [j2]
          clear j2 J2T
          refine iteB_neg rfl ?_
          by_cases c4 : p = 2
          · refine iteB_pos (by simp [c4]) ⟨_, _, _, s4.rd1 0, ?_⟩
            rw [hq]
            simp -zeta only [chkP_some]
            refine ⟨by omega, str x, at4 i x gx, callP4.self (RBytes_of (Nat.le_trans hxl (by decide)) s4 fun h5 q6 c6 X6 k6 s5 => ?_)⟩
            have s6 : St h0 h5 ((an, recA a qn qs qb cn cs cb) :: (wr, [.slice q W.length c, .bool true]) :: (t, recN) :: (XN ++ (XS ++ ((X6 ++ ((g2, [.int .i64 (parN x), .int .i64 (parE x)]) :: Y)) ++ R)))) := (St.re s5 (by intro a; simp only [cntR_append, cntR_cons, cntR_nil, List.cons_append, List.nil_append, List.set_cons_zero, List.set_cons_succ]; omega))
            rw [add_mk, Nat.zero_add]
            refine s6.st0 (by simp [recA]) fun h7 s7 => ?_
            have s7 : St h0 h7 ((an, recA { a with b := bytesB x } qn qs q6 cn cs c6) :: (wr, [.slice q W.length c, .bool true]) :: (t, recN) :: (XN ++ (XS ++ ((X6 ++ ((g2, [.int .i64 (parN x), .int .i64 (parE x)]) :: Y)) ++ R)))) := s7
            refine J p { a with b := bytesB x } h7 ?_ (by simp only; omega) (by simp only; omega) (Nat.le_trans (bytesB_len x) hxl) ⟨qn, cn, qs, cs, q6, c6, XN, XS, _, p1, p2, k6.sub fun y hy => by simp [hy], s7.pull1⟩
            unfold docStep
            rw [if_neg c1, if_neg c2, if_neg c3, if_pos c4]
          · refine iteB_neg (by simp [c4]) ?_
            by_cases c5 : p = 1
            · refine iteB_pos (by simp [c5]) ⟨_, _, _, by rw [add_mk]; exact s4.rd2 2, _, s4.rd0 0, ?_⟩
              have s' : St h0 h4 (XS ++ ((an, recA a qn qs qb cn cs cb) :: (wr, [.slice q W.length c, .bool true]) :: (t, recN) :: (XN ++ (((g2, [.int .i64 (parN x), .int .i64 (parE x)]) :: Y) ++ R)))) := (St.re s4 (by intro a; simp only [cntR_append, cntR_cons, cntR_nil, List.cons_append, List.nil_append, List.set_cons_zero, List.set_cons_succ]; omega))
              refine Own.push1 p2 s' (numV_len _).symm rfl (by rw [numV_len]; omega) fun q7 c7 X7 h7 o7 s7 => ?_
              rw [numV_len, add_mk, Nat.zero_add]
              have s8 : St h0 h7 ((an, recA a qn qs qb cn cs cb) :: (wr, [.slice q W.length c, .bool true]) :: (t, recN) :: (XN ++ (X7 ++ (((g2, [.int .i64 (parN x), .int .i64 (parE x)]) :: Y) ++ R)))) := (St.re s7 (by intro a; simp only [cntR_append, cntR_cons, cntR_nil, List.cons_append, List.nil_append, List.set_cons_zero, List.set_cons_succ]; omega))
              refine s8.st0 (by simp [recA]) fun h9 s9 => ?_
              have er : (recA a qn qs qb cn cs cb).set 2 (.slice q7 (a.sd.length + 1) c7) = recA { a with sd := a.sd ++ [parN x] } qn q7 qb cn c7 cb := by simp [recA]
              rw [er] at s9
              refine J p { a with sd := a.sd ++ [parN x] } h9 ?_ (by simp only; omega) (by simp; omega) hb ⟨qn, cn, q7, c7, qb, cb, XN, X7, _, p1, by simpa [numV] using o7, p3.cons, s9.pull1⟩
              unfold docStep
              rw [if_neg c1, if_neg c2, if_neg c3, if_neg c4, if_pos c5]
            · refine iteB_neg (by simp [c5]) ?_
              intro j3
              have J3T : (parE x = 0 ∧ (1 < i ∨ W.getD 0 [] = okW)) → j3 true := fun c6 => by
                simp -zeta only [j3]
                refine iteB_pos rfl ⟨_, _, _, by rw [add_mk]; exact s4.rd2 1, _, s4.rd0 0, ?_⟩
                have s' : St h0 h4 (XN ++ ((an, recA a qn qs qb cn cs cb) :: (wr, [.slice q W.length c, .bool true]) :: (t, recN) :: (XS ++ (((g2, [.int .i64 (parN x), .int .i64 (parE x)]) :: Y) ++ R)))) := (St.re s4 (by intro a; simp only [cntR_append, cntR_cons, cntR_nil, List.cons_append, List.nil_append, List.set_cons_zero, List.set_cons_succ]; omega))
                refine Own.push1 p1 s' (numV_len _).symm rfl (by rw [numV_len]; omega) fun q7 c7 X7 h7 o7 s7 => ?_
                rw [numV_len, add_mk, Nat.zero_add]
                have s8 : St h0 h7 ((an, recA a qn qs qb cn cs cb) :: (wr, [.slice q W.length c, .bool true]) :: (t, recN) :: (X7 ++ (XS ++ (((g2, [.int .i64 (parN x), .int .i64 (parE x)]) :: Y) ++ R)))) := (St.re s7 (by intro a; simp only [cntR_append, cntR_cons, cntR_nil, List.cons_append, List.nil_append, List.set_cons_zero, List.set_cons_succ]; omega))
                refine s8.st0 (by simp [recA]) fun h9 s9 => ?_
                have er : (recA a qn qs qb cn cs cb).set 1 (.slice q7 (a.n.length + 1) c7) = recA { a with n := a.n ++ [parN x] } q7 qs qb c7 cs cb := by simp [recA]
                rw [er] at s9
                refine J p { a with n := a.n ++ [parN x] } h9 ?_ (by simp; omega) (by simp only; omega) hb ⟨q7, c7, qs, cs, qb, cb, X7, XS, _, by simpa [numV] using o7, p2, p3.cons, s9.pull1⟩
                unfold docStep
                rw [if_neg c1, if_neg c2, if_neg c3, if_neg c4, if_neg c5, if_pos c6]
              have J3F : ¬ (parE x = 0 ∧ (1 < i ∨ W.getD 0 [] = okW)) → j3 false := fun c6 => by
                simp -zeta only [j3]
                refine iteB_neg rfl (J p a h4 ?_ (by omega) (by omega) hb d4)
                unfold docStep
                rw [if_neg c1, if_neg c2, if_neg c3, if_neg c4, if_neg c5, if_neg c6]
              clear_value j3
              refine ⟨_, s4.rd0 1, iteB_intro (fun e5 => iteB_intro (fun e6 => J3T ?_) fun e6 => ⟨_, _, _, s4.rd1 0, ?_⟩) fun e5 => J3F ?_⟩
              · have e5 : parE x = 0 := by simpa using e5
                have e6 := of_decide_eq_true e6
                exact ⟨e5, .inl (by omega)⟩
              · have e5 : parE x = 0 := by simpa using e5
                have e6 := of_decide_eq_false e6
                obtain ⟨z, hz⟩ := get_lt (l := W) (i := 0) (by omega)
                have hg : W.getD 0 [] = z := by rw [List.getD_eq_getElem?_getD, hz]; rfl
                rw [hq]
                simp -zeta only [chkP_some]
                have e0 : (0 : Int).toNat = 0 := rfl
                rw [e0]
                refine ⟨by omega, str z, at4 0 z hz, ?_⟩
                rw [cmp_str]
                by_cases c7 : z = okW
                · rw [decide_eq_true c7]
                  exact J3T ⟨e5, .inr (by rw [hg]; exact c7)⟩
                · rw [decide_eq_false c7]
                  exact J3F fun hh => hh.2.elim (fun h => by omega) fun h => c7 (by rw [← hg]; exact h)
              · have e5 : parE x ≠ 0 := by simpa using e5
                exact fun hh => e5 hh.1
        clear_value j2
        refine ⟨_, _, _, s4.rd1 0, ?_⟩
        rw [hq]
        simp -zeta only [chkP_some]
        refine ⟨by omega, str x, at4 i x gx, ?_⟩
        rw [cmp_str]
        by_cases c3 : x = errW
        · refine iteB_pos (decide_eq_true c3) ⟨_, _, _, s4.rd1 0, ?_⟩
          rw [wrap64 (by omega) (by omega)]
          by_cases c4 : i + 1 < W.length
          · rw [decide_eq_true (by omega : (i : Int) + 1 < (W.length : Int))]
            exact J2T c3 c4
          · rw [decide_eq_false (by omega : ¬ (i : Int) + 1 < (W.length : Int))]
            exact J2F fun hh => c4 hh.2
        · exact iteB_neg (decide_eq_false c3) (J2F fun hh => c3 hh.1)
/-- The end where there is none. -/
def failD (t : Nat) (K : KA) (h : Heap) : Prop := stC h ⟨t, 0, none⟩ (.int .i64 0) fun h12 => stC h12 ((⟨t, 0, none⟩ : Addr).add 1) (.slice none 0 0) fun h13 => stC h13 ((⟨t, 0, none⟩ : Addr).add 2) (.slice none 0 0) fun h14 => stC h14 ((⟨t, 0, none⟩ : Addr).add 3) (.slice none 0 0) fun h15 => stC h15 ((⟨t, 0, none⟩ : Addr).add 4) (.bool false) fun h16 => (∃ (x17 : Int), cell h16 ⟨t, 0, none⟩ = some (.int .i64 x17) ∧ ∃ (x18 : Option Addr) (x18l : Nat) (x18c : Nat), cell h16 ((⟨t, 0, none⟩ : Addr).add 1) = some (.slice x18 x18l x18c) ∧ ∃ (x19 : Option Addr) (x19l : Nat) (x19c : Nat), cell h16 ((⟨t, 0, none⟩ : Addr).add 2) = some (.slice x19 x19l x19c) ∧ ∃ (x20 : Option Addr) (x20l : Nat) (x20c : Nat), cell h16 ((⟨t, 0, none⟩ : Addr).add 3) = some (.slice x20 x20l x20c) ∧ ∃ (x21 : Bool), cell h16 ((⟨t, 0, none⟩ : Addr).add 4) = some (.bool x21) ∧ K x17 x18 x18l x18c x19 x19l x19c x20 x20l x20c x21 h16)
end
theorem failD_of {h0 : Base} {h : Heap} {R : Rws} {t : Nat} {K : KA} (s : St h0 h ((t, recN) :: R)) (hk : ∀ h', St h0 h' ((t, recN) :: R) → K 0 none 0 0 none 0 0 none 0 0 false h') : failD t K h := by
  unfold failD
  simp -zeta only [add_mk, Nat.zero_add]
  exact s.st0 (by simp [recD]) fun h2 s2 => s2.st0 (by simp [recD]) fun h3 s3 => s3.st0 (by simp [recD]) fun h4 s4 => s4.st0 (by simp [recD]) fun h5 s5 => s5.st0 (by simp [recD]) fun h6 s6 => ⟨_, s6.rd0 0, _, _, _, s6.rd0 1, _, _, _, s6.rd0 2, _, _, _, s6.rd0 3, _, s6.rd0 4, hk h6 s6⟩
section
variable {h0 : Base} {R : Rws}
theorem RAParse_of {h : Heap} {L : List UInt8} {K : KA} (hL : L.length ≤ 2 ^ 14) (s : St h0 h R)
    (hk : ∀ h' q1 c1 q2 c2 q3 c3 X, Keeps h0 (X ++ R) q1 (numV (ansR L).n) → Keeps h0 (X ++ R) q2 (numV (ansR L).sd) → Keeps h0 (X ++ R) q3 (byV (ansR L).b) → St h0 h' (X ++ R) →
      K (ansR L).e q1 (ansR L).n.length c1 q2 (ansR L).sd.length c2 q3 (ansR L).b.length c3 (ansOk L) h') : straitref49_Parse (str L) h K := by
  unfold straitref49_Parse
  refine s.new_ (cs := recN) fun t h1 s1 => ?_
  have fail : ∀ h' X, (ansOk L = false ∧ ansR L = Ans.none) → St h0 h' ((t, recN) :: (X ++ R)) → failD t K h' := fun h' X hn s' => failD_of s' fun h2 s2 => by
    have := hk h2 none 0 none 0 none 0 ((t, recN) :: X) (by rw [hn.2]; exact Keeps.nil) (by rw [hn.2]; exact Keeps.nil) (by rw [hn.2]; exact Keeps.nil) s2
    rw [hn.1, hn.2] at this
    exact this
  refine callP4.self (RWords_res (by omega) s1 fun h2 q c X k s2 => s2.new_ (cs := [.slice none 0 0, .bool false]) fun wr h3 s3 => s3.st0 (by simp) fun h4 s4 => ?_)
  rw [add_mk, Nat.zero_add]
  refine s4.st0 (by simp) fun h5 s5 => ⟨_, s5.rd0 1, ?_⟩
  have s5 : St h0 h5 ((wr, [.slice q (wsL L).length c, .bool (wsB L)]) :: (X ++ ((t, recN) :: R))) := s5
  cases hw : wsB L with
  | false =>
    rw [hw] at s5
    exact iteB_pos rfl (fail h5 ((wr, [.slice q (wsL L).length c, .bool false]) :: X) (ok_no hw) (St.re s5 (by intro a; simp only [cntR_append, cntR_cons, cntR_nil, List.cons_append, List.nil_append, List.set_cons_zero, List.set_cons_succ]; omega)))
  | true =>
    rw [hw] at s5
    refine iteB_neg rfl (s5.new_ (cs := recA Ans.none none none none 0 0 0) fun an h6 s6 => ⟨(wsL L).length + 1, ?_⟩)
    have hwl := wsL_len L
    have d0 : DSt h0 (X ++ R) t wr an q c (wsL L) Ans.none h6 := ⟨none, 0, none, 0, none, 0, [], [], [], Own.nil, Own.nil, Keeps.nil, (St.re s6 (by intro a; simp only [cntR_append, cntR_cons, cntR_nil, List.cons_append, List.nil_append, List.set_cons_zero, List.set_cons_succ]; omega))⟩
    have kw : Keeps h0 ((t, recN) :: (X ++ R)) q (strV (wsL L)) := k.sub fun x hx => by simp at hx ⊢; rcases hx with hx | hx | hx <;> simp [hx]
    refine doc_l0 (by omega) (fun x hx => Nat.le_trans (wsL_mem hx) (Nat.le_trans hL (by decide))) kw (wsL L) 0 0 Ans.none h6 rfl (by simp) (Nat.zero_le _) (Nat.zero_le _) (Nat.zero_le _) d0 fun h7 g1 g2 g3 d7 => ?_
    have hv := doc_valid (wsL L)
    have ho : ansOk L = decide (ansT (docP (wsL L)) = L) := by unfold ansOk; rw [hw]; rfl
    have hdp : docF (wsL L) (wsL L) 0 0 Ans.none = docP (wsL L) := rfl
    rw [hdp] at g1 g2 g3 d7
    have hR : ansR L = if ansOk L = true then docP (wsL L) else Ans.none := rfl
    clear hdp
    generalize docP (wsL L) = a at *
    obtain ⟨qn, cn, qs, cs, qb, cb, XN, XS, Y, p1, p2, p3, s7⟩ := d7
    refine ⟨_, s7.rd1 0, _, _, _, by rw [add_mk]; exact s7.rd1 1, _, _, _, by rw [add_mk]; exact s7.rd1 2, _, _, _, by rw [add_mk]; exact s7.rd1 3, ?_⟩
    refine callP1.self (RAPrint_of (a := a) hv (p1.keeps (R := XN ++ (XS ++ (Y ++ (X ++ R)))) (fun x hx => by simp [hx]) |>.sub (fun x hx => List.mem_cons_of_mem _ (List.mem_cons_of_mem _ (List.mem_cons_of_mem _ hx))) |>.at0 s7) (p2.keeps (R := XN ++ (XS ++ (Y ++ (X ++ R)))) (fun x hx => by simp [hx]) |>.sub (fun x hx => List.mem_cons_of_mem _ (List.mem_cons_of_mem _ (List.mem_cons_of_mem _ hx))) |>.at0 s7) ((p3.sub fun x hx => List.mem_cons_of_mem _ (List.mem_cons_of_mem _ (List.mem_cons_of_mem _ (List.mem_append_right _ (List.mem_append_right _ hx))))).at0 s7) (by omega) (by omega) g3 fun h8 e8 => ?_)
    have s8 := s7.ofExt e8
    rw [toList_str, toList_str]
    by_cases hT : ansT a = L
    · rw [decide_eq_true hT] at ho
      rw [ho, if_pos rfl] at hR
      refine iteB_neg (by simp [hT]) ⟨_, s8.rd1 0, _, _, _, by rw [add_mk]; exact s8.rd1 1, _, _, _, by rw [add_mk]; exact s8.rd1 2, _, _, _, by rw [add_mk]; exact s8.rd1 3, ?_⟩
      simp -zeta only [add_mk, Nat.zero_add]
      refine s8.st2 (by simp [recD]) fun h9 s9 => s9.st2 (by simp [recD]) fun h10 s10 => s10.st2 (by simp [recD]) fun h11 s11 => s11.st2 (by simp [recD]) fun h12 s12 => s12.st2 (by simp [recD]) fun h13 s13 => ?_
      have s13 : St h0 h13 ((wr, [.slice q (wsL L).length c, .bool true]) :: (an, recA a qn qs qb cn cs cb) :: (t, recD a qn qs qb cn cs cb true) :: (XN ++ (XS ++ (Y ++ (X ++ R))))) := s13
      refine ⟨_, s13.rd2 0, _, _, _, s13.rd2 1, _, _, _, s13.rd2 2, _, _, _, s13.rd2 3, _, s13.rd2 4, ?_⟩
      have := hk h13 qn cn qs cs qb cb ((wr, [.slice q (wsL L).length c, .bool true]) :: (an, recA a qn qs qb cn cs cb) :: (t, recD a qn qs qb cn cs cb true) :: (XN ++ (XS ++ (Y ++ X))))
        (by rw [hR]; exact p1.keeps fun x hx => by simp [hx]) (by rw [hR]; exact p2.keeps fun x hx => by simp [hx]) (by rw [hR]; exact p3.sub fun x hx => by simp at hx ⊢; rcases hx with hx | hx | hx <;> simp [hx]) (by simpa using s13)
      rw [ho, hR] at this
      exact this
    · rw [decide_eq_false hT] at ho
      rw [ho, if_neg (by decide)] at hR
      refine iteB_pos (by simp [hT]) (fail h8 ((wr, [.slice q (wsL L).length c, .bool true]) :: (an, recA a qn qs qb cn cs cb) :: (XN ++ (XS ++ (Y ++ X)))) ⟨ho, hR⟩ (St.re s8 (by intro a; simp only [cntR_append, cntR_cons, cntR_nil, List.cons_append, List.nil_append, List.set_cons_zero, List.set_cons_succ]; omega)))
end
end Go.Proofs.YtmejnpadgbdhaaaGreatDoor
