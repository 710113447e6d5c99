/-
  Answers: a line is read: the program's.
-/
import Derived.Test.YtmejnpadgbdhaaaGreatDoorA4
namespace Go.Proofs.YtmejnpadgbdhaaaGreatDoor
set_option linter.unusedVariables false
set_option linter.unusedSimpArgs false
set_option linter.unnecessarySimpa false
open Go.Proofs Go.Shelf Go.RowKit Go.Hp
attribute [local irreducible] Go.Hp.iteB Go.Hp.stC Go.Hp.newP
abbrev KA := Int → (Option Addr) → Nat → Nat → (Option Addr) → Nat → Nat → (Option Addr) → Nat → Nat → Bool → Heap → Prop
/-- The end where there is none. -/
def failQ (t : Nat) (K : KA) (h : Heap) : Prop := stC h ⟨t, 0, none⟩ (.int .i64 0) fun h7 => stC h7 ((⟨t, 0, none⟩ : Addr).add 1) (.slice none 0 0) fun h8 => stC h8 ((⟨t, 0, none⟩ : Addr).add 2) (.slice none 0 0) fun h9 => stC h9 ((⟨t, 0, none⟩ : Addr).add 3) (.slice none 0 0) fun h10 => (∃ (x11 : Int), cell h10 ⟨t, 0, none⟩ = some (.int .i64 x11) ∧ ∃ (x12 : Option Addr) (x12l : Nat) (x12c : Nat), cell h10 ((⟨t, 0, none⟩ : Addr).add 1) = some (.slice x12 x12l x12c) ∧ ∃ (x13 : Option Addr) (x13l : Nat) (x13c : Nat), cell h10 ((⟨t, 0, none⟩ : Addr).add 2) = some (.slice x13 x13l x13c) ∧ ∃ (x14 : Option Addr) (x14l : Nat) (x14c : Nat), cell h10 ((⟨t, 0, none⟩ : Addr).add 3) = some (.slice x14 x14l x14c) ∧ K x11 x12 x12l x12c x13 x13l x13c x14 x14l x14c false h10)
theorem fail_of {h0 : Base} {h : Heap} {R : Rws} {t : Nat} {K : KA} (s : St h0 h ((t, recA Ans.none none none none 0 0 0) :: R)) (hk : ∀ h', St h0 h' ((t, recA Ans.none none none none 0 0 0) :: R) → K 0 none 0 0 none 0 0 none 0 0 false h') : failQ t K h := by
  unfold failQ
  simp -zeta only [add_mk, Nat.zero_add]
  exact s.st0 (by simp [recA]) fun h2 s2 => s2.st0 (by simp [recA]) fun h3 s3 => s3.st0 (by simp [recA]) fun h4 s4 => s4.st0 (by simp [recA]) fun h5 s5 => ⟨_, s5.rd0 0, _, _, _, s5.rd0 1, _, _, _, s5.rd0 2, _, _, _, s5.rd0 3, hk h5 s5⟩
theorem sets4 {a : Ans} {q1 q2 q3 : Option Addr} {c1 c2 c3 : Nat} : ((((recA Ans.none none none none 0 0 0).set 0 (.int .i64 a.e)).set 1 (.slice q1 a.n.length c1)).set 2 (.slice q2 a.sd.length c2)).set 3 (.slice q3 a.b.length c3) = recA a q1 q2 q3 c1 c2 c3 := rfl
theorem progP_of {W r r2 r3 : List (List UInt8)} {e : Int} {sd : List Int} {b : List UInt8} (h1 : headP W = some (e, r)) (h2 : sideP (takeN r).2 = some (sd, r2)) (h3 : byteP r2 = some (b, r3)) :
    progP W = if r3 = [] then some ⟨e, (takeN r).1, sd, b⟩ else none := by
  unfold progP; rw [h1]; simp only; rw [h2]; simp only; rw [h3]
theorem progP_head {W : List (List UInt8)} (h1 : headP W = none) : progP W = none := by unfold progP; rw [h1]
theorem progP_side {W r : List (List UInt8)} {e : Int} (h1 : headP W = some (e, r)) (h2 : sideP (takeN r).2 = none) : progP W = none := by unfold progP; rw [h1]; simp only; rw [h2]
theorem progP_byte {W r r2 : List (List UInt8)} {e : Int} {sd : List Int} (h1 : headP W = some (e, r)) (h2 : sideP (takeN r).2 = some (sd, r2)) (h3 : byteP r2 = none) : progP W = none := by unfold progP; rw [h1]; simp only; rw [h2]; simp only; rw [h3]
theorem wsL_mem {L x : List UInt8} (h : x ∈ wsL L) : x.length ≤ L.length := by
  have := (segA_lens 32 L.length L [] (by simp)).1
  unfold wsL at h
  split at h
  · cases h
  · split at h
    · exact this x h
    · cases h
theorem pairs_le : ∀ (n : Nat) (l : List UInt8), l.length ≤ n → (pairsB l).length ≤ l.length
  | _, [], _ => by simp [pairsB]
  | _, [x], _ => by simp [pairsB]
  | 0, x :: y :: r, h => by simp at h
  | n + 1, x :: y :: r, h => by
    have := pairs_le n r (by simp at h; omega)
    show (pairsB r).length + 1 ≤ _
    simp; omega
theorem bytesB_len (l : List UInt8) : (bytesB l).length ≤ l.length := by
  unfold bytesB
  split
  · simp
  · split
    · exact pairs_le l.length l (Nat.le_refl _)
    · simp
theorem byteP_miss {r : List (List UInt8)} (h : ∀ s, r ≠ bytesW :: s) : byteP r = some ([], r) := by
  unfold byteP
  split
  · rfl
  · rename_i w s
    rw [if_neg (fun e => h s (by rw [e]))]
theorem byteP_two {r : List (List UInt8)} (h : ∀ x, r ≠ [x]) : byteP (bytesW :: r) = some ([], r) := by
  match r, h with
  | [], _ => rfl
  | [x], h => exact absurd rfl (h x)
  | _ :: _ :: _, _ => rfl
theorem sideP_miss {r : List (List UInt8)} (h : ∀ s, r ≠ sideW :: s) : sideP r = some ([], r) := by
  unfold sideP
  split
  · rfl
  · rename_i w s
    rw [if_neg (fun e => h s (by rw [e]))]
theorem sideP_hit (r : List (List UInt8)) : sideP (sideW :: r) = if (takeN r).1 = [] then none else some (takeN r) := by
  unfold sideP; simp only [if_true]
theorem headP_miss {W : List (List UInt8)} (h : ∀ s, W ≠ okW :: s) (h2 : ∀ s, W ≠ errW :: s) : headP W = none := by
  unfold headP
  split
  · rfl
  · rename_i w s
    rw [if_neg (fun e => h s (by rw [e])), if_neg (fun e => h2 s (by rw [e]))]
theorem headP_ok (r : List (List UInt8)) : headP (okW :: r) = some (0, r) := by unfold headP; simp only [if_true]
theorem headP_err (r : List (List UInt8)) : headP (errW :: r) = (match r with
    | [] => none
    | x :: r2 => if parE x = 0 ∧ parN x ≠ 0 then some (parN x, r2) else none) := by
  unfold headP
  simp only
  rw [if_neg (by decide)]
  simp only [if_true]
  cases r <;> rfl
section
variable {h0 : Base} {R : Rws} {t ln an : Nat} {W : List (List UInt8)} {a : Ans} {h : Heap}
theorem put0_of {y : Int} {K : Heap → Prop} (p : PSt h0 R t ln an W a h) (hk : ∀ h', PSt h0 R t ln an W { a with e := y } h' → K h') : stC h ⟨an, 0, none⟩ (.int .i64 y) K := by
  obtain ⟨q, c, qn, cn, qs, cs, qb, cb, XN, XS, Y, p1, p2, p3, p4, p5, s⟩ := p
  exact s.st1 (by simp [recA]) fun h2 s2 => hk h2 ⟨q, c, qn, cn, qs, cs, qb, cb, XN, XS, Y, p1, p2, p3, p4, p5, s2⟩
theorem PSt.line (p : PSt h0 R t ln an W a h) : ∃ (q : Option Addr) (c : Nat), cell h ⟨ln, 0, none⟩ = some (.slice q W.length c) := by
  obtain ⟨q, c, qn, cn, qs, cs, qb, cb, XN, XS, Y, p1, p2, p3, p4, p5, s⟩ := p
  exact ⟨q, c, s.rd0 0⟩
theorem PSt.side (p : PSt h0 R t ln an W a h) : ∃ (q : Option Addr) (c : Nat), cell h ((⟨an, 0, none⟩ : Addr).add 2) = some (.slice q a.sd.length c) := by
  obtain ⟨q, c, qn, cn, qs, cs, qb, cb, XN, XS, Y, p1, p2, p3, p4, p5, s⟩ := p
  exact ⟨qs, cs, by rw [add_mk]; exact s.rd1 2⟩
end
section
variable {h0 : Base} {R : Rws}
theorem AParse_of {h : Heap} {L : List UInt8} {K : KA} (f : Facts h0.heap) (hL : L.length ≤ 2 ^ 14) (s : St h0 h R)
    (hk : ∀ h' q1 c1 q2 c2 q3 c3 X, Keeps h0 (X ++ R) q1 (numV (ansR L).n) → Keeps h0 (X ++ R) q2 (numV (ansR L).sd) → Keeps h0 (X ++ R) q3 (byV (ansR L).b) → St h0 h' (X ++ R) →
      K (ansR L).e q1 (ansR L).n.length c1 q2 (ansR L).sd.length c2 q3 (ansR L).b.length c3 (ansOk L) h') : answer_Parse (str L) h K := by
  unfold answer_Parse
  refine s.new_ (cs := recA Ans.none none none none 0 0 0) fun t h1 s1 => ?_
  have fail : ∀ h' X, (ansOk L = false ∧ ansR L = Ans.none) → St h0 h' ((t, recA Ans.none none none none 0 0 0) :: (X ++ R)) → failQ t K h' := fun h' X hn s' => fail_of s' fun h2 s2 => by
    have := hk h2 none 0 none 0 none 0 ((t, recA Ans.none none none none 0 0 0) :: X) (by rw [hn.2]; exact Keeps.nil) (by rw [hn.2]; exact Keeps.nil) (by rw [hn.2]; exact Keeps.nil) s2
    rw [hn.1, hn.2] at this
    exact this
  refine callP4.self (Words_res2 f.max (by omega) s1 fun h2 q c X hc k s2 => ?_)
  cases hw : wsB L with
  | false =>
    exact iteB_pos rfl (fail h2 X (ok_no hw) (St.re s2 (by intro a; simp only [cntR_append, cntR_cons, cntR_nil, List.cons_append, List.nil_append, List.set_cons_zero, List.set_cons_succ]; omega)))
  | true =>
    refine iteB_neg rfl (s2.new_ fun ln h3 s3 => s3.new_ (cs := recA Ans.none none none none 0 0 0) fun an h4 s4 => ?_)
    have p0 : PSt h0 (X ++ R) t ln an (wsL L) Ans.none h4 := ⟨q, c, none, 0, none, 0, none, 0, [], [], [], hc, k.sub fun x hx => by simp at hx ⊢; rcases hx with hx | hx | hx <;> simp [hx], Own.nil, Own.nil, Keeps.nil, (St.re s4 (by intro a; simp only [cntR_append, cntR_cons, cntR_nil, List.cons_append, List.nil_append, List.set_cons_zero, List.set_cons_succ]; omega))⟩
    have failP : ∀ h' W a, progP (wsL L) = none → PSt h0 (X ++ R) t ln an W a h' → failQ t K h' := fun h' W a hp p => by
      obtain ⟨X2, s'⟩ := p.box
      exact fail h' (X2 ++ X) (prog_none hp) (by rw [List.append_assoc]; exact s')
    have hws : ∀ x ∈ wsL L, x.length ≤ 2 ^ 14 := fun x hx => Nat.le_trans (wsL_mem hx) hL
    have hwl := wsL_len L
    generalize hWg : wsL L = W at *
    clear s1 s2 s3 s4 k
    intro j
    have J : ∀ e r h', headP W = some (e, r) → (∀ x ∈ r, x ∈ W) → r.length ≤ W.length → PSt h0 (X ++ R) t ln an r ⟨e, [], [], []⟩ h' → j h' := fun e r h' hh hm hlr p => by
      simp -zeta only [j]
      clear j
      obtain ⟨tm, tl⟩ := takeN_mem r
      refine callP0.self (all1_of f (fun y hy => Nat.le_trans (hws y (hm y hy)) (by decide)) (by simp; omega) p fun h5 p5 => ?_)
      have p5 : PSt h0 (X ++ R) t ln an (takeN r).2 ⟨e, (takeN r).1, [], []⟩ h5 := p5
      intro j3
      have J3 : ∀ sd r2 h', sideP (takeN r).2 = some (sd, r2) → (∀ x ∈ r2, x ∈ W) → sd.length + r2.length ≤ W.length → PSt h0 (X ++ R) t ln an r2 ⟨e, (takeN r).1, sd, []⟩ h' → j3 h' := fun sd r2 h' hs hm2 hl2 p => by
        simp -zeta only [j3]
        clear j3
        intro j4
        have J4 : ∀ b r3 h', byteP r2 = some (b, r3) → b.length ≤ 2 ^ 14 → PSt h0 (X ++ R) t ln an r3 ⟨e, (takeN r).1, sd, b⟩ h' → j4 h' := fun b r3 h' hb hbl p => by
          simp -zeta only [j4]
          clear j4
          have hprog := progP_of hh hs hb
          intro j5
          have JF : ∀ h' W2 a, (ansOk L = false ∧ ansR L = Ans.none) → PSt h0 (X ++ R) t ln an W2 a h' → j5 true h' := fun h' W2 a hp p => by
            simp -zeta only [j5]
            obtain ⟨X2, s'⟩ := p.box
            exact iteB_pos rfl (fail h' (X2 ++ X) hp (by rw [List.append_assoc]; exact s'))
          have JT : ∀ h', (ansOk L = true ∧ ansR L = ⟨e, (takeN r).1, sd, b⟩) → PSt h0 (X ++ R) t ln an r3 ⟨e, (takeN r).1, sd, b⟩ h' → j5 false h' := fun h' hp p => by
            simp -zeta only [j5]
            obtain ⟨q', c', qn, cn, qs, cs, qb, cb, XN, XS, Y, p1, p2, p3, p4, p5, s5⟩ := p
            simp -zeta only [add_mk, Nat.zero_add]
            refine iteB_neg rfl ⟨_, s5.rd1 0, _, _, _, s5.rd1 1, _, _, _, s5.rd1 2, _, _, _, s5.rd1 3, ?_⟩
            refine s5.st2 (by simp [recA]) fun h6 s6 => s6.st2 (by simp [recA]) fun h7 s7 => s7.st2 (by simp [recA]) fun h8 s8 => s8.st2 (by simp [recA]) fun h9 s9 => ?_
            have s9 : St h0 h9 ((ln, [.slice q' r3.length c']) :: (an, recA ⟨e, (takeN r).1, sd, b⟩ qn qs qb cn cs cb) :: (t, recA ⟨e, (takeN r).1, sd, b⟩ qn qs qb cn cs cb) :: (XN ++ (XS ++ (Y ++ (X ++ R))))) := s9
            refine ⟨_, s9.rd2 0, _, _, _, s9.rd2 1, _, _, _, s9.rd2 2, _, _, _, s9.rd2 3, ?_⟩
            have := hk h9 qn cn qs cs qb cb ((ln, [.slice q' r3.length c']) :: (an, recA ⟨e, (takeN r).1, sd, b⟩ qn qs qb cn cs cb) :: (t, recA ⟨e, (takeN r).1, sd, b⟩ qn qs qb cn cs cb) :: (XN ++ (XS ++ (Y ++ X))))
              (by rw [hp.2]; exact p3.keeps fun x hx => by simp [hx]) (by rw [hp.2]; exact p4.keeps fun x hx => by simp [hx]) (by rw [hp.2]; exact p5.sub fun x hx => by simp at hx ⊢; rcases hx with hx | hx | hx <;> simp [hx]) (by simpa using s9)
            rw [hp.1, hp.2] at this
            exact this
          clear_value j5
          obtain ⟨q', c', qn, cn, qs, cs, qb, cb, XN, XS, Y, p1, p2, p3, p4, p5, s5⟩ := id p
          simp -zeta only [add_mk, Nat.zero_add]
          refine ⟨_, _, _, s5.rd0 0, iteB_intro (fun e9 => ?_) fun e9 => ⟨_, s5.rd1 0, _, _, _, s5.rd1 1, _, _, _, s5.rd1 2, _, _, _, s5.rd1 3, ?_⟩⟩
          · have e9 : r3 ≠ [] := fun hh => by rw [hh] at e9; simp at e9
            rw [if_neg e9] at hprog
            rw [← hWg] at hprog
            exact JF h' _ _ (prog_none hprog) p
          · have e9 : r3 = [] := by
              have e9 := of_decide_eq_false e9
              exact List.length_eq_zero_iff.1 (by omega)
            rw [if_pos e9] at hprog
            have hv := prog_valid hprog
            have hprog' := hprog
            rw [← hWg] at hprog'
            obtain ⟨g1, g2⟩ := prog_some hw hprog'
            refine callP1.self (APrint_of (a := ⟨e, (takeN r).1, sd, b⟩) (f.ext s5.ext) hv (p3.keeps (R := XN ++ (XS ++ (Y ++ (X ++ R)))) (fun x hx => by simp [hx]) |>.sub (fun x hx => List.mem_cons_of_mem _ (List.mem_cons_of_mem _ (List.mem_cons_of_mem _ hx))) |>.at0 s5) (p4.keeps (R := XN ++ (XS ++ (Y ++ (X ++ R)))) (fun x hx => by simp [hx]) |>.sub (fun x hx => List.mem_cons_of_mem _ (List.mem_cons_of_mem _ (List.mem_cons_of_mem _ hx))) |>.at0 s5) ((p5.sub fun x hx => List.mem_cons_of_mem _ (List.mem_cons_of_mem _ (List.mem_cons_of_mem _ (List.mem_append_right _ (List.mem_append_right _ hx))))).at0 s5) (by simp only; omega) (by simp only; omega) (by simp only; omega) fun h6 e6 => ?_)
            rw [toList_str, toList_str]
            by_cases hT : ansT ⟨e, (takeN r).1, sd, b⟩ = L
            · rw [hT, beq_self_eq_true]
              exact JT h6 (g1 hT) (p.ofExt e6)
            · have : (ansT ⟨e, (takeN r).1, sd, b⟩ == L) = false := by simpa using hT
              rw [this]
              exact JF h6 _ _ (g2 hT) (p.ofExt e6)
        clear_value j4
        intro j6
        have J6 : ∀ b r3 h', byteP r2 = some (b, r3) → b.length ≤ 2 ^ 14 → PSt h0 (X ++ R) t ln an r3 ⟨e, (takeN r).1, sd, b⟩ h' → j6 false h' := fun b r3 h' hb hbl p => by
          simp -zeta only [j6]
          exact iteB_neg rfl (J4 b r3 h' hb hbl p)
        have J7 : ∀ x h', r2 = bytesW :: [x] → PSt h0 (X ++ R) t ln an [x] ⟨e, (takeN r).1, sd, []⟩ h' → j6 true h' := fun x h' hr p => by
          simp -zeta only [j6]
          clear j6 J6
          obtain ⟨q', c', qn, cn, qs, cs, qb, cb, XN, XS, Y, p1, p2, p3, p4, p5, s5⟩ := p
          have hbp : byteP r2 = if bytesO x = true ∧ bytesB x ≠ [] then some (bytesB x, []) else none := by
            rw [hr]; unfold byteP; simp only [if_true]
          have hxl : x.length ≤ 2 ^ 14 := hws x (hm2 x (by rw [hr]; simp))
          obtain ⟨ad, ha, g⟩ := p2 h' _ s5 (fun y hy => by simp at hy ⊢; rcases hy with hy | hy | hy | hy <;> simp [hy]) 0 (.string (str x)) rfl
          refine iteB_pos rfl ⟨_, _, _, s5.rd0 0, ?_⟩
          rw [ha]
          simp -zeta only [chkP_some]
          refine ⟨⟨by decide, by simp⟩, str x, g, callP4.self (Bytes_of (by omega) s5 fun h6 q6 c6 X6 k6 s6 => ?_)⟩
          have s7 : St h0 h6 ((ln, [.slice q' [x].length c']) :: (an, recA ⟨e, (takeN r).1, sd, []⟩ qn qs qb cn cs cb) :: (t, recA Ans.none none none none 0 0 0) :: (XN ++ (XS ++ ((X6 ++ Y) ++ (X ++ R))))) := (St.re s6 (by intro a; simp only [cntR_append, cntR_cons, cntR_nil, List.cons_append, List.nil_append, List.set_cons_zero, List.set_cons_succ]; omega))
          rw [add_mk, Nat.zero_add]
          refine s7.st1 (by simp [recA]) fun h8 s8 => ?_
          have s8 : St h0 h8 ((ln, [.slice q' [x].length c']) :: (an, recA ⟨e, (takeN r).1, sd, bytesB x⟩ qn qs q6 cn cs c6) :: (t, recA Ans.none none none none 0 0 0) :: (XN ++ (XS ++ ((X6 ++ Y) ++ (X ++ R))))) := s8
          have k8 : Keeps h0 ((X6 ++ Y) ++ (X ++ R)) q6 (byV (bytesB x)) := k6.sub fun y hy => by simp [hy]
          have p8 : PSt h0 (X ++ R) t ln an [x] ⟨e, (takeN r).1, sd, bytesB x⟩ h8 := ⟨q', c', qn, cn, qs, cs, q6, c6, XN, XS, X6 ++ Y, p1, p2.sub (fun y hy => by simp at hy ⊢; rcases hy with hy | hy | hy | hy <;> simp [hy]), p3, p4, k8, s8⟩
          intro j8
          have J8T : (¬ (bytesO x = true ∧ bytesB x ≠ [])) → j8 true := fun hn => by
            simp -zeta only [j8]
            exact iteB_pos rfl (failP h8 _ _ (progP_byte hh hs (by rw [hbp, if_neg hn])) p8)
          have J8F : bytesO x = true → bytesB x ≠ [] → j8 false := fun ho hn => by
            simp -zeta only [j8]
            refine iteB_neg rfl (s8.st0 (by simp) fun h9 s9 => J4 (bytesB x) [] h9 (by rw [hbp, if_pos ⟨ho, hn⟩]) (Nat.le_trans (bytesB_len x) hxl) ⟨none, 0, qn, cn, qs, cs, q6, c6, XN, XS, X6 ++ Y, Nat.le_refl _, Keeps.nil, p3, p4, k8, s9⟩)
          clear_value j8
          cases ho : bytesO x with
          | false => exact iteB_pos rfl (J8T (by rw [ho]; simp))
          | true =>
            refine iteB_neg rfl ⟨_, _, _, s8.rd1 3, ?_⟩
            by_cases hz : bytesB x = []
            · have : (((bytesB x).length : Int) == 0) = true := by rw [hz]; rfl
              rw [this]
              exact J8T (fun hh => hh.2 hz)
            · have : (((bytesB x).length : Int) == 0) = false := by simp [hz]
              rw [this]
              exact J8F ho hz
        clear_value j6
        refine callP1.self (word_of (w := bytesW) p (fun r' h6 hr p6 => iteB_pos rfl ?_) (fun hn => iteB_neg rfl (J6 [] r2 h' (byteP_miss hn) (by simp) p)))
        obtain ⟨q6, c6, g6⟩ := p6.line
        refine ⟨_, _, _, g6, ?_⟩
        by_cases hx : ∃ x, r' = [x]
        · obtain ⟨x, rfl⟩ := hx
          exact J7 x h6 hr p6
        · have hx2 : ∀ x, r' ≠ [x] := fun x e => hx ⟨x, e⟩
          have : ((r'.length : Int) == 1) = false := by
            cases hl : ((r'.length : Int) == 1) with
            | false => rfl
            | true =>
              exfalso
              have hl : (r'.length : Int) = 1 := by simpa using hl
              match r', hl, hx2 with
              | [x], _, hx2 => exact hx2 x rfl
              | [], hl, _ => simp at hl
              | _ :: _ :: _, hl, _ => simp at hl; omega
          rw [this]
          exact J6 [] r' h6 (by rw [hr]; exact byteP_two hx2) (by simp) p6
      clear_value j3
      refine callP1.self (word_of (w := sideW) p5 (fun r' h6 hr p6 => iteB_pos rfl ?_) (fun hn => iteB_neg rfl (J3 [] (takeN r).2 h5 (sideP_miss hn) (fun x hx => hm x (tm x hx)) (by simp; omega) p5)))
      obtain ⟨tm2, tl2⟩ := takeN_mem r'
      have hmr : ∀ x ∈ r', x ∈ W := fun x hx => hm x (tm x (by rw [hr]; exact List.mem_cons_of_mem _ hx))
      have hlr' : r'.length + 1 ≤ W.length := by
        have := congrArg List.length hr
        rw [List.length_cons] at this
        omega
      refine callP0.self (all2_of f (fun y hy => Nat.le_trans (hws y (hmr y hy)) (by decide)) (by simp; omega) p6 fun h7 p7 => ?_)
      have p7 : PSt h0 (X ++ R) t ln an (takeN r').2 ⟨e, (takeN r).1, (takeN r').1, []⟩ h7 := p7
      obtain ⟨q7, c7, g7⟩ := p7.side
      have hsp := sideP_hit r'
      rw [← hr] at hsp
      refine ⟨_, _, _, g7, iteB_intro (fun e9 => ?_) fun e9 => ?_⟩
      · have e9 : (takeN r').1 = [] := by
          have e9 : (((takeN r').1.length : Nat) : Int) = 0 := by simpa using e9
          exact List.length_eq_zero_iff.1 (by omega)
        rw [if_pos e9] at hsp
        exact failP h7 _ _ (progP_side hh hsp) p7
      · have e9 : (takeN r').1 ≠ [] := fun hz => by rw [hz] at e9; simp at e9
        rw [if_neg e9] at hsp
        exact J3 (takeN r').1 (takeN r').2 h7 hsp (fun x hx => hmr x (tm2 x hx)) (by omega) p7
    clear_value j
    refine callP1.self (word_of (w := okW) p0 (fun r h6 hr p6 => iteB_neg rfl (J 0 r h6 (by rw [hr]; exact headP_ok r) (fun x hx => by rw [hr]; exact List.mem_cons_of_mem _ hx) (by rw [hr]; simp) p6)) (fun hn => iteB_pos rfl ?_))
    have J40 : True := trivial
    refine callP1.self (word_of (w := errW) p0 (fun r h6 hr p6 => ?_) (fun hn2 => ?_))
    · intro j9
      have hhp := headP_err r
      rw [← hr] at hhp
      have JF : ∀ y h' W2 a, headP W = none → PSt h0 (X ++ R) t ln an W2 a h' → j9 y false h' := fun y h' W2 a hp p => by
        simp -zeta only [j9]
        intro j10
        refine iteB_pos rfl ?_
        simp -zeta only [j10]
        exact iteB_pos rfl (failP h' _ _ (progP_head hp) p)
      have JT : ∀ x r2 h', r = x :: r2 → parE x = 0 → PSt h0 (X ++ R) t ln an r2 Ans.none h' → j9 (parN x) true h' := fun x r2 h' hr2 he p => by
        simp -zeta only [j9]
        intro j10
        refine iteB_neg rfl ?_
        simp -zeta only [j10]
        rw [hr2] at hhp
        simp only at hhp
        refine iteB_intro (fun e9 => ?_) fun e9 => ?_
        · have e9 : parN x = 0 := by simpa using e9
          rw [if_neg (fun hh => hh.2 e9)] at hhp
          exact failP h' _ _ (progP_head hhp) p
        · have e9 : parN x ≠ 0 := by simpa using e9
          rw [if_pos ⟨he, e9⟩] at hhp
          exact put0_of p fun h8 p8 => J (parN x) r2 h8 hhp (fun y hy => by rw [hr, hr2]; simp [hy]) (by rw [hr, hr2]; simp; omega) p8
      clear_value j9
      refine iteB_pos rfl (callP2.self (number_of p6 f (fun y hy => Nat.le_trans (hws y (by rw [hr]; exact List.mem_cons_of_mem _ hy)) (by decide)) (fun e9 => ?_) (fun x r2 h7 e9 e0 p7 => JT x r2 h7 e9 e0 p7) (fun x r2 h7 e9 e0 p7 => ?_)))
      · rw [e9] at hhp
        exact JF 0 h6 _ _ hhp p6
      · refine JF _ h7 _ _ ?_ p7
        rw [hhp, e9]
        simp only
        rw [if_neg (fun hh => e0 hh.1)]
    · intro j9
      refine iteB_neg rfl ?_
      simp -zeta only [j9]
      intro j10
      refine iteB_pos rfl ?_
      simp -zeta only [j10]
      exact iteB_pos rfl (failP h4 _ _ (progP_head (headP_miss hn hn2)) p0)
end
end Go.Proofs.YtmejnpadgbdhaaaGreatDoor
