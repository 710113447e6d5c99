/-
  Sets: of any vertices.
-/
import Derived.Test.YtmojgekepkpfcaaDoorV6
import Derived.Test.YtmojgekepkpfcaaDoorRd
namespace Go.Proofs.YtmojgekepkpfcaaDoor
set_option linter.unusedVariables false
set_option linter.unusedSimpArgs false
set_option linter.unnecessarySimpa false
open Go.Hp Go.RowKit
attribute [local irreducible] Go.Hp.iteB Go.Hp.stC Go.Hp.newP

theorem memL_one {f g : Nat → Bool} {n : Nat} (hf : clean f n) (hg : clean g n) : memL f n = memL g n ↔ f = g := by
  constructor
  · intro h
    have key : ∀ (f : Nat → Bool), clean f n → ∀ v : Nat, f v = true ↔ (v : Int) ∈ memL f n := fun f hf v => by
      unfold memL memN
      simp only [List.mem_map, List.mem_filter, List.mem_range]
      constructor
      · intro e
        refine ⟨v, ⟨?_, e⟩, rfl⟩
        apply Classical.byContradiction
        intro c
        rw [hf v (by omega)] at e; cases e
      · rintro ⟨w, ⟨_, e⟩, h⟩
        have : w = v := by omega
        subst this; exact e
    funext v
    have h1 := key f hf v
    have h2 := key g hg v
    rw [h] at h1
    cases e1 : f v <;> cases e2 : g v
    · rfl
    · rw [e1] at h1; rw [e2] at h2; exact absurd (h1.2 (h2.1 rfl)) (by simp)
    · rw [e1] at h1; rw [e2] at h2; exact absurd (h2.2 (h1.1 rfl)) (by simp)
    · rfl
  · rintro rfl; rfl

theorem Of_of {hh : Heap} {m0 m1 : Int} {q1 q2 : Option Addr} {k1 k2 c1 c2 : Nat} {l1 l2 : List Int} {K : Bool → Heap → Prop} (ht : Tab hh) (hl1 : l1.length = k1) (hl2 : l2.length = k2) (v1 : valsAt hh q1 (l1.map (Value.int .i64))) (v2 : valsAt hh q2 (l2.map (Value.int .i64)))
    (hk : ∀ h', Ext hh h' → K true h') : straitlaw09_VsetOf m0 m1 q1 k1 c1 q2 k2 c2 hh K := by
  unfold straitlaw09_VsetOf
  refine (St.refl hh).new_ fun b5 h s => ?_
  intro j
  have J : k1 ≤ 200 → k2 ≤ 200 → j := fun g1 g2 => by
    simp -zeta only [j]
    have hb1 : k1 < 2 ^ 40 := by omega
    have hb2 : k2 < 2 ^ 40 := by omega
    have kl1 : ∀ {R : Rws}, Keeps (hh : Base) R q1 (l1.map (Value.int .i64)) := fun {R} => Keeps.old v1
    have kl2 : ∀ {R : Rws}, Keeps (hh : Base) R q2 (l2.map (Value.int .i64)) := fun {R} => Keeps.old v2
    have r0 := s.rd0
    simp -zeta (disch := omega) only [add_mk, Int.reduceToNat, Nat.reduceMul, Nat.zero_add, Nat.zero_mul, Int.toNat_zero, bnd_in, r0, ex_int, List.getElem?_cons_zero, List.getElem?_cons_succ]
    refine callP1.self (VOf_of hl1 hb1 kl1 s fun a h s => ?_)
    refine ⟨⟨_, (s.rd (b := b5) (cs := [.int .i64 m0, .int .i64 m1]) (by simp) _).trans rfl, rfl⟩, ?_⟩
    refine callP1.self (VOf_of hl2 hb2 kl2 s fun b h s => ?_)
    intro j230
    obtain ⟨n1, hn1⟩ : ∃ n, roomV m0 = n := ⟨_, rfl⟩
    obtain ⟨n2, hn2⟩ : ∃ n, roomV m1 = n := ⟨_, rfl⟩
    have le1 : n1 ≤ 4096 := by rw [← hn1]; exact roomV_le m0
    have le2 : n2 ≤ 4096 := by rw [← hn2]; exact roomV_le m1
    obtain ⟨f1, hf1⟩ : ∃ f, putL n1 l1 (fun _ => false) = f := ⟨_, rfl⟩
    obtain ⟨f2, hf2⟩ : ∃ f, putL n2 l2 (fun _ => false) = f := ⟨_, rfl⟩
    have cl1 : clean f1 n1 := by rw [← hf1]; exact clean_putL (clean_none _)
    have cl2 : clean f2 n2 := by rw [← hf2]; exact clean_putL (clean_none _)
    have J230 : ∀ (y1 y2 bA bB : Nat) (h : Heap), St (hh : Base) h ((y1, [.int .i64 (n1 : Int), .slice (some ⟨bA, 0, none⟩) n1 n1]) :: (bA, rowF cB n1 f1) :: (y2, [.int .i64 (n2 : Int), .slice (some ⟨bB, 0, none⟩) n2 n2]) :: (bB, rowF cB n2 f2) :: (vS a n1 f1 ++ vS b n2 f2)) → j230 ⟨y1, 0, none⟩ ⟨y2, 0, none⟩ h := fun y1 y2 bA bB h s => by
      simp -zeta only [j230]
      obtain ⟨M, hM⟩ : ∃ M : Rws, ((y1, [.int .i64 (n1 : Int), .slice (some ⟨bA, 0, none⟩) n1 n1]) :: (bA, rowF cB n1 f1) :: (y2, [.int .i64 (n2 : Int), .slice (some ⟨bB, 0, none⟩) n2 n2]) :: (bB, rowF cB n2 f2) :: (vS a n1 f1 ++ vS b n2 f2)) = M := ⟨_, rfl⟩
      rw [hM] at s
      have my1 : (y1, [Value.int .i64 (n1 : Int), .slice (some ⟨bA, 0, none⟩) n1 n1]) ∈ M := by rw [← hM]; simp
      have my2 : (y2, [Value.int .i64 (n2 : Int), .slice (some ⟨bB, 0, none⟩) n2 n2]) ∈ M := by rw [← hM]; simp
      have kA : Keeps (hh : Base) M (some ⟨bA, 0, none⟩) (rowF cB n1 f1) := Keeps.row (by rw [← hM]; simp)
      have kB : Keeps (hh : Base) M (some ⟨bB, 0, none⟩) (rowF cB n2 f2) := Keeps.row (by rw [← hM]; simp)
      have va : ∀ x ∈ vS a n1 f1, x ∈ M := fun x hx => by rw [← hM]; simp [hx]
      have vb : ∀ x ∈ vS b n2 f2, x ∈ M := fun x hx => by rw [← hM]; simp [hx]
      intro j229
      have J229 : ∀ u, j229 u := fun u => by
        simp -zeta only [j229]
        intro j228
        have J228 : ∀ v, j228 v := fun v => by
          simp -zeta only [j228]
          intro j227
          have J227 : ∀ (pb : Bool) (h : Heap), pb = (decide (inV u n1) && (decide (inV v n1) && !(hasV f1 n1 u == hasV f1 n1 v))) → St (hh : Base) h M → j227 pb h := fun pb h e s => by
            simp -zeta only [j227]
            have rA := s.rd my1
            simp -zeta (disch := omega) only [chkP_some, iteB_true, iteB_false, add_mk, Nat.zero_add, Nat.add_zero, Nat.mul_one, Nat.reduceAdd, Int.toNat_natCast, ex_int, ex_slice, ex_ptr, ex_bool, ex_str, ex_flt, ex_any, bnd_in, List.getElem?_cons_zero, List.getElem?_cons_succ, List.set_cons_zero, List.set_cons_succ, List.cons_append, List.nil_append, bne_self_eq_false, beq_self_eq_true, Bool.not_true, Bool.not_false, Option.isNone_some, Option.isNone_none, eq_self, true_and, and_true, and_self, rA]
            refine callP1.self (same_of (h0 := (hh : Base)) ht le1 cl1 va kA s fun h s => iteB_pos rfl ?_)
            have rB := s.rd my2
            simp -zeta (disch := omega) only [chkP_some, iteB_true, iteB_false, add_mk, Nat.zero_add, Nat.add_zero, Nat.mul_one, Nat.reduceAdd, Int.toNat_natCast, ex_int, ex_slice, ex_ptr, ex_bool, ex_str, ex_flt, ex_any, bnd_in, List.getElem?_cons_zero, List.getElem?_cons_succ, List.set_cons_zero, List.set_cons_succ, List.cons_append, List.nil_append, bne_self_eq_false, beq_self_eq_true, Bool.not_true, Bool.not_false, Option.isNone_some, Option.isNone_none, eq_self, true_and, and_true, and_self, rB]
            refine callP1.self (same_of (h0 := (hh : Base)) ht le2 cl2 vb kB s fun h s => iteB_pos rfl ?_)
            have sa : isV h a n1 f1 := St.isV s va
            have sb : isV h b n2 f2 := St.isV s vb
            have dr : Decidable (n1 = n2 ∧ f1 = f2) := Classical.propDecidable _
            refine qcallP1.of (decide (n1 = n2 ∧ f1 = f2)) (fun Q hQ => VSame_of le1 le2 cl1 cl2 sa sb _ decide_eq_true_iff hQ) ?_
            have rA := s.rd my1
            have rB := s.rd my2
            simp -zeta (disch := omega) only [chkP_some, iteB_true, iteB_false, add_mk, Nat.zero_add, Nat.add_zero, Nat.mul_one, Nat.reduceAdd, Int.toNat_natCast, ex_int, ex_slice, ex_ptr, ex_bool, ex_str, ex_flt, ex_any, bnd_in, List.getElem?_cons_zero, List.getElem?_cons_succ, List.set_cons_zero, List.set_cons_succ, List.cons_append, List.nil_append, bne_self_eq_false, beq_self_eq_true, Bool.not_true, Bool.not_false, Option.isNone_some, Option.isNone_none, eq_self, true_and, and_true, and_self, rA, rB]
            refine iteB_intro (fun c => ?_) (fun c => ?_)
            · have c : n1 = n2 := by
                have : (n1 : Int) = (n2 : Int) := by simpa using c
                omega
              refine callP3.self (RList_of le1 kA s fun h q3 c3 X3 o3 s3 => ?_)
              have rB := s3.rd (List.mem_append_right X3 my2)
              refine ⟨⟨_, rB 0, _, _, _, rB 1, rfl⟩, ?_⟩
              refine callP3.self (RList_of (R := X3 ++ M) le2 kB.app s3 fun h q4 c4 X4 o4 s4 => ?_)
              have w3 := (o3.keeps (h0 := (hh : Base)) (R := X3) fun x hx => hx) h _ s4 (fun x hx => by simp [hx])
              have b3 := memL_len f1 n1
              refine qcallP1.of (decide (memL f1 n1 = memL f2 n2)) (fun Q hQ => Ints_of w3 (o4.vals s4) rfl rfl (by omega) hQ) (iteB_pos ?_ ?_)
              · subst c
                have := memL_one cl1 cl2
                by_cases e2 : f1 = f2
                · rw [decide_eq_true (show n1 = n1 ∧ f1 = f2 from ⟨rfl, e2⟩), decide_eq_true (this.2 e2)]; rfl
                · rw [decide_eq_false (fun h : n1 = n1 ∧ f1 = f2 => e2 h.2), decide_eq_false (fun h => e2 (this.1 h))]; rfl
              have sa : isV h a n1 f1 := St.isV s4 fun x hx => List.mem_append_right _ (List.mem_append_right _ (va x hx))
              refine qcallP1.of _ (fun Q hQ => Parts_of le1 sa hQ) (iteB_pos (by rw [e]; simp) ?_)
              exact callP1.self (awake_of (h0 := (hh : Base)) ht s4 fun h s => hk h s.ext)
            · have c : ¬ n1 = n2 := fun h => by subst h; simp at c
              rw [decide_eq_false (fun h : n1 = n2 ∧ f1 = f2 => c h.1)]
              refine iteB_pos rfl ?_
              refine qcallP1.of _ (fun Q hQ => Parts_of le1 sa hQ) (iteB_pos (by rw [e]; simp) ?_)
              exact callP1.self (awake_of (h0 := (hh : Base)) ht s fun h s => hk h s.ext)
          clear_value j227
          have no1 : ¬ inV u n1 → j227 false h := fun c => J227 _ _ (by rw [decide_eq_false c]; rfl) s
          have no2 : ¬ inV v n1 → j227 false h := fun c => J227 _ _ (by rw [decide_eq_false c]; simp) s
          have rA := s.rd my1
          refine iteB_intro (fun d1 => ?_) (fun d1 => ?_)
          rotate_left
          · have d1 := of_decide_eq_false d1
            first | exact ⟨trivial, no1 (fun h => d1 h.1)⟩ | exact no1 (fun h => d1 h.1)
          have d1 := of_decide_eq_true d1
          simp -zeta (disch := omega) only [chkP_some, iteB_true, iteB_false, add_mk, Nat.zero_add, Nat.add_zero, Nat.mul_one, Nat.reduceAdd, Int.toNat_natCast, ex_int, ex_slice, ex_ptr, ex_bool, ex_str, ex_flt, ex_any, bnd_in, List.getElem?_cons_zero, List.getElem?_cons_succ, List.set_cons_zero, List.set_cons_succ, List.cons_append, List.nil_append, bne_self_eq_false, beq_self_eq_true, Bool.not_true, Bool.not_false, Option.isNone_some, Option.isNone_none, eq_self, true_and, and_true, and_self, rA]
          refine iteB_intro (fun d2 => ?_) (fun d2 => ?_)
          rotate_left
          · have d2 := of_decide_eq_false d2
            first | exact ⟨trivial, no1 (fun h => d2 h.2)⟩ | exact no1 (fun h => d2 h.2)
          have d2 := of_decide_eq_true d2
          refine iteB_intro (fun d3 => ?_) (fun d3 => ?_)
          rotate_left
          · have d3 := of_decide_eq_false d3
            first | exact ⟨trivial, no2 (fun h => d3 h.1)⟩ | exact no2 (fun h => d3 h.1)
          have d3 := of_decide_eq_true d3
          refine iteB_intro (fun d4 => ?_) (fun d4 => ?_)
          rotate_left
          · have d4 := of_decide_eq_false d4
            first | exact ⟨trivial, no2 (fun h => d4 h.2)⟩ | exact no2 (fun h => d4 h.2)
          have d4 := of_decide_eq_true d4
          refine callP1.self (RHas_of le1 kA s fun h s => ?_)
          have rA := s.rd my1
          refine ⟨⟨_, rA 0, _, _, _, rA 1, rfl⟩, ?_⟩
          refine callP1.self (RHas_of le1 kA s fun h s => J227 _ _ ?_ s)
          rw [decide_eq_true (show inV u n1 from ⟨d1, d2⟩), decide_eq_true (show inV v n1 from ⟨d3, d4⟩)]; rfl
        clear_value j228
        refine iteB_intro (fun d => ?_) (fun d => J228 1)
        have d := of_decide_eq_true d
        obtain ⟨x, hx⟩ := get_lt (l := l2) (i := 0) (by omega)
        have w2 : valsAt h q2 (l2.map (Value.int .i64)) := v2.ext s.ext
        have g := fun {G : Int → Prop} => vals_int (G := G) w2 (show (l2.map (Value.int .i64))[0]? = some (.int .i64 x) by simp [hx])
        simp -zeta (disch := omega) only [bnd_in, Int.toNat_zero, Nat.zero_mul, Int.reduceToNat, g]
        exact J228 x
      clear_value j229
      refine iteB_intro (fun d => ?_) (fun d => J229 0)
      have d := of_decide_eq_true d
      obtain ⟨x, hx⟩ := get_lt (l := l1) (i := 0) (by omega)
      have w1 : valsAt h q1 (l1.map (Value.int .i64)) := v1.ext s.ext
      have g := fun {G : Int → Prop} => vals_int (G := G) w1 (show (l1.map (Value.int .i64))[0]? = some (.int .i64 x) by simp [hx])
      simp -zeta (disch := omega) only [bnd_in, Int.toNat_zero, Nat.zero_mul, Int.reduceToNat, g]
      exact J229 x
    clear_value j230
    have r0 : ∀ j, cell h ⟨b5, j, none⟩ = [Value.int .i64 m0, .int .i64 m1][j]? := s.rd (by simp)
    simp -zeta (disch := omega) only [bnd_in, r0, ex_int, List.getElem?_cons_zero, List.getElem?_cons_succ]
    repeat' (first | (refine ⟨⟨_, (s.rd (b := b5) (cs := [.int .i64 m0, .int .i64 m1]) (by simp) _).trans rfl, rfl⟩, ?_⟩) | (refine callP4.self (ROf_of (m := m0) hl1 hb1 kl1 s fun bA h s => ?_)) | (refine callP4.self (ROf_of (m := m1) hl2 hb2 kl2 s fun bB h s => ?_)) | (refine s.new_ fun y h s => ?_) | (refine s.st0 (by simp) fun h s => ?_; try simp -zeta only [add_mk, Nat.zero_add]) | (refine s.st1 (by simp) fun h s => ?_; try simp -zeta only [add_mk, Nat.zero_add]) | (refine s.st2 (by simp) fun h s => ?_; try simp -zeta only [add_mk, Nat.zero_add]) | (with_reducible apply And.intro) | (refine s.st3 (by simp) fun h s => ?_; try simp -zeta only [add_mk, Nat.zero_add]))
    all_goals
      simp only [hf1, hf2, hn1, hn2, List.set_cons_zero, List.set_cons_succ, Nat.zero_add] at s
      exact J230 _ _ bA bB _ ((St.re s (by intro a; simp only [cntR_append, cntR_cons, cntR_nil, List.cons_append, List.nil_append, List.set_cons_zero, List.set_cons_succ]; omega)))
  clear_value j
  refine iteB_intro (fun d => ?_) (fun d => iteB_intro (fun d2 => ?_) (fun d2 => ?_))
  · exact callP1.self (awake_of (h0 := (hh : Base)) ht s fun h s => hk h s.ext)
  · exact callP1.self (awake_of (h0 := (hh : Base)) ht s fun h s => hk h s.ext)
  · have d := of_decide_eq_false d
    have d2 := of_decide_eq_false d2
    exact J (by omega) (by omega)
end Go.Proofs.YtmojgekepkpfcaaDoor
