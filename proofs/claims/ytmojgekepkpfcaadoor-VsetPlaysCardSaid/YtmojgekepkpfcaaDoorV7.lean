/-
  Sets: any calls.
-/
import Derived.Test.YtmojgekepkpfcaaDoorV6
import Derived.Test.YtmojgekepkpfcaaDoorRd
namespace Go.Proofs.YtmojgekepkpfcaaDoor
set_option linter.unusedVariables false
set_option linter.unusedSimpArgs false
set_option linter.unnecessarySimpa false
open Go.Hp Go.RowKit
attribute [local irreducible] Go.Hp.iteB Go.Hp.stC Go.Hp.newP

def opV (l : List (Int × Int)) : List (List Value) := l.map fun o => [.int .i64 o.1, .int .i64 o.2]
section
variable {h0 : Base} {n : Nat} {a : VA} {p : Option Addr} {len cap : Nat} {ops : List (Int × Int)} {b6 : Nat}
theorem op_read {h : Heap} {i : Nat} {k v : Int} (hv : rowsAt h p 2 (opV ops)) (hx : ops[i]? = some (k, v)) :
    (∀ {G : Int → Prop}, (chkP p fun a => ∃ y : Int, cell h (a.add (i * 2)) = some (.int .i64 y) ∧ G y) = G k) ∧ ∀ {G : Int → Prop}, (chkP p fun a => ∃ y : Int, cell h ((a.add (i * 2)).add 1) = some (.int .i64 y) ∧ G y) = G v := by
  obtain ⟨a, rfl, hc⟩ := hv i [.int .i64 k, .int .i64 v] (by simp [opV, hx])
  have c0 := hc 0 (.int .i64 k) rfl
  have c1 := hc 1 (.int .i64 v) rfl
  have aa : ∀ x y, (a.add x).add y = a.add (x + y) := fun x y => by
    unfold Addr.add
    by_cases h : x = 0
    · subst h; simp
    · by_cases h2 : y = 0
      · subst h2; simp
      · rw [if_neg h, if_neg h2, if_neg (by omega)]; simp [Nat.add_assoc]
  constructor
  · intro G
    rw [chkP_some, show a.add (i * 2) = a.add (i * 2 + 0) from rfl, c0]; simp
  · intro G
    rw [chkP_some, aa, c1]; simp
theorem plays_l0 {K0 : Bool → Heap → Prop} {K2 : Heap → Prop} (hn : n ≤ 4096) (hl : ops.length = len) (hb : len < 2 ^ 40) (hv : rowsAt h0.heap p 2 (opV ops))
    (hk : ∀ h' f q c X, clean f n → Hp.Own q c (rowF cB n f) X → St h0 h' (vS a n f ++ ((b6, [.int .i64 (n : Int), .slice q n c]) :: X)) → K2 h') :
    ∀ (d i : Nat) (h : Heap) (f : Nat → Bool) (q : Option Addr) (c : Nat) (X : Rws), i + d = len → clean f n → Hp.Own q c (rowF cB n f) X → St h0 h (vS a n f ++ ((b6, [.int .i64 (n : Int), .slice q n c]) :: X)) →
      straitlaw09_VsetPlays.l0 K0 K2 (d + 1) p len cap a.ptr ⟨b6, 0, none⟩ (i : Int) h
  | 0, i, h, f, q, c, X, hi, hc, o, s => by
    unfold straitlaw09_VsetPlays.l0 straitlaw09_VsetPlays.b0
    exact iteB_neg (decide_eq_false (by omega)) (hk h f q c X hc o s)
  | d + 1, i, h, f, q, c, X, hi, hc, o, s => by
    unfold straitlaw09_VsetPlays.l0 straitlaw09_VsetPlays.b0
    obtain ⟨⟨k, v⟩, hx⟩ := get_lt (l := ops) (i := i) (by omega)
    have rd : ∀ h', Ext h0.heap h' → rowsAt h' p 2 (opV ops) := fun h' e => hv.ext e
    obtain ⟨u0, u1⟩ := op_read (rd h s.ext) hx
    refine iteB_pos (decide_eq_true (by omega)) ?_
    simp -zeta (disch := omega) only [Int.toNat_natCast, bnd_in, u1]
    have r0 : ∀ j, cell h ⟨b6, j, none⟩ = [Value.int .i64 (n : Int), .slice q n c][j]? := s.rd (by simp)
    simp -zeta (disch := omega) only [chkP_some, iteB_true, iteB_false, add_mk, Nat.zero_add, Nat.add_zero, Nat.mul_one, Nat.reduceAdd, Int.toNat_natCast, ex_int, ex_slice, ex_ptr, ex_bool, ex_str, ex_flt, ex_any, bnd_in, List.getElem?_cons_zero, List.getElem?_cons_succ, List.set_cons_zero, List.set_cons_succ, List.cons_append, List.nil_append, bne_self_eq_false, beq_self_eq_true, Bool.not_true, Bool.not_false, Option.isNone_some, Option.isNone_none, eq_self, true_and, and_true, and_self, r0]
    have kq : Keeps h0 (vS a n f ++ ((b6, [.int .i64 (n : Int), .slice q n c]) :: X)) q (rowF cB n f) := o.keeps fun x hx => by simp [hx]
    refine callP1.self (RHas_of hn kq s fun h1 s1 => ?_)
    obtain ⟨w0, w1⟩ := op_read (rd h1 s1.ext) hx
    intro j
    have J : j (decide (inV v n)) := by
      simp -zeta only [j]
      intro j2
      have J2 : ∀ (f2 : Nat → Bool) (q2 : Option Addr) (c2 : Nat) (X2 : Rws) (h2 : Heap) (ok want : Bool), ok = want → clean f2 n → Hp.Own q2 c2 (rowF cB n f2) X2 → St h0 h2 (vS a n f2 ++ ((b6, [.int .i64 (n : Int), .slice q2 n c2]) :: X2)) → j2 ok want h2 := fun f2 q2 c2 X2 h2 ok want e hc2 o2 s2 => by
        simp -zeta only [j2]
        subst e
        have hv2 : isV h2 a n f2 := St.isV s2 fun x hx => List.mem_append_left _ hx
        refine iteB_neg (by simp) (qcallP1.of _ (fun Q hQ => Has_of hn hv2 hQ) ?_)
        have r2 : ∀ j, cell h2 ⟨b6, j, none⟩ = [Value.int .i64 (n : Int), .slice q2 n c2][j]? := s2.rd (by simp)
        simp -zeta (disch := omega) only [chkP_some, iteB_true, iteB_false, add_mk, Nat.zero_add, Nat.add_zero, Nat.mul_one, Nat.reduceAdd, Int.toNat_natCast, ex_int, ex_slice, ex_ptr, ex_bool, ex_str, ex_flt, ex_any, bnd_in, List.getElem?_cons_zero, List.getElem?_cons_succ, List.set_cons_zero, List.set_cons_succ, List.cons_append, List.nil_append, bne_self_eq_false, beq_self_eq_true, Bool.not_true, Bool.not_false, Option.isNone_some, Option.isNone_none, eq_self, true_and, and_true, and_self, r2]
        have kq2 : Keeps h0 (vS a n f2 ++ ((b6, [.int .i64 (n : Int), .slice q2 n c2]) :: X2)) q2 (rowF cB n f2) := o2.keeps fun x hx => by simp [hx]
        refine callP1.self (RHas_of hn kq2 s2 fun h3 s3 => iteB_neg (by simp) ?_)
        rw [wrap64 (by omega) (by omega)]
        exact plays_l0 hn hl hb hv hk d (i + 1) h3 f2 q2 c2 X2 (by omega) hc2 o2 s3
      clear_value j2
      simp -zeta (disch := omega) only [Int.toNat_natCast, bnd_in, w0]
      -- the document's set with one more, or one less
      have withs : ∀ (t : Bool) (h2 : Heap) (G : Heap → Prop), St h0 h2 (vS a n (putV f n v t) ++ ((b6, [.int .i64 (n : Int), .slice q n c]) :: X)) →
          (∀ h3 q3 c3 X3, Hp.Own q3 c3 (rowF cB n (putV f n v t)) X3 → St h0 h3 (vS a n (putV f n v t) ++ ((b6, [.int .i64 (n : Int), .slice q3 n c3]) :: X3)) → G h3) →
          (∃ (x1020 : Int), cell h2 ⟨b6, 0, none⟩ = some (.int .i64 x1020) ∧ ∃ (x1021 : Option Addr) (x1021l : Nat) (x1021c : Nat), cell h2 ((⟨b6, 0, none⟩ : Addr).add 1) = some (.slice x1021 x1021l x1021c) ∧ callP4 (straitref09_Set_With x1020 x1021 x1021l x1021c v t h2) fun x1022 x1023 x1023l x1023c h1024 => stC h1024 ⟨b6, 0, none⟩ (.int .i64 x1022) fun h1025 => stC h1025 ((⟨b6, 0, none⟩ : Addr).add 1) (.slice x1023 x1023l x1023c) fun h1026 => G h1026) := fun t h2 G s2 hG => by
        have r2 : ∀ j, cell h2 ⟨b6, j, none⟩ = [Value.int .i64 (n : Int), .slice q n c][j]? := s2.rd (by simp)
        simp -zeta (disch := omega) only [chkP_some, iteB_true, iteB_false, add_mk, Nat.zero_add, Nat.add_zero, Nat.mul_one, Nat.reduceAdd, Int.toNat_natCast, ex_int, ex_slice, ex_ptr, ex_bool, ex_str, ex_flt, ex_any, bnd_in, List.getElem?_cons_zero, List.getElem?_cons_succ, List.set_cons_zero, List.set_cons_succ, List.cons_append, List.nil_append, bne_self_eq_false, beq_self_eq_true, Bool.not_true, Bool.not_false, Option.isNone_some, Option.isNone_none, eq_self, true_and, and_true, and_self, r2]
        refine callP4.self (RWith_of (R := vS a n (putV f n v t) ++ [(b6, [.int .i64 (n : Int), .slice q n c])]) hn o ((St.re s2 (by intro a; simp only [cntR_append, cntR_cons, cntR_nil, List.cons_append, List.nil_append, List.set_cons_zero, List.set_cons_succ]; omega))) fun q3 c3 X3 h3 o3 s3 => ?_)
        have s3 : St h0 h3 ((b6, [.int .i64 (n : Int), .slice q n c]) :: (vS a n (putV f n v t) ++ X3)) := (St.re s3 (by intro a; simp only [cntR_append, cntR_cons, cntR_nil, List.cons_append, List.nil_append, List.set_cons_zero, List.set_cons_succ]; omega))
        refine s3.st0 (by simp) fun h4 s4 => ?_
        try simp -zeta only [chkP_some, iteB_true, iteB_false, add_mk, Nat.zero_add, Nat.add_zero, Nat.mul_one, Nat.reduceAdd, Int.toNat_natCast, ex_int, ex_slice, ex_ptr, ex_bool, ex_str, ex_flt, ex_any, bnd_in, List.getElem?_cons_zero, List.getElem?_cons_succ, List.set_cons_zero, List.set_cons_succ, List.cons_append, List.nil_append, bne_self_eq_false, beq_self_eq_true, Bool.not_true, Bool.not_false, Option.isNone_some, Option.isNone_none, eq_self, true_and, and_true, and_self]
        refine s4.st0 (by simp) fun h5 s5 => ?_
        simp only [List.set_cons_zero, List.set_cons_succ, Nat.zero_add] at s5
        exact hG h5 q3 c3 X3 o3 ((St.re s5 (by intro a; simp only [cntR_append, cntR_cons, cntR_nil, List.cons_append, List.nil_append, List.set_cons_zero, List.set_cons_succ]; omega)))
      refine iteB_intro (fun _ => ?_) (fun _ => iteB_intro (fun _ => ?_) (fun _ => ?_))
      · refine callP1.self (Put_of hn s1 fun h2 s2 => ?_)
        refine withs true h2 _ s2 fun h3 q3 c3 X3 o3 s3 => ?_
        by_cases e : inV v n
        · rw [decide_eq_true e]
          refine iteB_pos rfl (J2 _ q3 c3 X3 h3 _ _ ?_ (clean_put hc) o3 s3)
          unfold hasV; rw [decide_eq_true e]; rfl
        · rw [decide_eq_false e]
          exact iteB_neg rfl (J2 _ q3 c3 X3 h3 _ _ rfl (clean_put hc) o3 s3)
      · refine callP1.self (Drop_of hn s1 fun h2 s2 => ?_)
        exact withs false h2 _ s2 fun h3 q3 c3 X3 o3 s3 => J2 _ q3 c3 X3 h3 _ _ rfl (clean_put hc) o3 s3
      · have hv1 : isV h1 a n f := St.isV s1 fun x hx => List.mem_append_left _ hx
        exact qcallP1.of _ (fun Q hQ => Has_of hn hv1 hQ) (J2 f q c X h1 _ _ rfl hc o s1)
    clear_value j
    have r1 : ∀ j, cell h1 ⟨b6, j, none⟩ = [Value.int .i64 (n : Int), .slice q n c][j]? := s1.rd (by simp)
    refine iteB_intro (fun d1 => ?_) (fun d1 => ?_)
    · have d1 := of_decide_eq_true d1
      simp -zeta (disch := omega) only [chkP_some, iteB_true, iteB_false, add_mk, Nat.zero_add, Nat.add_zero, Nat.mul_one, Nat.reduceAdd, Int.toNat_natCast, ex_int, ex_slice, ex_ptr, ex_bool, ex_str, ex_flt, ex_any, bnd_in, List.getElem?_cons_zero, List.getElem?_cons_succ, List.set_cons_zero, List.set_cons_succ, List.cons_append, List.nil_append, bne_self_eq_false, beq_self_eq_true, Bool.not_true, Bool.not_false, Option.isNone_some, Option.isNone_none, eq_self, true_and, and_true, and_self, r1]
      rwa [show decide (inV v n) = decide (v < (n : Int)) from decide_eq_decide.2 ⟨fun h => h.2, fun h => ⟨by omega, h⟩⟩] at J
    · have d1 := of_decide_eq_false d1
      rwa [decide_eq_false (fun h : inV v n => d1 h.1)] at J
end
theorem Plays_of {h : Heap} {m : Int} {p : Option Addr} {len cap : Nat} {ops : List (Int × Int)} {K : Bool → Heap → Prop} (ht : Tab h) (hl : ops.length = len) (hv : rowsAt h p 2 (opV ops)) (hk : ∀ h', Ext h h' → K true h') : straitlaw09_VsetPlays m p len cap h K := by
  unfold straitlaw09_VsetPlays
  refine iteB_intro (fun c => ?_) (fun c => ?_)
  · exact callP1.self (awake_of (h0 := (h : Base)) ht (St.refl h) fun h2 s2 => hk h2 s2.ext)
  have c := of_decide_eq_false c
  refine callP1.self (VNew_of (St.refl h) fun a h1 s1 => callP4.self (RNew_of s1 fun b h2 s2 => ?_))
  have hn := roomV_le m
  generalize hR : roomV m = n at *
  refine s2.new_ fun bx h3 s3 => s3.st0 (by simp) fun h4 s4 => ?_
  try simp -zeta only [chkP_some, iteB_true, iteB_false, add_mk, Nat.zero_add, Nat.add_zero, Nat.mul_one, Nat.reduceAdd, Int.toNat_natCast, ex_int, ex_slice, ex_ptr, ex_bool, ex_str, ex_flt, ex_any, bnd_in, List.getElem?_cons_zero, List.getElem?_cons_succ, List.set_cons_zero, List.set_cons_succ, List.cons_append, List.nil_append, bne_self_eq_false, beq_self_eq_true, Bool.not_true, Bool.not_false, Option.isNone_some, Option.isNone_none, eq_self, true_and, and_true, and_self]
  refine s4.st0 (by simp) fun h5 s5 => ?_
  simp only [List.set_cons_zero, List.set_cons_succ, Nat.zero_add] at s5
  try simp -zeta (disch := omega) only [chkP_some, iteB_true, iteB_false, add_mk, Nat.zero_add, Nat.add_zero, Nat.mul_one, Nat.reduceAdd, Int.toNat_natCast, ex_int, ex_slice, ex_ptr, ex_bool, ex_str, ex_flt, ex_any, bnd_in, List.getElem?_cons_zero, List.getElem?_cons_succ, List.set_cons_zero, List.set_cons_succ, List.cons_append, List.nil_append, bne_self_eq_false, beq_self_eq_true, Bool.not_true, Bool.not_false, Option.isNone_some, Option.isNone_none, eq_self, true_and, and_true, and_self, s5.rd0]
  have start : St (h : Base) h5 (vS a n (fun _ => false) ++ ((bx, [.int .i64 (n : Int), .slice (some ⟨b, 0, none⟩) n n]) :: [(b, rowF cB n (fun _ => false))])) := (St.re s5 (by intro a; simp only [cntR_append, cntR_cons, cntR_nil, List.cons_append, List.nil_append, List.set_cons_zero, List.set_cons_succ]; omega))
  have o0 : Hp.Own (some ⟨b, 0, none⟩) n (rowF cB n fun _ => false) [(b, rowF cB n (fun _ => false))] := .inr ⟨b, [], rfl, by simp [rowF_len], by simp⟩
  refine callP1.self (same_of (h0 := (h : Base)) (R := vS a n (fun _ => false) ++ ((bx, [.int .i64 (n : Int), .slice (some ⟨b, 0, none⟩) n n]) :: [(b, rowF cB n (fun _ => false))])) ht hn (clean_none n) (fun x hx => List.mem_append_left _ hx) (o0.keeps fun x hx => by simp at hx; simp [hx]) start fun h6 s6 => iteB_neg rfl ?_)
  refine ⟨len + 1, plays_l0 (h0 := (h : Base)) (a := a) hn hl (by omega) hv (fun h7 f q c X hc o s7 => ?_) len 0 h6 (fun _ => false) (some ⟨b, 0, none⟩) n _ (by omega) (clean_none n) o0 s6⟩
  refine callP1.self (Twin_of (R := vS a n f ++ ((bx, [.int .i64 (n : Int), .slice q n c]) :: X)) hn (fun x hx => List.mem_append_left _ hx) s7 fun t h8 s8 => ?_)
  refine callP1.self (Other_of (n := n) (f := f) (a := a) (R := vS t n f ++ (vS a n f ++ ((bx, [.int .i64 (n : Int), .slice q n c]) :: X))) hn (fun x hx => List.mem_append_right _ (List.mem_append_left _ hx)) s8 fun u h9 s9 => ?_)
  intro j
  have J : ∀ h10, St (h : Base) h10 (vS u n (othF f n) ++ (vS t n f ++ (vS a n f ++ ((bx, [.int .i64 (n : Int), .slice q n c]) :: X)))) → j h10 := fun h10 s10 => by
    simp -zeta only [j]
    have s10 : St (h : Base) h10 (vS a n f ++ (vS u n (othF f n) ++ (vS t n f ++ ((bx, [.int .i64 (n : Int), .slice q n c]) :: X)))) := (St.re s10 (by intro a; simp only [cntR_append, cntR_cons, cntR_nil, List.cons_append, List.nil_append, List.set_cons_zero, List.set_cons_succ]; omega))
    refine callP1.self (Put_of hn s10 fun h11 s11 => callP1.self (Drop_of hn s11 fun h12 s12 => ?_))
    have s12 := s12.drop
    have r0 : ∀ j, cell h12 ⟨bx, j, none⟩ = [Value.int .i64 (n : Int), .slice q n c][j]? := s12.rd (by simp)
    simp -zeta (disch := omega) only [chkP_some, iteB_true, iteB_false, add_mk, Nat.zero_add, Nat.add_zero, Nat.mul_one, Nat.reduceAdd, Int.toNat_natCast, ex_int, ex_slice, ex_ptr, ex_bool, ex_str, ex_flt, ex_any, bnd_in, List.getElem?_cons_zero, List.getElem?_cons_succ, List.set_cons_zero, List.set_cons_succ, List.cons_append, List.nil_append, bne_self_eq_false, beq_self_eq_true, Bool.not_true, Bool.not_false, Option.isNone_some, Option.isNone_none, eq_self, true_and, and_true, and_self, r0]
    refine callP1.self (same_of (h0 := (h : Base)) (a := t) (f := f) ht hn hc (fun x hx => List.mem_append_right _ (List.mem_append_left _ hx)) (o.keeps fun x hx => by simp [hx]) s12 fun h13 s13 => iteB_pos rfl ?_)
    have r0 : ∀ j, cell h13 ⟨bx, j, none⟩ = [Value.int .i64 (n : Int), .slice q n c][j]? := s13.rd (by simp)
    simp -zeta (disch := omega) only [chkP_some, iteB_true, iteB_false, add_mk, Nat.zero_add, Nat.add_zero, Nat.mul_one, Nat.reduceAdd, Int.toNat_natCast, ex_int, ex_slice, ex_ptr, ex_bool, ex_str, ex_flt, ex_any, bnd_in, List.getElem?_cons_zero, List.getElem?_cons_succ, List.set_cons_zero, List.set_cons_succ, List.cons_append, List.nil_append, bne_self_eq_false, beq_self_eq_true, Bool.not_true, Bool.not_false, Option.isNone_some, Option.isNone_none, eq_self, true_and, and_true, and_self, r0]
    refine callP4.self (ROther_of (f := f) hn (o.keeps fun x hx => by simp [hx]) s13 fun b2 h14 s14 => ?_)
    refine callP1.self (same_of (h0 := (h : Base)) (a := u) (f := othF f n) ht hn (clean_oth f n) (fun x hx => List.mem_cons_of_mem _ (List.mem_append_left _ hx)) (Keeps.row (List.mem_cons_self ..)) s14 fun h15 s15 => iteB_pos rfl ?_)
    exact callP1.self (awake_of (h0 := (h : Base)) ht s15 fun h16 s16 => hk h16 s16.ext)
  clear_value j
  have r0 : ∀ j, cell h9 ⟨bx, j, none⟩ = [Value.int .i64 (n : Int), .slice q n c][j]? := s9.rd (by simp)
  simp -zeta (disch := omega) only [chkP_some, iteB_true, iteB_false, add_mk, Nat.zero_add, Nat.add_zero, Nat.mul_one, Nat.reduceAdd, Int.toNat_natCast, ex_int, ex_slice, ex_ptr, ex_bool, ex_str, ex_flt, ex_any, bnd_in, List.getElem?_cons_zero, List.getElem?_cons_succ, List.set_cons_zero, List.set_cons_succ, List.cons_append, List.nil_append, bne_self_eq_false, beq_self_eq_true, Bool.not_true, Bool.not_false, Option.isNone_some, Option.isNone_none, eq_self, true_and, and_true, and_self, r0]
  refine callP1.self (same_of (h0 := (h : Base)) (a := a) (f := f) ht hn hc (fun x hx => List.mem_append_right _ (List.mem_append_right _ (List.mem_append_left _ hx))) (o.keeps fun x hx => by simp [hx]) s9 fun h10 s10 => iteB_neg rfl ?_)
  have r0 : ∀ j, cell h10 ⟨bx, j, none⟩ = [Value.int .i64 (n : Int), .slice q n c][j]? := s10.rd (by simp)
  simp -zeta (disch := omega) only [chkP_some, iteB_true, iteB_false, add_mk, Nat.zero_add, Nat.add_zero, Nat.mul_one, Nat.reduceAdd, Int.toNat_natCast, ex_int, ex_slice, ex_ptr, ex_bool, ex_str, ex_flt, ex_any, bnd_in, List.getElem?_cons_zero, List.getElem?_cons_succ, List.set_cons_zero, List.set_cons_succ, List.cons_append, List.nil_append, bne_self_eq_false, beq_self_eq_true, Bool.not_true, Bool.not_false, Option.isNone_some, Option.isNone_none, eq_self, true_and, and_true, and_self, r0]
  refine callP1.self (same_of (h0 := (h : Base)) (a := t) (f := f) ht hn hc (fun x hx => List.mem_append_right _ (List.mem_append_left _ hx)) (o.keeps fun x hx => by simp [hx]) s10 fun h11 s11 => iteB_neg rfl ?_)
  have r0 : ∀ j, cell h11 ⟨bx, j, none⟩ = [Value.int .i64 (n : Int), .slice q n c][j]? := s11.rd (by simp)
  simp -zeta (disch := omega) only [chkP_some, iteB_true, iteB_false, add_mk, Nat.zero_add, Nat.add_zero, Nat.mul_one, Nat.reduceAdd, Int.toNat_natCast, ex_int, ex_slice, ex_ptr, ex_bool, ex_str, ex_flt, ex_any, bnd_in, List.getElem?_cons_zero, List.getElem?_cons_succ, List.set_cons_zero, List.set_cons_succ, List.cons_append, List.nil_append, bne_self_eq_false, beq_self_eq_true, Bool.not_true, Bool.not_false, Option.isNone_some, Option.isNone_none, eq_self, true_and, and_true, and_self, r0]
  refine callP4.self (ROther_of (f := f) hn (o.keeps fun x hx => by simp [hx]) s11 fun b2 h12 s12 => ?_)
  refine callP1.self (same_of (h0 := (h : Base)) (a := u) (f := othF f n) ht hn (clean_oth f n) (fun x hx => List.mem_cons_of_mem _ (List.mem_append_left _ hx)) (Keeps.row (List.mem_cons_self ..)) s12 fun h13 s13 => iteB_neg rfl (J h13 s13.tail))
end Go.Proofs.YtmojgekepkpfcaaDoor
