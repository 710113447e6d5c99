/-
  Jumps in a tree: the table, made.
-/
import Derived.Test.YtfidcekobjmamaaDoorL3
namespace Go.Proofs.YtfidcekobjmamaaDoor
set_option linter.unusedVariables false
set_option linter.unusedSimpArgs false
set_option linter.unnecessarySimpa false
open Go.Hp Go.RowKit
attribute [local irreducible] Go.Hp.iteB Go.Hp.stC Go.Hp.newP

/-- The rows, one behind the other. -/
def jK (up w : List Int) : Nat → Nat → Int × Int
  | 0 => J0 up
  | k + 1 => dblJ w (jK up w k)
theorem betW_lt {w : List Int} {a b : Int} {n : Nat} (ha : a < n) (hb : b < n) : betW w a b < n := by
  unfold betW; split
  · exact hb
  · split
    · exact hb
    · exact ha
theorem jK_lt {up w : List Int} {n : Nat} (hu : ∀ v, v < n → UU up v < n) : ∀ (k v : Nat), v < n → (jK up w k v).1 < n ∧ (jK up w k v).2 < n
  | 0, v, hv => by
    refine ⟨hu v hv, ?_⟩
    show (if UU up v < 0 then (-1 : Int) else (v : Int)) < n
    split <;> omega
  | k + 1, v, hv => by
    have ih := jK_lt (w := w) hu k
    show (dblJ w (jK up w k) v).1 < n ∧ (dblJ w (jK up w k) v).2 < n
    unfold dblJ
    split
    · exact ⟨by simp only; omega, by simp only; omega⟩
    · rename_i c
      have h1 := ih v hv
      have h2 := ih (jK up w k v).1.toNat (by omega)
      split
      · exact ⟨h2.1, betW_lt h1.2 h2.2⟩
      · exact ⟨by simp only; omega, by simp only; omega⟩
def slR (n : Nat) (rs : List Nat) : List Value := rs.map fun r => .slice (some ⟨r, 0, none⟩) n n

section
variable {h0 : Base} {n : Nat}
theorem double_of {K : Option Addr → Nat → Nat → Heap → Prop} {h : Heap} {z : LT} {Z : Rws} {w : List Int} {D : Nat → Int} {JJ : Nat → Nat → Int × Int} {J : Nat → Int × Int} {L : Int} {r cr : Nat} (lt : LTk h0 Z z n w D JJ) (hn : n ≤ 4096) (kr : Keeps h0 Z (some ⟨r, 0, none⟩) (prT n J)) (hJ : ∀ v, v < n → (J v).1 < n ∧ (J v).2 < n)
    (s : St h0 h ((z.t, z.row n L) :: Z)) (hk : ∀ o h', St h0 h' ((o, prT n (dblJ w J)) :: (z.t, z.row n L) :: Z) → K (some ⟨o, 0, none⟩) n n h') : lift_Table_double (some ⟨z.t, 0, none⟩) (some ⟨r, 0, none⟩) n cr h K := by
  unfold lift_Table_double
  refine ⟨⟨by omega, by omega, by omega, by omega⟩, ?_⟩
  rw [Int.toNat_natCast, prT_zero]
  refine s.new_ fun o h1 s1 => ⟨n + 1, ?_⟩
  exact double_l0 lt hn kr hJ (fun h2 s2 => hk o h2 s2) n 0 h1 (by omega) (by rw [part_none]; exact s1)

theorem new_l1 {K4 : Heap → Prop} {up w : List Int} {D : Nat → Int} {t cw bd : Nat} {qw : Option Addr} (hw : w.length = n) (hn : n ≤ 4096) (hu : ∀ v, v < n → UU up v < n)
    (hk : ∀ rs q c Z h', LTk h0 Z ⟨t, qw, cw, bd, q, c, rs⟩ n w D (jK up w) → 0 < rs.length → n ≤ 2 ^ rs.length → (rs.length ≤ 13 ∧ (rs.length = 1 ∨ 2 ^ (rs.length - 1) < n)) → St h0 h' ((t, LT.row ⟨t, qw, cw, bd, q, c, rs⟩ n 0) :: Z) → K4 h') :
    ∀ (d : Nat) (rs : List Nat) (q : Option Addr) (c : Nat) (X Z : Rws) (h : Heap), rs.length + d = 13 → 0 < rs.length → (rs.length = 1 ∨ 2 ^ (rs.length - 1) < n) → Hp.Own q c (slR n rs) X → Keeps h0 Z qw (w.map (Value.int .i64)) → Keeps h0 Z (some ⟨bd, 0, none⟩) (ints n D) → (∀ k r, rs[k]? = some r → (r, prT n (jK up w k)) ∈ Z) →
      St h0 h ((t, [.slice qw n cw, .slice (some ⟨bd, 0, none⟩) n n, .slice q rs.length c, .int .i64 0]) :: (X ++ Z)) → lift_New.l1 K4 (d + 1) (n : Int) ⟨t, 0, none⟩ h := by
  intro d
  induction d with
  | zero =>
    intro rs q c X Z h hd hr hb o kw kd kr s
    unfold lift_New.l1 lift_New.b1
    have r0 := s.rd0
    simp -zeta (disch := omega) only [chkP_some, iteB_true, iteB_false, add_mk, Nat.zero_add, Nat.add_zero, Nat.mul_one, Nat.reduceAdd, Int.toNat_natCast, ex_int, ex_slice, ex_ptr, ex_bool, ex_str, ex_flt, ex_any, bnd_in, List.getElem?_cons_zero, List.getElem?_cons_succ, List.set_cons_zero, List.set_cons_succ, List.cons_append, List.nil_append, bne_self_eq_false, beq_self_eq_true, Bool.not_true, Bool.not_false, Option.isNone_some, Option.isNone_none, eq_self, true_and, and_true, and_self, r0]
    refine ⟨by omega, bindV_intro fun m hm => ?_⟩
    have lt : LTk h0 (X ++ Z) ⟨t, qw, cw, bd, q, c, rs⟩ n w D (jK up w) := ⟨hw, kw.app, kd.app, o.keeps fun x hx => by simp [hx], fun k r hkr => (Keeps.row (kr k r hkr)).app⟩
    have e : (2 : Nat) ^ rs.length = 8192 := by rw [show rs.length = 13 by omega]
    refine iteB_neg (decide_eq_false ?_) (hk rs q c (X ++ Z) h lt hr (by omega) ⟨by omega, hb⟩ s)
    rw [hm, show rs.length = 13 by omega, show IntKind.i64.wrap ((1 : Int) * 2 ^ (min 13 64)) = 8192 by decide]; omega
  | succ d ih =>
    intro rs q c X Z h hd hr hb o kw kd kr s
    unfold lift_New.l1 lift_New.b1
    have r0 := s.rd0
    simp -zeta (disch := omega) only [chkP_some, iteB_true, iteB_false, add_mk, Nat.zero_add, Nat.add_zero, Nat.mul_one, Nat.reduceAdd, Int.toNat_natCast, ex_int, ex_slice, ex_ptr, ex_bool, ex_str, ex_flt, ex_any, bnd_in, List.getElem?_cons_zero, List.getElem?_cons_succ, List.set_cons_zero, List.set_cons_succ, List.cons_append, List.nil_append, bne_self_eq_false, beq_self_eq_true, Bool.not_true, Bool.not_false, Option.isNone_some, Option.isNone_none, eq_self, true_and, and_true, and_self, r0]
    refine ⟨by omega, bindV_intro fun m hm => ?_⟩
    have lt : LTk h0 (X ++ Z) ⟨t, qw, cw, bd, q, c, rs⟩ n w D (jK up w) := ⟨hw, kw.app, kd.app, o.keeps fun x hx => by simp [hx], fun k r hkr => (Keeps.row (kr k r hkr)).app⟩
    have hp : 2 ^ rs.length ≤ 2 ^ 13 := Nat.pow_le_pow_right (by omega) (by omega)
    have hm2 : m = ((2 ^ rs.length : Nat) : Int) := by
      rw [hm, Nat.min_eq_left (by omega), Int.one_mul, show (2 : Int) ^ rs.length = ((2 ^ rs.length : Nat) : Int) from (Int.natCast_pow 2 _).symm]
      have key : ∀ p : Nat, p ≤ 8192 → IntKind.i64.wrap (p : Int) = p := fun p hp => wrap64 (by omega) (by omega)
      exact key _ hp
    subst hm2
    refine iteB_intro (fun c1 => ?_) (fun c1 => hk rs q c (X ++ Z) h lt hr (by have := of_decide_eq_false c1; omega) ⟨by omega, hb⟩ s)
    have vj : valsAt h q (slR n rs) := (o.keeps (h0 := h0) (R := X) fun x hx => hx) h _ s (fun x hx => by simp [hx])
    obtain ⟨r, hr2⟩ := get_lt (l := rs) (i := rs.length - 1) (by omega)
    obtain ⟨aj, hqj, cj⟩ := vj (rs.length - 1) (.slice (some ⟨r, 0, none⟩) n n) (by simp [slR, hr2])
    have ei : IntKind.i64.wrap ((rs.length : Int) - 1) = ((rs.length - 1 : Nat) : Int) := by rw [wrap64 (by omega) (by omega)]; omega
    rw [ei, hqj]
    simp -zeta (disch := omega) only [chkP_some, iteB_true, iteB_false, add_mk, Nat.zero_add, Nat.add_zero, Nat.mul_one, Nat.reduceAdd, Int.toNat_natCast, ex_int, ex_slice, ex_ptr, ex_bool, ex_str, ex_flt, ex_any, bnd_in, List.getElem?_cons_zero, List.getElem?_cons_succ, List.set_cons_zero, List.set_cons_succ, List.cons_append, List.nil_append, bne_self_eq_false, beq_self_eq_true, Bool.not_true, Bool.not_false, Option.isNone_some, Option.isNone_none, eq_self, true_and, and_true, and_self, cj]
    refine callP3.self (double_of lt hn (lt.kr _ _ hr2) (fun v hv => jK_lt hu _ v hv) s fun o2 h2 s2 => ?_)
    have r2 : ∀ j, cell h2 ⟨t, j, none⟩ = [Value.slice qw n cw, .slice (some ⟨bd, 0, none⟩) n n, .slice q rs.length c, .int .i64 0][j]? := s2.rd1
    refine ⟨⟨_, _, _, r2 2, by rw [hqj]⟩, ?_⟩
    refine St.new_ (cs := [Value.slice (some ⟨o2, 0, none⟩) n n]) s2 fun b h3 s3 => ?_
    have r3 : ∀ j, cell h3 ⟨t, j, none⟩ = [Value.slice qw n cw, .slice (some ⟨bd, 0, none⟩) n n, .slice q rs.length c, .int .i64 0][j]? := s3.rd2
    refine ⟨⟨_, _, _, r3 2, by rw [hqj]⟩, [Value.slice (some ⟨o2, 0, none⟩) n n], ⟨rfl, fun j hj => ⟨_, rfl, ?_⟩⟩, ?_⟩
    · rw [add_mk, s3.rd0, Nat.zero_add]
    have s3' : St h0 h3 (X ++ ((o2, prT n (dblJ w (jK up w (rs.length - 1)))) :: (t, [.slice qw n cw, .slice (some ⟨bd, 0, none⟩) n n, .slice q rs.length c, .int .i64 0]) :: Z)) := (St.re s3 (by intro a; simp only [cntR_append, cntR_cons, cntR_nil, List.cons_append, List.nil_append, List.set_cons_zero, List.set_cons_succ, LT.row]; omega))
    have hl : rs.length = (slR n rs).length := by simp [slR]
    rw [← hqj]
    refine Hp.Own.app (n := 1) o s3' rfl hl rfl rfl (by simp [flat]) (by rw [← hl]; omega) fun q4 c4 X4 h4 o4 s4 => ?_
    have s4 : St h0 h4 ((t, [.slice qw n cw, .slice (some ⟨bd, 0, none⟩) n n, .slice q rs.length c, .int .i64 0]) :: (X4 ++ ((o2, prT n (dblJ w (jK up w (rs.length - 1)))) :: Z))) := (St.re s4 (by intro a; simp only [cntR_append, cntR_cons, cntR_nil, List.cons_append, List.nil_append, List.set_cons_zero, List.set_cons_succ]; omega))
    refine s4.st0 (by simp) fun h5 s5 => ?_
    simp only [List.set_cons_zero, List.set_cons_succ, Nat.zero_add] at s5
    refine ih (rs ++ [o2]) q4 c4 X4 ((o2, prT n (dblJ w (jK up w (rs.length - 1)))) :: Z) h5 (by simp; omega) (by simp) (.inr (by have := of_decide_eq_true c1; rw [List.length_append, List.length_singleton, Nat.add_sub_cancel]; omega)) (by simpa [slR] using o4) kw.cons kd.cons (fun k r' hk' => ?_) (by rw [← hl] at s5; simpa using s5)
    rcases Nat.lt_or_ge k rs.length with hlt | hge
    · rw [List.getElem?_append_left hlt] at hk'
      exact List.mem_cons_of_mem _ (kr k r' hk')
    · have hlt := lt_get hk'
      have ek : k = rs.length := by simp at hlt; omega
      subst ek
      rw [List.getElem?_append_right (Nat.le_refl _)] at hk'
      simp at hk'
      subst hk'
      have : jK up w rs.length = dblJ w (jK up w (rs.length - 1)) := by
        obtain ⟨m, hm⟩ : ∃ m, rs.length = m + 1 := ⟨rs.length - 1, by omega⟩
        rw [hm]; rfl
      rw [this]; exact List.mem_cons_self ..
end
end Go.Proofs.YtfidcekobjmamaaDoor
