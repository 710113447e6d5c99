/-
  Trees: the law TreeWays.
-/
import Derived.Test.YtfidcekobjmamaaT16
import Derived.Test.YtfidcekobjmamaaT10
namespace Go.Proofs.Ytfidcekobjmamaa
set_option linter.unusedVariables false
set_option linter.unusedSimpArgs false
set_option linter.unnecessarySimpa false
open Go.Hp Go.RowKit
attribute [local irreducible] Go.Hp.iteB Go.Hp.stC Go.Hp.newP

def Good (up w : List Int) (u v : Int) : Prop := RightT up w ∧ 0 ≤ u ∧ u < (up.length : Int) ∧ 0 ≤ v ∧ v < (up.length : Int)
/-- The way between two: up, and down again. -/
def IsPath (up w : List Int) (u v : Int) (l : List Nat) : Prop :=
  (¬ Good up w u v ∧ l = []) ∨ ∃ (x y : Nat) (a1 : List Nat) (top : Nat) (b1 : List Nat), RightT up w ∧ u = x ∧ v = y ∧ x < up.length ∧ y < up.length ∧ Meets (ways (UU up) up.length x) (ways (UU up) up.length y) a1 top b1 ∧ l = a1 ++ [top] ++ b1.reverse
def IsLeast (up w : List Int) (u v : Int) (o : Nat × Bool) : Prop :=
  (¬ Good up w u v ∧ o = (0, false)) ∨ ∃ (x y : Nat), RightT up w ∧ u = x ∧ v = y ∧ x < up.length ∧ y < up.length ∧ o = leastD up (UU w) up.length x y
theorem IsPath.uniq {up w : List Int} {u v : Int} {l l' : List Nat} (h : IsPath up w u v l) (h' : IsPath up w u v l') : l = l' := by
  rcases h with ⟨h, rfl⟩ | ⟨x, y, a1, top, b1, r, rfl, rfl, hx, hy, M, rfl⟩ <;> rcases h' with ⟨h', rfl⟩ | ⟨x', y', a1', top', b1', r', e1, e2, hx', hy', M', rfl⟩
  · rfl
  · exact absurd ⟨r', by omega, by omega, by omega, by omega⟩ h
  · exact absurd ⟨r, by omega, by omega, by omega, by omega⟩ h'
  · have e1 : x = x' := by omega
    have e2 : y = y' := by omega
    subst e1 e2
    obtain ⟨q1, q2, q3⟩ := M.uniq M'
    subst q1 q2 q3; rfl
theorem IsLeast.uniq {up w : List Int} {u v : Int} {l l' : Nat × Bool} (h : IsLeast up w u v l) (h' : IsLeast up w u v l') : l = l' := by
  rcases h with ⟨h, rfl⟩ | ⟨x, y, r, rfl, rfl, hx, hy, rfl⟩ <;> rcases h' with ⟨h', rfl⟩ | ⟨x', y', r', e1, e2, hx', hy', rfl⟩
  · rfl
  · exact absurd ⟨r', by omega, by omega, by omega, by omega⟩ h
  · exact absurd ⟨r, by omega, by omega, by omega, by omega⟩ h'
  · have e1 : x = x' := by omega
    have e2 : y = y' := by omega
    subst e1 e2; rfl
theorem path_meets {up w : List Int} (r : RightT up w) {D : Nat → Int} (hD : DR up up.length D) {x y : Nat} (hx : x < up.length) (hy : y < up.length) :
    ∃ a1 top b1, Meets (ways (UU up) up.length x) (ways (UU up) up.length y) a1 top b1 ∧ pathF (UU up) D (2 * up.length + 1) x y = a1 ++ [top] ++ b1.reverse := by
  have hone : (up.filter (· == -1)).length ≤ 1 := by rw [r.roots]; omega
  obtain ⟨da, hda, hda2⟩ := hD x hx
  obtain ⟨db, hdb, hdb2⟩ := hD y hy
  have := hda2.lt_n
  have := hdb2.lt_n
  exact ⟨_, _, _, meetF_meets (m := 2 * up.length) rfl hone hD hx hy (by omega), rfl⟩
theorem way_ex {up w : List Int} (r : RightT up w) {x y : Nat} (hx : x < up.length) (hy : y < up.length) : ∃ a1 top b1, Meets (ways (UU up) up.length x) (ways (UU up) up.length y) a1 top b1 := by
  obtain ⟨a1, top, b1, M, _⟩ := path_meets r (D := fun v => dN up v) (fun v hv => by obtain ⟨d, hd⟩ := rt_deep r hv; exact ⟨d, by simp only [dN_deep hd], hd⟩) hx hy
  exact ⟨a1, top, b1, M⟩
theorem IsPath.le {up w : List Int} {u v : Int} {l : List Nat} (h : IsPath up w u v l) : l.length ≤ 2 * up.length + 3 := by
  rcases h with ⟨h, rfl⟩ | ⟨x, y, a1, top, b1, r, rfl, rfl, hx, hy, M, rfl⟩
  · simp
  · obtain ⟨⟨rr, e1, e2⟩, _, _⟩ := M
    have l1 : (ways (UU up) up.length x).length ≤ up.length + 1 := upL_le (UU up) up.length (up.length + 1) (x : Int)
    have l2 : (ways (UU up) up.length y).length ≤ up.length + 1 := upL_le (UU up) up.length (up.length + 1) (y : Int)
    rw [e1] at l1; rw [e2] at l2
    simp at l1 l2 ⊢; omega

section
variable {h0 : Heap} {R : Rws} {n : Nat} {up w : List Int} {qU qW : Option Addr} {cU cW : Nat}
theorem Path_is {h : Heap} {m : Nat} {u v : Int} {K : Option Addr → Nat → Nat → Heap → Prop} (hup : up.length = n) (hw : w.length = m) (kU : Keeps h0 R qU (up.map (Value.int .i64))) (kW : Keeps h0 R qW (w.map (Value.int .i64))) (s : St h0 h R)
    (hk : ∀ l p c X h', IsPath up w u v l → Own p c (natV l) X → St h0 h' (X ++ R) → K p l.length c h') : tree_Path qU n cU qW m cW u v h K := by
  subst hup
  refine Path_of rfl hw kU kW s (fun hno h' s' => hk [] none 0 [] h' (.inl ⟨hno, rfl⟩) (by simpa [natV] using Own.nil) s') fun D a b r ha hb han hbn hD h' p c X o s' => ?_
  obtain ⟨a1, top, b1, M, e⟩ := path_meets r hD han hbn
  rw [e] at o ⊢
  exact hk _ p c X h' (.inr ⟨a, b, a1, top, b1, r, ha, hb, han, hbn, M, rfl⟩) o s'
theorem RPath_is {h : Heap} {m : Nat} {u v : Int} {K : Option Addr → Nat → Nat → Heap → Prop} (hup : up.length = n) (hw : w.length = m) (hn : n ≤ 4096) (kU : Keeps h0 R qU (up.map (Value.int .i64))) (kW : Keeps h0 R qW (w.map (Value.int .i64))) (s : St h0 h R)
    (hk : ∀ l p c X h', IsPath up w u v l → Own p c (natV l) X → St h0 h' (X ++ R) → K p l.length c h') : straitref29_Path qU n cU qW m cW u v h K := by
  subst hup
  refine RPath_of rfl hw hn kU kW s (fun hno h' s' => hk [] none 0 [] h' (.inl ⟨hno, rfl⟩) (by simpa [natV] using Own.nil) s') fun x y r hx hy hxn hyn => ?_
  obtain ⟨a1, top, b1, M⟩ := way_ex r hxn hyn
  exact ⟨a1, top, b1, M, fun h' p c X o s' => hk _ p c X h' (.inr ⟨x, y, a1, top, b1, r, hx, hy, hxn, hyn, M, rfl⟩) o s'⟩
theorem Least_is {h : Heap} {m : Nat} {u v : Int} {K : Int → Bool → Heap → Prop} (hup : up.length = n) (hw : w.length = m) (kU : Keeps h0 R qU (up.map (Value.int .i64))) (kW : Keeps h0 R qW (w.map (Value.int .i64))) (s : St h0 h R)
    (hk : ∀ o h', IsLeast up w u v o → St h0 h' R → K (o.1 : Int) o.2 h') : tree_Least qU n cU qW m cW u v h K := by
  subst hup
  refine Least_of rfl hw kU kW s (fun hno h' s' => hk (0, false) h' (.inl ⟨hno, rfl⟩) s') fun D a b r ha hb han hbn hD h' s' => ?_
  obtain ⟨a1, top, b1, M, e⟩ := path_meets r hD han hbn
  rw [e, least_same r han hbn M]
  exact hk _ h' (.inr ⟨a, b, r, ha, hb, han, hbn, rfl⟩) s'
theorem RLeast_is {h : Heap} {m : Nat} {u v : Int} {K : Int → Bool → Heap → Prop} (hup : up.length = n) (hw : w.length = m) (hn : n ≤ 4096) (kU : Keeps h0 R qU (up.map (Value.int .i64))) (kW : Keeps h0 R qW (w.map (Value.int .i64))) (s : St h0 h R)
    (hk : ∀ o h', IsLeast up w u v o → St h0 h' R → K (o.1 : Int) o.2 h') : straitref29_Least qU n cU qW m cW u v h K := by
  subst hup
  exact RLeast_of rfl hw hn kU kW s (fun hno h' s' => hk (0, false) h' (.inl ⟨hno, rfl⟩) s') fun x y r hx hy hxn hyn h' s' => hk _ h' (.inr ⟨x, y, r, hx, hy, hxn, hyn, rfl⟩) s'
end

set_option maxHeartbeats 1000000 in
theorem Ways_of {h : Heap} {n m cU cW : Nat} {up w : List Int} {qU qW : Option Addr} {u v : Int} {K : Bool → Heap → Prop} (hup : up.length = n) (hw : w.length = m) (vU : valsAt h qU (up.map (Value.int .i64))) (vW : valsAt h qW (w.map (Value.int .i64)))
    (hk : ∀ h', Ext h h' → K true h') : straitlaw29_TreeWays qU n cU qW m cW u v h K := by
  unfold straitlaw29_TreeWays
  refine (St.refl h).new_ fun t h1 s1 => ?_
  refine s1.new_ fun b h2 s2 => ?_
  intro j
  try simp -zeta (disch := omega) only [chkP_some, iteB_true, iteB_false, add_mk, Nat.zero_add, Nat.add_zero, Nat.mul_one, Nat.reduceAdd, Int.toNat_natCast, ex_int, ex_slice, ex_ptr, ex_bool, ex_str, ex_flt, ex_any, bnd_in, List.getElem?_cons_zero, List.getElem?_cons_succ, List.set_cons_zero, List.set_cons_succ, List.cons_append, List.nil_append, bne_self_eq_false, beq_self_eq_true, Bool.not_true, Bool.not_false, Option.isNone_some, Option.isNone_none, eq_self, true_and, and_true, and_self, s2.rd0, s2.rd1]
  refine iteB_intro (fun e => callP1.self (awake_of s2 fun h2 s2 => hk h2 s2.ext)) (fun e => ?_)
  have hn : n ≤ 40 := by have e : (n : Int) ≤ 40 := by simpa using e
                         omega
  refine iteB_intro (fun e => callP1.self (awake_of s2 fun h2 s2 => hk h2 s2.ext)) (fun e => ?_)
  have hm : m ≤ 5000 := by have e : (m : Int) ≤ 5000 := by simpa using e
                           omega
  simp -zeta only [j]
  clear j
  try simp -zeta (disch := omega) only [chkP_some, iteB_true, iteB_false, add_mk, Nat.zero_add, Nat.add_zero, Nat.mul_one, Nat.reduceAdd, Int.toNat_natCast, ex_int, ex_slice, ex_ptr, ex_bool, ex_str, ex_flt, ex_any, bnd_in, List.getElem?_cons_zero, List.getElem?_cons_succ, List.set_cons_zero, List.set_cons_succ, List.cons_append, List.nil_append, bne_self_eq_false, beq_self_eq_true, Bool.not_true, Bool.not_false, Option.isNone_some, Option.isNone_none, eq_self, true_and, and_true, and_self, s2.rd0, s2.rd1, Int.toNat_zero, Int.toNat_one, Nat.zero_mul, Nat.one_mul]
  refine callP2.self (Least_is hup hw (.old vU) (.old vW) s2 fun o h3 ho s3 => ?_)
  try simp -zeta (disch := omega) only [chkP_some, iteB_true, iteB_false, add_mk, Nat.zero_add, Nat.add_zero, Nat.mul_one, Nat.reduceAdd, Int.toNat_natCast, ex_int, ex_slice, ex_ptr, ex_bool, ex_str, ex_flt, ex_any, bnd_in, List.getElem?_cons_zero, List.getElem?_cons_succ, List.set_cons_zero, List.set_cons_succ, List.cons_append, List.nil_append, bne_self_eq_false, beq_self_eq_true, Bool.not_true, Bool.not_false, Option.isNone_some, Option.isNone_none, eq_self, true_and, and_true, and_self, s3.rd0, s3.rd1, Int.toNat_zero, Int.toNat_one, Nat.zero_mul, Nat.one_mul]
  refine callP3.self (PBelow_of hup hw (by omega) (.old vU) (.old vW) s3 fun q4 c4 X4 h4 o4 s4 => ?_)
  have rt4 : ∀ j, cell h4 ⟨t, j, none⟩ = [.slice qU n cU, .slice qW m cW][j]? := s4.rd (by simp)
  have rb4 : ∀ j, cell h4 ⟨b, j, none⟩ = [Value.int .i64 u, .int .i64 v][j]? := s4.rd (by simp)
  simp -zeta (disch := omega) only [chkP_some, iteB_true, iteB_false, add_mk, Nat.zero_add, Nat.add_zero, Nat.mul_one, Nat.reduceAdd, Int.toNat_natCast, ex_int, ex_slice, ex_ptr, ex_bool, ex_str, ex_flt, ex_any, bnd_in, List.getElem?_cons_zero, List.getElem?_cons_succ, List.set_cons_zero, List.set_cons_succ, List.cons_append, List.nil_append, bne_self_eq_false, beq_self_eq_true, Bool.not_true, Bool.not_false, Option.isNone_some, Option.isNone_none, eq_self, true_and, and_true, and_self, rt4, rb4, Int.toNat_zero, Int.toNat_one, Nat.zero_mul, Nat.one_mul]
  refine callP3.self (RBelow_of hup hw (by omega) (.old vU) (.old vW) s4 fun q5 c5 X5 h5 o5 s5 => ?_)
  have hle := belL_le up w u
  refine qcallP1.of true (fun Q hQ => Ints_of (by rw [← natV_ints]; exact o4.vals s5.flip) (by rw [← natV_ints]; exact o5.vals s5) (by simp) (by simp) (by omega) (by rw [decide_eq_true rfl]; exact hQ)) ?_
  refine iteB_pos rfl ?_
  have rt5 : ∀ j, cell h5 ⟨t, j, none⟩ = [.slice qU n cU, .slice qW m cW][j]? := s5.rd (by simp)
  have rb5 : ∀ j, cell h5 ⟨b, j, none⟩ = [Value.int .i64 u, .int .i64 v][j]? := s5.rd (by simp)
  simp -zeta (disch := omega) only [chkP_some, iteB_true, iteB_false, add_mk, Nat.zero_add, Nat.add_zero, Nat.mul_one, Nat.reduceAdd, Int.toNat_natCast, ex_int, ex_slice, ex_ptr, ex_bool, ex_str, ex_flt, ex_any, bnd_in, List.getElem?_cons_zero, List.getElem?_cons_succ, List.set_cons_zero, List.set_cons_succ, List.cons_append, List.nil_append, bne_self_eq_false, beq_self_eq_true, Bool.not_true, Bool.not_false, Option.isNone_some, Option.isNone_none, eq_self, true_and, and_true, and_self, rt5, rb5, Int.toNat_zero, Int.toNat_one, Nat.zero_mul, Nat.one_mul]
  refine callP3.self (Path_is hup hw (.old vU) (.old vW) s5 fun l6 q6 c6 X6 h6 i6 o6 s6 => ?_)
  have rt6 : ∀ j, cell h6 ⟨t, j, none⟩ = [.slice qU n cU, .slice qW m cW][j]? := s6.rd (by simp)
  have rb6 : ∀ j, cell h6 ⟨b, j, none⟩ = [Value.int .i64 u, .int .i64 v][j]? := s6.rd (by simp)
  simp -zeta (disch := omega) only [chkP_some, iteB_true, iteB_false, add_mk, Nat.zero_add, Nat.add_zero, Nat.mul_one, Nat.reduceAdd, Int.toNat_natCast, ex_int, ex_slice, ex_ptr, ex_bool, ex_str, ex_flt, ex_any, bnd_in, List.getElem?_cons_zero, List.getElem?_cons_succ, List.set_cons_zero, List.set_cons_succ, List.cons_append, List.nil_append, bne_self_eq_false, beq_self_eq_true, Bool.not_true, Bool.not_false, Option.isNone_some, Option.isNone_none, eq_self, true_and, and_true, and_self, rt6, rb6, Int.toNat_zero, Int.toNat_one, Nat.zero_mul, Nat.one_mul]
  refine callP3.self (RPath_is hup hw (by omega) (.old vU) (.old vW) s6 fun l7 q7 c7 X7 h7 i7 o7 s7 => ?_)
  have hle6 := i6.le
  have e67 := i6.uniq i7
  subst e67
  refine qcallP1.of true (fun Q hQ => Ints_of (by rw [← natV_ints]; exact o6.vals s7.flip) (by rw [← natV_ints]; exact o7.vals s7) (by simp) (by simp) (by omega) (by rw [decide_eq_true rfl]; exact hQ)) ?_
  refine iteB_pos rfl ?_
  have rt7 : ∀ j, cell h7 ⟨t, j, none⟩ = [.slice qU n cU, .slice qW m cW][j]? := s7.rd (by simp)
  have rb7 : ∀ j, cell h7 ⟨b, j, none⟩ = [Value.int .i64 u, .int .i64 v][j]? := s7.rd (by simp)
  simp -zeta (disch := omega) only [chkP_some, iteB_true, iteB_false, add_mk, Nat.zero_add, Nat.add_zero, Nat.mul_one, Nat.reduceAdd, Int.toNat_natCast, ex_int, ex_slice, ex_ptr, ex_bool, ex_str, ex_flt, ex_any, bnd_in, List.getElem?_cons_zero, List.getElem?_cons_succ, List.set_cons_zero, List.set_cons_succ, List.cons_append, List.nil_append, bne_self_eq_false, beq_self_eq_true, Bool.not_true, Bool.not_false, Option.isNone_some, Option.isNone_none, eq_self, true_and, and_true, and_self, rt7, rb7, Int.toNat_zero, Int.toNat_one, Nat.zero_mul, Nat.one_mul]
  refine callP2.self (RLeast_is hup hw (by omega) (.old vU) (.old vW) s7 fun o' h8 ho' s8 => ?_)
  have eo := ho.uniq ho'
  subst eo
  refine iteB_pos (by simp [eqAll2]) ?_
  exact callP1.self (awake_of s8 fun h10 s10 => hk h10 s10.ext)
end Go.Proofs.Ytfidcekobjmamaa
