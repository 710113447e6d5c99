/-
  Trees: the document's answer: the way up, whether a tree is right, depths, the root.
-/
import Derived.Test.YtfidcekobjmamaaT5
import Derived.Test.YtfidcekobjmamaaSs0
namespace Go.Proofs.Ytfidcekobjmamaa
set_option linter.unusedVariables false
set_option linter.unusedSimpArgs false
set_option linter.unnecessarySimpa false
open Go.Hp Go.RowKit
attribute [local irreducible] Go.Hp.iteB Go.Hp.stC Go.Hp.newP

/-- The way up, of so many at the most. -/
def upL (U : Nat → Int) (n : Nat) : Nat → Int → List Nat
  | 0, _ => []
  | f + 1, v => if 0 ≤ v ∧ v < (n : Int) then v.toNat :: upL U n f (U v.toNat) else []
theorem upL_neg {U : Nat → Int} {n f : Nat} {v : Int} (h : v < 0) : upL U n f v = [] := by
  cases f with
  | zero => rfl
  | succ f => unfold upL; rw [if_neg (by omega)]
theorem upL_big {U : Nat → Int} {n f : Nat} {v : Int} (h : (n : Int) ≤ v) : upL U n f v = [] := by
  cases f with
  | zero => rfl
  | succ f => unfold upL; rw [if_neg (by omega)]
theorem upL_le (U : Nat → Int) (n : Nat) : ∀ f v, (upL U n f v).length ≤ f
  | 0, _ => by simp [upL]
  | f + 1, v => by unfold upL; split <;> simp [upL_le U n f]
theorem upL_lt {U : Nat → Int} {n : Nat} : ∀ {f v}, ∀ x ∈ upL U n f v, x < n
  | 0, _ => by simp [upL]
  | f + 1, v => by
    unfold upL; split
    · rename_i h
      intro x hx
      rcases List.mem_cons.1 hx with rfl | hx
      · omega
      · exact upL_lt x hx
    · simp
theorem upL_deep {U : Nat → Int} {n : Nat} : ∀ {d f v : Nat}, hasD U n d v → d < f → (upL U n f (v : Int)).length = d + 1
  | 0, f + 1, v, h, hf => by
    unfold upL
    rw [if_pos ⟨by omega, by have := h.1; omega⟩, Int.toNat_natCast, h.2]
    cases f <;> simp [upL]
  | d + 1, f + 1, v, h, hf => by
    obtain ⟨hv, u, hu, hd⟩ := h
    unfold upL
    rw [if_pos ⟨by omega, by omega⟩, Int.toNat_natCast, hu, List.length_cons, upL_deep hd (by omega)]
theorem upL_no {U : Nat → Int} {n : Nat} (hr : ∀ u, u < n → -1 ≤ U u ∧ U u < (n : Int)) : ∀ {f v : Nat}, v < n → (∀ d, ¬ hasD U n d v) → (upL U n f (v : Int)).length = f
  | 0, v, hv, hno => by simp [upL]
  | f + 1, v, hv, hno => by
    unfold upL
    rw [if_pos ⟨by omega, by omega⟩, Int.toNat_natCast, List.length_cons]
    have h1 := hr v hv
    have h2 : U v ≠ -1 := fun h => hno 0 ⟨hv, h⟩
    obtain ⟨u, hu⟩ : ∃ u : Nat, U v = (u : Int) := ⟨(U v).toNat, by omega⟩
    rw [hu, upL_no hr (by omega) fun d hd => hno (d + 1) ⟨hv, u, hu, hd⟩]
theorem upL_last {U : Nat → Int} {n : Nat} : ∀ {d f v : Nat}, hasD U n d v → d < f → ∃ r, (upL U n f (v : Int))[d]? = some r ∧ r < n ∧ U r = -1
  | 0, f + 1, v, h, hf => by
    unfold upL
    rw [if_pos ⟨by omega, by have := h.1; omega⟩, Int.toNat_natCast]
    exact ⟨v, rfl, h.1, h.2⟩
  | d + 1, f + 1, v, h, hf => by
    obtain ⟨hv, u, hu, hd⟩ := h
    unfold upL
    rw [if_pos ⟨by omega, by omega⟩, Int.toNat_natCast, hu]
    obtain ⟨r, h1, h2⟩ := upL_last hd (show d < f by omega)
    exact ⟨r, by simpa using h1, h2⟩

section
variable {h0 : Heap} {R : Rws} {n : Nat} {up : List Int} {qU : Option Addr} {cU : Nat}

theorem up_l0 {K2 : Option Addr → Nat → Nat → Heap → Prop} {t mW cW : Nat} {qW : Option Addr} (hup : up.length = n) (hn : n ≤ 4096) (kU : Keeps h0 R qU (up.map (Value.int .i64))) {F : List Nat}
    (hk : ∀ q c X h', Own q c (natV F) X → St h0 h' (X ++ (t, [.slice qU n cU, .slice qW mW cW]) :: R) → K2 q F.length c h') :
    ∀ (f : Nat) (v : Int) (acc : List Nat) (q : Option Addr) (c : Nat) (X : Rws) (h : Heap), acc.length + f = n + 1 → acc ++ upL (UU up) n f v = F → Own q c (natV acc) X → St h0 h (X ++ (t, [.slice qU n cU, .slice qW mW cW]) :: R) →
      straitref29_Up.l0 K2 (f + 1) v ⟨t, 0, none⟩ q acc.length c h
  | f, v, acc, q, c, X, h, hf, hF, o, s => by
    unfold straitref29_Up.l0 straitref29_Up.b0
    have rt : ∀ j, cell h ⟨t, j, none⟩ = [.slice qU n cU, .slice qW mW cW][j]? := s.rd (by simp)
    have stop : upL (UU up) n f v = [] → K2 q acc.length c h := fun e => by
      rw [e, List.append_nil] at hF; subst hF; exact hk q c X h o s
    intro j
    refine iteB_intro (fun e => ?_) (fun e => stop (upL_neg (by simpa using e)))
    have e : 0 ≤ v := by simpa using e
    simp -zeta (disch := omega) only [chkP_some, iteB_true, iteB_false, add_mk, Nat.zero_add, Nat.add_zero, Nat.mul_one, Nat.reduceAdd, Int.toNat_natCast, ex_int, ex_slice, ex_ptr, ex_bool, ex_str, ex_flt, ex_any, bnd_in, List.getElem?_cons_zero, List.getElem?_cons_succ, List.set_cons_zero, List.set_cons_succ, List.cons_append, List.nil_append, bne_self_eq_false, beq_self_eq_true, Bool.not_true, Bool.not_false, Option.isNone_some, Option.isNone_none, eq_self, true_and, and_true, and_self, rt]
    refine iteB_intro (fun e2 => ?_) (fun e2 => stop (upL_big (by simpa using e2)))
    have e2 : v < (n : Int) := by simpa using e2
    refine iteB_intro (fun e3 => ?_) (fun e3 => stop ?_)
    · have e3 : acc.length ≤ n := by simpa using e3
      cases f with
      | zero => omega
      | succ f =>
        simp -zeta only [j]
        clear j
        have ev : v = ((v.toNat : Nat) : Int) := by omega
        refine Own.push1 o s (natV_len acc).symm rfl (by rw [natV_len]; omega) fun q2 c2 X2 h2 o2 s2 => ?_
        have rt2 : ∀ j, cell h2 ⟨t, j, none⟩ = [.slice qU n cU, .slice qW mW cW][j]? := s2.rd (by simp)
        have vU : valsAt h2 qU (up.map (Value.int .i64)) := kU _ _ s2 (fun y hy => by simp [hy])
        simp -zeta (disch := omega) only [chkP_some, iteB_true, iteB_false, add_mk, Nat.zero_add, Nat.add_zero, Nat.mul_one, Nat.reduceAdd, Int.toNat_natCast, ex_int, ex_slice, ex_ptr, ex_bool, ex_str, ex_flt, ex_any, bnd_in, List.getElem?_cons_zero, List.getElem?_cons_succ, List.set_cons_zero, List.set_cons_succ, List.cons_append, List.nil_append, bne_self_eq_false, beq_self_eq_true, Bool.not_true, Bool.not_false, Option.isNone_some, Option.isNone_none, eq_self, true_and, and_true, and_self, rt2, vals_int vU (UU_get (v := v.toNat) (by omega))]
        have ih := up_l0 hup hn kU hk f (UU up v.toNat) (acc ++ [v.toNat]) q2 c2 X2 h2 (by simp; omega) (by rw [← hF]; simp [upL, e, e2]) (by rw [ev] at o2; simpa [natV] using o2) s2
        rw [natV_len]
        simpa using ih
    · have e3 : n < acc.length := by simpa using e3
      have : f = 0 := by omega
      subst this; rfl
theorem Up_of {h : Heap} {mW cW : Nat} {qW : Option Addr} {v : Int} {K : Option Addr → Nat → Nat → Heap → Prop} (hup : up.length = n) (hn : n ≤ 4096) (kU : Keeps h0 R qU (up.map (Value.int .i64))) (s : St h0 h R)
    (hk : ∀ q c X h', Own q c (natV (upL (UU up) n (n + 1) v)) X → St h0 h' (X ++ R) → K q (upL (UU up) n (n + 1) v).length c h') : straitref29_Up qU n cU qW mW cW v h K := by
  unfold straitref29_Up
  refine s.new_ fun t h1 s1 => ?_
  exact ⟨n + 1 + 1, up_l0 hup hn kU (fun q c X h' o s' => hk q c X h' o (by simpa using St.drop (L := [(t, _)]) (s'.mid))) (n + 1) v [] none 0 [] h1 (by simp) (by simp) (by simpa [natV] using Own.nil) (by simpa using s1)⟩
end
end Go.Proofs.Ytfidcekobjmamaa
