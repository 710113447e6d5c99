/-
  Texts: the law of what is put, where all is of bounded size.
-/
import Derived.Test.YtnepdopakngpfaaDoorWC
namespace Go.Proofs.YtnepdopakngpfaaDoor
set_option linter.unusedVariables false
set_option linter.unusedSimpArgs false
set_option linter.unnecessarySimpa false
open Go.Proofs Go.Shelf Go.RowKit Go.Hp
attribute [local irreducible] Go.Hp.iteB Go.Hp.stC Go.Hp.newP
section
variable {g0 : Heap} {q : Option Addr} {c : Nat} {ls : List (List (List UInt8))}
theorem guard_l1 {K4 : Int → Heap → Prop} {i : Nat} {r : List (List UInt8)} (v : rowsOf g0 q ls) (hl : ls.length ≤ 2 ^ 20) (hr : ls[i]? = some r) (hrl : r.length ≤ 2 ^ 20) (hk : ∀ z, K4 z g0) :
    ∀ (d k : Nat) (z : Int), k + d = r.length → straitlaw07_WordPuts.l1 K4 (d + 1) q ls.length c z (i : Int) (k : Int) g0
  | 0, k, z, hi => by
    unfold straitlaw07_WordPuts.l1 straitlaw07_WordPuts.b1
    intro j
    obtain ⟨a, haq, qi, ci, g, hc, vv⟩ := v i r hr
    have hlt := lt_get hr
    rw [haq]
    simp -zeta only [chkP_some, Int.toNat_natCast, Nat.mul_one]
    exact ⟨by omega, _, _, _, g, iteB_neg (decide_eq_false (by omega)) (hk z)⟩
  | d + 1, k, z, hi => by
    unfold straitlaw07_WordPuts.l1 straitlaw07_WordPuts.b1
    intro j
    obtain ⟨a, haq, qi, ci, g, hc, vv⟩ := v i r hr
    have hlt := lt_get hr
    obtain ⟨x, hx⟩ := get_lt (l := r) (i := k) (by omega)
    obtain ⟨b, hb, g2⟩ := vv k (.string (str x)) (by unfold strV; rw [List.getElem?_map, hx]; rfl)
    have J : j := by
      simp -zeta only [j]
      rw [haq]
      simp -zeta only [chkP_some, Int.toNat_natCast, Nat.mul_one]
      refine ⟨by omega, _, _, _, g, ?_⟩
      rw [hb]
      simp -zeta only [chkP_some]
      refine ⟨by omega, _, g2, bindV_intro fun m hm => ?_⟩
      rw [wrap64 (x := (k : Int) + 1) (by omega) (by omega), ← haq]
      exact guard_l1 v hl hr hrl hk d (k + 1) _ (by omega)
    clear_value j
    rw [haq]
    simp -zeta only [chkP_some, Int.toNat_natCast, Nat.mul_one]
    exact ⟨by omega, _, _, _, g, iteB_pos (decide_eq_true (by omega)) (iteB_intro (fun _ => J) fun _ => hk z)⟩
theorem guard_l0 {K2 : Int → Heap → Prop} (v : rowsOf g0 q ls) (hl : ls.length ≤ 2 ^ 20) (hB : bulkR ls ≤ 2 ^ 20) (hk : ∀ z, K2 z g0) :
    ∀ (d i : Nat) (z : Int), i + d = ls.length → straitlaw07_WordPuts.l0 K2 (d + 1) q ls.length c z (i : Int) g0
  | 0, i, z, hi => by
    unfold straitlaw07_WordPuts.l0 straitlaw07_WordPuts.b0
    intro j
    exact iteB_neg (decide_eq_false (by omega)) (hk z)
  | d + 1, i, z, hi => by
    unfold straitlaw07_WordPuts.l0 straitlaw07_WordPuts.b0
    intro j
    obtain ⟨r, hr⟩ := get_lt (l := ls) (i := i) (by omega)
    have hrb := bulk_mem (List.mem_of_getElem? hr)
    obtain ⟨a, haq, qi, ci, g, hc, vv⟩ := v i r hr
    have J : j := by
      simp -zeta only [j]
      rw [haq]
      simp -zeta only [chkP_some, Int.toNat_natCast, Nat.mul_one]
      refine ⟨by omega, _, _, _, g, bindV_intro fun m hm => ⟨r.length + 1, ?_⟩⟩
      rw [← haq]
      have := guard_l1 (c := c) (K4 := fun z1011 h1012 => straitlaw07_WordPuts.l0 K2 (d + 1) q ls.length c z1011 (IntKind.i64.wrap ((i : Int) + 1)) h1012) v hl hr (by omega) (fun z' => by
        rw [wrap64 (by omega) (by omega)]
        exact guard_l0 v hl hB hk d (i + 1) z' (by omega)) r.length 0 (IntKind.i64.wrap (z + m)) (by omega)
      exact this
    clear_value j
    exact iteB_pos (decide_eq_true (by omega)) (iteB_intro (fun _ => J) fun _ => hk z)
theorem puts_l2 {K0 : Bool → Heap → Prop} {K6 : Heap → Prop} (v : rowsOf g0 q ls) (hB : bulkR ls ≤ 2 ^ 20) (hk : ∀ h', Ext g0 h' → K6 h') :
    ∀ (d i : Nat) (h : Heap), i + d = ls.length → Ext g0 h → straitlaw07_WordPuts.l2 K0 K6 (d + 1) q ls.length c (i : Int) h
  | 0, i, h, hi, e => by
    unfold straitlaw07_WordPuts.l2 straitlaw07_WordPuts.b2
    exact iteB_neg (decide_eq_false (by omega)) (hk h e)
  | d + 1, i, h, hi, e => by
    unfold straitlaw07_WordPuts.l2 straitlaw07_WordPuts.b2
    have hbl := bulk_len ls
    obtain ⟨r, hr⟩ := get_lt (l := ls) (i := i) (by omega)
    have hrb := bulk_mem (List.mem_of_getElem? hr)
    obtain ⟨a, haq, qi, ci, g, hc, vv⟩ := (v.ext e) i r hr
    refine iteB_pos (decide_eq_true (by omega)) ?_
    rw [haq]
    simp -zeta only [chkP_some, Int.toNat_natCast, Nat.mul_one]
    refine ⟨by omega, _, _, _, g, callP2.self (Line_of vv hc (by omega) (by omega) fun h2 e2 => ⟨by omega, _, _, _, e2.cell' g, callP2.self (RLine_of (vv.ext e2) (by omega) (by omega) fun h3 e3 => ?_)⟩)⟩
    refine iteB_neg (by simp [eqAll]) ?_
    rw [wrap64 (by omega) (by omega), ← haq]
    exact puts_l2 v hB hk d (i + 1) h3 (by omega) ((e.trans e2).trans e3)
theorem WordPuts_of {K : Bool → Heap → Prop} (hm : MaxThere g0) (v : rowsOf g0 q ls) (hB : bulkR ls ≤ 2 ^ 20) (hk : ∀ h', Ext g0 h' → K true h') : straitlaw07_WordPuts q ls.length c g0 K := by
  unfold straitlaw07_WordPuts
  have aw : ∀ h1, Ext g0 h1 → callP1 (straitlaw07_awake h1) fun x8 h9 => K x8 h9 := fun h1 e => callP1.self (awake_of (hm.ext e) fun h4 e4 => hk h4 (e.trans e4))
  have hbl := bulk_len ls
  refine ⟨ls.length + 1, guard_l0 v (by omega) hB (fun z => ?_) ls.length 0 0 (by omega)⟩
  intro j
  have J : j := by
    simp -zeta only [j]
    refine ⟨ls.length + 1, puts_l2 v hB (fun h2 e2 => ?_) ls.length 0 g0 (by omega) (Ext.refl g0)⟩
    refine callP2.self (Text_of (v.ext e2) hB fun h3 e3 => callP2.self (RText_of ((v.ext e2).ext e3) hB fun h4 e4 => iteB_pos (by simp [eqAll]) (aw h4 ((e2.trans e3).trans e4))))
  clear_value j
  exact iteB_intro (fun _ => aw g0 (Ext.refl g0)) fun _ => iteB_intro (fun _ => aw g0 (Ext.refl g0)) fun _ => J
end
end Go.Proofs.YtnepdopakngpfaaDoor
