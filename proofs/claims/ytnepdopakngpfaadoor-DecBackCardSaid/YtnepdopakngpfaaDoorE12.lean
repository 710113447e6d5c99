/-
  Numbers in digits: the laws.
-/
import Derived.Test.YtnepdopakngpfaaDoorE11
namespace Go.Proofs.YtnepdopakngpfaaDoor
set_option linter.unusedVariables false
set_option linter.unusedSimpArgs false
set_option linter.unnecessarySimpa false
open Go.Proofs Go.Shelf Go.RowKit Go.Hp
attribute [local irreducible] Go.Hp.iteB Go.Hp.stC Go.Hp.newP
theorem awake_of {h : Heap} {K : Bool → Heap → Prop} (f : Facts h) (hk : ∀ h', Ext h h' → K true h') : straitlaw06_awake h K := by
  unfold straitlaw06_awake
  have l1 : parN [45, 52, 48] = -40 ∧ parE [45, 52, 48] = 0 := by decide
  have l2 : natE [57] 8 = 10 := by decide
  have l3 : (rdE (ptsL [49, 32, 50]) 0).1 = 0 ∧ (rdL (ptsL [49, 32, 50])).length = 2 := by decide
  have l4 : Lib.itoa 7 = [55] := itoa_val (l := [55]) (by decide)
  refine callP2.self (Parse_of (l := [45, 52, 48]) f (by decide) fun h1 e1 => ?_)
  refine callP2.self (Nat_of (l := [57]) (f.ext e1) (by decide) fun h2 e2 => ?_)
  have f2 := (f.ext e1).ext e2
  refine callP5.self (Read_of (h0 := (h2 : Base)) (R := []) (L := [49, 32, 50]) f2 (by decide) (St.refl h2) fun h3 q c X k s => ?_)
  rw [l1.1, l1.2, l2, l3.1, l3.2]
  refine iteB_pos rfl (iteB_pos rfl (iteB_pos rfl (iteB_pos rfl (iteB_pos rfl (callP1.self (Print_of (f2.ext s.ext) (by decide) fun h4 e4 => ?_))))))
  rw [l4]
  have : ((str [55]).toList == (⟨#[55]⟩ : ByteArray).toList) = true := by
    have e : (⟨#[55]⟩ : ByteArray).toList = [55] := toList_str [55]
    rw [toList_str, e]; rfl
  rw [this]
  exact hk h4 (((e1.trans e2).trans s.ext).trans e4)
theorem DecTells_of {h : Heap} {L : List UInt8} {n most : Int} {K : Bool → Heap → Prop} (f : Facts h) (hn : inR n = true) (hk : ∀ h', Ext h h' → K true h') : straitlaw06_DecTells (str L) n most h K := by
  unfold straitlaw06_DecTells
  rw [str_size]
  have aw : ∀ h1, Ext h h1 → callP1 (straitlaw06_awake h1) fun x8 h9 => K x8 h9 := fun h1 e => callP1.self (awake_of (f.ext e) fun h4 e4 => hk h4 (e.trans e4))
  refine iteB_intro (fun e => aw h (Ext.refl h)) fun e => ?_
  have e := of_decide_eq_false e
  have hl : L.length ≤ 2 ^ 40 := by omega
  obtain ⟨r0, r1⟩ := inR_iff.1 hn
  refine callP2.self (Parse_of f hl fun h1 e1 => callP2.self (Nat_of (f.ext e1) hl fun h2 e2 => callP2.self (RParse_of hl fun h3 e3 => iteB_pos ?_ (callP2.self (RNat_of hl fun h4 e4 => iteB_pos ?_ ?_)))))
  · simp [eqAll]
  · simp [eqAll]
  have e14 := ((e1.trans e2).trans e3).trans e4
  refine callP1.self (Print_of (f.ext e14) hn fun h5 e5 => callP1.self (RPrint_of r0 r1 fun h6 e6 => iteB_pos (by simp) (aw h6 ((e14.trans e5).trans e6))))
theorem DecLists_of {h : Heap} {L : List UInt8} {l : List Int} {q : Option Addr} {c : Nat} {K : Bool → Heap → Prop} (f : Facts h) (v : valsAt h q (numV l)) (hin : ∀ n ∈ l, inR n = true) (hk : ∀ h', Ext h h' → K true h') :
    straitlaw06_DecLists (str L) q l.length c h K := by
  unfold straitlaw06_DecLists
  have aw : ∀ h1, Ext h h1 → callP1 (straitlaw06_awake h1) fun x8 h9 => K x8 h9 := fun h1 e => callP1.self (awake_of (f.ext e) fun h4 e4 => hk h4 (e.trans e4))
  intro j
  rw [str_size]
  refine iteB_intro (fun e => aw h (Ext.refl h)) fun e => iteB_intro (fun e2 => aw h (Ext.refl h)) fun e2 => ?_
  have e := of_decide_eq_false e
  have e2 := of_decide_eq_false e2
  simp -zeta only [j]
  clear j
  have hL : L.length ≤ 2 ^ 20 := by omega
  have hp := pts_len L
  have hp2 := rdL_len (ptsL L)
  refine callP5.self (Read_of (h0 := (h : Base)) (R := []) f hL (St.refl h) fun h1 q1 c1 X1 k1 s1 => ?_)
  refine callP5.self (RRead_of hL s1 fun h2 q2 c2 X2 k2 s2 => ?_)
  refine s2.new_ fun t h3 s3 => s3.st0 (by simp) fun h4 s4 => ?_
  rw [add_mk, Nat.zero_add]
  refine s4.st0 (by simp) fun h5 s5 => ?_
  rw [add_mk, Nat.zero_add]
  refine s5.st0 (by simp) fun h6 s6 => ⟨_, _, _, s6.rd0 0, qcallP1.of _ (fun Q hQ => Same_of ((k1.sub fun x hx => by simp at hx ⊢; simp [hx]).at0 s6) (k2.atC s6) (by omega) hQ) (iteB_pos rfl ⟨_, s6.rd0 1, iteB_pos (by simp) ⟨_, s6.rd0 2, iteB_pos (by simp) ?_⟩⟩)⟩
  refine callP1.self (List_of (v.ext s6.ext) (f.ext s6.ext) hin (by omega) fun h7 e7 => callP1.self (RList_of ((v.ext s6.ext).ext e7) hin (by omega) fun h8 e8 => iteB_pos (by simp) (aw h8 ((s6.ext.trans e7).trans e8))))
theorem sum_join : ∀ (ls : List (List UInt8)), sumL ls ≤ (joinB ls).length
  | [] => by simp [sumL]
  | [x] => by simp [sumL, joinB, tailJ]
  | x :: y :: r => by
    have := sum_join (y :: r)
    rw [joinB_two, sumL_cons]
    simp; omega
/-- What is read of a list's text. -/
theorem pts_list {l : List Int} : ptsL (joinB (l.map Lib.itoa)) = l.map Lib.itoa := by
  unfold ptsL
  match l with
  | [] => rfl
  | n :: r =>
    rw [segs_join (by simp) fun x hx => by
      obtain ⟨m, _, rfl⟩ := List.mem_map.1 hx
      exact no_blank (itoa_form m).1]
    refine if_neg fun hh => ?_
    have : (Lib.itoa n) = [] := by
      have h2 := sum_join ((n :: r).map Lib.itoa)
      rw [hh] at h2
      rw [List.map_cons, sumL_cons] at h2
      exact List.length_eq_zero_iff.1 (by rw [List.length_nil] at h2; omega)
    exact itoa_ne n this
theorem list_pts {L : List UInt8} (h : (rdE (ptsL L) 0).1 = 0) : joinB ((rdL (ptsL L)).map Lib.itoa) = L := by
  rw [rd_back h]
  unfold ptsL
  split
  · rename_i hh; rw [hh]; rfl
  · exact join_segs L []
theorem DecBack_of {h : Heap} {L : List UInt8} {l : List Int} {q : Option Addr} {c : Nat} {K : Bool → Heap → Prop} (f : Facts h) (v : valsAt h q (numV l)) (hin : ∀ n ∈ l, inR n = true) (hk : ∀ h', Ext h h' → K true h') :
    straitlaw06_DecBack (str L) q l.length c h K := by
  unfold straitlaw06_DecBack
  have aw : ∀ h1, Ext h h1 → callP1 (straitlaw06_awake h1) fun x8 h9 => K x8 h9 := fun h1 e => callP1.self (awake_of (f.ext e) fun h4 e4 => hk h4 (e.trans e4))
  intro j
  rw [str_size]
  refine iteB_intro (fun e => aw h (Ext.refl h)) fun e => iteB_intro (fun e2 => aw h (Ext.refl h)) fun e2 => ?_
  have e := of_decide_eq_false e
  have e2 := of_decide_eq_false e2
  simp -zeta only [j]
  clear j
  have hL : L.length ≤ 2 ^ 20 := by omega
  have hp := pts_len L
  have hp2 := rdL_len (ptsL L)
  have hJ := list_len hin l.length
  rw [List.take_length] at hJ
  refine callP1.self (List_of v f hin (by omega) fun h1 e1 => ?_)
  obtain ⟨i1, i2⟩ := rd_itoa hin
  refine callP5.self (Read_of (h0 := (h1 : Base)) (R := []) (L := joinB (l.map Lib.itoa)) (f.ext e1) (by omega) (St.refl h1) fun h2 q2 c2 X2 k2 s2 => ?_)
  rw [pts_list, i2] at k2 ⊢
  rw [i1]
  refine callP5.self (Read_of (f.ext e1) hL s2 fun h3 q3 c3 X3 k3 s3 => ?_)
  refine callP2.self (Parse_of ((f.ext e1).ext s3.ext) (by omega) fun h4 e4 => ?_)
  have s4 := s3.ofExt e4
  have x4 : Ext h h4 := e1.trans s4.ext
  have v2 : valsAt h4 q2 (numV l) := (k2.sub fun x hx => by simp at hx ⊢; simp [hx]).at0 s4
  refine iteB_pos rfl (qcallP1.of _ (fun Q hQ => Same_of v2 (v.ext x4) (by omega) hQ) (iteB_pos rfl ?_))
  have pr : ∀ h5, Ext h h5 → parE L = 0 → callP1 (dec_Print (parN L) h5) fun x h6 => iteB (x.toList == (str L).toList) (callP1 (straitlaw06_awake h6) fun x8 h9 => K x8 h9) (K false h6) := fun h5 x5 hz => callP1.self (Print_of (f.ext x5) (parN_in L) fun h6 e6 => by
    rw [(par_back hz).2]
    exact iteB_pos (by simp) (aw h6 (x5.trans e6)))
  refine iteB_intro (fun e5 => iteB_intro (fun e6 => aw h4 x4) fun e6 => pr h4 x4 (by simpa using e6)) fun e5 => ?_
  have e5 : (rdE (ptsL L) 0).1 = 0 := by simpa using e5
  refine callP1.self (List_of (k3.at0 s4) (f.ext x4) (rdL_in _) (by omega) fun h5 e5' => ?_)
  rw [list_pts e5]
  have x5 := x4.trans e5'
  exact iteB_pos (by simp) (iteB_intro (fun e6 => aw h5 x5) fun e6 => pr h5 x5 (by simpa using e6))
end Go.Proofs.YtnepdopakngpfaaDoor
