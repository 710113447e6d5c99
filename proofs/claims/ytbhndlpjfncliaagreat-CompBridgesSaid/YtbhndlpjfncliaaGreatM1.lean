/-
  Classes of a graph: who is near, joined edges.
-/
import Derived.Test.YtbhndlpjfncliaaGreatYB
import Derived.Test.YtbhndlpjfncliaaGreatDD
import Derived.Test.YtbhndlpjfncliaaGreatC1
namespace Go.Proofs.YtbhndlpjfncliaaGreat
set_option linter.unusedVariables false
set_option linter.unusedSimpArgs false
set_option linter.unnecessarySimpa false
open Go.Hp Go.RowKit
attribute [local irreducible] Go.Hp.iteB Go.Hp.stC Go.Hp.newP

section
variable {h0 : Base} {R : Rws} {g n : Nat} {L : List Ed} {N : List (List Nat)}
theorem cloneN_of {h : Heap} {q : Option Addr} {l : List Nat} {k c : Nat} {K : Option Addr → Nat → Nat → Heap → Prop} (hl : l.length = k) (hb : k < 2 ^ 40) (kl : Keeps h0 R q (natV l)) (s : St h0 h R)
    (hk : ∀ q' c' X h', Hp.Own q' c' (natV l) X → St h0 h' (X ++ R) → K q' k c' h') : slices_Clone_Lint_int q k c h K := by
  unfold slices_Clone_Lint_int
  cases q with
  | none =>
    have : l = [] := by
      cases l with
      | nil => rfl
      | cons x r => obtain ⟨a, ha, _⟩ := kl.at0 s 0 (.int .i64 (x : Int)) rfl; cases ha
    subst this
    have hk0 : k = 0 := by simpa using hl.symm
    subst hk0
    exact iteB_pos rfl (hk none 0 [] h Hp.Own.nil s)
  | some a =>
    refine iteB_neg rfl (St.new_ (cs := []) s fun b h1 s1 => ?_)
    have vw := kl.cons.at0 s1
    rw [Nat.mul_one]
    refine Hp.Own.pushAll (l := []) (X := [(b, [])]) (.inr ⟨b, [], rfl, rfl, rfl⟩) s1 rfl vw (by simp [natV, hl]) rfl (fun x hx => by obtain ⟨i, _, rfl⟩ := List.mem_map.1 hx; rfl) (by simp; omega) fun q' c' X h2 o s2 => ?_
    rw [List.length_nil, Nat.zero_add]
    exact hk q' c' X h2 (by simpa using o) s2
theorem GNear_of {h : Heap} {v : Nat} {l : List Nat} {K : Option Addr → Nat → Nat → Heap → Prop} (nh : NetG h0.heap g n L N) (s : St h0 h R) (hv : v < n) (hg : N[v]? = some l) (hb : l.length < 2 ^ 40)
    (hk : ∀ q c X h', Hp.Own q c (natV l) X → St h0 h' (X ++ R) → K q l.length c h') : net_Net_Near (some ⟨g, 0, none⟩) (v : Int) h K := by
  unfold net_Net_Near
  have gn : ∀ {K : Int → Heap → Prop}, K (n : Int) h → net_Net_N (some ⟨g, 0, none⟩) h K := fun hK => GN_of nh s hK
  obtain ⟨gr, hn, nr, cm, qm, E, c0, c2, vm, vr, e1, e2, ev⟩ := nh
  intro j
  have J : j := by
    simp -zeta only [j]
    obtain ⟨e, he⟩ : ∃ e, E[v]? = some e := ⟨_, List.getElem?_eq_getElem (by omega)⟩
    have el : e.l = l := by
      rw [← e1] at hg; unfold nrL at hg; rw [List.getElem?_map, he] at hg; exact Option.some.inj hg
    have hr : (nrV E)[v]? = some (.slice e.q e.l.length e.cap) := by unfold nrV; rw [List.getElem?_map, he]; rfl
    rw [chkP_some]
    refine ⟨_, n, n, s.ext.cell' c0, ?_⟩
    obtain ⟨a, ha, hc⟩ := (vr.ext s.ext) v _ hr
    cases ha
    rw [chkP_some]
    refine ⟨⟨by omega, by omega⟩, e.q, e.l.length, e.cap, by rw [Int.toNat_natCast, Nat.mul_one]; exact hc, ?_⟩
    subst el
    exact callP3.self (cloneN_of rfl hb (Keeps.old (ev e (List.mem_of_getElem? he))) s hk)
  clear_value j
  exact iteB_neg (decide_eq_false (by omega)) (qcallP1.of (n : Int) (fun Q hQ => gn hQ) (iteB_neg (decide_eq_false (by omega)) J))

/-! ### Joined -/
/-- What they are called when these edges are joined. -/
def joinsL (n : Nat) (least : Int) (C : Nat → Nat) (L : List Ed) : Nat → Nat := L.foldl (fun C e => if e.2.2 ≥ least then joinC C n e.1 e.2.1 else C) C
theorem joinsL_snoc {n : Nat} {least : Int} {C : Nat → Nat} {A : List Ed} {e : Ed} : joinsL n least C (A ++ [e]) = if e.2.2 ≥ least then joinC (joinsL n least C A) n e.1 e.2.1 else joinsL n least C A := by
  unfold joinsL; rw [List.foldl_append]; rfl
theorem joined_l0 {K2 : Heap → Prop} {least : Int} {a : DA} {q p5 : Option Addr} {c : Nat} (hn : n ≤ 4096) (hL : L.length ≤ 1048576) (kq : ∀ h' R', St h0 h' R' → (∀ x ∈ R, x ∈ R') → valsAt h' q (eV L))
    (hk : ∀ h' z Y, z.n = n → DInv z (joinsL n least (fun v => v) L) → St h0 h' (z.rows a ++ (Y ++ R)) → K2 h') :
    ∀ (d i : Nat) (h : Heap) (z : DS) (Y : Rws), i + d = L.length → z.n = n → DInv z (joinsL n least (fun v => v) (L.take i)) → St h0 h (z.rows a ++ (Y ++ R)) →
      comp_joined.l0 K2 (d + 1) least p5 (some ⟨a.b, 0, none⟩) q L.length c (L.length : Int) (i : Int) h := by
  intro d
  induction d with
  | zero =>
    intro i h z Y hi zn iv s
    unfold comp_joined.l0 comp_joined.b0
    have : i = L.length := by omega
    subst this
    rw [List.take_length] at iv
    exact iteB_neg (decide_eq_false (by omega)) (hk h z Y zn iv s)
  | succ d ih =>
    intro i h z Y hi zn iv s
    unfold comp_joined.l0 comp_joined.b0
    refine iteB_pos (decide_eq_true (by omega)) ?_
    obtain ⟨e, he⟩ := get_lt (l := L) (i := i) (by omega)
    obtain ⟨u, v, w⟩ := e
    have vq := kq h _ s (fun x hx => by simp [hx])
    obtain ⟨a0, rfl, h0⟩ := vq _ _ (eV_get0 he)
    obtain ⟨a1, ha1, h1⟩ := vq _ _ (eV_get1 he)
    obtain ⟨a2, ha2, h2⟩ := vq _ _ (eV_get2 he)
    cases ha1; cases ha2
    rw [chkP_some]
    refine ⟨by omega, u, ?_, v, ?_, w, ?_, ?_⟩
    · rw [Int.toNat_natCast]; exact h0
    · rw [Int.toNat_natCast, addr_add]; exact h1
    · rw [Int.toNat_natCast, addr_add]; exact h2
    have iv2 := joinsL_snoc (n := n) (least := least) (C := fun v => v) (A := L.take i) (e := (u, v, w))
    rw [← take_snoc he] at iv2
    have nx : IntKind.i64.wrap ((i : Int) + 1) = ((i + 1 : Nat) : Int) := by rw [wrap64 (by omega) (by omega)]; omega
    refine s.new_ fun b h3 s3 => s3.st0 (by simp) fun h4 s4 => ?_
    rw [add_mk, add_mk]
    refine s4.st0 (by simp) fun h5 s5 => s5.st0 (by simp) fun h6 s6 => ?_
    simp only [List.set_cons_zero, List.set_cons_succ, Nat.zero_add] at s6
    refine ⟨w, s6.rd0 2, iteB_intro (fun c1 => ?_) fun c1 => ?_⟩
    · have c1 := of_decide_eq_true c1
      rw [if_pos c1] at iv2
      refine ⟨u, s6.rd0 0, v, s6.rd0 1, ?_⟩
      have s7 : St _ h6 (z.rows a ++ (((b, [.int .i64 u, .int .i64 v, .int .i64 w]) :: Y) ++ R)) := (St.re s6 (by intro a; simp only [cntR_append, cntR_cons, cntR_nil, List.cons_append, List.nil_append, List.set_cons_zero, List.set_cons_succ]; omega))
      refine callP1.self (DJoin_of iv s7 fun h8 z' zn' iv' s8 => ?_)
      rw [nx]
      rw [zn] at iv' zn'
      exact ih (i + 1) h8 z' _ (by omega) zn' (by rw [iv2]; exact iv') s8
    · have c1 := of_decide_eq_false c1
      rw [if_neg c1] at iv2
      have s7 : St _ h6 (z.rows a ++ (((b, [.int .i64 u, .int .i64 v, .int .i64 w]) :: Y) ++ R)) := (St.re s6 (by intro a; simp only [cntR_append, cntR_cons, cntR_nil, List.cons_append, List.nil_append, List.set_cons_zero, List.set_cons_succ]; omega))
      rw [nx]
      exact ih (i + 1) h6 z _ (by omega) zn (by rw [iv2]; exact iv) s7
theorem roomN_of {n : Nat} (h : n ≤ 4096) : roomN (n : Int) = n := by unfold roomN; split <;> (try split) <;> omega
theorem Joined_of {h : Heap} {least : Int} {K : Option Addr → Heap → Prop} (nh : NetG h0.heap g n L N) (s : St h0 h R)
    (hk : ∀ h' a z Y, z.n = n → DInv z (joinsL n least (fun v => v) L) → St h0 h' (z.rows a ++ (Y ++ R)) → K (some ⟨a.b, 0, none⟩) h') : comp_joined (some ⟨g, 0, none⟩) least h K := by
  unfold comp_joined
  have hn := nh.hn
  refine qcallP1.of (n : Int) (fun Q hQ => GN_of nh s hQ) (callP1.self (DNew_of s fun a h1 s1 => ?_))
  rw [roomN_of hn] at s1
  refine callP3.self (GEdges_of nh s1 fun q c X h2 o s2 => ⟨L.length + 1, ?_⟩)
  have s3 : St h0 h2 ((DS.new n).rows a ++ ([] ++ (X ++ R))) := (St.re s2 (by intro a; simp only [cntR_append, cntR_cons, cntR_nil, List.cons_append, List.nil_append, List.set_cons_zero, List.set_cons_succ]; omega))
  refine joined_l0 (a := a) (R := X ++ R) hn nh.gr.len (fun h' R' s' hs => (o.keeps (R := R') fun x hx => hs x (by simp [hx])).at0 s') (fun h' z Y zn iv s' => ?_) L.length 0 h2 (DS.new n) [] (by omega) rfl (DInv.new hn) s3
  exact hk h' a z (Y ++ X) zn iv (by simpa [List.append_assoc] using s')
theorem Joined_nil {h : Heap} {least : Int} {K : Option Addr → Heap → Prop} (s : St h0 h R)
    (hk : ∀ h' a Y, St h0 h' ((DS.new 0).rows a ++ (Y ++ R)) → K (some ⟨a.b, 0, none⟩) h') : comp_joined none least h K := by
  unfold comp_joined
  refine qcallP1.of (0 : Int) (fun Q hQ => GN_nil hQ) (callP1.self (DNew_of s fun a h1 s1 => ?_))
  have e : roomN 0 = 0 := rfl
  rw [e] at s1
  refine callP3.self (GEdges_nil ⟨1, ?_⟩)
  unfold comp_joined.l0 comp_joined.b0
  exact iteB_neg rfl (hk h1 a [] s1)
theorem Count_of {h : Heap} {K : Int → Heap → Prop} (nh : NetG h0.heap g n L N) (s : St h0 h R)
    (hk : ∀ h' Y, St h0 h' (Y ++ R) → K ((clsL (joinsL n 0 (fun v => v) L) n).length : Int) h') : comp_Count (some ⟨g, 0, none⟩) h K := by
  unfold comp_Count
  refine callP1.self (Joined_of nh s fun h1 a z Y zn iv s1 => qcallP1.of (z.cnt : Int) (fun Q hQ => DCount_of s1 hQ) ?_)
  rw [iv.cnt, zn, ← clsL_len]
  exact hk h1 (z.rows a ++ Y) (by simpa [List.append_assoc] using s1)
theorem Count_nil {h : Heap} {K : Int → Heap → Prop} (s : St h0 h R) (hk : ∀ h' Y, St h0 h' (Y ++ R) → K 0 h') : comp_Count none h K := by
  unfold comp_Count
  exact callP1.self (Joined_nil s fun h1 a Y s1 => qcallP1.of (0 : Int) (fun Q hQ => DCount_of s1 hQ) (hk h1 ((DS.new 0).rows a ++ Y) (by simpa [List.append_assoc] using s1)))
theorem Heavy_of {h : Heap} {least : Int} {K : Option Addr → Nat → Nat → Heap → Prop} (nh : NetG h0.heap g n L N) (s : St h0 h R)
    (hk : ∀ h' q c qs Y, Keeps h0 (Y ++ R) q (slV qs) → Sls h0 (Y ++ R) qs (clsL (joinsL n least (fun v => v) L) n) → St h0 h' (Y ++ R) → K q (clsL (joinsL n least (fun v => v) L) n).length c h') : comp_Heavy (some ⟨g, 0, none⟩) least h K := by
  unfold comp_Heavy
  refine callP1.self (Joined_of nh s fun h1 a z Y zn iv s1 => callP3.self (DList_of iv s1 fun h2 U q c qs Z iv2 k1 k2 s2 => ?_))
  rw [zn] at k2 ⊢
  refine hk h2 q c qs (Z ++ (({ z with up := U } : DS).rows a ++ Y)) (k1.sub fun x hx => by simp [hx]) (k2.sub fun x hx => by simp [hx]) (by simpa [List.append_assoc] using s2)
theorem Heavy_nil {h : Heap} {least : Int} {K : Option Addr → Nat → Nat → Heap → Prop} (s : St h0 h R)
    (hk : ∀ h' q c Y, St h0 h' (Y ++ R) → K q 0 c h') : comp_Heavy none least h K := by
  unfold comp_Heavy
  refine callP1.self (Joined_nil s fun h1 a Y s1 => callP3.self (DList_of (DInv.new (by omega)) s1 fun h2 U q c qs Z iv2 k1 k2 s2 => ?_))
  exact hk h2 q c (Z ++ (({ DS.new 0 with up := U } : DS).rows a ++ Y)) (by simpa [List.append_assoc] using s2)
theorem Of_of {h : Heap} {K : Option Addr → Nat → Nat → Heap → Prop} (nh : NetG h0.heap g n L N) (s : St h0 h R)
    (hk : ∀ h' q c qs Y, Keeps h0 (Y ++ R) q (slV qs) → Sls h0 (Y ++ R) qs (clsL (joinsL n 0 (fun v => v) L) n) → St h0 h' (Y ++ R) → K q (clsL (joinsL n 0 (fun v => v) L) n).length c h') : comp_Of (some ⟨g, 0, none⟩) h K := by
  unfold comp_Of; exact callP3.self (Heavy_of nh s hk)
theorem Of_nil {h : Heap} {K : Option Addr → Nat → Nat → Heap → Prop} (s : St h0 h R)
    (hk : ∀ h' q c Y, St h0 h' (Y ++ R) → K q 0 c h') : comp_Of none h K := by
  unfold comp_Of; exact callP3.self (Heavy_nil s hk)
end
end Go.Proofs.YtbhndlpjfncliaaGreat
