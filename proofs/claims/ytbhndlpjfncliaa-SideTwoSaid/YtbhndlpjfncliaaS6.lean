/-
  Sides: the program's functions: Weight, Crossing, Normal, Cut, Right.
-/
import Derived.Test.YtbhndlpjfncliaaS5
namespace Go.Proofs.Ytbhndlpjfncliaa
set_option linter.unusedVariables false
set_option linter.unusedSimpArgs false
set_option linter.unnecessarySimpa false
open Go Go.Hp Go.RowKit
attribute [local irreducible] Go.Hp.iteB Go.Hp.stC Go.Hp.newP

theorem memS_cons {x v : Int} {l : List Int} : memS (x :: l) v = (decide (v = x) || memS l v) := by
  unfold memS
  by_cases e : v = x
  · subst e; simp
  · by_cases c : v ∈ l
    · rw [decide_eq_true c, decide_eq_true (by simp [c]), Bool.or_true]
    · rw [decide_eq_false c, decide_eq_false (by simp [c, e]), decide_eq_false e]; rfl
theorem put_at (f : Nat → Bool) (a b : Nat) : put f a true b = if b = a then true else f b := rfl
theorem inS_eq {n : Nat} {v : Int} : ∀ {l : List Int}, inS n l v = (decide (inV v n) && memS l v) := by
  have key : ∀ (l : List Int) (f : Nat → Bool), hasV (putL n l f) n v = (decide (inV v n) && (memS l v || f v.toNat)) := by
    intro l
    induction l with
    | nil => intro f; show (decide (inV v n) && f v.toNat) = _; rw [show memS [] v = false from decide_eq_false (by simp), Bool.false_or]
    | cons x l ih =>
      intro f
      show hasV (putL n l (putV f n x true)) n v = _
      rw [ih, memS_cons]
      by_cases c : inV v n
      · rw [decide_eq_true c]
        simp only [Bool.true_and, putV]
        by_cases e : v = x
        · subst e
          rw [if_pos c, put_at, if_pos rfl, decide_eq_true rfl, Bool.true_or, Bool.or_true, Bool.true_or]
        · rw [decide_eq_false e, Bool.false_or]
          by_cases c2 : inV x n
          · rw [if_pos c2, put_at, if_neg (by omega)]
          · rw [if_neg c2]
      · rw [decide_eq_false c, Bool.false_and, Bool.false_and]
  intro l
  rw [inS, setF, key, Bool.or_false]
section
variable {h0 : Base} {R : Rws} {g n : Nat} {q : Option Addr} {k c : Nat} {l : List Int} {L : List Ed}
theorem SWeight_of {h : Heap} {K : Int → Int → Heap → Prop} (nh : NetH h g n L) (hl : l.length = k) (hb : k < 2 ^ 40) (vl : valsAt h q (l.map (Value.int .i64))) (hk : ∀ h', Ext h h' → K (wgt n l L).1 (wgt n l L).2 h') : side_Weight (some ⟨g, 0, none⟩) q k c h K := by
  intro w hw
  subst hw
  refine ⟨enters_of Try.func10 (by kernel_rfl) rfl _ _, ?_⟩
  have HC : Calls Try.prog 10 #[.pointer (some ⟨g, 0, none⟩), .slice q k c] w fun e w' => e = .returned (.tuple #[.int .i64 (wgt n l L).1, .int .i64 (wgt n l L).2]) ∧ Below w.heap.size w w' := by
    unfold wgt
    by_cases e : chkS n l = 0
    · rw [if_pos e]; exact callsIn_wide.1 (weight_ok nh hl hb vl e)
    · rw [if_neg e]; exact callsIn_wide.1 (weight_err (n := n) (fun Q hQ => NN_of nh hQ) hl hb vl e)
  refine HC.mono ?_
  rintro e w' ⟨rfl, hB⟩
  exact ⟨_, rfl, ⟨hB.tape, hB.os, hB.output, fun d => d.elim⟩, hk _ ⟨hB.size, hB.block⟩⟩
theorem SWeight_nil {h : Heap} {K : Int → Int → Heap → Prop} (hl : l.length = k) (hb : k < 2 ^ 40) (vl : valsAt h q (l.map (Value.int .i64))) (hk : ∀ h', Ext h h' → K 0 (chkS 0 l) h') : side_Weight none q k c h K := by
  intro w hw
  subst hw
  refine ⟨enters_of Try.func10 (by kernel_rfl) rfl _ _, ?_⟩
  refine (callsIn_wide.1 (weight_err (n := 0) (p := none) (fun Q hQ => NN_nil hQ) hl hb vl (chkS_nil l))).mono ?_
  rintro e w' ⟨rfl, hB⟩
  exact ⟨_, rfl, ⟨hB.tape, hB.os, hB.output, fun d => d.elim⟩, hk _ ⟨hB.size, hB.block⟩⟩
theorem SCrossing_of {h : Heap} {K : Option Addr → Nat → Nat → Int → Heap → Prop} (nh : NetH h g n L) (hl : l.length = k) (hb : k < 2 ^ 40) (vl : valsAt h q (l.map (Value.int .i64))) (s : St h0 h R)
    (hk0 : chkS n l ≠ 0 → ∀ h', St h0 h' R → K none 0 0 (chkS n l) h')
    (hk : chkS n l = 0 → ∀ q' c' X h', Hp.Own q' c' (natV (crsI (inS n l) L)) X → St h0 h' (X ++ R) → K q' (crsI (inS n l) L).length c' 0 h') : side_Crossing (some ⟨g, 0, none⟩) q k c h K := by
  intro w hw
  subst hw
  refine ⟨enters_of Try.func15 (by kernel_rfl) rfl _ _, ?_⟩
  by_cases e : chkS n l = 0
  · refine (callsIn_wide.1 (crossing_ok nh hl hb vl e)).mono ?_
    rintro _ w' ⟨v, ys, rfl, rfl, hrow, hB⟩
    have hE : Ext w.heap w'.heap := ⟨hB.size, hB.block⟩
    have ho : Out w w' := ⟨hB.tape, hB.os, hB.output, fun d => d.elim⟩
    have hk := hk e
    have eV : (crs (inS n l) 0 L).map (fun x => Value.int .i64 (x.1 : Int)) = natV (crsI (inS n l) L) := by simp [natV]
    rw [eV] at hrow
    have el : (crsI (inS n l) L).length = (crs (inS n l) 0 L).length := by simp
    rcases hrow.2 with ⟨rfl, hz⟩ | ⟨g', cap', cur, rfl, hbase, hg, r1, r2, r3, r4⟩
    · have hx : crs (inS n l) 0 L = [] := List.length_eq_zero_iff.1 hz
      refine ⟨_, rfl, ho, ?_⟩
      have := hk none 0 [] w'.heap (by rw [crsI, hx]; exact Hp.Own.nil) (s.ofExt hE)
      rw [el, hz] at this
      exact this
    · refine ⟨_, rfl, ho, ?_⟩
      have e1 : cur.toList = natV (crsI (inS n l) L) ++ cur.toList.drop ((crs (inS n l) 0 L).length * 1) := by rw [← r4]; exact (List.take_append_drop _ _).symm
      have r : row w'.heap g' (natV (crsI (inS n l) L) ++ cur.toList.drop ((crs (inS n l) 0 L).length * 1)) := ⟨3, by rw [← e1]; simpa using hg⟩
      have := hk (some ⟨g', 0, none⟩) cap' [(g', natV (crsI (inS n l) L) ++ cur.toList.drop ((crs (inS n l) 0 L).length * 1))] w'.heap (.inr ⟨g', _, rfl, by rw [← e1]; simp; omega, rfl⟩) (s.join ⟨hE, ?_, ?_, by simp, fun x hx => by cases hx⟩)
      · rw [el] at this; exact this
      · intro x hx; simp only [List.mem_singleton] at hx; subst hx; exact r
      · intro x hx; simp only [List.mem_singleton] at hx; subst hx; exact hbase
  · refine (callsIn_wide.1 (crossing_err (n := n) (fun Q hQ => NN_of nh hQ) hl hb vl e)).mono ?_
    rintro _ w' ⟨rfl, hB⟩
    exact ⟨_, rfl, ⟨hB.tape, hB.os, hB.output, fun d => d.elim⟩, hk0 e _ (s.ofExt ⟨hB.size, hB.block⟩)⟩
theorem CloneI_of {h : Heap} {K : Option Addr → Nat → Nat → Heap → Prop} (hl : l.length = k) (hb : k < 2 ^ 40) (kl : Keeps h0 R q (l.map (Value.int .i64))) (s : St h0 h R)
    (hk : ∀ q' c' X h', Hp.Own q' c' (l.map (Value.int .i64)) X → St h0 h' (X ++ R) → K q' k c' h') : slices_Clone_Lint_int q k c h K := by
  unfold slices_Clone_Lint_int
  cases q with
  | none =>
    have : l = [] := by
      cases l with
      | nil => rfl
      | cons x r => obtain ⟨a, ha, _⟩ := kl.at0 s 0 (.int .i64 x) rfl; cases ha
    subst this
    have hk0 : k = 0 := by simpa using hl.symm
    subst hk0
    exact iteB_pos rfl (hk none 0 [] h Hp.Own.nil s)
  | some a =>
    refine iteB_neg rfl (St.new_ (cs := []) s fun b h1 s1 => ?_)
    have vw := kl.cons.at0 s1
    rw [Nat.mul_one]
    refine Hp.Own.pushAll (l := []) (X := [(b, [])]) (.inr ⟨b, [], rfl, rfl, rfl⟩) s1 rfl vw (by simp [hl]) rfl (fun x hx => by obtain ⟨i, _, rfl⟩ := List.mem_map.1 hx; rfl) (by simp; omega) fun q' c' X h2 o s2 => ?_
    rw [List.length_nil, Nat.zero_add]
    exact hk q' c' X h2 (by simpa using o) s2
/-- The one without the vertex 0. -/
def nrmL (n : Nat) (l : List Int) : List Int := if (0 : Int) ∈ l then othT n l else l
theorem rise_split {n : Int} : ∀ {l : List Int} {p : Int}, riseS n p l = true → ∀ v, (∀ x ∈ l, v ≤ x) → v ∈ l → ∃ r, l = v :: r
  | x :: l, p, h, v, hge, hv => by
    simp only [riseS, Bool.and_eq_true, decide_eq_true_eq] at h
    rcases List.mem_cons.1 hv with rfl | hv
    · exact ⟨l, rfl⟩
    · have h1 := (riseS_mem h.2.2 v hv).1
      have h2 := hge x (by simp)
      omega
theorem riseS_tail {n p x : Int} {l : List Int} (h : riseS n p (x :: l) = true) : riseS n x l = true := by
  simp only [riseS, Bool.and_eq_true, decide_eq_true_eq] at h; exact h.2.2
theorem snormal_l0 {K2 : Option Addr → Nat → Nat → Heap → Prop} (hn : n ≤ 4096)
    (hk : ∀ q' c' X h', Hp.Own q' c' ((othT n l).map (Value.int .i64)) X → St h0 h' (X ++ R) → K2 q' (othT n l).length c' h') :
    ∀ (d i : Nat) (h : Heap) (q' : Option Addr) (c' : Nat) (X : Rws) (nx : List Int) (qn : Option Addr) (cn : Nat) (p : Int), i + d = n → riseS n p nx = true → (∀ x ∈ nx, (i : Int) ≤ x) → (∀ v, (i : Int) ≤ v → (v ∈ l ↔ v ∈ nx)) → nx.length ≤ cn → nx.length < 2 ^ 40 → Keeps h0 R qn (nx.map (Value.int .i64)) →
      Hp.Own q' c' ((othT i l).map (Value.int .i64)) X → St h0 h (X ++ R) → side_Normal.l0 K2 (d + 1) q' (othT i l).length c' qn nx.length cn (n : Int) (i : Int) h
  | 0, i, h, q', c', X, nx, qn, cn, p, hi, hr, hge, hmem, hc, hb, kn, o, s => by
    unfold side_Normal.l0 side_Normal.b0
    have : i = n := by omega
    subst this
    exact iteB_neg (decide_eq_false (by omega)) (hk q' c' X h o s)
  | d + 1, i, h, q', c', X, nx, qn, cn, p, hi, hr, hge, hmem, hc, hb, kn, o, s => by
    unfold side_Normal.l0 side_Normal.b0
    refine iteB_pos (decide_eq_true (by omega)) ?_
    have et := othT_succ i l
    have hle := othT_len i l
    intro j
    have J : ¬ ((i : Int) ∈ nx) → j := fun hno => by
      simp -zeta only [j]
      have hnl : (!memS l (i : Int)) = true := by simp; exact fun h => hno ((hmem i (by omega)).1 h)
      rw [if_pos hnl] at et
      refine Hp.Own.push1 o s (by simp) rfl (by simp; omega) fun q2 c2 X2 h2 o2 s2 => ?_
      rw [List.length_map, wrap64 (by omega) (by omega)]
      have ih := snormal_l0 hn hk d (i + 1) h2 q2 c2 X2 nx qn cn p (by omega) hr (fun x hx => by
        have := hge x hx
        have : x ≠ i := fun e => hno (e ▸ hx)
        omega) (fun v hv => hmem v (by omega)) hc hb kn (by rw [et]; simpa using o2) s2
      rw [et, List.length_append] at ih; exact ih
    clear_value j
    cases nx with
    | nil => exact iteB_neg (decide_eq_false (by simp)) (J (by simp))
    | cons x r =>
      refine iteB_pos (decide_eq_true (by simp only [List.length_cons]; omega)) ?_
      have vn : valsAt h qn ((x :: r).map (Value.int .i64)) := kn h _ s (fun y hy => by simp [hy])
      obtain ⟨a, ha, ca⟩ := vn 0 (.int .i64 x) rfl
      subst ha
      refine ⟨⟨by omega, by simp only [List.length_cons]; omega⟩, x, ca, ?_⟩
      refine iteB_intro (fun e => ?_) fun e => ?_
      · have e : x = (i : Int) := by simpa using e
        subst e
        have hnl : ¬ (!memS l (i : Int)) = true := by simp; exact (hmem i (by omega)).2 (by simp)
        rw [if_neg hnl, List.append_nil] at et
        refine ⟨⟨by omega, by simp only [List.length_cons]; omega⟩, ?_⟩
        rw [wrap64 (x := (i : Int) + 1) (by omega) (by omega)]
        have key : ∀ (qn' : Option Addr) (cn' : Nat), r.length ≤ cn' → Keeps h0 R qn' (r.map (Value.int .i64)) → side_Normal.l0 K2 (d + 1) q' (othT i l).length c' qn' r.length cn' (n : Int) ((i + 1 : Nat) : Int) h := fun qn' cn' hc' kn' => by
          have ih := snormal_l0 hn hk d (i + 1) h q' c' X r qn' cn' (i : Int) (by omega) (riseS_tail hr) (fun y hy => by have := (riseS_mem (riseS_tail hr) y hy).1; omega) (fun v hv => by
            rw [hmem v (by omega)]
            constructor
            · intro h
              rcases List.mem_cons.1 h with h | h
              · omega
              · exact h
            · exact fun h => by simp [h]) hc' (by simp at hb; omega) kn' (by rw [et]; exact o) s
          rw [et] at ih; exact ih
        have hcn : r.length + 1 ≤ cn := by simpa using hc
        by_cases c1 : cn = 1
        · subst c1
          have hr0 : r = [] := List.length_eq_zero_iff.1 (by omega)
          subst hr0
          have := key (some a) 0 (by simp) (fun h' L' s' hs' i' x' hx' => by simp at hx')
          simpa using this
        · have := key (some (a.add 1)) (cn - 1) (by omega) (fun h' L' s' hs' i' x' hx' => by
            obtain ⟨b, hb1, hb2⟩ := kn h' L' s' hs' (i' + 1) x' (by simpa using hx')
            cases hb1
            refine ⟨_, rfl, ?_⟩
            rw [← hb2]; congr 1
            show (a.add 1).add i' = a.add (i' + 1)
            rw [addr_add]; congr 1; omega)
          have e3 : (if cn = (1 : Int).toNat then some a else (some a).map (·.add ((1 : Int).toNat * 1))) = some (a.add 1) := by rw [if_neg (by simpa using c1)]; rfl
          show side_Normal.l0 K2 (d + 1) q' (othT i l).length c' (if cn = (1 : Int).toNat then some a else (some a).map (·.add ((1 : Int).toNat * 1))) ((i :: r : List Int).length - (1 : Int).toNat) (cn - (1 : Int).toNat) (n : Int) ((i + 1 : Nat) : Int) h
          rw [e3]
          simpa using this
      · have e : x ≠ (i : Int) := by simpa using e
        refine J fun hm => ?_
        obtain ⟨r', hr'⟩ := rise_split hr (i : Int) hge hm
        exact e (List.cons.inj hr').1
theorem SNormal_of {h : Heap} {K : Option Addr → Nat → Nat → Int → Heap → Prop} (hn : n ≤ 4096) (hl : l.length = k) (hb : k < 2 ^ 40) (hc : k ≤ c) (kl : Keeps h0 R q (l.map (Value.int .i64))) (s : St h0 h R)
    (hk0 : chkS n l ≠ 0 → K none 0 0 (chkS n l) h)
    (hk : chkS n l = 0 → ∀ q' c' X h', Hp.Own q' c' ((nrmL n l).map (Value.int .i64)) X → St h0 h' (X ++ R) → K q' (nrmL n l).length c' 0 h') : side_Normal (n : Int) q k c h K := by
  unfold side_Normal
  refine qcallP1.of _ (fun Q hQ => SCheck_of hl hb (kl.at0 s) hQ) (iteB_intro (fun e => hk0 (by simpa using e)) fun e => ?_)
  have e : chkS n l = 0 := by simpa using e
  have hk := hk e
  have hrise : riseS n (-1) l = true := by
    apply Classical.byContradiction
    intro no
    unfold chkS at e; rw [if_neg no] at e; simp at e
  cases l with
  | nil =>
    unfold chkS at e
    rw [if_pos hrise, if_pos (.inl rfl)] at e; simp at e
  | cons x r =>
    obtain ⟨a, ha, ca⟩ := kl.at0 s 0 (.int .i64 x) rfl
    subst ha
    refine ⟨⟨by omega, by simp at hl; omega⟩, x, ca, ?_⟩
    have hx0 : ∀ y ∈ x :: r, 0 ≤ y := fun y hy => by have := (riseS_mem hrise y hy).1; omega
    refine iteB_intro (fun e2 => ?_) fun e2 => ?_
    · have e2 : x ≠ 0 := by simpa using e2
      have hno : ¬ (0 : Int) ∈ x :: r := fun hm => by
        obtain ⟨r', hr'⟩ := rise_split hrise 0 hx0 hm
        exact e2 (List.cons.inj hr').1
      have e3 : nrmL n (x :: r) = x :: r := if_neg hno
      rw [e3, hl] at hk
      exact callP3.self (CloneI_of hl hb kl s fun q' c' X h' o s' => hk q' c' X h' o s')
    · have e2 : x = 0 := by simpa using e2
      have e3 : nrmL n (x :: r) = othT n (x :: r) := if_pos (by simp [e2])
      rw [e3] at hk
      rw [← hl]
      exact ⟨n + 1, snormal_l0 (l := x :: r) hn (fun q' c' X h' o s' => hk q' c' X h' o s') n 0 h none 0 [] (x :: r) (some a) c (-1) (by omega) hrise hx0 (fun v _ => Iff.rfl) (by omega) (by omega) kl Hp.Own.nil s⟩
theorem SRight_of {h : Heap} {w : Int} {K : Bool → Heap → Prop} (nh : NetH h g n L) (hl : l.length = k) (hb : k < 2 ^ 40) (vl : valsAt h q (l.map (Value.int .i64))) (hk : ∀ h', Ext h h' → K (decide ((wgt n l L).2 = 0) && ((wgt n l L).1 == w)) h') : side_Right (some ⟨g, 0, none⟩) w q k c h K := by
  unfold side_Right
  refine (St.refl h).new_ fun b h1 s1 => ?_
  refine ⟨q, k, c, by rw [show (⟨b, 0, none⟩ : Addr).add 1 = ⟨b, 1, none⟩ from rfl, s1.rd0]; rfl, callP2.self (SWeight_of (nh.ext s1.ext) hl hb (vl.ext s1.ext) fun h2 e2 => ?_)⟩
  have hb0 : cell h2 ⟨b, 0, none⟩ = some (.int .i64 w) := e2.cell' (by rw [s1.rd0]; rfl)
  have H := hk h2 (s1.ext.trans e2)
  refine iteB_intro (fun e => ⟨w, hb0, ?_⟩) fun e => ?_
  · rw [decide_eq_true (by simpa using e), Bool.true_and] at H; exact H
  · rw [decide_eq_false (by simpa using e), Bool.false_and] at H; exact H
theorem SRight_nil {h : Heap} {w : Int} {K : Bool → Heap → Prop} (hl : l.length = k) (hb : k < 2 ^ 40) (vl : valsAt h q (l.map (Value.int .i64))) (hk : ∀ h', Ext h h' → K false h') : side_Right none w q k c h K := by
  unfold side_Right
  refine (St.refl h).new_ fun b h1 s1 => ?_
  refine ⟨q, k, c, by rw [show (⟨b, 0, none⟩ : Addr).add 1 = ⟨b, 1, none⟩ from rfl, s1.rd0]; rfl, callP2.self (SWeight_nil hl hb (vl.ext s1.ext) fun h2 e2 => ?_)⟩
  exact iteB_neg (by simpa using chkS_nil l) (hk h2 (s1.ext.trans e2))
theorem SCut_of {h : Heap} {K : Int → Option Addr → Nat → Nat → Int → Heap → Prop} (nh : ∀ h', St h0 h' R → NetH h' g n L) (hl : l.length = k) (hb : k < 2 ^ 40) (kl : Keeps h0 R q (l.map (Value.int .i64))) (s : St h0 h R)
    (hk0 : chkS n l ≠ 0 → ∀ h', St h0 h' R → K 0 none 0 0 (chkS n l) h')
    (hk : chkS n l = 0 → ∀ q' c' X h', Hp.Own q' c' (l.map (Value.int .i64)) X → St h0 h' (X ++ R) → K (wgt n l L).1 q' k c' 0 h') : side_Cut (some ⟨g, 0, none⟩) q k c h K := by
  unfold side_Cut
  refine s.new_ fun b h1 s1 => ?_
  refine callP2.self (SWeight_of (n := n) (L := L) (nh h1 s1.tail) hl hb (kl.cons.at0 s1) fun h2 e2 => ?_)
  · have s2 := s1.ofExt e2
    by_cases e : chkS n l = 0
    · have ew : (wgt n l L).2 = 0 := by unfold wgt; rw [if_pos e]
      rw [ew]
      refine iteB_neg rfl (callP3.self (CloneI_of hl hb kl.cons s2 fun q3 c3 X3 h3 o3 s3 => ?_))
      have s4 : St h0 h3 ((b, [.int .i64 0, .slice none 0 0]) :: (X3 ++ R)) := (St.re s3 (by intro a; simp only [cntR_append, cntR_cons, cntR_nil, List.cons_append, List.nil_append, List.set_cons_zero, List.set_cons_succ]; omega))
      refine s4.st0 (by simp) fun h4 s5 => ?_
      rw [add_mk]
      refine s5.st0 (by simp) fun h5 s6 => ?_
      simp only [List.set_cons_zero, List.set_cons_succ, Nat.zero_add] at s6
      try simp -zeta (disch := omega) only [chkP_some, iteB_true, iteB_false, add_mk, Nat.zero_add, Nat.add_zero, Nat.mul_one, Nat.reduceAdd, Int.toNat_natCast, ex_int, ex_slice, ex_ptr, ex_bool, ex_str, ex_flt, ex_any, bnd_in, List.getElem?_cons_zero, List.getElem?_cons_succ, List.set_cons_zero, List.set_cons_succ, List.cons_append, List.nil_append, bne_self_eq_false, beq_self_eq_true, Bool.not_true, Bool.not_false, Option.isNone_some, Option.isNone_none, eq_self, true_and, and_true, and_self, s6.rd0]
      exact hk e q3 c3 X3 h5 o3 s6.tail
    · have ew : (wgt n l L).2 = chkS n l := by unfold wgt; rw [if_neg e]
      rw [ew]
      refine iteB_pos (by simpa using e) (s2.st0 (by simp) fun h4 s5 => ?_)
      rw [add_mk]
      refine s5.st0 (by simp) fun h5 s6 => ?_
      simp only [List.set_cons_zero, List.set_cons_succ, Nat.zero_add] at s6
      try simp -zeta (disch := omega) only [chkP_some, iteB_true, iteB_false, add_mk, Nat.zero_add, Nat.add_zero, Nat.mul_one, Nat.reduceAdd, Int.toNat_natCast, ex_int, ex_slice, ex_ptr, ex_bool, ex_str, ex_flt, ex_any, bnd_in, List.getElem?_cons_zero, List.getElem?_cons_succ, List.set_cons_zero, List.set_cons_succ, List.cons_append, List.nil_append, bne_self_eq_false, beq_self_eq_true, Bool.not_true, Bool.not_false, Option.isNone_some, Option.isNone_none, eq_self, true_and, and_true, and_self, s6.rd0]
      exact hk0 e h5 s6.tail
end
end Go.Proofs.Ytbhndlpjfncliaa
