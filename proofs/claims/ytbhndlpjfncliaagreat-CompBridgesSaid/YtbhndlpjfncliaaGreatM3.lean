/-
  Classes of a graph: the program's Reach and Name.
-/
import Derived.Test.YtbhndlpjfncliaaGreatM2
namespace Go.Proofs.YtbhndlpjfncliaaGreat
set_option linter.unusedVariables false
set_option linter.unusedSimpArgs false
set_option linter.unnecessarySimpa false
open Go.Hp Go.RowKit
attribute [local irreducible] Go.Hp.iteB Go.Hp.stC Go.Hp.newP

def bools (n : Nat) (f : Nat → Bool) : List Value := tab 1 n fun i _ => .bool (f i)
theorem bools_length (n : Nat) (f : Nat → Bool) : (bools n f).length = n := by rw [bools, tab_length]; omega
theorem bools_get {n i : Nat} {f : Nat → Bool} (h : i < n) : (bools n f)[i]? = some (.bool (f i)) := by
  have := tab_get (w := 1) (f := fun i _ => Value.bool (f i)) h (show 0 < 1 by omega); rw [Nat.mul_one, Nat.add_zero] at this; exact this
theorem bools_set {n i : Nat} {f : Nat → Bool} {x : Bool} : (bools n f).set i (.bool x) = bools n (upd f i x) := by
  have := tab_set (w := 1) (n := n) (f := fun i _ => Value.bool (f i)) (i := i) (v := .bool x) (show 0 < 1 by omega); rw [Nat.mul_one, Nat.add_zero] at this
  unfold bools; rw [this]; apply tab_congr
  intro a o ha ho
  have : o = 0 := by omega
  subst this; unfold upd; by_cases e : a = i <;> simp [e]
theorem bools_zero (n : Nat) : zeroRow [.bool false] n = bools n fun _ => false := by
  rw [zeroRow_tab]; apply tab_congr; intro i o _ ho
  have : o = 0 := by simp at ho; omega
  subst this; rfl
def mm (W : List Nat) (u : Nat) : Bool := decide (u ∈ W)
theorem mm_upd (W : List Nat) (u : Nat) : upd (mm W) u true = mm (W ++ [u]) := by
  funext x
  unfold upd mm
  by_cases c : x = u
  · subst c; rw [if_pos rfl]; exact (decide_eq_true (by simp)).symm
  · rw [if_neg c]; refine decide_eq_decide.2 ?_; simp [c]
theorem len_le {n : Nat} {W : List Nat} (hd : W.Nodup) (hl : ∀ x ∈ W, x < n) : W.length ≤ n := by
  have p : W.Perm ((List.range n).filter fun x => decide (x ∈ W)) := (List.perm_ext_iff_of_nodup hd (List.nodup_range.filter _)).2 fun x => by
    rw [List.mem_filter, List.mem_range, decide_eq_true_eq]
    exact ⟨fun h => ⟨hl x h, h⟩, fun h => h.2⟩
  rw [p.length_eq]
  have := List.length_filter_le (fun x => decide (x ∈ W)) (List.range n)
  simpa using this
section
variable {h0 : Base} {R : Rws} {g n : Nat} {L : List Ed} {N : List (List Nat)}
theorem reach_l1 {Z : Rws} {K4 : Option Addr → Nat → Nat → Heap → Prop} {p0 qn : Option Addr} {bm cn : Nat} {iI : Int} {ln W0 : List Nat} (hn : n ≤ 4096) (hl : ln.length < 2 ^ 40) (hb : ∀ u ∈ ln, u < n) (kn : Keeps h0 Z qn (natV ln))
    (hk : ∀ h' q c X, Hp.Own q c (natV (visit W0 ln)) X → St h0 h' (X ++ ((bm, bools n (mm (visit W0 ln))) :: Z)) → K4 q (visit W0 ln).length c h') :
    ∀ (d j : Nat) (h : Heap) (q : Option Addr) (c lenW : Nat) (X : Rws) (W : List Nat), j + d = ln.length → visit W (ln.drop j) = visit W0 ln → W.Nodup → (∀ x ∈ W, x < n) → lenW = W.length → Hp.Own q c (natV W) X → St h0 h (X ++ ((bm, bools n (mm W)) :: Z)) →
      comp_Reach.l1 K4 (d + 1) p0 ⟨bm, 0, none⟩ n n q lenW c iI qn ln.length cn (ln.length : Int) (j : Int) h := by
  intro d
  induction d with
  | zero =>
    intro j h q c lenW X W hj hv hd hw hlen o s
    subst hlen
    unfold comp_Reach.l1 comp_Reach.b1
    have : j = ln.length := by omega
    subst this
    rw [List.drop_length] at hv
    have hv : W = visit W0 ln := hv
    subst hv
    exact iteB_neg (decide_eq_false (by omega)) (hk h q c X o s)
  | succ d ih =>
    intro j h q c lenW X W hj hv hd hw hlen o s
    subst hlen
    unfold comp_Reach.l1 comp_Reach.b1
    refine iteB_pos (decide_eq_true (by omega)) ?_
    obtain ⟨u, hu⟩ := get_lt (l := ln) (i := j) (by omega)
    have hun := hb u (List.mem_of_getElem? hu)
    have hWn := len_le hd hw
    rw [drop_cons hu, visit_cons] at hv
    have nx : IntKind.i64.wrap ((j : Int) + 1) = ((j + 1 : Nat) : Int) := by rw [wrap64 (by omega) (by omega)]; omega
    have vn : valsAt h qn (natV ln) := kn h _ s (fun x hx => by simp [hx])
    obtain ⟨a, rfl, hc⟩ := vn j (.int .i64 (u : Int)) (by unfold natV; rw [List.getElem?_map, hu]; rfl)
    rw [chkP_some]
    refine ⟨by omega, (u : Int), by rw [Int.toNat_natCast, Nat.mul_one]; exact hc, ⟨by omega, by omega⟩, mm W u, ?_, ?_⟩
    · rw [Int.toNat_natCast, Nat.mul_one, add_mk, Nat.zero_add]
      rw [(s.rows (bm, bools n (mm W)) (by simp)).cell]
      exact bools_get hun
    · by_cases cu : u ∈ W
      · have e : mm W u = true := decide_eq_true cu
        rw [if_pos cu] at hv
        rw [e, nx]
        exact iteB_neg rfl (ih (j + 1) h q c _ X W (by omega) hv hd hw rfl o s)
      · have e : mm W u = false := decide_eq_false cu
        rw [if_neg cu] at hv
        rw [e, nx]
        refine iteB_pos rfl ⟨by omega, ?_⟩
        have s1 : St h0 h ((bm, bools n (mm W)) :: (X ++ Z)) := (St.re s (by intro a; simp only [cntR_append, cntR_cons, cntR_nil, List.cons_append, List.nil_append, List.set_cons_zero, List.set_cons_succ]; omega))
        rw [Int.toNat_natCast, Nat.mul_one, add_mk, Nat.zero_add]
        refine s1.st0 (by rw [bools_length]; exact hun) fun h2 s2 => ?_
        rw [bools_set, mm_upd] at s2
        have s3 : St h0 h2 (X ++ ((bm, bools n (mm (W ++ [u]))) :: Z)) := (St.re s2 (by intro a; simp only [cntR_append, cntR_cons, cntR_nil, List.cons_append, List.nil_append, List.set_cons_zero, List.set_cons_succ]; omega))
        refine Hp.Own.push1 o s3 (by rw [natV_len]) rfl (by rw [natV_len]; omega) fun q2 c2 X2 h4 o2 s4 => ?_
        have e2 : natV W ++ [Value.int .i64 (u : Int)] = natV (W ++ [u]) := by simp [natV]
        rw [e2] at o2
        exact ih (j + 1) h4 q2 c2 _ X2 (W ++ [u]) (by omega) hv (List.nodup_append.2 ⟨hd, by simp, fun a ha b hb eab => cu (by rw [List.mem_singleton] at hb; subst hb; subst eab; exact ha)⟩)
          (fun x hx => by rcases List.mem_append.1 hx with hx | hx; exact hw x hx; obtain rfl := List.mem_singleton.1 hx; exact hun) (by rw [natV_len, List.length_append]; rfl) o2 s4
theorem reach_l0 {K2 : Option Addr → Nat → Nat → Heap → Prop} {bm v : Nat} (nh : NetG h0.heap g n L (nearL n L))
    (hk : ∀ h' q c X Y W, Met n L (joinsL n 0 (fun v => v) L) v W W.length → Hp.Own q c (natV W) X → St h0 h' (X ++ ((bm, bools n (mm W)) :: (Y ++ R))) → K2 q W.length c h') :
    ∀ (d i : Nat) (h : Heap) (q : Option Addr) (c lenW : Nat) (X Y : Rws) (W : List Nat), i + d = n → i ≤ W.length → lenW = W.length → Met n L (joinsL n 0 (fun v => v) L) v W i → Hp.Own q c (natV W) X → St h0 h (X ++ ((bm, bools n (mm W)) :: (Y ++ R))) →
      comp_Reach.l0 K2 (d + 1) (some ⟨g, 0, none⟩) ⟨bm, 0, none⟩ n n q lenW c (i : Int) h := by
  intro d
  have hn := nh.hn
  induction d with
  | zero =>
    intro i h q c lenW X Y W hi hiW hlen M o s
    subst hlen
    unfold comp_Reach.l0 comp_Reach.b0
    have : i = W.length := by have := M.len; omega
    subst this
    exact iteB_neg (decide_eq_false (by omega)) (hk h q c X Y W M o s)
  | succ d ih =>
    intro i h q c lenW X Y W hi hiW hlen M o s
    subst hlen
    unfold comp_Reach.l0 comp_Reach.b0
    by_cases e : i = W.length
    · subst e
      exact iteB_neg (decide_eq_false (by omega)) (hk h q c X Y W M o s)
    refine iteB_pos (decide_eq_true (by omega)) ?_
    obtain ⟨x, hx⟩ := get_lt (l := W) (i := i) (by omega)
    have hxn := M.lt x (List.mem_of_getElem? hx)
    have vW := o.keeps (h0 := h0) (R := X) (fun x hx => hx) h _ s (fun x hx => by simp [hx])
    obtain ⟨a, rfl, hc⟩ := vW i (.int .i64 (x : Int)) (by unfold natV; rw [List.getElem?_map, hx]; rfl)
    obtain ⟨ln, hln, hll, hm⟩ := near_row nh.gr hxn
    have M2 := M.step nh.gr hx hm
    rw [chkP_some]
    refine ⟨by omega, (x : Int), by rw [Int.toNat_natCast, Nat.mul_one]; exact hc, callP3.self (GNear_of nh s hxn hln hll fun qn cn Xn h2 on s2 => ⟨ln.length + 1, ?_⟩)⟩
    have s3 : St h0 h2 (X ++ ((bm, bools n (mm W)) :: (Xn ++ (Y ++ R)))) := (St.re s2 (by intro a; simp only [cntR_append, cntR_cons, cntR_nil, List.cons_append, List.nil_append, List.set_cons_zero, List.set_cons_succ]; omega))
    refine reach_l1 hn hll (fun u hu => ?_) (on.keeps fun x hx => by simp [hx]) (fun h4 q4 c4 X4 o4 s4 => ?_) ln.length 0 h2 (some a) c _ X W (by omega) rfl M.nodup M.lt rfl o s3
    · exact M2.lt u (visit_mem.2 (.inr hu))
    · rw [wrap64 (by omega) (by omega)]
      obtain ⟨Z, hZ⟩ := visit_pre ln W
      exact ih (i + 1) h4 q4 c4 _ X4 (Xn ++ Y) _ (by omega) (by rw [hZ, List.length_append]; omega) rfl M2 o4 (by simpa [List.append_assoc] using s4)
/-- What hangs together with a vertex. -/
def reachF (n : Nat) (L : List Ed) (v : Int) : List Nat := if 0 ≤ v ∧ v < n then clsF (joinsL n 0 (fun v => v) L) n (joinsL n 0 (fun v => v) L v.toNat) else []
theorem Reach_of {h : Heap} {v : Int} {K : Option Addr → Nat → Nat → Heap → Prop} (nh : NetG h0.heap g n L (nearL n L)) (s : St h0 h R)
    (hk : ∀ h' q c Y, Keeps h0 (Y ++ R) q (natV (reachF n L v)) → St h0 h' (Y ++ R) → K q (reachF n L v).length c h') : comp_Reach (some ⟨g, 0, none⟩) v h K := by
  unfold comp_Reach
  have hn := nh.hn
  by_cases hv : 0 ≤ v ∧ v < n
  · obtain ⟨x, rfl⟩ := Int.eq_ofNat_of_zero_le hv.1
    have hx : x < n := by omega
    unfold reachF at hk
    rw [if_pos hv, Int.toNat_natCast] at hk
    intro j
    have J : j := by
      simp -zeta only [j]
      refine qcallP1.of (n : Int) (fun Q hQ => GN_of nh s hQ) ⟨by omega, s.new_ fun bm h1 s1 => ?_⟩
      rw [Int.toNat_natCast, Int.toNat_natCast] 
      rw [Int.toNat_natCast, bools_zero] at s1
      refine ⟨by omega, ?_⟩
      rw [Nat.mul_one, add_mk, Nat.zero_add]
      refine s1.st0 (by rw [bools_length]; exact hx) fun h2 s2 => s2.new_ fun b h3 s3 => ?_
      rw [bools_set] at s3
      have e1 : upd (fun _ => false) x true = mm [x] := mm_upd [] x
      rw [e1] at s3
      refine ⟨n + 1, reach_l0 (R := R) nh (fun h4 q c X Y W M o s4 => ?_) n 0 h3 (some ⟨b, 0, none⟩) 1 1 [(b, natV [x])] [] [x] (by omega) (by simp) rfl (Met.start hx) (.inr ⟨b, [], rfl, rfl, by simp⟩) s3⟩
      have hW := M.len
      refine callP0.self (SortN_of rfl (by omega) o s4 fun X5 h5 o5 s5 => ?_)
      have eW := M.all nh.gr hx
      rw [eW] at o5
      have el : W.length = (clsF (joinsL n 0 (fun v => v) L) n (joinsL n 0 (fun v => v) L x)).length := by rw [← eW, sortN_len]
      rw [el]
      exact hk h5 q c (X5 ++ ((bm, bools n (mm W)) :: Y)) (o5.keeps fun y hy => by simp [hy]) (by simpa [List.append_assoc] using s5)
    clear_value j
    exact iteB_neg (decide_eq_false (by omega)) (qcallP1.of (n : Int) (fun Q hQ => GN_of nh s hQ) (iteB_neg (decide_eq_false (by omega)) J))
  · unfold reachF at hk
    rw [if_neg hv] at hk
    have k := hk h none 0 [] Keeps.nil s
    intro j
    clear_value j
    refine iteB_intro (fun _ => k) (fun e => qcallP1.of (n : Int) (fun Q hQ => GN_of nh s hQ) (iteB_pos (decide_eq_true ?_) k))
    have e := of_decide_eq_false e; omega
theorem Reach_nil {h : Heap} {v : Int} {K : Option Addr → Nat → Nat → Heap → Prop} (hk : K none 0 0 h) : comp_Reach none v h K := by
  unfold comp_Reach
  intro j
  clear_value j
  refine iteB_intro (fun _ => hk) (fun e => qcallP1.of (0 : Int) (fun Q hQ => GN_nil hQ) (iteB_pos (decide_eq_true ?_) hk))
  have e := of_decide_eq_false e; omega
/-! ### Names -/
theorem name_l0 {K2 : Heap → Prop} {C : Nat → Nat} {a : DA} {b : Nat} (hn : n ≤ 4096) (na : Names n C)
    (hk : ∀ h' z, z.n = n → DInv z C → St h0 h' ((b, intN n C) :: (z.rows a ++ R)) → K2 h') :
    ∀ (d i : Nat) (h : Heap) (z : DS) (f : Nat → Nat), i + d = n → z.n = n → (∀ j, j < i → f j = C j) → DInv z C → St h0 h ((b, intN n f) :: (z.rows a ++ R)) →
      comp_Name.l0 K2 (d + 1) ⟨b, 0, none⟩ n n (some ⟨a.b, 0, none⟩) (n : Int) (i : Int) h := by
  intro d
  induction d with
  | zero =>
    intro i h z f hi zn hf iv s
    unfold comp_Name.l0 comp_Name.b0
    have : i = n := by omega
    subst this
    rw [intN_congr hf] at s
    exact iteB_neg (decide_eq_false (by omega)) (hk h z zn iv s)
  | succ d ih =>
    intro i h z f hi zn hf iv s
    unfold comp_Name.l0 comp_Name.b0
    refine iteB_pos (decide_eq_true (by omega)) ?_
    have s1 : St h0 h (z.rows a ++ ((b, intN n f) :: R)) := (St.re s (by intro a; simp only [cntR_append, cntR_cons, cntR_nil, List.cons_append, List.nil_append, List.set_cons_zero, List.set_cons_succ]; omega))
    refine callP1.self (DOf_of (v := (i : Int)) iv s1 fun h2 U iv2 s2 => ⟨⟨by omega, by omega⟩, ?_⟩)
    have s3 : St h0 h2 ((b, intN n f) :: (({ z with up := U } : DS).rows a ++ R)) := (St.re s2 (by intro a; simp only [cntR_append, cntR_cons, cntR_nil, List.cons_append, List.nil_append, List.set_cons_zero, List.set_cons_succ]; omega))
    rw [Int.toNat_natCast, Nat.mul_one, add_mk, Nat.zero_add]
    have eo : ofF C z.n (i : Int) = (C i : Int) := by unfold ofF; rw [if_pos (by omega), Int.toNat_natCast]
    rw [eo]
    refine s3.st0 (by rw [intN_len]; omega) fun h4 s4 => ?_
    rw [intN_set] at s4
    rw [wrap64 (by omega) (by omega)]
    refine ih (i + 1) h4 { z with up := U } (upd f i (C i)) (by omega) zn (fun j hj => ?_) iv2 s4
    by_cases c : j = i
    · subst c; rw [upd_same]
    · rw [upd_ne _ _ c]; exact hf j (by omega)
theorem Name_of {h : Heap} {K : Option Addr → Nat → Nat → Heap → Prop} (nh : NetG h0.heap g n L N) (s : St h0 h R)
    (hk : ∀ h' q c Y, Keeps h0 (Y ++ R) q (intN n (joinsL n 0 (fun v => v) L)) → St h0 h' (Y ++ R) → K q n c h') : comp_Name (some ⟨g, 0, none⟩) h K := by
  unfold comp_Name
  have hn := nh.hn
  refine qcallP1.of (n : Int) (fun Q hQ => GN_of nh s hQ) ⟨by omega, s.new_ fun b h1 s1 => ?_⟩
  rw [Int.toNat_natCast] at s1 ⊢
  rw [intN_zero] at s1
  refine callP1.self (Joined_of nh s1 fun h2 a z Y zn iv s2 => ⟨n + 1, ?_⟩)
  have s3 : St h0 h2 ((b, intN n fun _ => 0) :: (z.rows a ++ (Y ++ R))) := (St.re s2 (by intro a; simp only [cntR_append, cntR_cons, cntR_nil, List.cons_append, List.nil_append, List.set_cons_zero, List.set_cons_succ]; omega))
  refine name_l0 (R := Y ++ R) hn (by have := iv.names; rw [zn] at this; exact this) (fun h4 z4 zn4 iv4 s4 => ?_) n 0 h2 z _ (by omega) zn (fun j hj => by omega) iv s3
  exact hk h4 _ n ((b, intN n (joinsL n 0 (fun v => v) L)) :: (z4.rows a ++ Y)) (Keeps.own (z := []) (by simp)) (by simpa [List.append_assoc] using s4)
theorem Name_nil {h : Heap} {K : Option Addr → Nat → Nat → Heap → Prop} (s : St h0 h R)
    (hk : ∀ h' q c Y, St h0 h' (Y ++ R) → K q 0 c h') : comp_Name none h K := by
  unfold comp_Name
  refine qcallP1.of (0 : Int) (fun Q hQ => GN_nil hQ) ⟨by omega, s.new_ fun b h1 s1 => ?_⟩
  refine callP1.self (Joined_nil s1 fun h2 a Y s2 => ⟨1, ?_⟩)
  unfold comp_Name.l0 comp_Name.b0
  exact iteB_neg rfl (hk h2 _ 0 ((DS.new 0).rows a ++ (Y ++ [(b, _)])) (by simpa [List.append_assoc] using s2))
end
end Go.Proofs.YtbhndlpjfncliaaGreat
