/-
  Bridges: what the program tells.
-/
import Derived.Test.YtbhndlpjfncliaaGreatM6
namespace Go.Proofs.YtbhndlpjfncliaaGreat
set_option linter.unusedVariables false
set_option linter.unusedSimpArgs false
set_option linter.unnecessarySimpa false
open Go.Hp Go.RowKit
attribute [local irreducible] Go.Hp.iteB Go.Hp.stC Go.Hp.newP

/-! ### Bounds -/
def Bd (s : BSt) (k : Nat) : Prop := s.time ≤ k ∧ s.found.length ≤ k ∧ ∀ v, s.low v ≤ k ∧ s.met v ≤ k
theorem Bd.more {s : BSt} {k m : Nat} (b : Bd s k) (h : k ≤ m) : Bd s m := ⟨Nat.le_trans b.1 h, Nat.le_trans b.2.1 h, fun v => ⟨Nat.le_trans (b.2.2 v).1 h, Nat.le_trans (b.2.2 v).2 h⟩⟩
theorem upd_le {f : Nat → Nat} {i x k : Nat} (h : ∀ v, f v ≤ k) (hx : x ≤ k) : ∀ v, upd f i x v ≤ k := fun v => by unfold upd; split; exact hx; exact h v
theorem Bd.step {N : List (List Nat)} {s : BSt} {k : Nat} (b : Bd s k) : Bd (stepB N s) (k + 1) := by
  obtain ⟨met, low, t, F, way⟩ := s
  obtain ⟨b1, b2, b3⟩ := b
  simp only at b1 b2 b3
  have hl : ∀ v, low v ≤ k + 1 := fun v => by have := (b3 v).1; omega
  have hm : ∀ v, met v ≤ k + 1 := fun v => by have := (b3 v).2; omega
  unfold stepB
  split
  · exact ⟨by simp only; omega, by simp only; omega, fun v => ⟨hl v, hm v⟩⟩
  · rename_i v fr r hw
    simp only at hw
    split
    · refine ⟨by simp only; omega, ?_, fun v => ⟨upd_le hl (by simp only; have := hl fr.toNat; omega) v, hm v⟩⟩
      simp only
      split
      · rw [List.length_append, List.length_singleton]; omega
      · omega
    · exact ⟨by simp only; omega, by simp only; omega, fun v => ⟨hl v, hm v⟩⟩
  · rename_i v fr u rest r hw
    split
    · exact ⟨by simp only; omega, by simp only; omega, fun v => ⟨hl v, hm v⟩⟩
    · split
      · exact ⟨by simp only; omega, by simp only; omega, fun w => ⟨upd_le hl (by simp only; have := hl v; omega) w, hm w⟩⟩
      · exact ⟨by simp only; omega, by simp only; omega, fun w => ⟨upd_le hl (by simp only; omega) w, upd_le hm (by simp only; omega) w⟩⟩
theorem Bd.run {N : List (List Nat)} : ∀ {m : Nat} {s s' : BSt} {k : Nat}, Bd s k → runB N m s = some s' → Bd s' (k + m) ∧ s'.way = []
  | 0, s, s', k, b, h => by
    unfold runB at h
    split at h
    · rename_i hw; obtain rfl := Option.some.inj h; exact ⟨b, hw⟩
    · cases h
  | m + 1, s, s', k, b, h => by
    unfold runB at h
    split at h
    · rename_i hw; obtain rfl := Option.some.inj h; exact ⟨b.more (by omega), hw⟩
    · have := Bd.run (b.step (N := N)) h
      exact ⟨this.1.more (by omega), this.2⟩
def openB (N : List (List Nat)) (v : Nat) (s : BSt) : BSt := ⟨upd s.met v (s.time + 1), upd s.low v (s.time + 1), s.time + 1, s.found, [(v, -1, N.getD v [])]⟩
theorem Bd.opened {N : List (List Nat)} {v : Nat} {s : BSt} {k : Nat} (b : Bd s k) : Bd (openB N v s) (k + 1) :=
  ⟨by have := b.1; simp only [openB]; omega, by have := b.2.1; simp only [openB]; omega, fun w => ⟨upd_le (fun v => by have := (b.2.2 v).1; omega) (by have := b.1; omega) w, upd_le (fun v => by have := (b.2.2 v).2; omega) (by have := b.1; omega) w⟩⟩
def outB (N : List (List Nat)) (m : Nat) : List Nat → BSt → Option BSt
  | [], s => some s
  | v :: vs, s => if s.met v = 0 then (match runB N m (openB N v s) with | some s' => outB N m vs s' | none => none) else outB N m vs s
def inF (F : List (Nat × Nat)) (e : Ed) : Bool := decide ((e.1.toNat, e.2.1.toNat) ∈ F) || decide ((e.2.1.toNat, e.1.toNat) ∈ F)
def brgT (F : List (Nat × Nat)) (L : List Ed) (i : Nat) : List Nat := (List.range i).filter fun j => match L[j]? with | some e => inF F e | none => false
theorem brgT_succ {F : List (Nat × Nat)} {L : List Ed} {i : Nat} {e : Ed} (he : L[i]? = some e) : brgT F L (i + 1) = brgT F L i ++ (if inF F e = true then [i] else []) := by
  unfold brgT
  rw [filter_succ, he]
section
variable {h0 : Base} {R : Rws} {g n bw bm bl : Nat} {L : List Ed} {N : List (List Nat)}
theorem From_of {h : Heap} {v m k : Nat} {s : BSt} {st' : BSt} {qf : Option Addr} {cf : Nat} {Xf Y : Rws} {K : Heap → Prop} (nh : NetG h0.heap g n L N) (hN : ∀ v, v < n → ∃ l, N[v]? = some l ∧ l.length < 2 ^ 40 ∧ ∀ u ∈ l, u < n)
    (hv : v < n) (hr : runB N m (openB N v s) = some st') (hb : Bd s k) (hk2 : k + m + 2 ≤ 2 ^ 38) (of : OwnK 2 qf cf (fV s.found) Xf)
    (S : St h0 h ((bw, wHead g bm bl n s.time qf s.found.length cf) :: (bm, intN n s.met) :: (bl, intN n s.low) :: (Xf ++ (Y ++ R))))
    (hk : ∀ h' qf cf Xf Y, OwnK 2 qf cf (fV st'.found) Xf → St h0 h' ((bw, wHead g bm bl n st'.time qf st'.found.length cf) :: (bm, intN n st'.met) :: (bl, intN n st'.low) :: (Xf ++ (Y ++ R))) → K h') : comp_walk_from (some ⟨bw, 0, none⟩) (v : Int) h K := by
  unfold comp_walk_from
  obtain ⟨l, hl, hll, hlu⟩ := hN v hv
  have eg : N.getD v [] = l := by rw [List.getD_eq_getElem?_getD, hl]; rfl
  have bo := hb.opened (N := N) (v := v)
  refine callP5.self (open_of nh hv hl hll (by have := hb.1; omega) S fun h2 q c X o s2 => s2.new_ fun b h3 s3 => ⟨m + 1, ?_⟩)
  have s4 : St h0 h3 ((bw, wHead g bm bl n (s.time + 1) qf s.found.length cf) :: (bm, intN n (upd s.met v (s.time + 1))) :: (bl, intN n (upd s.low v (s.time + 1))) :: (Xf ++ ([(b, [Value.int .i64 (v : Int), .int .i64 (-1), .slice q l.length c])] ++ ((X ++ Y) ++ R)))) := (St.re s3 (by intro a; simp only [cntR_append, cntR_cons, cntR_nil, List.cons_append, List.nil_append, List.set_cons_zero, List.set_cons_succ]; omega))
  have hc : l.length ≤ c := by
    rcases o with ⟨_, _, h1, _⟩ | ⟨_, zz, _, h1, _⟩
    · have : l = [] := by simpa [natV] using h1
      subst this; exact Nat.zero_le _
    · rw [List.length_append, natV_len] at h1; omega
  refine from_l0 (ws := [⟨v, -1, q, c, l⟩]) nh hN (fun h' qf cf Xf Y o' s' => hk h' qf cf Xf Y o' s') m h3 _ _ _ _ _ qf _ cf 1 Xf _ (X ++ Y) rfl ?_ ?_ ?_ ?_ (fun w _ => ?_) of (.inr ⟨b, [], rfl, rfl, rfl⟩) ⟨fun y hy => ?_⟩ s4
  · rw [← eg]; exact hr
  · have := hb.1; omega
  · have := hb.2.1; omega
  · rw [List.length_singleton]; omega
  · have := bo.2.2 w; simp only [openB] at this; omega
  · obtain rfl := List.mem_singleton.1 hy
    exact ⟨hv, fun h => absurd (show (0 : Int) ≤ -1 from h) (by decide), hlu, hc, o.keeps fun y hy => by simp [hy]⟩
theorem bridges_l0 {K2 : Heap → Prop} {m : Nat} {st' : BSt} (nh : NetG h0.heap g n L N) (hN : ∀ v, v < n → ∃ l, N[v]? = some l ∧ l.length < 2 ^ 40 ∧ ∀ u ∈ l, u < n) (hm : m ≤ 2 ^ 20)
    (hk : ∀ h' qf cf Xf Y, OwnK 2 qf cf (fV st'.found) Xf → st'.found.length ≤ 2 ^ 38 → St h0 h' ((bw, wHead g bm bl n st'.time qf st'.found.length cf) :: (bm, intN n st'.met) :: (bl, intN n st'.low) :: (Xf ++ (Y ++ R))) → K2 h') :
    ∀ (d i : Nat) (h : Heap) (s : BSt) (qf : Option Addr) (cf : Nat) (Xf Y : Rws), i + d = n → outB N m ((List.range n).drop i) s = some st' → Bd s (i * (m + 2)) → OwnK 2 qf cf (fV s.found) Xf →
      St h0 h ((bw, wHead g bm bl n s.time qf s.found.length cf) :: (bm, intN n s.met) :: (bl, intN n s.low) :: (Xf ++ (Y ++ R))) →
      comp_Bridges.l0 K2 (d + 1) (some ⟨g, 0, none⟩) ⟨bw, 0, none⟩ (n : Int) (i : Int) h := by
  intro d
  have hn := nh.hn
  induction d with
  | zero =>
    intro i h s qf cf Xf Y hi ho hb of S
    unfold comp_Bridges.l0 comp_Bridges.b0
    have : i = n := by omega
    subst this
    rw [List.drop_of_length_le (by simp)] at ho
    obtain rfl := Option.some.inj ho
    exact iteB_neg (decide_eq_false (by omega)) (hk h qf cf Xf Y of (by have := hb.2.1; have := Nat.mul_le_mul hn (Nat.add_le_add_right hm 2); omega) S)
  | succ d ih =>
    intro i h s qf cf Xf Y hi ho hb of S
    unfold comp_Bridges.l0 comp_Bridges.b0
    have hg : (List.range n)[i]? = some i := by rw [List.getElem?_range (by omega)]
    rw [drop_cons hg] at ho
    have hbig : i * (m + 2) ≤ 4096 * (2 ^ 20 + 2) := Nat.mul_le_mul (by omega) (by omega)
    have hnext : (i + 1) * (m + 2) = i * (m + 2) + (m + 2) := by rw [Nat.add_mul, Nat.one_mul]
    refine iteB_pos (decide_eq_true (by omega)) ⟨_, _, _, S.rd0 1, ?_⟩
    rw [chkP_some]
    refine ⟨⟨by omega, by omega⟩, (s.met i : Int), ?_, ?_⟩
    · rw [Int.toNat_natCast, Nat.mul_one, add_mk, Nat.zero_add, (S.rows (bm, intN n s.met) (by simp)).cell]; exact intN_get (by omega)
    rw [wrap64 (by omega) (by omega)]
    unfold outB at ho
    refine iteB_intro (fun e => ?_) fun e => ?_
    · have e : s.met i = 0 := by have e : (s.met i : Int) = 0 := by simpa using e
                                 omega
      rw [if_pos e] at ho
      cases hr : runB N m (openB N i s) with
      | none => rw [hr] at ho; cases ho
      | some s2 =>
        rw [hr] at ho
        have b2 := (hb.opened (N := N) (v := i)).run hr
        refine callP0.self (From_of nh hN (by omega) hr hb (by omega) of S fun h3 q3 c3 X3 Y3 o3 s3 => ?_)
        exact ih (i + 1) h3 s2 q3 c3 X3 Y3 (by omega) ho (b2.1.more (by omega)) o3 s3
    · have e : ¬ s.met i = 0 := by have e : ¬ (s.met i : Int) = 0 := by simpa using e
                                   omega
      rw [if_neg e] at ho
      exact ih (i + 1) h s qf cf Xf Y (by omega) ho (hb.more (by omega)) of S
theorem idx2_l0 {K0 : Int → Heap → Prop} {K2 : Heap → Prop} {h : Heap} {q : Option Addr} {c bb : Nat} {F : List (Nat × Nat)} {x y : Nat} (hF : F.length ≤ 2 ^ 38) (v : valsAt h q (fV F)) (hb : ∀ j, cell h ⟨bb, j, none⟩ = [Value.int .i64 (x : Int), .int .i64 (y : Int)][j]?)
    (hk0 : (x, y) ∈ F → ∀ i : Nat, K0 (i : Int) h) (hk2 : (x, y) ∉ F → K2 h) :
    ∀ (d i : Nat), i + d = F.length → (x, y) ∉ F.take i → slices_Index_L_2_int_2_int.l0 K0 K2 (d + 1) q F.length c ⟨bb, 0, none⟩ (F.length : Int) (i : Int) h := by
  intro d
  induction d with
  | zero =>
    intro i hi hne
    unfold slices_Index_L_2_int_2_int.l0 slices_Index_L_2_int_2_int.b0
    have : i = F.length := by omega
    subst this
    rw [List.take_length] at hne
    exact iteB_neg (decide_eq_false (by omega)) (hk2 hne)
  | succ d ih =>
    intro i hi hne
    unfold slices_Index_L_2_int_2_int.l0 slices_Index_L_2_int_2_int.b0
    obtain ⟨p, hp⟩ := get_lt (l := F) (i := i) (by omega)
    have fget : ∀ (F : List (Nat × Nat)) (i : Nat) (p : Nat × Nat), F[i]? = some p → (fV F)[i * 2]? = some (.int .i64 (p.1 : Int)) ∧ (fV F)[i * 2 + 1]? = some (.int .i64 (p.2 : Int)) := by
      intro F
      induction F with
      | nil => intro i p h; simp at h
      | cons e r ih =>
        intro i p h
        cases i with
        | zero => obtain rfl : e = p := by simpa using h
                  exact ⟨rfl, rfl⟩
        | succ i =>
          have := ih i p (by simpa using h)
          rw [show (i + 1) * 2 = i * 2 + 1 + 1 by omega]
          exact this
    obtain ⟨f1, f2⟩ := fget F i p hp
    obtain ⟨a, rfl, g1⟩ := v _ _ f1
    obtain ⟨a2, ha2, g2⟩ := v _ _ f2
    cases ha2
    refine iteB_pos (decide_eq_true (by omega)) ⟨_, hb 0, _, hb 1, ?_⟩
    rw [chkP_some, Int.toNat_natCast]
    refine ⟨⟨by omega, by omega⟩, _, g1, _, by rw [addr_add]; exact g2, ?_⟩
    rw [eqAll2]
    refine iteB_intro (fun e => hk0 ?_ i) fun e => ?_
    · rw [Bool.and_eq_true, beq_iff_eq, beq_iff_eq] at e
      have : p = (x, y) := Prod.ext (by omega) (by omega)
      rw [← this]; exact List.mem_of_getElem? hp
    · rw [wrap64 (by omega) (by omega)]
      refine ih (i + 1) (by omega) fun hm => ?_
      rw [take_snoc hp] at hm
      rcases List.mem_append.1 hm with hm | hm
      · exact hne hm
      · obtain rfl := List.mem_singleton.1 hm
        simp at e
theorem Contains_of {h : Heap} {q : Option Addr} {c : Nat} {F : List (Nat × Nat)} {x y : Nat} {K : Bool → Heap → Prop} (hF : F.length ≤ 2 ^ 38) (v : Keeps h0 R q (fV F)) (s : St h0 h R)
    (hk : ∀ h' Y, St h0 h' (Y ++ R) → K (decide ((x, y) ∈ F)) h') : slices_Contains_L_2_int_2_int q F.length c (x : Int) (y : Int) h K := by
  unfold slices_Contains_L_2_int_2_int
  refine s.new_ fun b0 h0' s0 => ⟨_, s0.rd0 0, _, s0.rd0 1, callP1.self ?_⟩
  unfold slices_Index_L_2_int_2_int
  refine s0.new_ fun bb h1 s1 => ⟨F.length + 1, idx2_l0 hF (v.cons.cons.at0 s1) (fun j => s1.rd0 j) (fun hm i => ?_) (fun hm => ?_) F.length 0 (by omega) (by simp)⟩
  · have := hk h1 [(bb, _), (b0, _)] s1
    rw [decide_eq_true hm] at this
    show K (decide ((i : Int) ≥ 0)) h1
    rw [decide_eq_true (show (i : Int) ≥ 0 by omega)]; exact this
  · have := hk h1 [(bb, _), (b0, _)] s1
    rw [decide_eq_false hm] at this
    exact this
theorem bridges_l1 {K4 : Option Addr → Nat → Nat → Heap → Prop} {st' : BSt} {Z : Rws} {qe qf : Option Addr} {ce cf : Nat} (G : Gr n L) (hF : st'.found.length ≤ 2 ^ 38) (hm : (bw, wHead g bm bl n st'.time qf st'.found.length cf) ∈ Z) (kf : Keeps h0 Z qf (fV st'.found)) (ke : Keeps h0 Z qe (eV L))
    (hk : ∀ h' q c X Y, Hp.Own q c (natV (brgT st'.found L L.length)) X → St h0 h' (X ++ (Y ++ Z)) → K4 q (brgT st'.found L L.length).length c h') :
    ∀ (d i : Nat) (h : Heap) (q : Option Addr) (c : Nat) (X Y : Rws), i + d = L.length → Hp.Own q c (natV (brgT st'.found L i)) X → St h0 h (X ++ (Y ++ Z)) →
      comp_Bridges.l1 K4 (d + 1) ⟨bw, 0, none⟩ q (brgT st'.found L i).length c qe L.length ce (L.length : Int) (i : Int) h := by
  intro d
  have hL := G.len
  induction d with
  | zero =>
    intro i h q c X Y hi o s
    unfold comp_Bridges.l1 comp_Bridges.b1
    have : i = L.length := by omega
    subst this
    exact iteB_neg (decide_eq_false (by omega)) (hk h q c X Y o s)
  | succ d ih =>
    intro i h q c X Y hi o s
    unfold comp_Bridges.l1 comp_Bridges.b1
    refine iteB_pos (decide_eq_true (by omega)) ?_
    obtain ⟨e, he⟩ := get_lt (l := L) (i := i) (by omega)
    have hle : (brgT st'.found L i).length ≤ i := filter_le _ _
    have hs := brgT_succ (F := st'.found) he
    have r := G.range e (List.mem_of_getElem? he)
    obtain ⟨u, v, w⟩ := e
    simp only at r
    obtain ⟨x, rfl⟩ : ∃ a : Nat, u = a := ⟨u.toNat, by omega⟩
    obtain ⟨y, rfl⟩ : ∃ a : Nat, v = a := ⟨v.toNat, by omega⟩
    have nx : IntKind.i64.wrap ((i : Int) + 1) = ((i + 1 : Nat) : Int) := by rw [wrap64 (by omega) (by omega)]; omega
    intro j
    have J : ∀ (q' : Option Addr) (c' : Nat) (X' Y' : Rws) (h' : Heap), Hp.Own q' c' (natV (brgT st'.found L (i + 1))) X' → St h0 h' (X' ++ (Y' ++ Z)) → j q' (brgT st'.found L (i + 1)).length c' h' := fun q' c' X' Y' h' o' s' => by
      simp -zeta only [j]
      rw [nx]
      exact ih (i + 1) h' q' c' X' Y' (by omega) o' s'
    clear_value j
    have push : ∀ {h' : Heap} {Y' : Rws}, inF st'.found ((x : Int), (y : Int), w) = true → St h0 h' (X ++ (Y' ++ Z)) →
        newP h' (.cells #[(.int .i64 (i : Int))] 3) fun a h2 => ∃ n, cellsAt h2 (some a) (1 * 1) n ∧ appP 3 1 8 [(.int .i64 0)] q (brgT st'.found L i).length c 1 n h2 fun q2 l2 c2 h3 => j q2 l2 c2 h3 := fun {h'} {Y'} hin s' => by
      rw [if_pos hin] at hs
      refine Hp.Own.push1 o s' (by rw [natV_len]) rfl (by rw [natV_len]; omega) fun q2 c2 X2 h4 o2 s4 => ?_
      have e2 : natV (brgT st'.found L i) ++ [Value.int .i64 (i : Int)] = natV (brgT st'.found L (i + 1)) := by rw [hs]; simp [natV]
      rw [e2] at o2
      have := J q2 c2 X2 Y' h4 o2 s4
      rw [hs, List.length_append, List.length_singleton] at this
      rw [natV_len]; exact this
    have vq : valsAt h qe (eV L) := ke h _ s (fun x hx => by simp [hx])
    obtain ⟨a0, rfl, g0⟩ := vq _ _ (eV_get0 he)
    obtain ⟨a1, ha1, g1⟩ := vq _ _ (eV_get1 he)
    obtain ⟨a2, ha2, g2⟩ := vq _ _ (eV_get2 he)
    cases ha1; cases ha2
    rw [chkP_some, Int.toNat_natCast]
    refine ⟨by omega, _, g0, _, by rw [addr_add]; exact g1, _, by rw [addr_add]; exact g2, s.new_ fun b h2 s2 => s2.st0 (by simp) fun h3 s3 => ?_⟩
    rw [add_mk, add_mk]
    refine s3.st0 (by simp) fun h4 s4 => s4.st0 (by simp) fun h5 s5 => ?_
    simp only [List.set_cons_zero, List.set_cons_succ, Nat.zero_add] at s5
    have rw5 : ∀ {h' : Heap} {T : Rws}, St h0 h' T → (∀ x ∈ Z, x ∈ T) → ∀ j, cell h' ⟨bw, j, none⟩ = (wHead g bm bl n st'.time qf st'.found.length cf)[j]? := fun s' hs' => s'.rd (hs' _ hm)
    have inT : ∀ p : Bool, inF st'.found ((x : Int), (y : Int), w) = (decide ((x, y) ∈ st'.found) || decide ((y, x) ∈ st'.found)) := fun _ => by
      unfold inF; simp only [Int.toNat_natCast]
    refine ⟨_, _, _, rw5 s5 (fun x hx => by simp [hx]) 4, _, s5.rd0 0, _, s5.rd0 1, callP1.self (Contains_of hF (kf.sub fun x hx => by simp [hx]) s5 fun h6 Y6 s6 => ?_)⟩
    refine iteB_intro (fun e => ?_) fun e => ?_
    · refine push (Y' := Y6 ++ ((b, [.int .i64 (x : Int), .int .i64 (y : Int), .int .i64 w]) :: Y)) ?_ ((St.re s6 (by intro a; simp only [cntR_append, cntR_cons, cntR_nil, List.cons_append, List.nil_append, List.set_cons_zero, List.set_cons_succ]; omega)))
      rw [inT true, e, Bool.true_or]
    · have rb : ∀ j, cell h6 ⟨b, j, none⟩ = [Value.int .i64 (x : Int), .int .i64 (y : Int), .int .i64 w][j]? := s6.rd (by simp)
      refine ⟨_, _, _, rw5 s6 (fun x hx => by simp [hx]) 4, _, rb 1, _, rb 0, callP1.self (Contains_of hF (kf.sub fun x hx => by simp [hx]) s6 fun h7 Y7 s7 => ?_)⟩
      refine iteB_intro (fun e2 => ?_) fun e2 => ?_
      · refine push (Y' := Y7 ++ (Y6 ++ ((b, [.int .i64 (x : Int), .int .i64 (y : Int), .int .i64 w]) :: Y))) ?_ ((St.re s7 (by intro a; simp only [cntR_append, cntR_cons, cntR_nil, List.cons_append, List.nil_append, List.set_cons_zero, List.set_cons_succ]; omega)))
        rw [inT true, e2, Bool.or_true]
      · rw [inT true, e, e2] at hs
        rw [if_neg (by decide), List.append_nil] at hs
        have := J q c X (Y7 ++ (Y6 ++ ((b, [.int .i64 (x : Int), .int .i64 (y : Int), .int .i64 w]) :: Y))) h7 (by rw [hs]; exact o) ((St.re s7 (by intro a; simp only [cntR_append, cntR_cons, cntR_nil, List.cons_append, List.nil_append, List.set_cons_zero, List.set_cons_succ]; omega)))
        rw [hs] at this; exact this
theorem Bridges_of {h : Heap} {m : Nat} {st' : BSt} {K : Option Addr → Nat → Nat → Heap → Prop} (nh : NetG h0.heap g n L N) (hN : ∀ v, v < n → ∃ l, N[v]? = some l ∧ l.length < 2 ^ 40 ∧ ∀ u ∈ l, u < n) (hm : m ≤ 2 ^ 20)
    (ho : outB N m (List.range n) ⟨fun _ => 0, fun _ => 0, 0, [], []⟩ = some st') (s : St h0 h R)
    (hk : ∀ h' q c X Y, Hp.Own q c (natV (brgT st'.found L L.length)) X → St h0 h' (X ++ (Y ++ R)) → K q (brgT st'.found L L.length).length c h') : comp_Bridges (some ⟨g, 0, none⟩) h K := by
  unfold comp_Bridges
  have hn := nh.hn
  have tail : ∀ {h' : Heap} {bw bm bl : Nat}, St h0 h' ((bw, wHead g bm bl n 0 none 0 0) :: (bm, intN n fun _ => 0) :: (bl, intN n fun _ => 0) :: R) →
      ∃ k, comp_Bridges.l0 (fun h28 => callP3 (net_Net_Edges (some ⟨g, 0, none⟩) h28) fun x30 x30l x30c h31 => ∃ m34, comp_Bridges.l1 (fun z32 z32l z32c h33 => K z32 z32l z32c h33) m34 ⟨bw, 0, none⟩ none 0 0 x30 x30l x30c (x30l : Int) 0 h31) k (some ⟨g, 0, none⟩) ⟨bw, 0, none⟩ (n : Int) 0 h' := fun {h'} {bw bm bl} s' => by
    refine ⟨n + 1, bridges_l0 nh hN hm (fun h2 qf cf Xf Y of hF s2 => callP3.self (GEdges_of nh s2 fun qe ce Xe h3 oe s3 => ⟨L.length + 1, ?_⟩)) n 0 h' ⟨fun _ => 0, fun _ => 0, 0, [], []⟩ none 0 [] [] (by omega) (by rw [List.drop_zero]; exact ho) ⟨by simp, by simp, fun v => by simp⟩ (.inl ⟨rfl, rfl, rfl, rfl⟩) s'⟩
    refine bridges_l1 (g := g) (bw := bw) (bm := bm) (bl := bl) (qf := qf) (cf := cf) (Z := Xe ++ ((bw, wHead g bm bl n st'.time qf st'.found.length cf) :: (bm, intN n st'.met) :: (bl, intN n st'.low) :: (Xf ++ (Y ++ R)))) nh.gr hF (by simp) ?_ (oe.keeps fun x hx => by simp [hx]) (fun h4 q4 c4 X4 Y4 o4 s4 => ?_) L.length 0 h3 none 0 [] [] (by omega) (by simpa [brgT, natV] using Hp.Own.nil) s3
    · rcases of with ⟨rfl, rfl, h1, rfl⟩ | ⟨b, z, rfl, _, rfl⟩
      · rw [h1]; exact Keeps.nil
      · exact Keeps.own (z := z) (by simp)
    · exact hk h4 q4 c4 X4 (Y4 ++ (Xe ++ ((bw, wHead g bm bl n st'.time qf st'.found.length cf) :: (bm, intN n st'.met) :: (bl, intN n st'.low) :: (Xf ++ Y)))) o4 (by simpa [List.append_assoc] using s4)
  refine qcallP1.of (n : Int) (fun Q hQ => GN_of nh s hQ) (qcallP1.of (n : Int) (fun Q hQ => GN_of nh s hQ) ?_)
  refine ⟨⟨by omega, s.new_ fun ba h1 s1 => ⟨qcallP1.of (n : Int) (fun Q hQ => GN_of nh s1 hQ) rfl, by omega, s1.new_ fun bb h2 s2 => s2.new_ fun bc h3 s3 => qcallP1.of (n : Int) (fun Q hQ => GN_of nh s3 hQ) ?_⟩⟩, ⟨by omega, s.new_ fun ba h1 s1 => ⟨by omega, s1.new_ fun bb h2 s2 => s2.new_ fun bc h3 s3 => qcallP1.of (n : Int) (fun Q hQ => GN_of nh s3 hQ) ?_⟩⟩⟩
  · rw [Int.toNat_natCast, intN_zero] at s3
    have s4 : St h0 h3 ((bc, wHead g ba bb n 0 none 0 0) :: (bb, intN n fun _ => 0) :: (ba, intN n fun _ => 0) :: R) := s3
    exact tail (bw := bc) (bm := ba) (bl := bb) (St.flip1 (A := [(bb, _)]) (B := [(ba, _)]) s4)
  · rw [Int.toNat_natCast, intN_zero] at s3
    exact tail (by exact s3)
theorem Bridges_nil {h : Heap} {K : Option Addr → Nat → Nat → Heap → Prop} (s : St h0 h R)
    (hk : ∀ h' Y, St h0 h' (Y ++ R) → K none 0 0 h') : comp_Bridges none h K := by
  unfold comp_Bridges
  have tail : ∀ {h' : Heap} {bw : Nat} {Y : Rws}, St h0 h' (Y ++ R) →
      ∃ k, comp_Bridges.l0 (fun h28 => callP3 (net_Net_Edges none h28) fun x30 x30l x30c h31 => ∃ m34, comp_Bridges.l1 (fun z32 z32l z32c h33 => K z32 z32l z32c h33) m34 ⟨bw, 0, none⟩ none 0 0 x30 x30l x30c (x30l : Int) 0 h31) k none ⟨bw, 0, none⟩ 0 0 h' := fun {h'} {bw Y} s' => by
    refine ⟨1, ?_⟩
    unfold comp_Bridges.l0 comp_Bridges.b0
    refine iteB_neg rfl (callP3.self (GEdges_nil ⟨1, ?_⟩))
    unfold comp_Bridges.l1 comp_Bridges.b1
    exact iteB_neg rfl (hk h' Y s')
  refine qcallP1.of (0 : Int) (fun Q hQ => GN_nil hQ) (qcallP1.of (0 : Int) (fun Q hQ => GN_nil hQ) ?_)
  refine ⟨⟨by omega, s.new_ fun ba h1 s1 => ⟨qcallP1.of (0 : Int) (fun Q hQ => GN_nil hQ) rfl, by omega, s1.new_ fun bb h2 s2 => s2.new_ fun bc h3 s3 => qcallP1.of (0 : Int) (fun Q hQ => GN_nil hQ) ?_⟩⟩, ⟨by omega, s.new_ fun ba h1 s1 => ⟨by omega, s1.new_ fun bb h2 s2 => s2.new_ fun bc h3 s3 => qcallP1.of (0 : Int) (fun Q hQ => GN_nil hQ) ?_⟩⟩⟩
  · exact tail (Y := [(bc, _), (bb, _), (ba, _)]) s3
  · exact tail (Y := [(bc, _), (bb, _), (ba, _)]) s3
end
end Go.Proofs.YtbhndlpjfncliaaGreat
