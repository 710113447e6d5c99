/-
  A cut by chance: numbers that look like chance; the document's least cut of all.
-/
import Derived.Test.YtbhndlpjfncliaaGreatU3
namespace Go.Proofs.YtbhndlpjfncliaaGreat
set_option linter.unusedVariables false
set_option linter.unusedSimpArgs false
set_option linter.unnecessarySimpa false
open Go Go.Hp Go.RowKit
attribute [local irreducible] Go.Hp.iteB Go.Hp.stC Go.Hp.newP

/-! ### Numbers that look like chance -/
def seedN (s : Int) : Int := IntKind.u64.wrap (IntKind.u64.wrap (s * 6364136223846793005) + 1442695040888963407)
def rotN (x : Int) : Int := bits .or .u64 (IntKind.u64.wrap (x * 2 ^ 32)) (x.fdiv (2 ^ 32))
def spreadF : Int → Nat → List Int
  | _, 0 => []
  | s, m + 1 => rotN (seedN s) :: spreadF (seedN s) m
theorem spreadF_len : ∀ (m : Nat) (s : Int), (spreadF s m).length = m
  | 0, _ => rfl
  | m + 1, s => by rw [spreadF, List.length_cons, spreadF_len m]
theorem or_nonneg (x y : Int) : 0 ≤ bits .or .u64 x y := by unfold bits; rw [Go.Hp.wrap_u64]; omega
theorem spreadF_nonneg : ∀ (m : Nat) (s : Int), ∀ x ∈ spreadF s m, 0 ≤ x
  | 0, _, x, h => by cases h
  | m + 1, s, x, h => by
    rw [spreadF] at h
    rcases List.mem_cons.1 h with rfl | h
    · exact or_nonneg _ _
    · exact spreadF_nonneg m _ x h
theorem pick_nonneg {ps : List Int} (h : ∀ x ∈ ps, 0 ≤ x) (t : Nat) : 0 ≤ pickF ps t := by
  unfold pickF
  split
  · omega
  · rw [List.getD_eq_getElem?_getD]
    cases e : ps[t - 1]? with
    | none => simp
    | some x => simpa using h x (List.mem_of_getElem? e)
theorem rot_of {h : Heap} {x : Int} {K : Int → Prop} (hk : K (rotN x)) : qcallP1 h (bits_RotateLeft64 x 32 h) K := by
  refine qcallP1.of _ (fun Q hQ => ?_) hk
  unfold bits_RotateLeft64
  have e1 : bits .and .u64 (IntKind.u64.wrap 32) 63 = 32 := by decide +kernel
  rw [e1]
  refine ⟨by decide, bindV_intro fun n3 h3 => bindV_intro fun n4 h4 => ?_⟩
  have h4 : n4 = 32 := h4
  subst h4
  refine ⟨by decide, bindV_intro fun n5 h5 => ?_⟩
  subst h3
  have : n5 = rotN x := h5
  rw [this]; exact hQ
theorem zeroU (n : Nat) : zeroRow [.int .u64 0] n = (List.replicate n (0 : Int)).map (Value.int .u64) := by
  induction n with
  | zero => rfl
  | succ n ih => rw [zeroRow, ih]; simp [List.replicate_succ]
section
variable {h0 : Base} {R : Rws} {n g : Nat} {L : List Ed} {N : List (List Nat)}
theorem spread_l0 {K2 : Heap → Prop} {b n : Nat} {s0 : Int} (hn : n ≤ 1048576) (hk : ∀ h', St h0 h' ((b, u64V (spreadF s0 n)) :: R) → K2 h') :
    ∀ (d i : Nat) (h : Heap) (x : Int) (A : List Int), i + d = n → A.length = i → A ++ spreadF x d = spreadF s0 n → St h0 h ((b, u64V (A ++ List.replicate d 0)) :: R) → karger_Spread.l0 K2 (d + 1) x ⟨b, 0, none⟩ n n (n : Int) (i : Int) h
  | 0, i, h, x, A, hi, hA, he, s => by
    unfold karger_Spread.l0 karger_Spread.b0
    have : i = n := by omega
    subst this
    rw [spreadF, List.append_nil] at he
    rw [List.replicate_zero, List.append_nil, he] at s
    exact iteB_neg (decide_eq_false (by omega)) (hk h s)
  | d + 1, i, h, x, A, hi, hA, he, s => by
    unfold karger_Spread.l0 karger_Spread.b0
    refine iteB_pos (decide_eq_true (by omega)) (bindV_intro fun n1 e1 => bindV_intro fun n2 e2 => ?_)
    have e2 : n2 = seedN x := by rw [e2, e1]; rfl
    subst e2
    refine rot_of ⟨by omega, ?_⟩
    rw [Int.toNat_natCast, Nat.mul_one, add_mk, Nat.zero_add]
    refine s.st0 (by simp; omega) fun h2 s2 => ?_
    rw [wrap64 (by omega) (by omega)]
    refine spread_l0 hn hk d (i + 1) h2 (seedN x) (A ++ [rotN (seedN x)]) (by omega) (by simp [hA]) (by rw [List.append_assoc]; exact he) ?_
    have e : (u64V (A ++ List.replicate (d + 1) 0)).set i (.int .u64 (rotN (seedN x))) = u64V (A ++ [rotN (seedN x)] ++ List.replicate d 0) := by
      unfold u64V
      rw [List.map_append, List.set_append_right _ _ (by simp [hA]), List.length_map, hA, Nat.sub_self, List.replicate_succ, List.map_cons, List.set_cons_zero]
      simp
    rw [e] at s2; exact s2
theorem Spread_of {h : Heap} {x : Int} {m : Nat} {K : Option Addr → Nat → Nat → Heap → Prop} (hm : m ≤ 1048576) (s : St h0 h R)
    (hk : ∀ b h', St h0 h' ((b, u64V (spreadF x m)) :: R) → K (some ⟨b, 0, none⟩) m m h') : karger_Spread x (m : Int) h K := by
  unfold karger_Spread
  refine bindV_intro fun n3 e3 => ?_
  have e3 : n3 = (m : Int) := by rw [e3]; (repeat' split) <;> omega
  subst e3
  refine ⟨by omega, s.new_ fun b h1 s1 => ?_⟩
  rw [Int.toNat_natCast] at s1 ⊢
  rw [zeroU] at s1
  exact ⟨m + 1, spread_l0 hm (fun h' s' => hk b h' s') m 0 h1 x [] (by omega) rfl rfl (by simpa using s1)⟩
/-! ### All sides without the vertex 0 -/
def sideP (m v : Nat) : Bool := decide (1 ≤ v) && (m / 2 ^ (v - 1) % 2 == 1)
def sideN (n m : Nat) : List Nat := (List.range n).filter (sideP m)
theorem and_one {c : Nat} (h : c < 9223372036854775808) : bits .and .i64 (c : Int) 1 = ((c % 2 : Nat) : Int) := by
  unfold bits
  rw [wrap_i64_eq]
  show (((((BitVec.ofInt 64 (c : Int) : BitVec 64) &&& (BitVec.ofInt 64 1 : BitVec 64)).toNat : Nat) : Int) + 9223372036854775808) % 18446744073709551616 - 9223372036854775808 = _
  have e1 : (BitVec.ofInt 64 (c : Int)).toNat = c := by rw [BitVec.toNat_ofInt]; omega
  have e2 : (BitVec.ofInt 64 1).toNat = 2 ^ 1 - 1 := by decide
  rw [BitVec.toNat_and, e1, e2, Nat.and_two_pow_sub_one_eq_mod]
  omega
theorem bit_at {m j : Nat} (h : m < 9223372036854775808) : bits .and .i64 ((m : Int).fdiv (2 ^ j)) 1 = ((m / 2 ^ j % 2 : Nat) : Int) := by
  have e : (m : Int).fdiv (2 ^ j) = ((m / 2 ^ j : Nat) : Int) := by
    rw [show ((2 : Int) ^ j) = ((2 ^ j : Nat) : Int) by norm_cast, Int.fdiv_eq_ediv_of_nonneg _ (Int.natCast_nonneg _)]
    rfl
  rw [e, and_one]
  exact Nat.lt_of_le_of_lt (Nat.div_le_self _ _) h
theorem sides_l1 {K4 : Option Addr → Nat → Nat → Heap → Prop} {m l3 c3 : Nat} {q3 : Option Addr} {S : Rws} (hn : n ≤ 20) (hm : m < 2 ^ 40)
    (hk : ∀ h' q1 c1 X, Hp.Own q1 c1 (nums (sideN n m)) X → St h0 h' (X ++ S) → K4 q1 (sideN n m).length c1 h') :
    ∀ (d v : Nat) (h : Heap) (q1 : Option Addr) (c1 : Nat) (X : Rws), v + d = n → 1 ≤ v → Hp.Own q1 c1 (nums (sideN v m)) X → St h0 h (X ++ S) →
      straitref22_sides.l1 K4 (d + 1) (n : Int) q3 l3 c3 (m : Int) q1 (sideN v m).length c1 (v : Int) h
  | 0, v, h, q1, c1, X, hv, h1, o, s => by
    unfold straitref22_sides.l1 straitref22_sides.b1
    have : v = n := by omega
    subst this
    exact iteB_neg (decide_eq_false (by omega)) (hk h q1 c1 X o s)
  | d + 1, v, h, q1, c1, X, hv, h1, o, s => by
    unfold straitref22_sides.l1 straitref22_sides.b1
    have fl := filter_le (sideP m) v
    have fs := filter_succ (sideP m) v
    refine iteB_pos (decide_eq_true (by omega)) (bindV_intro fun n1 e1 => ?_)
    have e1 : n1 = ((v - 1 : Nat) : Int) := by rw [e1, wrap64 (by omega) (by omega), wrapU (by omega) (by omega)]; omega
    subst e1
    refine ⟨by omega, bindV_intro fun n2 e2 => ?_⟩
    rw [Int.toNat_natCast, Nat.min_eq_left (show v - 1 ≤ 64 by omega), bit_at (by omega)] at e2
    subst e2
    have nx : IntKind.i64.wrap ((v : Int) + 1) = ((v + 1 : Nat) : Int) := by rw [wrap64 (by omega) (by omega)]; omega
    rw [nx]
    have hp : sideP m v = (m / 2 ^ (v - 1) % 2 == 1) := by unfold sideP; rw [decide_eq_true h1, Bool.true_and]
    refine iteB_intro (fun e => ?_) fun e => ?_
    · have e : sideP m v = true := by rw [hp]; have e : ((m / 2 ^ (v - 1) % 2 : Nat) : Int) = 1 := by simpa using e
                                      rw [beq_iff_eq]; omega
      rw [if_pos e] at fs
      refine Hp.Own.push1 o s (nums_len _).symm rfl (by rw [nums_len]; unfold sideN; omega) fun q2 c2 X2 h2 o2 s2 => ?_
      have := sides_l1 (q3 := q3) (l3 := l3) (c3 := c3) hn hm hk d (v + 1) h2 q2 c2 X2 (by omega) (by omega) (by unfold sideN; rw [fs, nums_app]; exact o2) s2
      unfold sideN at this; rw [fs] at this; rw [nums_len]; unfold sideN; simpa using this
    · have e : sideP m v = false := by
        rw [hp]; have e : ¬ ((m / 2 ^ (v - 1) % 2 : Nat) : Int) = 1 := by simpa using e
        rw [beq_eq_false_iff_ne]; omega
      rw [if_neg (by rw [e]; decide), List.append_nil] at fs
      have := sides_l1 (q3 := q3) (l3 := l3) (c3 := c3) hn hm hk d (v + 1) h q1 c1 X (by omega) (by omega) (by unfold sideN; rw [fs]; exact o) s
      unfold sideN at this; rw [fs] at this; exact this
def sidesT (n i : Nat) : List (List Nat) := (List.range i).map fun j => sideN n (j + 1)
theorem sidesT_len (n i : Nat) : (sidesT n i).length = i := by simp [sidesT]
theorem sidesT_succ (n i : Nat) : sidesT n (i + 1) = sidesT n i ++ [sideN n (i + 1)] := by unfold sidesT; rw [List.range_succ, List.map_append]; rfl
theorem sides_l0 {K2 : Option Addr → Nat → Nat → Heap → Prop} {M : Nat} (hn2 : 2 ≤ n) (hn : n ≤ 20) (hM : M + 1 = 2 ^ (n - 1))
    (hk : ∀ h' qo co qs Y, Keeps h0 Y qo (slV qs) → Sls h0 Y qs (sidesT n M) → St h0 h' (Y ++ R) → K2 qo (sidesT n M).length co h') :
    ∀ (d i : Nat) (h : Heap) (qo : Option Addr) (co : Nat) (qs : List SlT) (Xo Z : Rws), i + d = M → Hp.Own qo co (slV qs) Xo → Sls h0 Z qs (sidesT n i) → St h0 h (Xo ++ (Z ++ R)) →
      straitref22_sides.l0 K2 (d + 1) (n : Int) qo (sidesT n i).length co ((i + 1 : Nat) : Int) h := by
  have hM2 : M < 2 ^ 20 := by
    have := Nat.pow_le_pow_right (show 0 < 2 by omega) (show n - 1 ≤ 19 by omega)
    omega
  have lim : ∀ {G : Int → Prop}, G ((M + 1 : Nat) : Int) → bindV (IntKind.u64.wrap (IntKind.i64.wrap ((n : Int) - 1))) fun n1005 => 0 ≤ n1005 ∧ bindV (IntKind.i64.wrap ((1 : Int) * 2 ^ (min n1005.toNat 64))) fun n1006 => G n1006 := fun {G} hG => by
    refine bindV_intro fun n1 e1 => ?_
    have e1 : n1 = ((n - 1 : Nat) : Int) := by rw [e1, wrap64 (by omega) (by omega), wrapU (by omega) (by omega)]; omega
    subst e1
    refine ⟨by omega, bindV_intro fun n2 e2 => ?_⟩
    rw [Int.toNat_natCast, Nat.min_eq_left (show n - 1 ≤ 64 by omega), Int.one_mul, show ((2 : Int) ^ (n - 1)) = ((2 ^ (n - 1) : Nat) : Int) by norm_cast, ← hM, wrap64 (by omega) (by omega)] at e2
    subst e2
    exact hG
  intro d
  induction d with
  | zero =>
    intro i h qo co qs Xo Z hi o ss s
    unfold straitref22_sides.l0 straitref22_sides.b0
    have : i = M := by omega
    subst this
    exact lim (iteB_neg (decide_eq_false (by omega)) (hk h qo co qs (Xo ++ Z) (o.keeps fun x hx => by simp [hx]) (ss.sub fun x hx => by simp [hx]) (by simpa [List.append_assoc] using s)))
  | succ d ih =>
    intro i h qo co qs Xo Z hi o ss s
    unfold straitref22_sides.l0 straitref22_sides.b0
    refine lim (iteB_pos (decide_eq_true (by omega)) ⟨n - 1 + 1, sides_l1 (S := Xo ++ (Z ++ R)) hn (by omega) (fun h1 q1 c1 X1 o1 s1 => ?_) (n - 1) 1 h none 0 [] (by omega) (by omega) (by simpa [sideN, sideP, nums] using Hp.Own.nil) s⟩)
    have s1 : St h0 h1 (Xo ++ ((X1 ++ Z) ++ R)) := (St.re s1 (by intro a; simp only [cntR_append, cntR_cons, cntR_nil, List.cons_append, List.nil_append, List.set_cons_zero, List.set_cons_succ]; omega))
    refine Hp.Own.push1 o s1 (by rw [slV_len, ss.1]) rfl (by rw [slV_len, ss.1, sidesT_len]; omega) fun q2 c2 X2 h2 o2 s2 => ?_
    rw [wrap64 (by omega) (by omega)]
    have := ih (i + 1) h2 q2 c2 (qs ++ [(q1, (sideN n (i + 1)).length, c1)]) X2 (X1 ++ Z) (by omega) (by rw [slV_app]; exact o2) (by rw [sidesT_succ]; exact (ss.sub fun x hx => by simp [hx]).snoc (o1.keeps fun x hx => by simp [hx])) s2
    rw [sidesT_len] at this
    rw [slV_len, ss.1, sidesT_len]; exact this
theorem sideN_bl (n m : Nat) : (sideN n m).map (fun v : Nat => (v : Int)) = bl (sideP m) n := rfl
theorem least_l0 {K2 : Heap → Prop} {b3 b5 b8 cL cS : Nat} {qS qL : Option Addr} {S : Rws} {ls : List (List Nat)} {qs : List SlT} (hn : n ≤ 4096) (hL : L.length ≤ 1048576) (hG : ∀ l : List Int, 0 ≤ sumX (crs (memS l) 0 L)) (hls : ls.length < 2 ^ 40) (hll : ∀ l ∈ ls, l.length < 2 ^ 40)
    (h3 : (b3, [Value.int .i64 (n : Int), .slice qL L.length cL]) ∈ S) (kL : Keeps h0 S qL (eV L)) (kS : Keeps h0 S qS (slV qs)) (sS : Sls h0 S qs ls)
    (hk : ∀ h' W q l c, (∀ x ∈ ls, W ≤ sumX (crs (memS (x.map fun v : Nat => (v : Int))) 0 L)) → St h0 h' ((b8, [.int .i64 W, .slice q l c]) :: S) → K2 h') :
    ∀ (d i : Nat) (h : Heap) (W : Int) (q : Option Addr) (l c : Nat), i + d = ls.length → (W < 0 → i = 0) → (∀ x ∈ ls.take i, W ≤ sumX (crs (memS (x.map fun v : Nat => (v : Int))) 0 L)) → St h0 h ((b8, [.int .i64 W, .slice q l c]) :: S) →
      straitref22_Least.l0 K2 (d + 1) ⟨b3, 0, none⟩ ⟨b5, 0, none⟩ qS ls.length cS ⟨b8, 0, none⟩ (i : Int) h
  | 0, i, h, W, q, l, c, hi, hW, hm, s => by
    unfold straitref22_Least.l0 straitref22_Least.b0
    have : i = ls.length := by omega
    subst this
    rw [List.take_length] at hm
    exact iteB_neg (decide_eq_false (by omega)) (hk h W q l c hm s)
  | d + 1, i, h, W, q, l, c, hi, hW, hm, s => by
    unfold straitref22_Least.l0 straitref22_Least.b0
    have r3 : ∀ j, cell h ⟨b3, j, none⟩ = [Value.int .i64 (n : Int), .slice qL L.length cL][j]? := s.rd (by simp [h3])
    obtain ⟨x, hx⟩ := get_lt (l := ls) (i := i) (by omega)
    obtain ⟨a, p, cp, rfl, hc, kp⟩ := sls_row kS sS s (fun x hx => by simp [hx]) hx
    refine iteB_pos (decide_eq_true (by omega)) ⟨_, r3 0, _, _, _, r3 1, ?_⟩
    rw [chkP_some, Int.toNat_natCast, Nat.mul_one]
    refine ⟨by omega, _, _, _, hc, ?_⟩
    have nx : IntKind.i64.wrap ((i : Int) + 1) = ((i + 1 : Nat) : Int) := by rw [wrap64 (by omega) (by omega)]; omega
    have kp2 := kp
    rw [nums_map] at kp2
    refine callP1.self (RWeight_of (l := x.map fun v : Nat => (v : Int)) (by simp) (hll x (List.mem_of_getElem? hx)) hL (kp2.cons) (kL.cons) s fun h2 s2 => ?_)
    obtain ⟨a', p', cp', ha', hc', _⟩ := sls_row kS sS s2 (fun x hx => by simp [hx]) hx
    cases ha'
    have hw := hG (x.map fun v : Nat => (v : Int))
    generalize hwe : sumX (crs (memS (x.map fun v : Nat => (v : Int))) 0 L) = w at hw
    intro j
    have snoc : ∀ {W' : Int}, (∀ y ∈ ls.take i, W' ≤ sumX (crs (memS (y.map fun v : Nat => (v : Int))) 0 L)) → W' ≤ w → ∀ y ∈ ls.take (i + 1), W' ≤ sumX (crs (memS (y.map fun v : Nat => (v : Int))) 0 L) := fun h1 h2 y hy => by
      rw [take_snoc hx] at hy
      rcases List.mem_append.1 hy with hy | hy
      · exact h1 y hy
      · obtain rfl := List.mem_singleton.1 hy; rw [hwe]; exact h2
    have Jt : (W < 0 ∨ w < W) → j true := fun hor => by
      simp -zeta only [j]
      refine iteB_pos rfl ?_
      rw [chkP_some]
      refine ⟨by omega, _, _, _, hc', s2.st0 (by simp) fun h4 s4 => ?_⟩
      rw [add_mk]
      refine s4.st0 (by simp) fun h5 s5 => ?_
      simp only [List.set_cons_zero, List.set_cons_succ, Nat.zero_add] at s5
      rw [nx]
      refine least_l0 hn hL hG hls hll h3 kL kS sS hk d (i + 1) h5 w _ _ _ (by omega) (by omega) (snoc (fun y hy => ?_) (Int.le_refl _)) s5
      rcases hor with h | h
      · have := hW h; subst this; simp at hy
      · exact Int.le_trans (by omega) (hm y hy)
    have Jf : ¬ W < 0 → ¬ w < W → j false := fun n1 n2 => by
      simp -zeta only [j]
      refine iteB_neg rfl ?_
      rw [nx]
      exact least_l0 hn hL hG hls hll h3 kL kS sS hk d (i + 1) h2 W q l c (by omega) (fun h => absurd h n1) (snoc hm (by omega)) s2
    clear_value j
    refine ⟨_, s2.rd0 0, iteB_intro (fun e => Jt (.inl (of_decide_eq_true e))) fun e => ⟨_, s2.rd0 0, ?_⟩⟩
    have e := of_decide_eq_false e
    by_cases c : w < W
    · rw [decide_eq_true c]; exact Jt (.inr c)
    · rw [decide_eq_false c]; exact Jf e c
theorem Least_of {h : Heap} {cL : Nat} {qL : Option Addr} {K : Int → Option Addr → Nat → Nat → Int → Heap → Prop} (hn2 : 2 ≤ n) (hn : n ≤ 20) (G : Gr n L) (kL : Keeps h0 R qL (eV L)) (s : St h0 h R)
    (hk : ∀ h' W q l c Y, (∀ m, 1 ≤ m → m < 2 ^ (n - 1) → W ≤ sumX (crs (memS (bl (sideP m) n)) 0 L)) → St h0 h' (Y ++ R) → K W q l c 0 h') : straitref22_Least (n : Int) qL L.length cL h K := by
  unfold straitref22_Least
  refine s.new_ fun b3 h1 s1 => s1.new_ fun b5 h2 s2 => ?_
  have r3 : ∀ {h' : Heap} {T : Rws}, St h0 h' T → (b3, [Value.int .i64 (n : Int), .slice qL L.length cL]) ∈ T → ∀ j, cell h' ⟨b3, j, none⟩ = [Value.int .i64 (n : Int), .slice qL L.length cL][j]? := fun s hm => s.rd hm
  refine ⟨_, r3 s2 (by simp) 0, qcallP1.of (0 : Int) (fun Q hQ => ?_) (iteB_neg rfl ⟨_, r3 s2 (by simp) 0, callP3.self ?_⟩)⟩
  · unfold straitref22_small
    exact iteB_neg (decide_eq_false (by omega)) (iteB_neg (decide_eq_false (by omega)) hQ)
  obtain ⟨M, hM⟩ : ∃ M, M + 1 = 2 ^ (n - 1) := ⟨2 ^ (n - 1) - 1, by have := Nat.pos_of_ne_zero (n := 2 ^ (n - 1)) (by simp); omega⟩
  have hM2 : M < 2 ^ 20 := by
    have := Nat.pow_le_pow_right (show 0 < 2 by omega) (show n - 1 ≤ 19 by omega)
    omega
  unfold straitref22_sides
  refine ⟨M + 1, sides_l0 (R := (b5, [.int .i64 0, .slice none 0 0, .int .i64 0]) :: (b3, [.int .i64 (n : Int), .slice qL L.length cL]) :: R) hn2 hn hM (fun h4 qo co qs Y k1 k2 s4 => ?_) M 0 h2 none 0 [] [] [] (by omega) (by simpa [slV] using Hp.Own.nil) Sls.nil s2⟩
  refine s4.new_ fun b8 h5 s5 => s5.st0 (by simp) fun h6 s6 => ?_
  rw [add_mk]
  refine s6.st0 (by simp) fun h7 s7 => ?_
  simp only [List.set_cons_zero, List.set_cons_succ, Nat.zero_add] at s7
  refine ⟨(sidesT n M).length + 1, least_l0 (n := n) (L := L) (b3 := b3) (cL := cL) (S := Y ++ ((b5, [.int .i64 0, .slice none 0 0, .int .i64 0]) :: (b3, [.int .i64 (n : Int), .slice qL L.length cL]) :: R)) (by omega) G.len (fun l => sum_nonneg G) (by rw [sidesT_len]; omega) (fun l hl => ?_) (by simp) (kL.sub fun x hx => by simp [hx]) (k1.sub fun x hx => by simp [hx]) (k2.sub fun x hx => by simp [hx]) (fun h8 W q l c hmin s8 => ?_) _ 0 h7 (-1) none 0 0 (Nat.zero_add _) (fun _ => rfl) (fun x hx => by simp at hx) s7⟩
  · obtain ⟨j, _, rfl⟩ := List.mem_map.1 hl
    have := filter_le (sideP (j + 1)) n; unfold sideN; omega
  · refine ⟨_, s8.rd0 0, _, _, _, s8.rd0 1, ?_⟩
    have s9 : St h0 h8 ((b5, [.int .i64 0, .slice none 0 0, .int .i64 0]) :: (((b8, [.int .i64 W, .slice q l c]) :: (Y ++ [(b3, [.int .i64 (n : Int), .slice qL L.length cL])])) ++ R)) := (St.re s8 (by intro a; simp only [cntR_append, cntR_cons, cntR_nil, List.cons_append, List.nil_append, List.set_cons_zero, List.set_cons_succ]; omega))
    refine s9.st0 (by simp) fun hA sA => ?_
    rw [add_mk]
    refine sA.st0 (by simp) fun hB sB => ?_
    rw [add_mk]
    refine sB.st0 (by simp) fun hC sC => ?_
    simp only [List.set_cons_zero, List.set_cons_succ, Nat.zero_add] at sC
    refine ⟨_, sC.rd0 0, _, _, _, sC.rd0 1, _, sC.rd0 2, hk hC W q l c ((b5, [Value.int .i64 W, .slice q l c, .int .i64 0]) :: ((b8, [Value.int .i64 W, .slice q l c]) :: (Y ++ [(b3, [Value.int .i64 (n : Int), .slice qL L.length cL])]))) (fun m m1 m2 => ?_) sC⟩
    have hmem : sideN n m ∈ sidesT n M := List.mem_map.2 ⟨m - 1, List.mem_range.2 (by omega), by rw [show m - 1 + 1 = m by omega]⟩
    have := hmin _ hmem
    rw [sideN_bl] at this; exact this
/-- Some number's bits are these. -/
theorem mask_of (P : Nat → Bool) : ∀ k, ∃ m, m < 2 ^ k ∧ ∀ i, i < k → (m / 2 ^ i % 2 == 1) = P i
  | 0 => ⟨0, by simp, fun i hi => by omega⟩
  | k + 1 => by
    obtain ⟨m, hm, hb⟩ := mask_of P k
    have hp : 2 ^ (k + 1) = 2 ^ k + 2 ^ k := by rw [Nat.pow_succ]; omega
    by_cases c : P k = true
    · refine ⟨m + 2 ^ k, by omega, fun i hi => ?_⟩
      by_cases e : i = k
      · subst e
        rw [Nat.add_div_right _ (Nat.pow_pos (by omega)), Nat.div_eq_of_lt hm, c]; rfl
      · rw [← hb i (by omega)]
        have : 2 ^ k = 2 ^ i * (2 * 2 ^ (k - i - 1)) := by
          rw [← Nat.pow_succ', ← Nat.pow_add]; congr 1; omega
        rw [this, Nat.add_mul_div_left _ _ (Nat.pow_pos (by omega))]
        have : (m / 2 ^ i + 2 * 2 ^ (k - i - 1)) % 2 = m / 2 ^ i % 2 := by omega
        rw [this]
    · refine ⟨m, by omega, fun i hi => ?_⟩
      by_cases e : i = k
      · subst e
        rw [Nat.div_eq_of_lt hm]
        have c : P i = false := by simpa using c
        rw [c]; rfl
      · exact hb i (by omega)
theorem side_mask {P : Nat → Bool} {c : Nat} (h0' : P 0 = false) (hc : P c = true) (hcn : c < n) : ∃ m, 1 ≤ m ∧ m < 2 ^ (n - 1) ∧ bl (sideP m) n = bl P n := by
  obtain ⟨m, hm, hb⟩ := mask_of (fun i => P (i + 1)) (n - 1)
  have c1 : 1 ≤ c := by
    rcases Nat.eq_zero_or_pos c with rfl | h
    · rw [h0'] at hc; cases hc
    · exact h
  refine ⟨m, ?_, hm, ?_⟩
  · rcases Nat.eq_zero_or_pos m with rfl | h
    · have := hb (c - 1) (by omega)
      rw [show c - 1 + 1 = c by omega, hc, Nat.zero_div] at this; cases this
    · exact h
  · unfold bl
    congr 1
    refine List.filter_congr fun v hv => ?_
    have hv := List.mem_range.1 hv
    unfold sideP
    rcases Nat.eq_zero_or_pos v with rfl | hv1
    · rw [h0']; rfl
    · rw [decide_eq_true (show 1 ≤ v from hv1), Bool.true_and, hb (v - 1) (by omega), show v - 1 + 1 = v by omega]
end
end Go.Proofs.YtbhndlpjfncliaaGreat
