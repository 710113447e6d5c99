/-
  Matrices: the law of the widest ones.
-/
import Derived.Test.YtfidcekobjmamaaJ8
namespace Go.Proofs.Ytfidcekobjmamaa
set_option linter.unusedVariables false
set_option linter.unusedSimpArgs false
set_option linter.unnecessarySimpa false
open Go.Hp Go.RowKit
attribute [local irreducible] Go.Hp.iteB Go.Hp.stC Go.Hp.newP

/-! ### The line -/
def upL_ (n : Nat) : List Int := (List.range n).map fun i : Nat => (i : Int) - 1
def wL_ (n : Nat) : List Int := (List.range n).map fun _ : Nat => (0 : Int)
theorem upL_len (n : Nat) : (upL_ n).length = n := by simp [upL_]
theorem wL_len (n : Nat) : (wL_ n).length = n := by simp [wL_]
theorem upL_get {n v : Nat} (h : v < n) : (upL_ n).getD v 0 = (v : Int) - 1 := by simp [upL_, h]
theorem wL_get {n v : Nat} : (wL_ n).getD v 0 = 0 := by
  by_cases h : v < n
  · simp [wL_, h]
  · rw [List.getD_eq_getElem?_getD, List.getElem?_eq_none (by rw [wL_len]; omega)]; rfl
theorem hasL {n : Nat} : ∀ {v : Nat}, v < n → hasD (fun v => (upL_ n).getD v 0) n v v
  | 0, h => ⟨h, by show (upL_ n).getD 0 0 = -1; rw [upL_get h]; rfl⟩
  | v + 1, h => ⟨h, v, by show (upL_ n).getD (v + 1) 0 = (v : Int); rw [upL_get h]; omega, hasL (by omega)⟩
theorem rightL {n : Nat} (hn : n ≤ 4096) : RightT (upL_ n) (wL_ n) := by
  refine ⟨by rw [upL_len, wL_len], by rw [upL_len]; exact hn, fun v hv => ?_, ?_, fun v hv => ?_⟩
  · rw [upL_len] at hv ⊢
    rw [upL_get hv, wL_get]
    refine ⟨by omega, by omega, by omega, fun _ => rfl⟩
  · rw [upL_len]
    cases n with
    | zero => rfl
    | succ m =>
      unfold upL_
      rw [List.range_succ_eq_map, List.map_cons, List.filter_cons_of_pos (by simp), List.map_map]
      rw [List.filter_eq_nil_iff.2 (fun x hx => by
        obtain ⟨k, _, rfl⟩ := List.mem_map.1 hx
        simp)]
      simp
  · rw [upL_len] at hv ⊢
    exact ⟨v, hasL hv⟩
theorem mWL {n : Nat} {up : List Int} (x y : Nat) : mW up (wL_ n) x y = 0 := by
  by_cases h : ∃ z, sepP up x y z
  · obtain ⟨z, hz, e⟩ := mW_ex (w := wL_ n) h
    rw [e]; exact wL_get
  · exact mW_no fun z hz => h ⟨z, hz⟩
theorem upL_vals (n : Nat) : ints n (fun x => (x : Int) - 1) = (upL_ n).map (Value.int .i64) := by rw [ints_vals]; rfl
theorem wL_vals (n : Nat) : ints n (fun _ => 0) = (wL_ n).map (Value.int .i64) := by rw [ints_vals]; rfl
theorem ultra0 (n : Nat) : UltraM n fun _ _ => 0 := by
  have := mW_ultraM (up := upL_ n) (w := wL_ n)
  constructor <;> intros <;> first | rfl | omega | simp_all
def upi (i : Nat) : Nat → Int := fun x => if x < i then (x : Int) - 1 else 0
theorem upi_set {n i : Nat} : ints n (upd (upi i) i ((i : Int) - 1)) = ints n (upi (i + 1)) := ints_congr fun x hx => by
  show (if x = i then (i : Int) - 1 else if x < i then (x : Int) - 1 else 0) = if x < i + 1 then (x : Int) - 1 else 0
  by_cases c : x = i
  · rw [if_pos c, if_pos (by omega), c]
  · rw [if_neg c]
    by_cases c2 : x < i
    · rw [if_pos c2, if_pos (by omega)]
    · rw [if_neg c2, if_neg (by omega)]
section
variable {h0 : Base} {R : Rws} {n : Nat}
theorem wide_l0 {K2 : Option Addr → Nat → Nat → Heap → Prop} {y ba bb : Nat} (hn : n ≤ 4096) (hy : (y, [Value.slice (some ⟨ba, 0, none⟩) n n, .slice (some ⟨bb, 0, none⟩) n n]) ∈ R)
    (hk : ∀ h' q c Y, MxK h0 Y q n (fun _ _ => 0) → St h0 h' (Y ++ ((ba, (upL_ n).map (Value.int .i64)) :: R)) → K2 q n c h') :
    ∀ (d i : Nat) (h : Heap) (q : Option Addr) (c : Nat) (bs : Nat → Nat) (X : Rws), i + d = n → Own q c (sl3 (mxq bs i n)) X → St h0 h (X ++ (mxr bs i n (fun _ _ => 0) ++ ((ba, ints n (upi i)) :: R))) →
      straitlaw35_MatrixWide.l0 K2 (d + 1) (n : Int) q i c ⟨y, 0, none⟩ (i : Int) h
  | 0, i, h, q, c, bs, X, hi, o, s => by
    unfold straitlaw35_MatrixWide.l0 straitlaw35_MatrixWide.b0
    have : i = n := by omega
    subst this
    refine iteB_neg (decide_eq_false (by omega)) (hk h q c (X ++ mxr bs i i (fun _ _ => 0)) ?_ ?_)
    · exact ⟨mxq bs i i, mxq_len _ _ _, o.keeps fun x hx => by simp [hx], fun j x hx => by
        have hj := lt_get hx
        rw [mxq_len] at hj
        rw [mxq_get hj] at hx
        obtain rfl := Option.some.inj hx
        exact ⟨rfl, Nat.le_refl _, Keeps.row (R := X ++ mxr bs i i fun _ _ => 0) (b := bs j) (List.mem_append.2 (.inr (mxr_mem (M := fun _ _ => 0) hj)))⟩⟩
    · rw [← upL_vals, ints_congr (f := fun x => (x : Int) - 1) (g := upi i) fun x hx => (if_pos hx).symm]
      simpa [List.append_assoc] using s
  | d + 1, i, h, q, c, bs, X, hi, o, s => by
    unfold straitlaw35_MatrixWide.l0 straitlaw35_MatrixWide.b0
    refine iteB_pos (decide_eq_true (by omega)) ⟨⟨by omega, by omega, by omega, by omega⟩, s.new_ fun b h2 s2 => ?_⟩
    rw [Int.toNat_natCast] at s2 ⊢
    rw [ints_zero] at s2
    have s3 : St h0 h2 (X ++ (mxr (upd bs i b) (i + 1) n (fun _ _ => 0) ++ ((ba, ints n (upi i)) :: R))) := by
      rw [mxr_succ (M := fun _ _ => 0)]; exact (St.re s2 (by intro a; simp only [cntR_append, cntR_cons, cntR_nil, List.cons_append, List.nil_append, List.set_cons_zero, List.set_cons_succ]; omega))
    refine Own.push1 o s3 (by rw [sl3_len, mxq_len]) rfl (by rw [sl3_len, mxq_len]; omega) fun q5 c5 X5 h5 o5 s5 => ?_
    have ry : ∀ j, cell h5 ⟨y, j, none⟩ = [Value.slice (some ⟨ba, 0, none⟩) n n, .slice (some ⟨bb, 0, none⟩) n n][j]? := s5.rd (by simp [hy])
    refine ⟨_, _, _, ry 0, ?_⟩
    simp -zeta only [chkP_some, Int.toNat_natCast, Nat.mul_one, add_mk, Nat.zero_add]
    have s6 : St h0 h5 ((ba, ints n (upi i)) :: (X5 ++ (mxr (upd bs i b) (i + 1) n (fun _ _ => 0) ++ R))) := (St.re s5 (by intro a; simp only [cntR_append, cntR_cons, cntR_nil, List.cons_append, List.nil_append, List.set_cons_zero, List.set_cons_succ]; omega))
    refine ⟨by omega, s6.st0 (by rw [ints_length]; omega) fun h7 s7 => ?_⟩
    rw [sl3_len, mxq_len, wrap64 (by omega) (by omega), ]
    rw [wrap64 (x := (i : Int) - 1) (by omega) (by omega), ints_set, upi_set] at s7
    refine wide_l0 hn hy hk d (i + 1) h7 q5 c5 (upd bs i b) X5 (by omega) ?_ (St.re s7 (by intro a; simp only [cntR_append, cntR_cons, cntR_nil, List.cons_append, List.nil_append, List.set_cons_zero, List.set_cons_succ]; omega))
    rw [mxq_succ, sl3_app]; exact o5
theorem Tree_big {h : Heap} {q : Option Addr} {c : Nat} {K : Option Addr → Nat → Nat → Option Addr → Nat → Nat → Int → Heap → Prop} (hn : n > 256) (s : St h0 h R)
    (hk : ∀ h' Y, St h0 h' (Y ++ R) → K none 0 0 none 0 0 3 h') : matrix_Tree q n c h K := by
  unfold matrix_Tree
  refine s.new_ fun t h1 s1 => iteB_pos (decide_eq_true (by omega)) (s1.st0 (by simp) fun h2 s2 => ?_)
  rw [add_mk, Nat.zero_add]
  refine s2.st0 (by simp) fun h3 s3 => ⟨_, _, _, s3.rd0 0, _, _, _, s3.rd0 1, ?_⟩
  exact hk h3 [_] s3
end
theorem wf_u8 {n : Int} (h : (Lit.int .u8 n).wf = true) : 0 ≤ n ∧ n ≤ 255 := by
  simp only [Lit.wf, IntKind.min, IntKind.max, IntKind.signed, IntKind.bits, Bool.and_eq_true, decide_eq_true_eq, Bool.false_eq_true, if_false] at h; omega
theorem Wide_of {h : Heap} {a : Int} {K : Bool → Heap → Prop} (ha : 0 ≤ a ∧ a ≤ 255) (hk : ∀ h', Ext h h' → K true h') : straitlaw35_MatrixWide a h K := by
  unfold straitlaw35_MatrixWide
  obtain ⟨x, rfl⟩ : ∃ x : Nat, a = (x : Int) := ⟨a.toNat, by omega⟩
  refine ⟨by omega, bindV_intro fun m hm => ?_⟩
  obtain ⟨n, hn, hn1, hn2⟩ : ∃ n : Nat, m = (n : Int) ∧ 250 ≤ n ∧ n ≤ 261 := by
    have e : Int.tmod (x : Int) 12 = ((x % 12 : Nat) : Int) := rfl
    rw [wrap64 (x := (x : Int)) (by omega) (by omega), e, wrap64 (by omega) (by omega)] at hm
    exact ⟨250 + x % 12, by omega, by omega, by omega⟩
  subst hn
  clear hm
  intro j
  have J : ∀ y ba bb h', St (h : Base) h' ((ba, ints n fun _ => 0) :: (bb, ints n fun _ => 0) :: (y, [Value.slice (some ⟨ba, 0, none⟩) n n, .slice (some ⟨bb, 0, none⟩) n n]) :: []) → j ⟨y, 0, none⟩ h' := fun y ba bb h1 s1 => by
    simp -zeta only [j]
    clear j
    rw [wL_vals] at s1
    refine ⟨n + 1, wide_l0 (h0 := h) (R := [(bb, (wL_ n).map (Value.int .i64)), (y, [Value.slice (some ⟨ba, 0, none⟩) n n, .slice (some ⟨bb, 0, none⟩) n n])]) (bb := bb) (ba := ba) (by omega) (by simp) (fun h2 q c Y km s2 => ?_) n 0 h1 none 0 (fun _ => 0) [] (by omega) .nil ?_⟩
    · have fin : ∀ (xq wq : Option Addr) (xl xc wl wc : Nat) (e : Int) (h3 : Heap) (Y3 : Rws), ((n > 256 ∧ e = 3 ∧ xl = 0) ∨ (n ≤ 256 ∧ e = 0 ∧ xl = n)) → St (h : Base) h3 (Y3 ++ (Y ++ ((ba, (upL_ n).map (Value.int .i64)) :: [(bb, (wL_ n).map (Value.int .i64)), (y, [Value.slice (some ⟨ba, 0, none⟩) n n, .slice (some ⟨bb, 0, none⟩) n n])]))) →
          newP h3 (.cells #[(.slice none 0 0), (.slice none 0 0)] 25) fun a54 h55 => stC h55 a54 (.slice xq xl xc) fun h56 => stC h56 (a54.add 1) (.slice wq wl wc) fun h57 => (∃ (x58 : Option Addr) (x58l : Nat) (x58c : Nat), cell h57 ⟨y, 0, none⟩ = some (.slice x58 x58l x58c) ∧ ∃ (x59 : Option Addr) (x59l : Nat) (x59c : Nat), cell h57 ((⟨y, 0, none⟩ : Addr).add 1) = some (.slice x59 x59l x59c) ∧ callP4 (matrix_Of x58 x58l x58c x59 x59l x59c h57) fun x60 x60l x60c x61 h62 => ((iteB (decide ((n : Int) > (256 : Int))) (iteB (e == (3 : Int)) (iteB (x61 == (3 : Int)) (∃ (x63 : Option Addr) (x63l : Nat) (x63c : Nat), cell h62 a54 = some (.slice x63 x63l x63c) ∧ iteB ((x63l : Int) == (0 : Int)) (iteB ((x60l : Int) == (0 : Int)) (qcallP1 h62 (matrix_Ultra q n c h62) fun x64 => iteB (!x64) (callP1 (straitlaw35_awake h62) fun x65 h66 => K x65 h66) (K false h62)) (K false h62)) (K false h62)) (K false h62)) (K false h62)) ((iteB (e == (0 : Int)) (iteB (x61 == (0 : Int)) (∃ (x69 : Option Addr) (x69l : Nat) (x69c : Nat), cell h62 a54 = some (.slice x69 x69l x69c) ∧ iteB ((x69l : Int) == (n : Int)) (callP1 (matrix_Same q n c x60 x60l x60c h62) fun x70 h71 => iteB x70 (callP1 (straitlaw35_awake h71) fun x72 h73 => K x72 h73) (K false h71)) (K false h62)) (K false h62)) (K false h62)))))) := by
        intro xq wq xl xc wl wc e h3 Y3 hc s3
        refine s3.new_ fun t h4 s4 => s4.st0 (by simp) fun h5 s5 => ?_
        rw [add_mk, Nat.zero_add]
        refine s5.st0 (by simp) fun h6 s6 => ?_
        have s6 : St (h : Base) h6 ((t, [Value.slice xq xl xc, .slice wq wl wc]) :: (Y3 ++ (Y ++ ((ba, (upL_ n).map (Value.int .i64)) :: [(bb, (wL_ n).map (Value.int .i64)), (y, [Value.slice (some ⟨ba, 0, none⟩) n n, .slice (some ⟨bb, 0, none⟩) n n])])))) := s6
        have ry : ∀ j, cell h6 ⟨y, j, none⟩ = [Value.slice (some ⟨ba, 0, none⟩) n n, .slice (some ⟨bb, 0, none⟩) n n][j]? := s6.rd (by simp)
        refine ⟨_, _, _, ry 0, _, _, _, ry 1, ?_⟩
        refine callP4.self (Of_of (up := upL_ n) (w := wL_ n) (upL_len n) (wL_len n) (Keeps.row (b := ba) (by simp)) (Keeps.row (b := bb) (by simp)) s6 (fun no => absurd (rightL (by omega)) no) (fun _ hgt h7 Y7 s7 => ?_) fun r hle h7 b7 Y7 k7 s7 => ?_)
        · obtain ⟨_, rfl, rfl⟩ := hc.resolve_right (by omega)
          have rt : ∀ j, cell h7 ⟨t, j, none⟩ = [Value.slice xq 0 xc, .slice wq wl wc][j]? := s7.rd (by simp)
          refine iteB_pos (decide_eq_true (by omega)) (iteB_pos rfl (iteB_pos rfl ⟨_, _, _, rt 0, iteB_pos rfl (iteB_pos rfl (qcallP1.of false (fun Q hQ => Ultra_big hgt hQ) (iteB_pos rfl (callP1.self (awake_of fun h8 s8 => hk h8 (s7.ext.trans s8))))))⟩))
        · obtain ⟨_, rfl, rfl⟩ := hc.resolve_left (by omega)
          have rt : ∀ j, cell h7 ⟨t, j, none⟩ = [Value.slice xq xl xc, .slice wq wl wc][j]? := s7.rd (by simp)
          have v1 := km.at_ s7 fun x hx => by simp [hx]
          have v2 := (k7.at_ s7 fun x hx => by simp [hx]).congr (M' := fun _ _ => 0) fun i j _ _ => mWL i j
          exact iteB_neg (decide_eq_false (by omega)) (iteB_pos rfl (iteB_pos rfl ⟨_, _, _, rt 0, iteB_pos (by simp) (callP1.self (Same_of v1 v2 (by omega) (iteB_pos rfl (callP1.self (awake_of fun h8 s8 => hk h8 (s7.ext.trans s8))))))⟩))
      rcases Nat.lt_or_ge 256 n with hgt | hle
      · exact callP7.self (Tree_big hgt s2 fun h3 Y3 s3 => fin _ _ _ _ _ _ _ h3 Y3 (.inl ⟨hgt, rfl, rfl⟩) s3)
      · exact callP7.self (Tree_of hle (ultra0 n) (km.sub fun x hx => by simp [hx]) s2 fun h3 A U W b b1 b2 Y3 _ _ s3 => fin _ _ _ _ _ _ _ h3 ((b1, ints n U) :: (b2, ints n W) :: Y3) (.inr ⟨hle, rfl, rfl⟩) s3)
    · have e : ints n (upi 0) = ints n fun _ => 0 := ints_congr fun x hx => if_neg (by omega)
      rw [e, wL_vals]; exact s1
  clear_value j
  simp -zeta only [Int.toNat_natCast]
  exact six_of (j := j) (by omega) (St.refl h) J
end Go.Proofs.Ytfidcekobjmamaa
