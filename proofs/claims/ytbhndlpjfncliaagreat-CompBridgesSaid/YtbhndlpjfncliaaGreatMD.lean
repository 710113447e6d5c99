/-
  Bridges: the document's, and the law.
-/
import Derived.Test.YtbhndlpjfncliaaGreatMC
import Derived.Test.YtbhndlpjfncliaaGreatM8
import Derived.Test.YtbhndlpjfncliaaGreatB0
namespace Go.Proofs.YtbhndlpjfncliaaGreat
set_option linter.unusedVariables false
set_option linter.unusedSimpArgs false
set_option linter.unnecessarySimpa false
open Go Go.Hp Go.RowKit
attribute [local irreducible] Go.Hp.iteB Go.Hp.stC Go.Hp.newP

theorem wo_snoc {A : List Ed} {e : Ed} {i : Nat} : woL (A ++ [e]) i = if A.length = i then woL A i else woL A i ++ [e] := by
  unfold woL
  by_cases c : A.length = i
  · rw [if_pos c, List.take_append_of_le_length (by omega), List.drop_of_length_le (by simp; omega), List.drop_of_length_le (by omega)]
  · rw [if_neg c]
    by_cases c2 : A.length < i
    · rw [List.take_of_length_le (by simp; omega), List.drop_of_length_le (by simp; omega), List.take_of_length_le (by omega), List.drop_of_length_le (by omega)]
      simp
    · rw [List.take_append_of_le_length (by omega), List.drop_append_of_le_length (by omega), List.append_assoc]
theorem filt_split (P : Nat → Bool) (i : Nat) : ∀ d, ∃ Z, (List.range (i + d)).filter P = (List.range i).filter P ++ Z ∧ ∀ z ∈ Z, i ≤ z
  | 0 => ⟨[], by simp, by simp⟩
  | d + 1 => by
    obtain ⟨Z, h1, h2⟩ := filt_split P i d
    rw [← Nat.add_assoc, filter_succ, h1]
    by_cases c : P (i + d) = true
    · rw [if_pos c]
      exact ⟨Z ++ [i + d], by rw [List.append_assoc], fun z hz => by
        rcases List.mem_append.1 hz with h | h
        · exact h2 z h
        · obtain rfl := List.mem_singleton.1 h; omega⟩
    · rw [if_neg c]
      exact ⟨Z, by rw [List.append_nil], h2⟩
section
variable {h0 : Base} {R : Rws} {n : Nat} {L : List Ed}
theorem without_l0 {K2 : Option Addr → Nat → Nat → Heap → Prop} {b4 b6 cL i0 : Nat} {qL : Option Addr} {nI : Int} (hL : L.length ≤ 1048576) (kL : Keeps h0 R qL (eV L)) (h4 : (b4, [Value.int .i64 nI, .slice qL L.length cL]) ∈ R)
    (hk : ∀ h' q c X, Own3 q c (woL L i0) X → St h0 h' (X ++ R) → K2 q (woL L i0).length c h') :
    ∀ (d i : Nat) (h : Heap) (q : Option Addr) (c : Nat) (X : Rws), i + d = L.length → Own3 q c (woL (L.take i) i0) X → St h0 h (X ++ R) →
      straitref20_Without.l0 K2 (d + 1) (i0 : Int) ⟨b4, 0, none⟩ ⟨b6, 0, none⟩ q (woL (L.take i) i0).length c (i : Int) h := by
  intro d
  induction d with
  | zero =>
    intro i h q c X hi o s
    unfold straitref20_Without.l0 straitref20_Without.b0
    have r4 : ∀ j, cell h ⟨b4, j, none⟩ = [Value.int .i64 nI, .slice qL L.length cL][j]? := s.rd (by simp [h4])
    have : i = L.length := by omega
    subst this
    rw [List.take_length] at o ⊢
    exact ⟨_, _, _, r4 1, iteB_neg (decide_eq_false (by omega)) (hk h q c X o s)⟩
  | succ d ih =>
    intro i h q c X hi o s
    unfold straitref20_Without.l0 straitref20_Without.b0
    have r4 : ∀ j, cell h ⟨b4, j, none⟩ = [Value.int .i64 nI, .slice qL L.length cL][j]? := s.rd (by simp [h4])
    obtain ⟨e, he⟩ := get_lt (l := L) (i := i) (by omega)
    have hsn := wo_snoc (A := L.take i) (e := e) (i := i0)
    rw [← take_snoc he, List.length_take, Nat.min_eq_left (by omega)] at hsn
    have hwl := wo_len (L := L.take i) (i := i0)
    rw [List.length_take] at hwl
    obtain ⟨u, v, w⟩ := e
    have nx : IntKind.i64.wrap ((i : Int) + 1) = ((i + 1 : Nat) : Int) := by rw [wrap64 (by omega) (by omega)]; omega
    refine ⟨_, _, _, r4 1, iteB_pos (decide_eq_true (by omega)) ?_⟩
    refine iteB_intro (fun c1 => ?_) fun c1 => ?_
    · have c1 : ¬ i = i0 := by have c1 : ¬ (i : Int) = (i0 : Int) := by simpa using c1
                               omega
      rw [if_neg c1] at hsn
      obtain ⟨a0, rfl, g0⟩ := kL h _ s (fun x hx => by simp [hx]) _ _ (eV_get0 he)
      obtain ⟨a1, ha1, g1⟩ := kL h _ s (fun x hx => by simp [hx]) _ _ (eV_get1 he)
      obtain ⟨a2, ha2, g2⟩ := kL h _ s (fun x hx => by simp [hx]) _ _ (eV_get2 he)
      cases ha1; cases ha2
      refine ⟨_, _, _, r4 1, ?_⟩
      rw [chkP_some, Int.toNat_natCast]
      refine ⟨by omega, u, g0, v, by rw [addr_add]; exact g1, w, by rw [addr_add]; exact g2, ?_⟩
      refine Own3.push1 o s rfl (by omega) fun q4 c4 X4 h4' o4 s4 => ?_
      rw [nx]
      have hl : (woL (L.take i) i0).length + 1 = (woL (L.take (i + 1)) i0).length := by rw [hsn, List.length_append]; rfl
      rw [hl]
      exact ih (i + 1) h4' q4 c4 X4 (by omega) (by rw [hsn]; exact o4) s4
    · have c1 : i = i0 := by have c1 : (i : Int) = (i0 : Int) := by simpa using c1
                             omega
      rw [if_pos c1] at hsn
      rw [nx, ← hsn]
      exact ih (i + 1) h q c X (by omega) (by rw [hsn]; exact o) s
theorem RWithout_of {h : Heap} {cL i0 : Nat} {qL : Option Addr} {nI : Int} {K : Int → Option Addr → Nat → Nat → Heap → Prop} (hL : L.length ≤ 1048576) (kL : Keeps h0 R qL (eV L)) (s : St h0 h R)
    (hk : ∀ h' q c X Y, Own3 q c (woL L i0) X → St h0 h' (X ++ (Y ++ R)) → K nI q (woL L i0).length c h') : straitref20_Without nI qL L.length cL (i0 : Int) h K := by
  unfold straitref20_Without
  refine s.new_ fun b4 h1 s1 => s1.new_ fun b6 h2 s2 => ⟨L.length + 1, ?_⟩
  have e0 : woL (L.take 0) i0 = [] := by simp [woL]
  have step := fun hk' => without_l0 (K2 := fun z8 z8l z8c h9 => ((∃ (x11 : Int), cell h9 ⟨b4, 0, none⟩ = some (.int .i64 x11) ∧ stC h9 ⟨b6, 0, none⟩ (.int .i64 x11) fun h12 => stC h12 ((⟨b6, 0, none⟩ : Addr).add 1) (.slice z8 z8l z8c) fun h13 => (∃ (x14 : Int), cell h13 ⟨b6, 0, none⟩ = some (.int .i64 x14) ∧ ∃ (x15 : Option Addr) (x15l : Nat) (x15c : Nat), cell h13 ((⟨b6, 0, none⟩ : Addr).add 1) = some (.slice x15 x15l x15c) ∧ K x14 x15 x15l x15c h13)))) (h0 := h0) (R := (b6, [.int .i64 0, .slice none 0 0]) :: (b4, [.int .i64 nI, .slice qL L.length cL]) :: R) (nI := nI) (cL := cL) (b4 := b4) (b6 := b6) (i0 := i0) hL kL.cons.cons (by simp) hk' L.length 0 h2 none 0 [] (by omega) (by rw [e0]; exact Own3.nil) s2
  rw [e0] at step
  refine step fun h3 q c X o s3 => ?_
  have r4 : ∀ {h' : Heap} {T : Rws}, St h0 h' T → (b4, [Value.int .i64 nI, .slice qL L.length cL]) ∈ T → ∀ j, cell h' ⟨b4, j, none⟩ = [Value.int .i64 nI, .slice qL L.length cL][j]? := fun s hm => s.rd hm
  refine ⟨_, r4 s3 (by simp) 0, ?_⟩
  have s4 : St h0 h3 ((b6, [.int .i64 0, .slice none 0 0]) :: (X ++ ((b4, [.int .i64 nI, .slice qL L.length cL]) :: R))) := (St.re s3 (by intro a; simp only [cntR_append, cntR_cons, cntR_nil, List.cons_append, List.nil_append, List.set_cons_zero, List.set_cons_succ]; omega))
  refine s4.st0 (by simp) fun h5 s5 => ?_
  rw [add_mk]
  refine s5.st0 (by simp) fun h6 s6 => ?_
  simp only [List.set_cons_zero, List.set_cons_succ, Nat.zero_add] at s6
  refine ⟨_, s6.rd0 0, _, _, _, s6.rd0 1, hk h6 q c X [(b6, [.int .i64 nI, .slice q (woL L i0).length c]), (b4, [.int .i64 nI, .slice qL L.length cL])] o ((St.re s6 (by intro a; simp only [cntR_append, cntR_cons, cntR_nil, List.cons_append, List.nil_append, List.set_cons_zero, List.set_cons_succ]; omega)))⟩
/-- How many classes. -/
abbrev kcl (n : Nat) (L : List Ed) : Nat := (clsL (joinsL n 0 (fun v => v) L) n).length
def rbrP (n : Nat) (L : List Ed) (i : Nat) : Bool := decide (kcl n (woL L i) > kcl n L)
abbrev rbrT (n : Nat) (L : List Ed) (i : Nat) : List Nat := (List.range i).filter (rbrP n L)
theorem rbridges_l0 {K2 : Option Addr → Nat → Nat → Heap → Prop} {b3 cL : Nat} {qL : Option Addr} (hn : n ≤ 4096) (hL : L.length ≤ 1048576) (kL : Keeps h0 R qL (eV L)) (h3 : (b3, [Value.int .i64 (n : Int), .slice qL L.length cL]) ∈ R)
    (hk : ∀ h' q c X Y, Hp.Own q c (natV (rbrT n L L.length)) X → St h0 h' (X ++ (Y ++ R)) → K2 q (rbrT n L L.length).length c h') :
    ∀ (d i : Nat) (h : Heap) (q : Option Addr) (c : Nat) (X Y : Rws), i + d = L.length → Hp.Own q c (natV (rbrT n L i)) X → St h0 h (X ++ (Y ++ R)) →
      straitref20_Bridges.l0 K2 (d + 1) ⟨b3, 0, none⟩ q (rbrT n L i).length c (i : Int) h := by
  intro d
  induction d with
  | zero =>
    intro i h q c X Y hi o s
    unfold straitref20_Bridges.l0 straitref20_Bridges.b0
    have r3 : ∀ j, cell h ⟨b3, j, none⟩ = [Value.int .i64 (n : Int), .slice qL L.length cL][j]? := s.rd (by simp [h3])
    have : i = L.length := by omega
    subst this
    exact ⟨_, _, _, r3 1, iteB_neg (decide_eq_false (by omega)) (hk h q c X Y o s)⟩
  | succ d ih =>
    intro i h q c X Y hi o s
    unfold straitref20_Bridges.l0 straitref20_Bridges.b0
    have r3 : ∀ {h' : Heap} {T : Rws}, St h0 h' T → (∀ x ∈ R, x ∈ T) → ∀ j, cell h' ⟨b3, j, none⟩ = [Value.int .i64 (n : Int), .slice qL L.length cL][j]? := fun s hs => s.rd (hs _ h3)
    have hfl : (rbrT n L i).length ≤ i := filter_le _ _
    have fs := filter_succ (rbrP n L) i
    have nx : IntKind.i64.wrap ((i : Int) + 1) = ((i + 1 : Nat) : Int) := by rw [wrap64 (by omega) (by omega)]; omega
    have r0 := fun j => r3 s (fun x hx => by simp [hx]) j
    refine ⟨_, _, _, r0 1, iteB_pos (decide_eq_true (by omega)) ⟨_, r0 0, _, _, _, r0 1, _, r0 0, _, _, _, r0 1, ?_⟩⟩
    refine callP4.self (RWithout_of (nI := (n : Int)) hL (kL.sub fun x hx => by simp [hx]) s fun h5 q5 c5 X5 Y5 o5 s5 => ?_)
    have r1 := fun j => r3 s5 (fun x hx => by simp [hx]) j
    have hwl := wo_len (L := L) (i := i)
    refine ⟨⟨_, r1 0, _, _, _, r1 1, rfl⟩, callP3.self (ROf20_of hn (by omega) (o5.keeps fun x hx => by simp [hx]) s5 fun h6 q6 c6 qs6 Y6 k6 l6 s6 => ?_)⟩
    have r2 := fun j => r3 s6 (fun x hx => by simp [hx]) j
    refine ⟨⟨_, r2 0, _, _, _, r2 1, rfl⟩, callP3.self (ROf20_of hn hL (kL.sub fun x hx => by simp [hx]) s6 fun h7 q7 c7 qs7 Y7 k7 l7 s7 => ?_)⟩
    have s8 : St h0 h7 (X ++ ((Y7 ++ (Y6 ++ (X5 ++ (Y5 ++ Y)))) ++ R)) := (St.re s7 (by intro a; simp only [cntR_append, cntR_cons, cntR_nil, List.cons_append, List.nil_append, List.set_cons_zero, List.set_cons_succ]; omega))
    refine iteB_intro (fun e => ?_) fun e => ?_
    · have e : rbrP n L i = true := by have e := of_decide_eq_true e; exact decide_eq_true (by unfold kcl; omega)
      rw [if_pos e] at fs
      refine Hp.Own.push1 o s8 (by rw [natV_len]) rfl (by rw [natV_len]; omega) fun q9 c9 X9 h9 o9 s9 => ?_
      rw [natV_len, nx]
      have e2 : natV (rbrT n L i) ++ [Value.int .i64 (i : Int)] = natV (rbrT n L (i + 1)) := by unfold rbrT; rw [fs]; simp [natV]
      rw [e2] at o9
      have := ih (i + 1) h9 q9 c9 X9 _ (by omega) o9 s9
      unfold rbrT at this ⊢
      rw [fs, List.length_append, List.length_singleton] at this
      exact this
    · have e : ¬ rbrP n L i = true := by have e := of_decide_eq_false e; exact fun h => e (by have := of_decide_eq_true h; unfold kcl at this; omega)
      rw [if_neg e, List.append_nil] at fs
      rw [nx]
      have := ih (i + 1) h7 q c X _ (by omega) (by unfold rbrT; rw [fs]; exact o) s8
      unfold rbrT at this ⊢
      rw [fs] at this
      exact this
theorem RBridges_of {h : Heap} {cL : Nat} {qL : Option Addr} {K : Option Addr → Nat → Nat → Heap → Prop} (hn : n ≤ 4096) (hL : L.length ≤ 1048576) (kL : Keeps h0 R qL (eV L)) (s : St h0 h R)
    (hk : ∀ h' q c X Y, Hp.Own q c (natV (rbrT n L L.length)) X → St h0 h' (X ++ (Y ++ R)) → K q (rbrT n L L.length).length c h') : straitref20_Bridges (n : Int) qL L.length cL h K := by
  unfold straitref20_Bridges
  refine s.new_ fun b3 h1 s1 => ⟨L.length + 1, ?_⟩
  refine rbridges_l0 (R := (b3, [.int .i64 (n : Int), .slice qL L.length cL]) :: R) (cL := cL) hn hL kL.cons (by simp) (fun h2 q c X Y o s2 => ?_) L.length 0 h1 none 0 [] [] (by omega) Hp.Own.nil s1
  exact hk h2 q c X (Y ++ [(b3, [.int .i64 (n : Int), .slice qL L.length cL])]) o (by simpa [List.append_assoc] using s2)
/-! ### The law -/
theorem law_l0 {K0 : Bool → Heap → Prop} {K2 : Heap → Prop} {g b8 cL lb cb : Nat} {qL qb : Option Addr} {F : List (Nat × Nat)} (hn : n ≤ 4096) (G : Gr n L) (hl : L.length ≤ 40) (hw : wsum L ≤ 2147483648 * 40)
    (hcl : ∀ i e, L[i]? = some e → kcl n (woL L i) = kcl n L + (if inF F e = true then 1 else 0))
    (nh : NetG h0.heap g n L (nearL n L)) (kL : Keeps h0 R qL (eV L)) (kb : Keeps h0 R qb (natV (brgT F L L.length))) (hlb : (brgT F L L.length).length = lb) (h8 : (b8, [Value.int .i64 (n : Int), .slice qL L.length cL]) ∈ R)
    (hk : ∀ h', St h0 h' R → K2 h') :
    ∀ (d i : Nat) (h : Heap), i + d = L.length → St h0 h R →
      straitlaw20_CompBridges.l0 K0 K2 (d + 1) (n : Int) (some ⟨g, 0, none⟩) ⟨b8, 0, none⟩ qb lb cb ((brgT F L i).length : Int) (i : Int) h := by
  intro d
  induction d with
  | zero =>
    intro i h hi s
    unfold straitlaw20_CompBridges.l0 straitlaw20_CompBridges.b0
    have r8 : ∀ j, cell h ⟨b8, j, none⟩ = [Value.int .i64 (n : Int), .slice qL L.length cL][j]? := s.rd h8
    exact ⟨_, _, _, r8 1, iteB_neg (decide_eq_false (by omega)) (hk h s)⟩
  | succ d ih =>
    intro i h hi s
    unfold straitlaw20_CompBridges.l0 straitlaw20_CompBridges.b0
    have r8 : ∀ j, cell h ⟨b8, j, none⟩ = [Value.int .i64 (n : Int), .slice qL L.length cL][j]? := s.rd h8
    obtain ⟨e, he⟩ := get_lt (l := L) (i := i) (by omega)
    have bs := brgT_succ (F := F) he
    have hc := hcl i e he
    have hbl : (brgT F L i).length ≤ i := filter_le _ _
    have hbl2 : lb ≤ L.length := by rw [← hlb]; exact filter_le _ _
    have nx : IntKind.i64.wrap ((i : Int) + 1) = ((i + 1 : Nat) : Int) := by rw [wrap64 (by omega) (by omega)]; omega
    have wn : IntKind.i64.wrap (n : Int) = n := wrap64 (by omega) (by omega)
    obtain ⟨w1, w2, w3, w4⟩ := wo_net (i := i) G hn hl hw
    have hwl := wo_len (L := L) (i := i)
    refine ⟨_, _, _, r8 1, iteB_pos (decide_eq_true (by omega)) ⟨_, r8 0, _, _, _, r8 1, ?_⟩⟩
    refine callP4.self (RWithout_of (nI := (n : Int)) (by omega) kL s fun h2 q2 c2 X2 Y2 o2 s2 => ?_)
    refine callP4.self (RSplit_of rfl (by omega) (fun x hx => by have := G.range x (wo_sub hx); have := good_le (l := L) (fun y hy => by have := G.range y hy; omega) x (wo_sub hx); unfold fits; omega) (o2.keeps fun x hx => by simp [hx]) s2 (fun no => absurd w1 no) fun _ h3 q3 c3 X3 o3 s3 => ?_)
    rw [wn]
    refine callP3.self (New_of rfl (by omega) (o3.keeps fun x hx => by simp [hx]) s3 (fun no => absurd w2 no) fun _ m g2 X4 h4 em nk s4 => ?_)
    obtain rfl : m = n := by omega
    rw [w3] at nk
    have nh2 : NetG h4 g2 m (woL L i) (nearL m (woL L i)) := nk.atG s4 (fun x hx => by simp [hx])
    have e4 : Ext h0.heap h4 := s4.ext
    have s5 : St h0 h4 R := (St.re s4 (by intro a; simp only [cntR_append, cntR_cons, cntR_nil, List.cons_append, List.nil_append, List.set_cons_zero, List.set_cons_succ]; omega))
    clear nk s4
    intro j
    have J : ∀ (k' : Int) (more : Int), k' = ((brgT F L (i + 1)).length : Int) → more = (if inF F e = true then 1 else 0) → j k' more := fun k' more hk' hm => by
      simp -zeta only [j]
      refine iteB_neg rfl (callP1.self (Count_of (h0 := (h4 : Base)) (R := []) nh2 (St.refl h4) fun h6 Y6 s6 => ?_))
      refine callP1.self (Count_of (h0 := (h6 : Base)) (R := []) (nh.ext (e4.trans s6.ext)) (St.refl h6) fun h7 Y7 s7 => ?_)
      have hk1 : kcl m (woL L i) ≤ 4096 := Nat.le_trans (clsT_le _ _ _) hn
      have hk2 : kcl m L ≤ 4096 := Nat.le_trans (clsT_le _ _ _) hn
      have hm2 : 0 ≤ more ∧ more ≤ 1 := by rw [hm]; split <;> omega
      have ek : ((kcl m (woL L i) : Nat) : Int) = (kcl m L : Int) + more := by rw [hc, hm]; split <;> omega
      refine iteB_neg ?_ ?_
      · rw [wrap64 (by unfold kcl at hk2; omega) (by unfold kcl at hk2; omega)]
        unfold kcl at ek
        rw [ek]; simp
      · rw [nx, hk']
        exact ih (i + 1) h7 (by omega) (s5.ofExt (s6.ext.trans s7.ext))
    clear_value j
    by_cases ci : inF F e = true
    · rw [if_pos ci] at bs
      obtain ⟨Z, z1, z2⟩ := filt_split (fun j => match L[j]? with | some e => inF F e | none => false) (i + 1) (L.length - (i + 1))
      rw [show i + 1 + (L.length - (i + 1)) = L.length by omega] at z1
      have z1 : brgT F L L.length = brgT F L (i + 1) ++ Z := z1
      rw [bs, List.append_assoc] at z1
      have hget : (brgT F L L.length)[(brgT F L i).length]? = some i := by rw [z1, List.getElem?_append_right (Nat.le_refl _), Nat.sub_self]; rfl
      have hlt := lt_get hget
      obtain ⟨a, ha, hcel⟩ := kb h4 _ s5 (fun x hx => hx) (brgT F L i).length (.int .i64 (i : Int)) (by unfold natV; rw [List.getElem?_map, hget]; rfl)
      subst ha
      refine iteB_pos (decide_eq_true (by omega)) ?_
      rw [chkP_some, Int.toNat_natCast, Nat.mul_one]
      refine ⟨by omega, _, hcel, iteB_pos (by simp) (J _ _ ?_ (by rw [if_pos ci]))⟩
      rw [bs, List.length_append, List.length_singleton, wrap64 (by omega) (by omega)]; omega
    · rw [if_neg ci, List.append_nil] at bs
      have J0 := J ((brgT F L i).length : Int) 0 (by rw [bs]) (by rw [if_neg ci])
      obtain ⟨Z, z1, z2⟩ := filt_split (fun j => match L[j]? with | some e => inF F e | none => false) (i + 1) (L.length - (i + 1))
      rw [show i + 1 + (L.length - (i + 1)) = L.length by omega] at z1
      have z1 : brgT F L L.length = brgT F L (i + 1) ++ Z := z1
      rw [bs] at z1
      refine iteB_intro (fun cl => ?_) fun _ => J0
      have cl := of_decide_eq_true cl
      obtain ⟨x, hx⟩ := get_lt (l := brgT F L L.length) (i := (brgT F L i).length) (by omega)
      have hxi : i + 1 ≤ x := by
        have hx2 := hx
        rw [z1, List.getElem?_append_right (Nat.le_refl _), Nat.sub_self] at hx2
        exact z2 x (List.mem_of_getElem? hx2)
      obtain ⟨a, ha, hcel⟩ := kb h4 _ s5 (fun x hx => hx) (brgT F L i).length (.int .i64 (x : Int)) (by unfold natV; rw [List.getElem?_map, hx]; rfl)
      subst ha
      rw [chkP_some, Int.toNat_natCast, Nat.mul_one]
      exact ⟨by omega, _, hcel, iteB_neg (by simp; omega) J0⟩
end
theorem Bridges_law {h : Heap} {a1 : Int} {q1 : Option Addr} {k1 c1 : Nat} {lE : List Ed} {K : Bool → Heap → Prop} (ha : 0 ≤ a1 ∧ a1 ≤ 255) (hl1 : lE.length = k1) (v1 : valsAt h q1 (eV lE))
    (hk : ∀ h', Ext h h' → K true h') : straitlaw20_CompBridges a1 q1 k1 c1 h K := by
  unfold straitlaw20_CompBridges
  have aw : ∀ h', Ext h h' → callP1 (straitlaw20_awake h') fun x h'' => K x h'' := fun h' e => callP1.self (awake_of fun h'' e' => hk h'' (e.trans e'))
  have r0 : Ext h h := (St.refl h).ext
  intro j
  refine iteB_intro (fun _ => aw h r0) fun b1 => iteB_intro (fun _ => aw h r0) fun b2 => ?_
  have b1 := of_decide_eq_false b1
  have b2 := of_decide_eq_false b2
  simp -zeta only [j]
  clear j
  obtain ⟨n, rfl⟩ : ∃ n : Nat, a1 = n := ⟨a1.toNat, by omega⟩
  have wn : IntKind.i64.wrap (n : Int) = n := wrap64 (by omega) (by omega)
  rw [wn]
  refine callP3.self (New_of (h0 := (h : Base)) (R := []) hl1 (by omega) (Keeps.old v1) (St.refl h) (fun bad h2 s2 => ?_) (fun ok m g X h2 em nk s2 => ?_))
  · exact iteB_pos (by simpa using bad) (aw h2 s2.ext)
  · obtain rfl : m = n := by omega
    refine iteB_neg rfl ?_
    have nh : NetG h2 g m (netL lE) (nearL m (netL lE)) := nk.atG s2 (fun x hx => by simp [hx])
    have e2 : Ext h h2 := s2.ext
    clear nk s2
    have G := nh.gr
    have hn := nh.hn
    obtain ⟨_, _, hk3, chk⟩ := newE_ok ok
    obtain ⟨sm1, sm2⟩ := net_small chk hk3
    refine callP6.self (RNew_of (h0 := (h2 : Base)) (R := []) hl1 (Keeps.old (v1.ext e2)) (St.refl h2) ok fun q3 c3 X3 h3 o3 s3 => ?_)
    refine s3.new_ fun bA h4 s4 => s4.st0 (by simp) fun h5 s5 => ?_
    rw [add_mk]
    refine s5.st0 (by simp) fun h6 s6 => ?_
    simp only [List.set_cons_zero, List.set_cons_succ, Nat.zero_add] at s6
    obtain ⟨st', ho, hb1, hb2⟩ := found_are (N := nearL m (netL lE)) (n := m) (m := 2 ^ 20) (near_sym G) (near_lt G) (by
      have h1 := sumB_bound (f := fun v => (nb (nearL m (netL lE)) v).length + 1) (k := 81) (fun v => by have := near_deg (n := m) (netL lE) v; omega) m
      have h2 : m * 81 ≤ 40 * 81 := Nat.mul_le_mul_right _ (by omega)
      omega)
    refine callP3.self (Bridges_of (h0 := (h2 : Base)) (m := 2 ^ 20) nh (near_all G) (by omega) ho s6 fun h7 q7 c7 X7 Y7 o7 s7 => ?_)
    have rA : ∀ {h' : Heap} {T : Rws}, St (h2 : Base) h' T → (bA, [Value.int .i64 (m : Int), .slice q3 (netL lE).length c3]) ∈ T → ∀ j, cell h' ⟨bA, j, none⟩ = [Value.int .i64 (m : Int), .slice q3 (netL lE).length c3][j]? := fun s hm => s.rd hm
    refine ⟨_, rA s7 (by simp) 0, _, _, _, rA s7 (by simp) 1, callP3.self (RBridges_of hn (by omega) (o3.keeps fun x hx => by simp [hx]) s7 fun h8 q8 c8 X8 Y8 o8 s8 => ?_)⟩
    have hcl : ∀ i e, (netL lE)[i]? = some e → kcl m (woL (netL lE) i) = kcl m (netL lE) + (if inF st'.found e = true then 1 else 0) := fun i e he => by
      have := cls_without hn G he hb1 hb2
      unfold kcl
      rw [clsL_len, clsL_len]; exact this
    have eb : rbrT m (netL lE) (netL lE).length = brgT st'.found (netL lE) (netL lE).length := by
      unfold rbrT brgT
      refine List.filter_congr fun i hi => ?_
      obtain ⟨e, he⟩ := get_lt (l := netL lE) (i := i) (List.mem_range.1 hi)
      have := hcl i e he
      unfold rbrP
      rw [he, this]
      simp only
      cases inF st'.found e
      · rw [if_neg (by decide)]; exact decide_eq_false (by omega)
      · rw [if_pos rfl]; exact decide_eq_true (by omega)
    rw [eb] at o8 ⊢
    have hbl : (brgT st'.found (netL lE) (netL lE).length).length ≤ (netL lE).length := filter_le _ _
    refine qcallP1.of true (fun Q hQ => IntsN_of (l := brgT st'.found (netL lE) (netL lE).length) (o7.keeps (h0 := (h2 : Base)) (R := X7) (fun x hx => hx) h8 _ s8 (fun x hx => by simp [hx])) (o8.keeps (h0 := (h2 : Base)) (R := X8) (fun x hx => hx) h8 _ s8 (fun x hx => by simp [hx])) rfl rfl (by omega) hQ) (iteB_neg rfl ?_)
    refine ⟨(netL lE).length + 1, ?_⟩
    have := law_l0 (h0 := (h2 : Base)) (R := X8 ++ (Y8 ++ (X7 ++ (Y7 ++ (bA, [.int .i64 (m : Int), .slice q3 (netL lE).length c3]) :: (X3 ++ []))))) (K0 := fun z h => K z h) (K2 := fun h34 => callP1 (straitlaw20_awake h34) fun x36 h37 => K x36 h37) (cL := c3) (cb := c7) (b8 := bA) (qL := q3) (F := st'.found) hn G (by omega) (by omega) hcl nh (o3.keeps fun x hx => by simp [hx]) (o7.keeps fun x hx => by simp [hx]) rfl (by simp) (fun h' s' => aw h' (e2.trans s'.ext)) (netL lE).length 0 h8 (by omega) (by simpa [List.append_assoc] using s8)
    exact this
end Go.Proofs.YtbhndlpjfncliaaGreat
