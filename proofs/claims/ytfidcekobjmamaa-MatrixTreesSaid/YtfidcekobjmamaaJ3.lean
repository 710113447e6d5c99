/-
  Matrices of trees: the program's Of, and the document's.
-/
import Derived.Test.YtfidcekobjmamaaJ2
namespace Go.Proofs.Ytfidcekobjmamaa
set_option linter.unusedVariables false
set_option linter.unusedSimpArgs false
set_option linter.unnecessarySimpa false
open Go.Hp Go.RowKit
attribute [local irreducible] Go.Hp.iteB Go.Hp.stC Go.Hp.newP

/-- What is known when some came, and of one more some. -/
def mK (up w : List Int) (A : List Nat) (v k : Nat) (x y : Nat) : Int :=
  if (x ∈ A ∧ y ∈ A) ∨ (x = v ∧ y ∈ A.take k) ∨ (y = v ∧ x ∈ A.take k) then mW up w x y else 0
def mA (up w : List Int) (A : List Nat) (x y : Nat) : Int := if x ∈ A ∧ y ∈ A then mW up w x y else 0
theorem mK_zero (up w : List Int) (A : List Nat) (v : Nat) : mK up w A v 0 = mA up w A := by
  funext x y
  unfold mK mA
  simp
theorem mK_all {up w : List Int} {A : List Nat} {v : Nat} (x y : Nat) : mK up w A v A.length x y = mA up w (A ++ [v]) x y := by
  unfold mK mA
  rw [List.take_length]
  by_cases c : (x ∈ A ∧ y ∈ A) ∨ (x = v ∧ y ∈ A) ∨ (y = v ∧ x ∈ A)
  · rw [if_pos c, if_pos]
    simp only [List.mem_append, List.mem_singleton]
    rcases c with h | h | h
    · exact ⟨.inl h.1, .inl h.2⟩
    · exact ⟨.inr h.1, .inl h.2⟩
    · exact ⟨.inl h.2, .inr h.1⟩
  · rw [if_neg c]
    by_cases c2 : x ∈ A ++ [v] ∧ y ∈ A ++ [v]
    · rw [if_pos c2]
      simp only [List.mem_append, List.mem_singleton] at c2
      have : x = v ∧ y = v := by
        rcases c2 with ⟨h1 | h1, h2 | h2⟩
        · exact absurd (.inl ⟨h1, h2⟩) c
        · exact absurd (.inr (.inr ⟨h2, h1⟩)) c
        · exact absurd (.inr (.inl ⟨h1, h2⟩)) c
        · exact ⟨h1, h2⟩
      rw [this.1, this.2, mW_diag]
    · rw [if_neg c2]
theorem mK_succ {up w : List Int} {A : List Nat} {v k u : Nat} (hu : A[k]? = some u) (hv : v ∉ A) (x y : Nat) : mK up w A v (k + 1) x y = upd2 (upd2 (mK up w A v k) u v (mW up w u v)) v u (mW up w u v) x y := by
  have hmu : u ∈ A := List.mem_of_getElem? hu
  have huv : u ≠ v := by rintro rfl; exact hv hmu
  unfold mK upd2
  rw [take_snoc hu]
  simp only [List.mem_append, List.mem_singleton]
  by_cases c1 : x = v ∧ y = u
  · rw [if_pos c1, if_pos (.inr (.inl ⟨c1.1, .inr c1.2⟩)), c1.1, c1.2, mW_sym]
  · rw [if_neg c1]
    by_cases c2 : x = u ∧ y = v
    · rw [if_pos c2, if_pos (.inr (.inr ⟨c2.2, .inr c2.1⟩)), c2.1, c2.2]
    · rw [if_neg c2]
      by_cases c3 : (x ∈ A ∧ y ∈ A) ∨ (x = v ∧ y ∈ A.take k) ∨ (y = v ∧ x ∈ A.take k)
      · rw [if_pos c3, if_pos]
        rcases c3 with h | h | h
        · exact .inl h
        · exact .inr (.inl ⟨h.1, .inl h.2⟩)
        · exact .inr (.inr ⟨h.1, .inl h.2⟩)
      · rw [if_neg c3, if_neg]
        rintro (h | ⟨h, h4 | h4⟩ | ⟨h, h4 | h4⟩)
        · exact c3 (.inl h)
        · exact c3 (.inr (.inl ⟨h, h4⟩))
        · exact c1 ⟨h, h4⟩
        · exact c3 (.inr (.inr ⟨h, h4⟩))
        · exact c2 ⟨h4, h⟩
section
variable {h0 : Base} {R : Rws} {n : Nat} {up w : List Int} {qU qW : Option Addr} {cU cW : Nat}
theorem of_l1 {K4 : Heap → Prop} {t bh v : Nat} {bs : Nat → Nat} {A : List Nat} {qc q24 : Option Addr} {cc l24 c24 : Nat} {c25 c26 : Int} (hup : up.length = n) (hw : w.length = n) (hn : n ≤ 4096) (r : RightT up w) (hv : v < n) (hvA : v ∉ A) (hA : ∀ u ∈ A, u < n ∧ isB up v u = false) (hp : A ≠ [] → ∃ p : Nat, UU up v = (p : Int) ∧ p ∈ A) (hAl : A.length ≤ 4096)
    (kc : Keeps h0 R qc (natV A)) (kW : Keeps h0 R qW (w.map (Value.int .i64))) (ht : (t, [Value.slice qU n cU, .slice qW n cW]) ∈ R) (hh : (bh, sl3 (mxq bs n n)) ∈ R)
    (hk : ∀ h', St h0 h' (mxr bs n n (mA up w (A ++ [v])) ++ R) → K4 h') :
    ∀ (d k : Nat) (h : Heap), k + d = A.length → St h0 h (mxr bs n n (mK up w A v k) ++ R) →
      matrix_Of.l1 K4 (d + 1) ⟨t, 0, none⟩ (some ⟨bh, 0, none⟩) n n qc A.length cc (v : Int) (UU up v) q24 l24 c24 c25 c26 qc A.length cc (A.length : Int) (k : Int) h
  | 0, k, h, hi, s => by
    unfold matrix_Of.l1 matrix_Of.b1
    have : k = A.length := by omega
    subst this
    rw [mxr_congr fun x y _ _ => mK_all x y] at s
    exact iteB_neg (decide_eq_false (by omega)) (hk h s)
  | d + 1, k, h, hi, s => by
    unfold matrix_Of.l1 matrix_Of.b1
    obtain ⟨u, hu⟩ := get_lt (l := A) (i := k) (by omega)
    have hmu := List.mem_of_getElem? hu
    obtain ⟨hun, hbu⟩ := hA u hmu
    obtain ⟨p, hpe, hpA⟩ := hp (fun e => by rw [e] at hmu; cases hmu)
    have hpn := (hA p hpA).1
    have hmem : ∀ {M : Nat → Nat → Int} {x : Nat × List Value}, x ∈ R → x ∈ mxr bs n n M ++ R := fun hx => List.mem_append.2 (.inr hx)
    have rt : ∀ {h' : Heap} {M : Nat → Nat → Int}, St h0 h' (mxr bs n n M ++ R) → ∀ j, cell h' ⟨t, j, none⟩ = [Value.slice qU n cU, .slice qW n cW][j]? := fun s' => s'.rd (hmem ht)
    have rh : ∀ {h' : Heap} {M : Nat → Nat → Int} {x : Nat}, St h0 h' (mxr bs n n M ++ R) → x < n → cell h' ⟨bh, x, none⟩ = some (.slice (some ⟨bs x, 0, none⟩) n n) := fun s' hx => by
      rw [(s'.rows _ (hmem hh)).cell]; exact sl3_get (mxq_get hx)
    have rw' : ∀ {h' : Heap} {M : Nat → Nat → Int} {x y : Nat}, St h0 h' (mxr bs n n M ++ R) → x < n → y < n → cell h' ⟨bs x, y, none⟩ = some (.int .i64 (M x y)) := fun s' hx hy => by
      rw [(s'.rows _ (List.mem_append.2 (.inl (mxr_mem hx)))).cell]; exact ints_get hy
    obtain ⟨ac, rfl, gc⟩ := kc h _ s (fun x hx => hmem hx) k (.int .i64 (u : Int)) (by unfold natV; rw [List.getElem?_map, hu]; rfl)
    obtain ⟨aW, hqW, gW⟩ := kW h _ s (fun x hx => hmem hx) v _ (UU_get (by rw [hw]; exact hv))
    have step := mW_step (w := w) r (u := u) (by rw [hup]; exact hv) (by rw [hup]; exact hun) hpe hbu
    refine iteB_pos (decide_eq_true (by omega)) ?_
    rw [chkP_some, Int.toNat_natCast, Nat.mul_one]
    refine ⟨by omega, _, gc, _, _, _, rt s 1, ?_⟩
    rw [hqW, chkP_some, Int.toNat_natCast, Nat.mul_one]
    refine ⟨by omega, _, gW, ?_⟩
    intro j
    have J : ∀ y : Int, y = mW up w u v → j y := fun y hy => by
      simp -zeta only [j]
      subst hy
      simp -zeta only [chkP_some, Int.toNat_natCast, Nat.mul_one, add_mk, Nat.zero_add]
      refine ⟨by omega, _, _, _, rh s hun, by omega, _, _, _, rh s hv, ?_⟩
      simp -zeta only [chkP_some, Int.toNat_natCast, Nat.mul_one, add_mk, Nat.zero_add]
      refine ⟨by omega, mxst s hun hv fun h2 s2 => ⟨by omega, mxst s2 hv hun fun h3 s3 => ?_⟩⟩
      rw [wrap64 (by omega) (by omega)]
      refine of_l1 hup hw hn r hv hvA hA hp hAl kc kW ht hh hk d (k + 1) h3 (by omega) ?_
      rw [mxr_congr fun x y _ _ => mK_succ hu hvA x y]; exact s3
    clear_value j
    rw [hpe]
    by_cases c : u = p
    · subst c
      rw [if_pos rfl] at step
      exact iteB_neg (by simp) (J _ step.symm)
    · rw [if_neg c] at step
      refine iteB_pos (by simp; omega) ?_
      simp -zeta only [chkP_some, Int.toNat_natCast, Nat.mul_one, add_mk, Nat.zero_add]
      refine ⟨by omega, _, _, _, rh s hpn, ?_⟩
      simp -zeta only [chkP_some, Int.toNat_natCast, Nat.mul_one, add_mk, Nat.zero_add]
      refine ⟨by omega, _, rw' s hpn hun, J _ ?_⟩
      have e : mK up w A v k p u = mW up w p u := if_pos (.inl ⟨hpA, hmu⟩)
      rw [e, step]
      split <;> omega
theorem of_l0 {K2 : Heap → Prop} {t bh : Nat} {bs : Nat → Nat} {q24 : Option Addr} {c24 : Nat} {O : List Nat} (hup : up.length = n) (hw : w.length = n) (hn : n ≤ 4096) (r : RightT up w) (hO : O = ordP (depL up w)) (hOl : O.length = n)
    (kO : Keeps h0 R q24 (natV O)) (kW : Keeps h0 R qW (w.map (Value.int .i64))) (kU : Keeps h0 R qU (up.map (Value.int .i64))) (ht : (t, [Value.slice qU n cU, .slice qW n cW]) ∈ R) (hh : (bh, sl3 (mxq bs n n)) ∈ R)
    (hk : ∀ h' Y, St h0 h' (mxr bs n n (mA up w O) ++ (Y ++ R)) → K2 h') :
    ∀ (d i : Nat) (h : Heap) (qc : Option Addr) (cc : Nat) (X : Rws), i + d = n → Own qc cc (natV (O.take i)) X → St h0 h (mxr bs n n (mA up w (O.take i)) ++ (X ++ R)) →
      matrix_Of.l0 K2 (d + 1) ⟨t, 0, none⟩ (some ⟨bh, 0, none⟩) n n qc (O.take i).length cc q24 O.length c24 (O.length : Int) (i : Int) h
  | 0, i, h, qc, cc, X, hi, o, s => by
    unfold matrix_Of.l0 matrix_Of.b0
    rw [List.take_of_length_le (by omega)] at s
    exact iteB_neg (decide_eq_false (by omega)) (hk h X s)
  | d + 1, i, h, qc, cc, X, hi, o, s => by
    unfold matrix_Of.l0 matrix_Of.b0
    obtain ⟨v, hvO⟩ := get_lt (l := O) (i := i) (by omega)
    have hperm : O.Perm (List.range n) := by rw [hO]; have := ordP_perm (depL up w); rw [show (depL up w).length = n by rw [← ordP_len, ← hO, hOl]] at this; exact this
    have hnd : O.Nodup := hperm.nodup_iff.2 List.nodup_range
    have hlt : ∀ x ∈ O, x < n := fun x hx => List.mem_range.1 (hperm.mem_iff.1 hx)
    have hv := hlt v (List.mem_of_getElem? hvO)
    have hvA : v ∉ O.take i := by
      intro hm
      obtain ⟨j, hj⟩ := List.mem_iff_getElem?.1 hm
      have h1 := lt_get hj
      rw [List.length_take] at h1
      rw [List.getElem?_take, if_pos (by omega)] at hj
      have h3 := lt_get hj
      have h4 := lt_get hvO
      have := List.pairwise_iff_getElem.1 hnd j i h3 h4 (by omega)
      rw [List.getElem?_eq_getElem h3] at hj
      rw [List.getElem?_eq_getElem h4] at hvO
      exact this (by rw [Option.some.inj hj, Option.some.inj hvO])
    have hclosed : ∀ e u, hasD (UU up) up.length e u → u ∈ O.take i → ∀ z, isB up z u = true → z ∈ O.take i := fun e => by
      induction e with
      | zero =>
        intro u hd hu z hz
        rw [ways_iff r hd.lt, hd.2] at hz
        by_cases c : u = z
        · rw [← c]; exact hu
        · rw [if_neg c] at hz; simp at hz
      | succ e ih =>
        intro u hd hu z hz
        by_cases c : u = z
        · rw [← c]; exact hu
        · obtain ⟨_, f, hf, hfd⟩ := id hd
          obtain ⟨j, hj⟩ := List.mem_iff_getElem?.1 hu
          have h1 := lt_get hj
          rw [List.length_take] at h1
          rw [List.getElem?_take, if_pos (by omega)] at hj
          have h2 := ord_above r (by rw [← hO]; exact hj) hd.lt hf
          rw [← hO] at h2
          have h3 : f ∈ O.take i := by
            have : (O.take i).take j = O.take j := by rw [List.take_take, Nat.min_eq_left (by omega)]
            rw [← this] at h2
            exact List.mem_of_mem_take h2
          refine ih f hfd h3 z ?_
          rw [← isB_up r hd.lt hf (fun e => c e.symm)]; exact hz
    have hA : ∀ u ∈ O.take i, u < n ∧ isB up v u = false := fun u hu => by
      refine ⟨hlt u (List.mem_of_mem_take hu), ?_⟩
      cases c : isB up v u
      · rfl
      · obtain ⟨e, he⟩ := rt_deep r (v := u) (by rw [hup]; exact hlt u (List.mem_of_mem_take hu))
        exact absurd (hclosed e u he hu v c) hvA
    have hp : O.take i ≠ [] → ∃ p : Nat, UU up v = (p : Int) ∧ p ∈ O.take i := fun hne => by
      obtain ⟨e, he⟩ := rt_deep r (v := v) (by rw [hup]; exact hv)
      cases e with
      | succ e =>
        obtain ⟨_, f, hf, _⟩ := he
        refine ⟨f, hf, ?_⟩
        have := ord_above r (by rw [← hO]; exact hvO) (by rw [hup]; exact hv) hf
        rw [← hO] at this; exact this
      | zero =>
        exfalso
        obtain ⟨u, hu⟩ := List.exists_mem_of_ne_nil _ hne
        -- the root is above all: it came already
        obtain ⟨e2, he2⟩ := rt_deep r (v := u) (by rw [hup]; exact (hA u hu).1)
        have root : ∀ e u, hasD (UU up) up.length e u → isB up v u = true := fun e => by
          induction e with
          | zero =>
            intro u hd
            have : u = v := by
              apply Classical.byContradiction
              intro hne2
              have h2 := roots_one up
              rw [r.roots] at h2
              have h3 : ((List.range up.length).filter fun z => UU up z == -1).length ≤ 1 := by omega
              have m1 : u ∈ (List.range up.length).filter fun z => UU up z == -1 := List.mem_filter.2 ⟨List.mem_range.2 hd.lt, by simp [hd.2]⟩
              have m2 : v ∈ (List.range up.length).filter fun z => UU up z == -1 := List.mem_filter.2 ⟨List.mem_range.2 he.lt, by simp [he.2]⟩
              generalize (List.range up.length).filter (fun z => UU up z == -1) = q at *
              match q, h3, m1, m2 with
              | [a], _, m1, m2 =>
                obtain rfl := List.mem_singleton.1 m1
                exact hne2 (List.mem_singleton.1 m2).symm
            rw [this]; exact isB_self r he.lt
          | succ e ih =>
            intro u hd
            obtain ⟨_, f, hf, hfd⟩ := id hd
            by_cases c : v = u
            · rw [c]; exact isB_self r hd.lt
            · rw [isB_up r hd.lt hf c]; exact ih f hfd
        have := root e2 u he2
        rw [(hA u hu).2] at this; cases this
    have hmem : ∀ {M : Nat → Nat → Int} {x : Nat × List Value}, x ∈ R → x ∈ mxr bs n n M ++ (X ++ R) := fun hx => List.mem_append.2 (.inr (List.mem_append.2 (.inr hx)))
    obtain ⟨aO, rfl, gO⟩ := kO h _ s (fun x hx => hmem hx) i (.int .i64 (v : Int)) (by unfold natV; rw [List.getElem?_map, hvO]; rfl)
    obtain ⟨aU, hqU, gU⟩ := kU h _ s (fun x hx => hmem hx) v _ (UU_get (by rw [hup]; exact hv))
    have rt : ∀ j, cell h ⟨t, j, none⟩ = [Value.slice qU n cU, .slice qW n cW][j]? := s.rd (hmem ht)
    refine iteB_pos (decide_eq_true (by omega)) ?_
    rw [chkP_some, Int.toNat_natCast, Nat.mul_one]
    refine ⟨by omega, _, gO, _, _, _, rt 0, ?_⟩
    rw [hqU, chkP_some, Int.toNat_natCast, Nat.mul_one]
    refine ⟨by omega, _, gU, (O.take i).length + 1, ?_⟩
    have hl : (O.take i).length = i := by rw [List.length_take]; omega
    refine of_l1 (R := X ++ R) (qU := qU) (cU := cU) (cW := cW) (bs := bs) hup hw hn r hv hvA hA hp (by omega) (o.keeps fun x hx => by simp [hx]) (kW.sub fun x hx => by simp [hx]) (by simp [ht]) (by simp [hh]) (fun h2 s2 => ?_) (O.take i).length 0 h (by omega) (by rw [mK_zero]; exact s)
    have s3 : St h0 h2 (X ++ (mxr bs n n (mA up w (O.take i ++ [v])) ++ R)) := s2.flip
    refine Own.push1 o s3 (by rw [natV_len]) rfl (by rw [natV_len]; omega) fun q4 c4 X4 h4 o4 s4 => ?_
    rw [natV_len, wrap64 (by omega) (by omega)]
    have e2 : natV (O.take i) ++ [Value.int .i64 (v : Int)] = natV (O.take (i + 1)) := by rw [take_snoc hvO]; simp [natV]
    have hl2 : (O.take i).length + 1 = (O.take (i + 1)).length := by rw [take_snoc hvO, List.length_append]; rfl
    rw [e2] at o4
    rw [← take_snoc hvO] at s4
    rw [hl2]
    exact of_l0 hup hw hn r hO hOl kO kW kU ht hh hk d (i + 1) h4 q4 c4 X4 (by omega) o4 s4.flip
theorem Of_of {h : Heap} {m : Nat} {K : Option Addr → Nat → Nat → Int → Heap → Prop} (hup : up.length = n) (hw : w.length = m) (kU : Keeps h0 R qU (up.map (Value.int .i64))) (kW : Keeps h0 R qW (w.map (Value.int .i64))) (s : St h0 h R)
    (hk0 : ¬ RightT up w → ∀ h' Y, St h0 h' (Y ++ R) → K none 0 0 15 h')
    (hk1 : RightT up w → n > 256 → ∀ h' Y, St h0 h' (Y ++ R) → K none 0 0 3 h')
    (hk : RightT up w → n ≤ 256 → ∀ h' b Y, MxK h0 Y (some ⟨b, 0, none⟩) n (mW up w) → St h0 h' (Y ++ R) → K (some ⟨b, 0, none⟩) n n 0 h') : matrix_Of qU n cU qW m cW h K := by
  unfold matrix_Of
  refine s.new_ fun t h1 s1 => ⟨_, _, _, s1.rd0 0, _, _, _, s1.rd0 1, callP1.self (Check_of hup hw kU.cons kW.cons s1 fun h2 s2 => ?_)⟩
  by_cases r : RightT up w
  · rw [if_pos r]
    refine iteB_neg rfl ⟨_, _, _, s2.rd0 0, iteB_intro (fun c => hk1 r (by have := of_decide_eq_true c; omega) h2 [(t, [.slice qU n cU, .slice qW m cW])] s2) fun c => ?_⟩
    have c : n ≤ 256 := by have := of_decide_eq_false c; omega
    have hm : m = n := by rw [← hw, ← hup]; exact r.len
    subst hm
    refine callP3.self (Square_of (by omega) s2 fun bh bs h3 s3 => ?_)
    have rt : ∀ j, cell h3 ⟨t, j, none⟩ = [Value.slice qU m cU, .slice qW m cW][j]? := s3.rd (by simp)
    refine ⟨_, _, _, rt 0, _, _, _, rt 1, callP3.self (POrder_of hup hw (by omega) (kU.sub fun x hx => by simp [hx]) (kW.sub fun x hx => by simp [hx]) s3 fun bo h4 s4 => ?_)⟩
    have hdl : (depL up w).length = m := by rw [depL, if_pos r]; simp [hup]
    have hOl : (ordP (depL up w)).length = m := by rw [ordP_len, hdl]
    have s5 : St h0 h4 (mxr bs m m (mA up w ((ordP (depL up w)).take 0)) ++ ([] ++ ((bo, natV (ordP (depL up w))) :: (bh, sl3 (mxq bs m m)) :: (t, [.slice qU m cU, .slice qW m cW]) :: R))) := by
      rw [mxr_congr (M := mA up w ((ordP (depL up w)).take 0)) (M' := fun _ _ => 0) (fun x y _ _ => by unfold mA; rw [List.take_zero, if_neg (by simp)])]
      exact (St.re s4 (by intro a; simp only [cntR_append, cntR_cons, cntR_nil, List.cons_append, List.nil_append, List.set_cons_zero, List.set_cons_succ]; omega))
    refine ⟨m + 1, ?_⟩
    have := of_l0 (h0 := h0) (R := (bo, natV (ordP (depL up w))) :: (bh, sl3 (mxq bs m m)) :: (t, [.slice qU m cU, .slice qW m cW]) :: R) (K2 := fun h16 => K (some ⟨bh, 0, none⟩) m m 0 h16) (t := t) (bh := bh) (bs := bs) (q24 := some ⟨bo, 0, none⟩) (c24 := (depL up w).length) (qU := qU) (qW := qW) (cU := cU) (cW := cW) hup hw (by omega) r rfl hOl (Keeps.row (b := bo) (by simp)) (kW.sub fun x hx => by simp [hx]) (kU.sub fun x hx => by simp [hx]) (by simp) (by simp) (fun h6 Y6 s6 => ?_) m 0 h4 none 0 [] (by omega) Own.nil s5
    · rw [hOl] at this
      rw [hdl] at this ⊢
      exact this
    · have hall : ∀ x, x < m → x ∈ ordP (depL up w) := fun x hx => (ordP_perm _).mem_iff.2 (by rw [hdl]; exact List.mem_range.2 hx)
      rw [mxr_congr (M := mA up w (ordP (depL up w))) (M' := mW up w) (fun x y hx hy => if_pos ⟨hall x hx, hall y hy⟩)] at s6
      exact hk r c h6 bh (mxr bs m m (mW up w) ++ (Y6 ++ [(bo, natV (ordP (depL up w))), (bh, sl3 (mxq bs m m)), (t, [.slice qU m cU, .slice qW m cW])])) (mxr_keeps (bs := bs) (bh := bh) (fun x hx => by simp [hx]) (by simp)) (by simpa [List.append_assoc] using s6)
  · rw [if_neg r]
    exact iteB_pos rfl (hk0 r h2 [(t, [.slice qU n cU, .slice qW m cW])] s2)
/-! ### The document's -/
theorem rof_l1 {K4 : Heap → Prop} {t b x : Nat} {q3 : Option Addr} {l3 c3 : Nat} (hup : up.length = n) (hw : w.length = n) (hn : n ≤ 4096) (r : RightT up w) (hx : x < n) (kU : Keeps h0 R qU (up.map (Value.int .i64))) (kW : Keeps h0 R qW (w.map (Value.int .i64))) (ht : (t, [Value.slice qU n cU, .slice qW n cW]) ∈ R)
    (hk : ∀ h' Y, St h0 h' ((b, ints n (mW up w x)) :: (Y ++ R)) → K4 h') :
    ∀ (d y : Nat) (h : Heap) (Y : Rws), y + d = n → St h0 h ((b, ints n fun z => if z < y then mW up w x z else 0) :: (Y ++ R)) →
      straitref35_Of.l1 K4 (d + 1) ⟨t, 0, none⟩ q3 l3 c3 (x : Int) ⟨b, 0, none⟩ n n (y : Int) h
  | 0, y, h, Y, hi, s => by
    unfold straitref35_Of.l1 straitref35_Of.b1
    have rt : ∀ j, cell h ⟨t, j, none⟩ = [Value.slice qU n cU, .slice qW n cW][j]? := s.rd (by simp [ht])
    rw [ints_congr (g := mW up w x) fun z hz => if_pos (by omega)] at s
    exact ⟨_, _, _, rt 0, iteB_neg (decide_eq_false (by omega)) (hk h Y s)⟩
  | d + 1, y, h, Y, hi, s => by
    unfold straitref35_Of.l1 straitref35_Of.b1
    have rt : ∀ {h' : Heap} {T : Rws}, St h0 h' T → (∀ z ∈ R, z ∈ T) → ∀ j, cell h' ⟨t, j, none⟩ = [Value.slice qU n cU, .slice qW n cW][j]? := fun s' hs => s'.rd (hs _ ht)
    refine ⟨_, _, _, rt s (fun z hz => by simp [hz]) 0, iteB_pos (decide_eq_true (by omega)) ⟨_, _, _, rt s (fun z hz => by simp [hz]) 0, _, _, _, rt s (fun z hz => by simp [hz]) 1, ?_⟩⟩
    refine callP2.self (RLeast_of hup hw hn (kU.sub fun z hz => by simp [hz]) (kW.sub fun z hz => by simp [hz]) s (fun no => absurd ⟨r, by omega, by omega, by omega, by omega⟩ no) fun x' y' _ ex ey hx' hy' h2 s2 => ?_)
    obtain rfl : x = x' := by omega
    obtain rfl : y = y' := by omega
    refine s2.new_ fun b2 h3 s3 => s3.st0 (by simp) fun h4 s4 => ?_
    rw [add_mk]
    refine s4.st0 (by simp) fun h5 s5 => ?_
    simp only [List.set_cons_zero, List.set_cons_succ, Nat.zero_add] at s5
    have nx : IntKind.i64.wrap ((y : Int) + 1) = ((y + 1 : Nat) : Int) := by rw [wrap64 (by omega) (by omega)]; omega
    obtain ⟨m1, m2⟩ := mW_min (up := up) (w := w) x y
    have em : mW up w x y = if (leastD up (UU w) up.length x y).2 = true then UU w (leastD up (UU w) up.length x y).1 else 0 := rfl
    rw [hup] at m1 m2 em
    generalize leastD up (UU w) n x y = o at *
    obtain ⟨z, ok⟩ := o
    simp only at m1 m2 em s5 ⊢
    rw [nx]
    refine ⟨_, s5.rd0 1, ?_⟩
    cases ok with
    | true =>
      rw [if_pos rfl] at em
      have hz := (m2 rfl).1.1
      rw [hup] at hz
      obtain ⟨aW, hqW, gW⟩ := kW h5 _ s5 (fun z hz => by simp [hz]) z _ (UU_get (by rw [hw]; exact hz))
      refine iteB_pos rfl ⟨_, _, _, rt s5 (fun z hz => by simp [hz]) 1, _, s5.rd0 0, ?_⟩
      rw [hqW, chkP_some, Int.toNat_natCast, Nat.mul_one]
      refine ⟨by omega, _, gW, ⟨by omega, by omega⟩, ?_⟩
      rw [Int.toNat_natCast, Nat.mul_one, add_mk, Nat.zero_add]
      have s6 : St h0 h5 ((b, ints n fun z => if z < y then mW up w x z else 0) :: (((b2, [.int .i64 (z : Int), .bool true]) :: Y) ++ R)) := (St.re s5 (by intro a; simp only [cntR_append, cntR_cons, cntR_nil, List.cons_append, List.nil_append, List.set_cons_zero, List.set_cons_succ]; omega))
      refine s6.st0 (by rw [ints_length]; omega) fun h7 s7 => ?_
      rw [ints_set] at s7
      refine rof_l1 hup hw hn r hx kU kW ht hk d (y + 1) h7 ((b2, [.int .i64 (z : Int), .bool true]) :: Y) (by omega) ?_
      rw [ints_congr (g := upd (fun z => if z < y then mW up w x z else 0) y (UU w z)) fun z' hz' => ?_]
      · exact s7
      · show (if z' < y + 1 then mW up w x z' else 0) = upd (fun z => if z < y then mW up w x z else 0) y (UU w z) z'
        unfold upd
        by_cases c : z' = y
        · rw [if_pos c, if_pos (by omega), c, em]
        · rw [if_neg c]
          show (if z' < y + 1 then mW up w x z' else 0) = (if z' < y then mW up w x z' else 0)
          by_cases c2 : z' < y
          · rw [if_pos c2, if_pos (by omega)]
          · rw [if_neg c2, if_neg (by omega)]
    | false =>
      rw [if_neg (by decide)] at em
      refine iteB_neg rfl (rof_l1 hup hw hn r hx kU kW ht hk d (y + 1) h5 ((b2, [.int .i64 (z : Int), .bool false]) :: Y) (by omega) ?_)
      rw [ints_congr (f := fun z => if z < y + 1 then mW up w x z else 0) (g := fun z => if z < y then mW up w x z else 0) fun z' hz' => ?_]
      · exact (St.re s5 (by intro a; simp only [cntR_append, cntR_cons, cntR_nil, List.cons_append, List.nil_append, List.set_cons_zero, List.set_cons_succ]; omega))
      · show (if z' < y + 1 then mW up w x z' else 0) = (if z' < y then mW up w x z' else 0)
        by_cases c : z' = y
        · rw [if_pos (by omega), if_neg (by omega), c, em]
        · by_cases c2 : z' < y
          · rw [if_pos c2, if_pos (by omega)]
          · rw [if_neg c2, if_neg (by omega)]
theorem sl3_app (a b : List Sl3) : sl3 (a ++ b) = sl3 a ++ sl3 b := by simp [sl3]
theorem mxq_succ {bs : Nat → Nat} {m b : Nat} : mxq (upd bs m b) (m + 1) n = mxq bs m n ++ [(some ⟨b, 0, none⟩, n, n)] := by
  unfold mxq
  rw [List.range_succ, List.map_append]
  congr 1
  · exact List.map_congr_left fun k hk => by rw [upd_ne _ _ (by have := List.mem_range.1 hk; omega)]
  · simp [upd_same]
theorem rof_l0 {K2 : Option Addr → Nat → Nat → Heap → Prop} {t : Nat} (hup : up.length = n) (hw : w.length = n) (hn : n ≤ 4096) (r : RightT up w) (kU : Keeps h0 R qU (up.map (Value.int .i64))) (kW : Keeps h0 R qW (w.map (Value.int .i64))) (ht : (t, [Value.slice qU n cU, .slice qW n cW]) ∈ R)
    (hk : ∀ h' q c Y, MxK h0 Y q n (mW up w) → St h0 h' (Y ++ R) → K2 q n c h') :
    ∀ (d i : Nat) (h : Heap) (q : Option Addr) (c : Nat) (bs : Nat → Nat) (X Y : Rws), i + d = n → Own q c (sl3 (mxq bs i n)) X → St h0 h (X ++ ((mxr bs i n (mW up w) ++ Y) ++ R)) →
      straitref35_Of.l0 K2 (d + 1) ⟨t, 0, none⟩ q i c (i : Int) h
  | 0, i, h, q, c, bs, X, Y, hi, o, s => by
    unfold straitref35_Of.l0 straitref35_Of.b0
    have rt : ∀ j, cell h ⟨t, j, none⟩ = [Value.slice qU n cU, .slice qW n cW][j]? := s.rd (by simp [ht])
    have : i = n := by omega
    subst this
    refine ⟨_, _, _, rt 0, iteB_neg (decide_eq_false (by omega)) (hk h q c (X ++ (mxr bs i i (mW up w) ++ Y)) ?_ (by simpa [List.append_assoc] using s))⟩
    exact ⟨mxq bs i i, mxq_len _ _ _, o.keeps fun x hx => by simp [hx], fun j x hx => by
      have hj := lt_get hx
      rw [mxq_len] at hj
      rw [mxq_get hj] at hx
      obtain rfl := Option.some.inj hx
      exact ⟨rfl, Nat.le_refl _, Keeps.row (R := X ++ (mxr bs i i (mW up w) ++ Y)) (b := bs j) (by simp [mxr_mem hj])⟩⟩
  | d + 1, i, h, q, c, bs, X, Y, hi, o, s => by
    unfold straitref35_Of.l0 straitref35_Of.b0
    have rt : ∀ j, cell h ⟨t, j, none⟩ = [Value.slice qU n cU, .slice qW n cW][j]? := s.rd (by simp [ht])
    refine ⟨_, _, _, rt 0, iteB_pos (decide_eq_true (by omega)) ⟨_, _, _, rt 0, ⟨by omega, by omega, by omega, by omega⟩, s.new_ fun b h2 s2 => ⟨n + 1, ?_⟩⟩⟩
    rw [Int.toNat_natCast] at s2 ⊢
    rw [ints_zero] at s2
    refine rof_l1 (R := X ++ ((mxr bs i n (mW up w) ++ Y) ++ R)) (qU := qU) (qW := qW) (cU := cU) (cW := cW) (b := b) hup hw hn r (by omega) (kU.sub fun x hx => by simp [hx]) (kW.sub fun x hx => by simp [hx]) (by simp [ht]) (fun h3 Y3 s3 => ?_) n 0 h2 [] (by omega) (by
      rw [ints_congr (g := fun _ => 0) fun z hz => if_neg (by omega)]; exact s2)
    have s4 : St h0 h3 (X ++ ((mxr (upd bs i b) (i + 1) n (mW up w) ++ (Y3 ++ Y)) ++ R)) := by
      rw [mxr_succ]; exact (St.re s3 (by intro a; simp only [cntR_append, cntR_cons, cntR_nil, List.cons_append, List.nil_append, List.set_cons_zero, List.set_cons_succ]; omega))
    refine Own.push1 o s4 (by rw [sl3_len, mxq_len]) rfl (by rw [sl3_len, mxq_len]; omega) fun q5 c5 X5 h5 o5 s5 => ?_
    rw [sl3_len, mxq_len, wrap64 (by omega) (by omega)]
    refine rof_l0 hup hw hn r kU kW ht hk d (i + 1) h5 q5 c5 (upd bs i b) X5 (Y3 ++ Y) (by omega) ?_ s5
    rw [mxq_succ, sl3_app]; exact o5
theorem ROf_of {h : Heap} {K : Option Addr → Nat → Nat → Heap → Prop} (hup : up.length = n) (hw : w.length = n) (hn : n ≤ 4096) (r : RightT up w) (kU : Keeps h0 R qU (up.map (Value.int .i64))) (kW : Keeps h0 R qW (w.map (Value.int .i64))) (s : St h0 h R)
    (hk : ∀ h' q c Y, MxK h0 Y q n (mW up w) → St h0 h' (Y ++ R) → K q n c h') : straitref35_Of qU n cU qW n cW h K := by
  unfold straitref35_Of
  refine s.new_ fun t h1 s1 => ⟨n + 1, rof_l0 (R := (t, [.slice qU n cU, .slice qW n cW]) :: R) (qU := qU) (qW := qW) (cU := cU) (cW := cW) (t := t) hup hw hn r kU.cons kW.cons (by simp) (fun h2 q c Y k s2 => ?_) n 0 h1 none 0 (fun _ => 0) [] [] (by omega) Own.nil s1⟩
  exact hk h2 q c (Y ++ [(t, [.slice qU n cU, .slice qW n cW])]) (k.sub fun x hx => by simp [hx]) (by simpa [List.append_assoc] using s2)
end
end Go.Proofs.Ytfidcekobjmamaa
