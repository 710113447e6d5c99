/-
  The three laws of layer 1.
-/
import Derived.Test.YthcdjimpppajjaaS3
namespace Go.Proofs.Ythcdjimpppajjaa
set_option linter.unusedVariables false
set_option linter.unusedSimpArgs false
open Go.Hp Go.RowKit

theorem F6_of {h : Heap} {K : Bool → Heap → Prop} (hk : ∀ h', Ext h h' → K true h') : F6 h K := by
  unfold F6
  refine qcallP2.of _ _ (fun R => F12_of (a := 3) (b := 4) (by decide) (by decide)) ?_
  refine qcallP2.of _ _ (fun R => F14_of (a := 1099511627776) (b := 1099511627776) (by decide) (by decide)) ?_
  refine newP_intro (cs := [.int .i64 1, .int .i64 2, .int .i64 3]) fun p h6 hp hs he hr => ?_
  have hv : valsAt h6 (some ⟨p, 0, none⟩) (ints [1, 2, 3]) := valsAt.row hr (fun i v hi => by rw [Nat.zero_add]; exact hi)
  refine callP2.self (F11_of (l := [1, 2, 3]) hv (by decide) (by decide) fun h' he' => ?_)
  have : sumR [1, 2, 3] = (6, true) := by decide
  rw [this]
  exact iteB_pos (by decide) (iteB_pos (by decide) (iteB_pos (by decide) (iteB_pos (by decide) (hk _ (he.trans he')))))

theorem F4_of {a b : Int} {h : Heap} {K : Bool → Heap → Prop} (ha : fits a) (hb : fits b) (hk : ∀ h', Ext h h' → K true h') : F4 a b h K := by
  unfold F4
  refine qcallP2.of _ _ (fun R => F12_of ha hb) ?_
  refine qcallP2.of _ _ (fun R => F13_of ha hb) ?_
  refine qcallP2.of _ _ (fun R => F14_of ha hb) ?_
  refine callP2.self (F15_of ha hb fun h1 e1 => callP1.self (F10_of fun h2 e2 => iteB_pos (by simp) ?_))
  refine callP2.self (F16_of ha hb fun h3 e3 => callP1.self (F10_of fun h4 e4 => iteB_pos (by simp) ?_))
  refine callP2.self (F17_of ha hb fun h5 e5 => callP1.self (F10_of fun h6 e6 => iteB_pos (by simp) ?_))
  exact callP1.self (F6_of fun h7 e7 => hk _ ((((((e1.trans e2).trans e3).trans e4).trans e5).trans e6).trans e7))

theorem F5_of {a b : Int} {h : Heap} {K : Bool → Heap → Prop} (ha : fits a) (hb : fits b) (hk : ∀ h', Ext h h' → K true h') : F5 a b h K := by
  unfold F5
  refine qcallP2.of _ _ (fun R => F12_of ha hb) ?_
  intro j
  have hj : j := by
    show qcallP2 _ _ _
    refine qcallP2.of _ _ (fun R => F14_of ha hb) ?_
    refine qcallP2.of _ _ (fun R => F14_of hb ha) ?_
    have hc : mulR b a = mulR a b := by unfold mulR; rw [Int.mul_comm]
    rw [hc]
    refine iteB_pos (by simp) (iteB_pos (by simp) ?_)
    have aw : callP1 (F6 h) fun x h' => K x h' := callP1.self (F6_of hk)
    refine iteB_intro (fun _ => aw) fun e => iteB_intro (fun _ => aw) fun e0 => iteB_intro (fun _ => aw) fun e1 => ?_
    have e0 : a ≠ 0 := by simpa using e0
    refine ⟨e0, iteB_pos ?_ aw⟩
    have e : (mulR a b).2 = true := by simpa using e
    unfold mulR at e ⊢
    split at e
    · rename_i hf
      rw [if_pos hf]
      simp only [Int.mul_tdiv_cancel_left _ e0]
      unfold fits at hb
      rw [wrap_id (by omega) (by omega)]; simp
    · cases e
  refine iteB_intro (fun e => ?_) (fun _ => hj)
  have hf : fits (a + b) := by
    unfold addR at e; split at e
    · assumption
    · cases e
  have ea : addR a b = (a + b, true) := by simp [addR, hf]
  rw [ea]
  refine qcallP2.of _ _ (fun R => F13_of hf hb) ?_
  refine qcallP2.of _ _ (fun R => F13_of hf ha) ?_
  have s1 : subR (a + b) b = (a, true) := by unfold subR; rw [show a + b - b = a by omega, if_pos ha]
  have s2 : subR (a + b) a = (b, true) := by unfold subR; rw [show a + b - a = b by omega, if_pos hb]
  rw [s1, s2]
  exact iteB_neg rfl (iteB_neg rfl (iteB_neg (by simp) (iteB_neg (by simp) hj)))

theorem F3_loop {h0 : Heap} {q : Option Addr} {l : List Int} {cap p : Nat} {K0 : Bool → Heap → Prop} {K1 : Heap → Prop} (hq : valsAt h0 q (ints l)) (hl : ∀ n ∈ l, fits n) (hlen : l.length ≤ 200) (hcap : l.length ≤ cap) (hp : h0.size ≤ p)
    (k1 : ∀ h', Ext h0 h' → K1 h') :
    ∀ (d i : Nat) (h : Heap), i + d = l.length → Ext h0 h → (∃ s, fits s ∧ row h p (accV s (!(sumR (l.take i)).2)) ∧ ((sumR (l.take i)).2 = true → s = (sumR (l.take i)).1)) → ∀ m, d < m →
      F3.l0 K0 K1 m q l.length cap ⟨p, 0, none⟩ (i : Int) h := by
  intro d
  induction d with
  | zero =>
    intro i h hi he hr m hm
    obtain ⟨m, rfl⟩ : ∃ k, m = k + 1 := ⟨m - 1, by omega⟩
    show F3.b0 _ _ _ _ _ _ _ _ _
    exact iteB_neg (by simp; omega) (k1 h he)
  | succ d ih =>
    intro i h hi he hr m hm
    obtain ⟨m, rfl⟩ : ∃ k, m = k + 1 := ⟨m - 1, by omega⟩
    show F3.b0 _ _ _ _ _ _ _ _ _
    have hlt : i < l.length := by omega
    obtain ⟨n, hn⟩ : ∃ n, l[i]? = some n := ⟨l[i], by simp [hlt]⟩
    have hnf := hl n (List.mem_of_getElem? hn)
    obtain ⟨a, ha, hc⟩ := hq i _ (ints_get hn)
    subst ha
    obtain ⟨s, hsf, hrow, hsv⟩ := hr
    refine iteB_pos (by simpa using hlt) ?_
    rw [wrap_id (by omega) (by omega)]
    refine ⟨⟨by omega, by omega⟩, ?_⟩
    have hcap0 : cap ≠ 0 := by omega
    simp only [hcap0, if_false, Option.map_some, Nat.zero_mul, show ∀ a : Addr, a.add 0 = a from fun a => by simp [Addr.add]]
    have htk : (l.take (i + 1)).length = i + 1 := by rw [List.length_take]; omega
    have hq' : valsAt h (some a) (ints (l.take (i + 1))) := by
      have := (hq.ext he).take (i + 1)
      unfold ints at this ⊢; rw [List.map_take]; exact this
    have h7 := @F7_of h (some a) (l.take (i + 1)) cap
    rw [htk] at h7
    rw [show ((i : Int) + 1).toNat = i + 1 by omega]
    refine callP2.self (h7 hq' (fun n hn => hl n (List.mem_of_mem_take hn)) (by omega) fun h1 e1 => ?_)
    refine newP_intro fun b h2 hb hs2 e2 hr2 => ?_
    subst hb
    simp only [add_mk, Nat.zero_add]
    refine stC_row hr2 (by simp) (stC_row (hr2.set 0 _) (by simp) ?_)
    have hX := (hr2.set 0 (.int .i64 (sumR (l.take (i + 1))).1)).set 1 (.bool (sumR (l.take (i + 1))).2)
    have eh : Ext h (setC (setC h2 ⟨h1.size, 0, none⟩ (.int .i64 (sumR (l.take (i + 1))).1)) ⟨h1.size, 1, none⟩ (.bool (sumR (l.take (i + 1))).2)) :=
      ((e1.trans e2).setC (p := ⟨h1.size, 0, none⟩) e1.size _).setC (p := ⟨h1.size, 1, none⟩) e1.size _
    generalize setC (setC h2 ⟨h1.size, 0, none⟩ (.int .i64 (sumR (l.take (i + 1))).1)) ⟨h1.size, 1, none⟩ (.bool (sumR (l.take (i + 1))).2) = h3 at hX eh ⊢
    simp only [chkP_some]
    refine ⟨⟨by omega, by omega⟩, n, by simp only [Int.toNat_natCast, Nat.mul_one]; exact (he.trans eh).cell' hc, ?_⟩
    have hstep : sumR (l.take (i + 1)) = stepR (sumR (l.take i)) n := by rw [take_succ hn, sumR_snoc]
    have hpne : p < h.size := hrow.lt
    have hbig : h.size ≤ h1.size := e1.size
    -- what is left of the round, once the accumulator has been told of n
    have rest : ∀ (x : Bool) (h4 : Heap) (s' : Int), Chg (· = p) h3 h4 → x = (sumR (l.take (i + 1))).2 → fits s' → row h4 p (accV s' (!(sumR (l.take (i + 1))).2)) → ((sumR (l.take (i + 1))).2 = true → s' = (sumR (l.take (i + 1))).1) →
        qcallP2 h4 (F9 (some ⟨p, 0, none⟩) h4) fun x1018 x1019 => (∃ (x1020 : Bool), cell h4 ⟨h1.size, 1, none⟩ = some (.bool x1020) ∧ iteB (!(x == x1020)) (K0 false h4) (∃ (x1021 : Int), cell h4 ⟨h1.size, 0, none⟩ = some (.int .i64 x1021) ∧ ∃ (x1022 : Bool), cell h4 ⟨h1.size, 1, none⟩ = some (.bool x1022) ∧ callP1 (F10 x1018 x1019 x1021 x1022 h4) fun x1023 h1024 => iteB (!x1023) (K0 false h1024) (((0 : Int) ≤ i ∧ (i : Int) < (l.length : Int)) ∧ ∃ (x1026 : Int), cell h1024 (a.add ((i : Int).toNat * 1)) = some (.int .i64 x1026) ∧ callP1 (F8 none x1026 h1024) fun x1027 h1028 => (iteB x1027 (K0 false h1028) (((F3.l0 K0 K1 m (some a) l.length cap ⟨p, 0, none⟩ ((i : Int) + 1) h1028))))))) := by
      intro x h4 s' hcg hx hsf' hrow' hsv'
      refine qcallP2.of _ _ (fun R => F9_of hrow') ?_
      have hX4 := hX.chg hcg (by show h1.size ≠ p; omega)
      refine ⟨(sumR (l.take (i + 1))).2, by rw [hX4.cell]; rfl, iteB_neg (by rw [hx]; simp) ⟨(sumR (l.take (i + 1))).1, by rw [hX4.cell]; rfl, _, by rw [hX4.cell]; rfl, ?_⟩⟩
      refine callP1.self (F10_of fun h5 e5 => iteB_neg ?_ ⟨⟨by omega, by omega⟩, n, ?_, callP1.self (F8_nil ?_)⟩)
      · cases hok : (sumR (l.take (i + 1))).2 with
        | true => have := hsv' hok; simp [this]
        | false =>
          have hz : (sumR (l.take (i + 1))).1 = 0 := by
            rw [hstep] at hok ⊢
            unfold stepR at hok ⊢
            split at hok
            · rename_i hp'; rw [if_pos hp', addR_no hok]
            · rename_i hp'
              rw [if_neg hp']
              suffices ∀ (k : List Int) (p : Int × Bool), (p.2 = false → p.1 = 0) → ((k.foldl stepR p).2 = false → (k.foldl stepR p).1 = 0) from this (l.take i) (0, true) (fun h => by cases h) (by simpa [sumR] using hp')
              intro k
              induction k with
              | nil => intro p h; exact h
              | cons n k ih => intro p h; exact ih _ (by
                  unfold stepR; split
                  · intro e; rw [addR_no e]
                  · exact h)
          simp [hz]
      · simp only [Int.toNat_natCast, Nat.mul_one]
        exact e5.cell' ((Chg.cell hcg ((he.trans eh).cell' hc)) (by have := cell_lt hc; simp at this; show ¬ (a.add i).block = p; simp; omega))
      · refine iteB_neg rfl (ih (i + 1) h5 (by omega) (((he.trans eh).chg_trans hcg (fun j hj => by omega)).trans e5) ⟨s', hsf', hrow'.ext e5, hsv'⟩ m (by omega))
    have hrow3 := hrow.ext eh
    refine callP1.self (F8_of hrow3 hsf hnf (fun e => ?_) (fun e h4 hcg hsz hr4 => ?_))
    · have e : (sumR (l.take i)).2 = false := by simpa using e
      have h2 : sumR (l.take (i + 1)) = sumR (l.take i) := by rw [hstep, stepR, e]; rfl
      exact rest false h3 s (Chg.refl _ _) (by rw [h2, e]) hsf (by rw [h2]; exact hrow3) (by rw [h2, e]; intro h; cases h)
    · have e : (sumR (l.take i)).2 = true := by simpa using e
      have h2 : sumR (l.take (i + 1)) = addR s n := by rw [hstep, stepR, e, hsv e]; rfl
      exact rest _ h4 (addR s n).1 hcg (by rw [h2]) (addR_fits _ _) (by rw [h2]; exact hr4) (by rw [h2]; intro _; rfl)

theorem F3_of {h : Heap} {q : Option Addr} {l : List Int} {cap : Nat} {K : Bool → Heap → Prop} (hq : valsAt h q (ints l)) (hl : ∀ n ∈ l, fits n) (hcap : l.length ≤ cap)
    (hk : ∀ h', Ext h h' → K true h') : F3 q l.length cap h K := by
  unfold F3
  refine iteB_intro (fun _ => callP1.self (F6_of hk)) fun e => ?_
  have hlen : l.length ≤ 200 := by
    have := of_decide_eq_false e; omega
  refine newP_intro fun p h5 hp hs he hr => ?_
  subst hp
  refine ⟨l.length + 1, F3_loop hq hl hlen hcap (Nat.le_refl _) ?_ l.length 0 h5 (by omega) he ⟨0, by decide, hr, fun _ => rfl⟩ _ (by omega)⟩
  intro h8 e8
  refine callP2.self (F11_of (hq.ext e8) hl (by omega) fun h9 e9 => ?_)
  refine qcallP2.of _ _ (fun R => F9_nil) ?_
  refine callP2.self (F7_of (hq.ext (e8.trans e9)) hl (by omega) fun h10 e10 => ?_)
  refine callP1.self (F10_of fun h11 e11 => iteB_pos (by simp) (iteB_pos rfl (iteB_pos rfl ?_)))
  exact callP1.self (F6_of fun h12 e12 => hk _ ((((e8.trans e9).trans e10).trans e11).trans e12))
end Go.Proofs.Ythcdjimpppajjaa
