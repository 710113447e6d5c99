/-
  Bridges: the walk that the program takes: the loop.
-/
import Derived.Test.YtbhndlpjfncliaaGreatM5
namespace Go.Proofs.YtbhndlpjfncliaaGreat
set_option linter.unusedVariables false
set_option linter.unusedSimpArgs false
set_option linter.unnecessarySimpa false
open Go.Hp Go.RowKit
attribute [local irreducible] Go.Hp.iteB Go.Hp.stC Go.Hp.newP

theorem OwnK.pushed {h0 : Base} {h : Heap} {q : Option Addr} {len cap k b : Nat} {l news : List Value} {X R : Rws} {e : TypeId} {bytes : Nat} {zero : List Value} {K : Option Addr → Nat → Nat → Heap → Prop}
    (o : OwnK k q cap l X) (s : St h0 h ((b, news) :: (X ++ R))) (hk0 : 0 < k) (hl : l.length = len * k) (hn : news.length = k) (hz : zero.length = k) (hf : ∀ v ∈ news, flat v = true) (hb : (len + 1) * bytes ≤ 2 ^ 46 ∧ len + 1 ≤ 2 ^ 46)
    (hk : ∀ q' c' X' h', OwnK k q' c' (l ++ news) X' → St h0 h' (X' ++ R) → K q' (len + 1) c' h') :
    ∃ n, cellsAt h (some ⟨b, 0, none⟩) (1 * k) n ∧ appP e k bytes zero q len cap 1 n h K := by
  refine ⟨news, ⟨by rw [hn, Nat.one_mul], fun j hj => ⟨_, rfl, ?_⟩⟩, ?_⟩
  · rw [add_mk, s.rd0, Nat.zero_add]
  · exact app_k o s.tail hk0 rfl hl (by rw [hn, Nat.one_mul]) hz hf hb fun q' c' X' h' o' s' => hk q' c' X' h' o' s'
theorem runB_nil {N : List (List Nat)} {m : Nat} {s : BSt} (h : s.way = []) : runB N m s = some s := by
  cases m <;> simp [runB, h]
theorem wV_rd {r : List Stp} {s : Stp} {z : List Value} {o : Nat} (ho : o < 3) : (wV (s :: r) ++ z)[r.length * 3 + o]? = s.cells[o]? := by
  have e := wV_len r
  unfold wV
  rw [List.append_assoc, List.getElem?_append_right (by omega), e, Nat.add_sub_cancel_left, List.getElem?_append_left (by simpa using ho)]
theorem wV_set {r : List Stp} {s : Stp} {z : List Value} {q : Option Addr} {c : Nat} {rest : List Nat} : (wV (s :: r) ++ z).set (r.length * 3 + 2) (.slice q rest.length c) = wV ({ s with q := q, c := c, rest := rest } :: r) ++ z := by
  have e := wV_len r
  unfold wV
  rw [List.append_assoc, List.set_append_right _ _ (by omega), e, Nat.add_sub_cancel_left, List.append_assoc]; rfl
theorem pop_ptr {b c : Nat} : (if c = 0 then some (⟨b, 0, none⟩ : Addr) else (some (⟨b, 0, none⟩ : Addr)).map (·.add (0 * 3))) = some ⟨b, 0, none⟩ := by
  split <;> rfl
section
variable {h0 : Base} {R : Rws} {g n bw bm bl : Nat} {L : List Ed} {N : List (List Nat)}
theorem from_l0 {K2 : Heap → Prop} {st' : BSt} (nh : NetG h0.heap g n L N) (hN : ∀ v, v < n → ∃ l, N[v]? = some l ∧ l.length < 2 ^ 40 ∧ ∀ u ∈ l, u < n)
    (hk : ∀ h' qf cf Xf Y, OwnK 2 qf cf (fV st'.found) Xf → St h0 h' ((bw, wHead g bm bl n st'.time qf st'.found.length cf) :: (bm, intN n st'.met) :: (bl, intN n st'.low) :: (Xf ++ (Y ++ R))) → K2 h') :
    ∀ (m : Nat) (h : Heap) (met low : Nat → Nat) (t : Nat) (F : List (Nat × Nat)) (ws : List Stp) (lw : Nat) (qf qw : Option Addr) (cf cw : Nat) (Xf Xw Y : Rws), lw = ws.length → runB N m ⟨met, low, t, F, ws.map pureS⟩ = some st' → t + m ≤ 2 ^ 39 → F.length + m ≤ 2 ^ 39 → ws.length + m ≤ 2 ^ 39 → (∀ v, v < n → low v ≤ 2 ^ 39 ∧ met v ≤ 2 ^ 39) →
      OwnK 2 qf cf (fV F) Xf → OwnK 3 qw cw (wV ws) Xw → WayM h0 Y n ws → St h0 h ((bw, wHead g bm bl n t qf F.length cf) :: (bm, intN n met) :: (bl, intN n low) :: (Xf ++ (Xw ++ (Y ++ R)))) →
      comp_walk_from.l0 K2 (m + 1) (some ⟨bw, 0, none⟩) qw lw cw h := by
  intro m
  induction m with
  | zero =>
    intro h met low t F ws lw qf qw cf cw Xf Xw Y hlw hr ht hF hw hb of ow wm s
    subst hlw
    unfold comp_walk_from.l0 comp_walk_from.b0
    cases ws with
    | nil =>
      rw [runB_nil rfl] at hr
      obtain rfl := Option.some.inj hr
      exact iteB_neg rfl (hk h qf cf Xf (Xw ++ Y) of (by simpa [List.append_assoc] using s))
    | cons x r => simp [runB] at hr
  | succ m ih =>
    intro h met low t F ws lw qf qw cf cw Xf Xw Y hlw hr ht hF hw hb of ow wm s
    subst hlw
    unfold comp_walk_from.l0 comp_walk_from.b0
    cases ws with
    | nil =>
      rw [runB_nil rfl] at hr
      obtain rfl := Option.some.inj hr
      exact iteB_neg rfl (hk h qf cf Xf (Xw ++ Y) of (by simpa [List.append_assoc] using s))
    | cons x r =>
    have hr : runB N m (stepB N ⟨met, low, t, F, (x.v, x.fr, x.rest) :: r.map pureS⟩) = some st' := hr
    obtain ⟨xv, xf, xr, xc, xk⟩ := wm.ok x (by simp)
    have wmr : ∀ y ∈ r, _ := fun y hy => wm.ok y (by simp [hy])
    rw [List.length_cons] at hw
    rcases ow with ⟨_, _, hnil, _⟩ | ⟨b, z, rfl, hcap, rfl⟩
    · have := congrArg List.length hnil; rw [wV_len] at this; simp at this
    rw [List.length_append, wV_len, List.length_cons] at hcap
    have ei : IntKind.i64.wrap (((x :: r).length : Int) - 1) = (r.length : Int) := by rw [List.length_cons, wrap64 (by omega) (by omega)]; omega
    refine iteB_pos (decide_eq_true (by rw [List.length_cons]; omega)) ?_
    rw [ei, chkP_some]
    simp -zeta only [add_mk, Nat.zero_add, Int.toNat_natCast, pop_ptr]
    have rW : ∀ {h' : Heap} {T : Rws}, St h0 h' T → (b, wV (x :: r) ++ z) ∈ T → ∀ o, o < 3 → cell h' ⟨b, r.length * 3 + o, none⟩ = x.cells[o]? := fun s' hm o ho => by
      rw [(s'.rows _ hm).cell]; exact wV_rd ho
    have c0 := rW s (by simp) 0 (by omega)
    have c1 := rW s (by simp) 1 (by omega)
    have c2 := rW s (by simp) 2 (by omega)
    rw [Nat.add_zero] at c0
    refine ⟨⟨by omega, by rw [List.length_cons]; omega⟩, _, _, _, c2, ?_⟩
    cases hrest : x.rest with
    | nil =>
      rw [hrest] at hr
      refine iteB_pos rfl ⟨⟨by omega, by omega⟩, _, c1, ?_⟩
      have kR : St h0 h ((bw, wHead g bm bl n t qf F.length cf) :: (bm, intN n met) :: (bl, intN n low) :: (Xf ++ ([(b, wV r ++ (x.cells ++ z))] ++ (Y ++ R)))) := by
        have e : wV r ++ (x.cells ++ z) = wV (x :: r) ++ z := by rw [wV, List.append_assoc]
        rw [e]; exact s
      refine iteB_intro (fun e => ?_) fun e => ?_
      · have e := of_decide_eq_true e
        obtain ⟨f, hf⟩ := Int.eq_ofNat_of_zero_le e
        have hf : x.fr = (f : Int) := hf
        have hfn : f < n := by have := xf e; omega
        rw [hf] at hr
        unfold stepB at hr
        simp only [Int.toNat_natCast] at hr
        rw [if_pos (Int.natCast_nonneg f)] at hr
        have c1' : cell h ⟨b, r.length * 3 + 1, none⟩ = some (.int .i64 (f : Int)) := by rw [c1, ← hf]; rfl
        obtain ⟨hbf, _⟩ := hb f hfn
        obtain ⟨hbx, _⟩ := hb x.v xv
        have rdl : ∀ {h' : Heap} {T : Rws} {lo : Nat → Nat} {bb y : Nat}, St h0 h' T → (bb, intN n lo) ∈ T → y < n → cell h' ((⟨bb, 0, none⟩ : Addr).add ((y : Int).toNat * 1)) = some (.int .i64 (lo y : Int)) := fun s' hm hy => by
          rw [Int.toNat_natCast, Nat.mul_one, add_mk, Nat.zero_add, (s'.rows _ hm).cell]; exact intN_get hy
        rw [chkP_some]
        refine ⟨_, _, _, s.rd0 2, _, c1', ?_⟩
        rw [chkP_some]
        refine ⟨_, _, _, s.rd0 2, _, c1', ?_⟩
        rw [chkP_some]
        refine ⟨⟨by omega, by omega⟩, _, rdl (lo := low) s (by simp) hfn, ?_⟩
        rw [chkP_some]
        refine ⟨_, _, _, s.rd0 2, _, c0, ?_⟩
        rw [chkP_some]
        refine ⟨⟨by omega, by omega⟩, _, rdl (lo := low) s (by simp) xv, ?_⟩
        rw [chkP_some]
        refine ⟨⟨by omega, by omega⟩, ?_⟩
        have em : (if (low x.v : Int) < (low f : Int) then (low x.v : Int) else (low f : Int)) = ((min (low f) (low x.v) : Nat) : Int) := by split <;> omega
        rw [em, Int.toNat_natCast, Nat.mul_one, add_mk, Nat.zero_add]
        refine s.st2 (by rw [intN_len]; exact hfn) fun h2 s2 => ?_
        rw [intN_set] at s2
        generalize hlow : upd low f (min (low f) (low x.v)) = low' at s2 hr
        have hb' : ∀ v, v < n → low' v ≤ 2 ^ 39 ∧ met v ≤ 2 ^ 39 := fun v hv => by
          have := hb v hv
          rw [← hlow]
          by_cases c : v = f
          · subst c; rw [upd_same]; omega
          · rw [upd_ne _ _ c]; exact this
        have d0 := rW s2 (by simp) 0 (by omega)
        have d1 := rW s2 (by simp) 1 (by omega)
        rw [Nat.add_zero] at d0
        have d1' : cell h2 ⟨b, r.length * 3 + 1, none⟩ = some (.int .i64 (f : Int)) := by rw [d1, ← hf]; rfl
        have kR2 : St h0 h2 ((bw, wHead g bm bl n t qf F.length cf) :: (bm, intN n met) :: (bl, intN n low') :: (Xf ++ ([(b, wV r ++ (x.cells ++ z))] ++ (Y ++ R)))) := by
          have e : wV r ++ (x.cells ++ z) = wV (x :: r) ++ z := by rw [wV, List.append_assoc]
          rw [e]; exact s2
        have ow' : OwnK 3 (some ⟨b, 0, none⟩) cw (wV r) [(b, wV r ++ (x.cells ++ z))] := .inr ⟨b, x.cells ++ z, rfl, by simp only [List.length_append, wV_len, List.length_cons, List.length_nil]; omega, rfl⟩
        rw [chkP_some]
        refine ⟨_, _, _, s2.rd0 2, _, d0, ?_⟩
        rw [chkP_some]
        refine ⟨⟨by omega, by omega⟩, _, rdl (lo := low') s2 (by simp) xv, ?_⟩
        rw [chkP_some]
        refine ⟨_, _, _, s2.rd0 1, _, d1', ?_⟩
        rw [chkP_some]
        refine ⟨⟨by omega, by omega⟩, _, rdl (lo := met) s2 (by simp) hfn, ?_⟩
        refine iteB_intro (fun e9 => ?_) fun e9 => ?_
        · have e9 := of_decide_eq_true e9
          rw [if_pos (by omega)] at hr
          rw [chkP_some]
          refine ⟨_, d1', _, d0, _, _, _, s2.rd0 4, s2.new_ fun b2 h3 s3 => ⟨⟨_, _, _, s3.rd1 4, rfl⟩, ?_⟩⟩
          have s4 : St h0 h3 ((b2, [Value.int .i64 (f : Int), .int .i64 (x.v : Int)]) :: (Xf ++ ((bw, wHead g bm bl n t qf F.length cf) :: (bm, intN n met) :: (bl, intN n low') :: ([(b, wV r ++ (x.cells ++ z))] ++ (Y ++ R))))) := by
            have e : wV r ++ (x.cells ++ z) = wV (x :: r) ++ z := by rw [wV, List.append_assoc]
            rw [e]; exact (St.re s3 (by intro a; simp only [cntR_append, cntR_cons, cntR_nil, List.cons_append, List.nil_append, List.set_cons_zero, List.set_cons_succ]; omega))
          refine OwnK.pushed of s4 (by omega) (fV_len F) rfl rfl (fun v hv => by simp only [List.mem_cons, List.not_mem_nil, or_false] at hv; rcases hv with rfl | rfl <;> rfl) (by omega) fun q5 c5 X5 h5 o5 s5 => ?_
          rw [chkP_some]
          have s6 : St h0 h5 ((bw, wHead g bm bl n t qf F.length cf) :: (bm, intN n met) :: (bl, intN n low') :: (X5 ++ ([(b, wV r ++ (x.cells ++ z))] ++ (Y ++ R)))) := (St.re s5 (by intro a; simp only [cntR_append, cntR_cons, cntR_nil, List.cons_append, List.nil_append, List.set_cons_zero, List.set_cons_succ]; omega))
          refine s6.st0 (by simp) fun h7 s7 => ?_
          have e5 : fV F ++ [Value.int .i64 (f : Int), .int .i64 (x.v : Int)] = fV (F ++ [(f, x.v)]) := by rw [fV_app]; rfl
          rw [e5] at o5
          have e6 : (wHead g bm bl n t qf F.length cf).set 4 (.slice q5 (F.length + 1) c5) = wHead g bm bl n t q5 (F ++ [(f, x.v)]).length c5 := by rw [List.length_append]; rfl
          rw [e6] at s7
          exact ih h7 met low' t (F ++ [(f, x.v)]) r _ q5 _ c5 cw X5 _ Y rfl hr (by omega) (by rw [List.length_append, List.length_singleton]; omega) (by omega) hb' o5 ow' ⟨wmr⟩ s7
        · have e9 := of_decide_eq_false e9
          rw [if_neg (by omega)] at hr
          exact ih h2 met low' t F r _ qf _ cf cw Xf _ Y rfl hr (by omega) (by omega) (by omega) hb' of ow' ⟨wmr⟩ kR2
      · have e := of_decide_eq_false e
        have hr2 : runB N m ⟨met, low, t, F, r.map pureS⟩ = some st' := by
          unfold stepB at hr; simp only at hr; rw [if_neg (by omega)] at hr; exact hr
        exact ih h met low t F r _ qf _ cf cw Xf _ Y rfl hr2 (by omega) (by omega) (by omega) hb of (.inr ⟨b, x.cells ++ z, rfl, by simp only [List.length_append, wV_len, List.length_cons, List.length_nil]; omega, rfl⟩) ⟨wmr⟩ kR
    | cons u rest =>
      rw [hrest] at hr xr xc xk
      have c2' : cell h ⟨b, r.length * 3 + 2, none⟩ = some (.slice x.q (u :: rest).length x.c) := by rw [c2, ← hrest]; rfl
      have hun := xr u (by simp)
      have rdl : ∀ {h' : Heap} {T : Rws} {lo : Nat → Nat} {bb y : Nat}, St h0 h' T → (bb, intN n lo) ∈ T → y < n → cell h' ((⟨bb, 0, none⟩ : Addr).add ((y : Int).toNat * 1)) = some (.int .i64 (lo y : Int)) := fun s' hm hy => by
        rw [Int.toNat_natCast, Nat.mul_one, add_mk, Nat.zero_add, (s'.rows _ hm).cell]; exact intN_get hy
      obtain ⟨a, hqa, hca⟩ := xk h _ s (fun y hy => by simp [hy]) 0 (.int .i64 (u : Int)) rfl
      refine iteB_neg (by rw [List.length_cons]; simp; omega) ⟨_, _, _, c2', ?_⟩
      rw [hqa, chkP_some]
      refine ⟨by rw [List.length_cons]; omega, _, hca, _, _, _, c2', by rw [List.length_cons]; omega, ?_⟩
      have s1 : St h0 h ((b, wV (x :: r) ++ z) :: ((bw, wHead g bm bl n t qf F.length cf) :: (bm, intN n met) :: (bl, intN n low) :: (Xf ++ (Y ++ R)))) := (St.re s (by intro a; simp only [cntR_append, cntR_cons, cntR_nil, List.cons_append, List.nil_append, List.set_cons_zero, List.set_cons_succ]; omega))
      refine s1.st0 (by rw [List.length_append, wV_len, List.length_cons]; omega) fun h2 s2 => ?_
      rw [List.length_cons] at xc
      have e1 : rest.length + 1 - (1 : Int).toNat = rest.length := rfl
      rw [List.length_cons, e1, wV_set] at s2
      generalize hx' : ({ v := x.v, fr := x.fr, q := (if x.c = (1 : Int).toNat then x.q else x.q.map fun y => y.add ((1 : Int).toNat * 1)), c := x.c - (1 : Int).toNat, rest := rest } : Stp) = x' at s2
      have xv' : x'.v = x.v := by rw [← hx']
      have xf' : x'.fr = x.fr := by rw [← hx']
      have xr' : x'.rest = rest := by rw [← hx']
      have wm' : WayM h0 Y n (x' :: r) := ⟨fun y hy => by
        rcases List.mem_cons.1 hy with rfl | hy
        · refine ⟨by rw [xv']; exact xv, by rw [xf']; exact xf, by rw [xr']; exact fun y hy => xr y (by simp [hy]), ?_, ?_⟩
          · rw [← hx']; show rest.length ≤ x.c - 1; omega
          · rw [← hx']; exact keeps_tail xk xc
        · exact wmr y hy⟩
      have s3 : St h0 h2 ((bw, wHead g bm bl n t qf F.length cf) :: (bm, intN n met) :: (bl, intN n low) :: (Xf ++ ([(b, wV (x' :: r) ++ z)] ++ (Y ++ R)))) := (St.re s2 (by intro a; simp only [cntR_append, cntR_cons, cntR_nil, List.cons_append, List.nil_append, List.set_cons_zero, List.set_cons_succ]; omega))
      have ow' : OwnK 3 (some ⟨b, 0, none⟩) cw (wV (x' :: r)) [(b, wV (x' :: r) ++ z)] := .inr ⟨b, z, rfl, by simp only [List.length_append, wV_len, List.length_cons]; omega, rfl⟩
      have rX : ∀ {h' : Heap} {T : Rws}, St h0 h' T → (b, wV (x' :: r) ++ z) ∈ T → ∀ o, o < 3 → cell h' ⟨b, r.length * 3 + o, none⟩ = x'.cells[o]? := fun s' hm o ho => by
        rw [(s'.rows _ hm).cell]; exact wV_rd ho
      have d0 := rX s3 (by simp) 0 (by omega)
      have d1 := rX s3 (by simp) 1 (by omega)
      rw [Nat.add_zero] at d0
      have d0' : cell h2 ⟨b, r.length * 3, none⟩ = some (.int .i64 (x.v : Int)) := by rw [d0, ← xv']; rfl
      have d1' : cell h2 ⟨b, r.length * 3 + 1, none⟩ = some (.int .i64 x.fr) := by rw [d1, ← xf']; rfl
      have pw : (x.v, x.fr, rest) :: r.map pureS = (x' :: r).map pureS := by rw [List.map_cons]; simp only [pureS, xv', xf', xr']
      unfold stepB at hr
      simp only at hr
      refine ⟨_, d1', iteB_intro (fun e => ?_) fun e => ?_⟩
      · have e : (u : Int) = x.fr := by simpa using e
        rw [if_pos e, pw] at hr
        exact ih h2 met low t F (x' :: r) _ qf _ cf cw Xf _ Y rfl hr (by omega) (by omega) (by rw [List.length_cons]; omega) hb of ow' wm' s3
      · have e : ¬ (u : Int) = x.fr := by simpa using e
        rw [if_neg e, pw] at hr
        rw [chkP_some]
        refine ⟨_, _, _, s3.rd0 1, ?_⟩
        rw [chkP_some]
        refine ⟨⟨by omega, by omega⟩, _, rdl (lo := met) s3 (by simp) hun, iteB_intro (fun e2 => ?_) fun e2 => ?_⟩
        · have e2 := of_decide_eq_true e2
          rw [if_pos (by omega)] at hr
          obtain ⟨hbx, _⟩ := hb x.v xv
          obtain ⟨_, hbu⟩ := hb u hun
          rw [chkP_some]
          refine ⟨_, _, _, s3.rd0 2, _, d0', ?_⟩
          rw [chkP_some]
          refine ⟨_, _, _, s3.rd0 2, _, d0', ?_⟩
          rw [chkP_some]
          refine ⟨⟨by omega, by omega⟩, _, rdl (lo := low) s3 (by simp) xv, ?_⟩
          rw [chkP_some]
          refine ⟨_, _, _, s3.rd0 1, ?_⟩
          rw [chkP_some]
          refine ⟨⟨by omega, by omega⟩, _, rdl (lo := met) s3 (by simp) hun, ?_⟩
          rw [chkP_some]
          refine ⟨⟨by omega, by omega⟩, ?_⟩
          have em : (if (met u : Int) < (low x.v : Int) then (met u : Int) else (low x.v : Int)) = ((min (low x.v) (met u) : Nat) : Int) := by split <;> omega
          rw [em, Int.toNat_natCast, Nat.mul_one, add_mk, Nat.zero_add]
          refine s3.st2 (by rw [intN_len]; exact xv) fun h4 s4 => ?_
          rw [intN_set] at s4
          refine ih h4 met _ t F (x' :: r) _ qf _ cf cw Xf _ Y rfl hr (by omega) (by omega) (by rw [List.length_cons]; omega) (fun v hv => ?_) of ow' wm' s4
          have := hb v hv
          by_cases c : v = x.v
          · subst c; rw [upd_same]; omega
          · rw [upd_ne _ _ c]; exact this
        · have e2 := of_decide_eq_false e2
          rw [if_neg (by omega)] at hr
          obtain ⟨l, hl, hll, hlu⟩ := hN u hun
          have eg : N.getD u [] = l := by rw [List.getD_eq_getElem?_getD, hl]; rfl
          refine ⟨_, d0', callP5.self (open_of nh hun hl hll (by omega) s3 fun h4 q4 c4 X4 o4 s4 => ?_)⟩
          refine s4.new_ fun b5 h5 s5 => ?_
          have s6 : St h0 h5 ((b5, [Value.int .i64 (u : Int), .int .i64 (x.v : Int), .slice q4 l.length c4]) :: ([(b, wV (x' :: r) ++ z)] ++ ((bw, wHead g bm bl n (t + 1) qf F.length cf) :: (bm, intN n (upd met u (t + 1))) :: (bl, intN n (upd low u (t + 1))) :: (Xf ++ ((X4 ++ Y) ++ R))))) := (St.re s5 (by intro a; simp only [cntR_append, cntR_cons, cntR_nil, List.cons_append, List.nil_append, List.set_cons_zero, List.set_cons_succ]; omega))
          refine OwnK.pushed ow' s6 (by omega) (by rw [wV_len, List.length_cons, List.length_cons]) rfl rfl (fun v hv => by simp only [List.mem_cons, List.not_mem_nil, or_false] at hv; rcases hv with rfl | rfl | rfl <;> rfl) (by rw [List.length_cons]; omega) fun q7 c7 X7 h7 o7 s7 => ?_
          have s8 : St h0 h7 ((bw, wHead g bm bl n (t + 1) qf F.length cf) :: (bm, intN n (upd met u (t + 1))) :: (bl, intN n (upd low u (t + 1))) :: (Xf ++ (X7 ++ ((X4 ++ Y) ++ R)))) := (St.re s7 (by intro a; simp only [cntR_append, cntR_cons, cntR_nil, List.cons_append, List.nil_append, List.set_cons_zero, List.set_cons_succ]; omega))
          have hc4 : l.length ≤ c4 := by
            rcases o4 with ⟨_, _, h1, _⟩ | ⟨_, zz, _, h1, _⟩
            · have : l = [] := by simpa [natV] using h1
              subst this; exact Nat.zero_le _
            · rw [List.length_append, natV_len] at h1; omega
          have hr2 : runB N m ⟨upd met u (t + 1), upd low u (t + 1), t + 1, F, ((⟨u, (x.v : Int), q4, c4, l⟩ : Stp) :: x' :: r).map pureS⟩ = some st' := by
            show runB N m ⟨upd met u (t + 1), upd low u (t + 1), t + 1, F, (u, (x.v : Int), l) :: (x' :: r).map pureS⟩ = some st'
            rw [← eg]; exact hr
          refine ih h7 _ _ (t + 1) F ((⟨u, (x.v : Int), q4, c4, l⟩ : Stp) :: x' :: r) _ qf q7 cf c7 Xf X7 (X4 ++ Y) rfl hr2 (by omega) (by omega) (by rw [List.length_cons, List.length_cons]; omega) (fun v hv => ?_) of o7 ⟨fun y hy => ?_⟩ s8
          · have := hb v hv
            by_cases c : v = u
            · subst c; rw [upd_same, upd_same]; omega
            · rw [upd_ne _ _ c, upd_ne _ _ c]; exact this
          · rcases List.mem_cons.1 hy with rfl | hy
            · exact ⟨hun, fun _ => by show (x.v : Int) < n; omega, hlu, hc4, o4.keeps fun y hy => by simp [hy]⟩
            · exact (wm'.sub fun y hy => by simp [hy]).ok y hy
end
end Go.Proofs.YtbhndlpjfncliaaGreat
