/-
  Classes of a graph, the document's.
-/
import Derived.Test.YtbhndlpjfncliaaGreatM3
namespace Go.Proofs.YtbhndlpjfncliaaGreat
set_option linter.unusedVariables false
set_option linter.unusedSimpArgs false
set_option linter.unnecessarySimpa false
open Go.Hp Go.RowKit
attribute [local irreducible] Go.Hp.iteB Go.Hp.stC Go.Hp.newP

section
variable {h0 : Base} {R : Rws} {n : Nat} {L : List Ed}
theorem rheavy_l0 {K2 : Heap → Prop} {least : Int} {b4 b9 cL : Nat} {qL : Option Addr} {nI : Int} (hn : n ≤ 4096) (hL : L.length ≤ 1048576) (kL : Keeps h0 R qL (eV L)) (hm : (b4, [Value.int .i64 nI, .slice qL L.length cL]) ∈ R)
    (hk : ∀ h' q c Y, Keeps h0 Y q (intN n (joinsL n least (fun v => v) L)) → St h0 h' ((b9, [.slice q n c]) :: (Y ++ R)) → K2 h') :
    ∀ (d i : Nat) (h : Heap) (q : Option Addr) (c : Nat) (Y : Rws), i + d = L.length → Keeps h0 Y q (intN n (joinsL n least (fun v => v) (L.take i))) → St h0 h ((b9, [.slice q n c]) :: (Y ++ R)) →
      straitref20_Heavy.l0 K2 (d + 1) least ⟨b4, 0, none⟩ ⟨b9, 0, none⟩ (i : Int) h := by
  intro d
  induction d with
  | zero =>
    intro i h q c Y hi kq s
    have r4 : ∀ j, cell h ⟨b4, j, none⟩ = [Value.int .i64 nI, .slice qL L.length cL][j]? := s.rd (by simp [hm])
    unfold straitref20_Heavy.l0 straitref20_Heavy.b0
    have : i = L.length := by omega
    subst this
    rw [List.take_length] at kq
    exact ⟨_, _, _, r4 1, iteB_neg (decide_eq_false (by omega)) (hk h q c Y kq s)⟩
  | succ d ih =>
    intro i h q c Y hi kq s
    have r4 : ∀ j, cell h ⟨b4, j, none⟩ = [Value.int .i64 nI, .slice qL L.length cL][j]? := s.rd (by simp [hm])
    unfold straitref20_Heavy.l0 straitref20_Heavy.b0
    refine ⟨_, _, _, r4 1, iteB_pos (decide_eq_true (by omega)) ⟨_, _, _, r4 1, ?_⟩⟩
    obtain ⟨e, he⟩ := get_lt (l := L) (i := i) (by omega)
    obtain ⟨u, v, w⟩ := e
    have vq : valsAt h qL (eV L) := kL h _ s (fun x hx => by simp [hx])
    obtain ⟨a0, rfl, g0⟩ := vq _ _ (eV_get0 he)
    obtain ⟨a1, ha1, g1⟩ := vq _ _ (eV_get1 he)
    obtain ⟨a2, ha2, g2⟩ := vq _ _ (eV_get2 he)
    cases ha1; cases ha2
    have iv2 := joinsL_snoc (n := n) (least := least) (C := fun v => v) (A := L.take i) (e := (u, v, w))
    rw [← take_snoc he] at iv2
    have nx : IntKind.i64.wrap ((i : Int) + 1) = ((i + 1 : Nat) : Int) := by rw [wrap64 (by omega) (by omega)]; omega
    rw [chkP_some, Int.toNat_natCast]
    refine ⟨by omega, w, by rw [addr_add]; exact g2, iteB_intro (fun c1 => ?_) fun c1 => ?_⟩
    · have c1 := of_decide_eq_true c1
      rw [if_pos c1] at iv2
      refine ⟨_, _, _, s.rd0 0, _, _, _, r4 1, ?_⟩
      rw [chkP_some]
      refine ⟨by omega, u, g0, _, _, _, r4 1, ?_⟩
      rw [chkP_some]
      refine ⟨by omega, v, by rw [addr_add]; exact g1, callP3.self (RJoin_of (Y := Y) hn kq (fun x hx => by simp [hx]) s fun q2 c2 X h2 k2 s2 => ?_)⟩
      have s3 : St h0 h2 ((b9, [.slice q n c]) :: ((X ++ Y) ++ R)) := (St.re s2 (by intro a; simp only [cntR_append, cntR_cons, cntR_nil, List.cons_append, List.nil_append, List.set_cons_zero, List.set_cons_succ]; omega))
      refine s3.st0 (by simp) fun h4 s4 => ?_
      simp only [List.set_cons_zero] at s4
      rw [nx]
      exact ih (i + 1) h4 q2 c2 (X ++ Y) (by omega) (by rw [iv2]; exact k2) s4
    · have c1 := of_decide_eq_false c1
      rw [if_neg c1] at iv2
      rw [nx]
      exact ih (i + 1) h q c Y (by omega) (by rw [iv2]; exact kq) s
theorem RHeavy_of {h : Heap} {least : Int} {cL : Nat} {qL : Option Addr} {K : Option Addr → Nat → Nat → Heap → Prop} (hn : n ≤ 4096) (hL : L.length ≤ 1048576) (kL : Keeps h0 R qL (eV L)) (s : St h0 h R)
    (hk : ∀ h' q c qs Y, Keeps h0 Y q (slV qs) → Sls h0 Y qs (clsL (joinsL n least (fun v => v) L) n) → St h0 h' (Y ++ R) → K q (clsL (joinsL n least (fun v => v) L) n).length c h') : straitref20_Heavy (n : Int) qL L.length cL least h K := by
  unfold straitref20_Heavy
  refine s.new_ fun b4 h1 s1 => ⟨_, s1.rd0 0, callP3.self (RcNew_of s1 fun q c X h2 o s2 => ?_)⟩
  rw [roomN_of hn] at o ⊢
  refine s2.new_ fun b9 h3 s3 => s3.st0 (by simp) fun h4 s4 => ⟨L.length + 1, ?_⟩
  simp only [List.set_cons_zero] at s4
  refine rheavy_l0 (R := (b4, [.int .i64 (n : Int), .slice qL L.length cL]) :: R) (nI := (n : Int)) (cL := cL) hn hL (kL.cons) (by simp) (fun h5 q5 c5 Y k5 s5 => ?_) L.length 0 h4 q c X (by omega) (o.keeps fun x hx => hx) s4
  refine ⟨_, _, _, s5.rd0 0, callP3.self (RList_of hn (k5.sub fun x hx => by simp [hx]) s5 fun h6 qo co qs Z z1 z2 s6 => ?_)⟩
  exact hk h6 qo co qs (Z ++ ((b9, [.slice q5 n c5]) :: (Y ++ [(b4, [.int .i64 (n : Int), .slice qL L.length cL])]))) (z1.sub fun x hx => by simp [hx]) (z2.sub fun x hx => by simp [hx]) (by simpa [List.append_assoc] using s6)
theorem ROf20_of {h : Heap} {cL : Nat} {qL : Option Addr} {K : Option Addr → Nat → Nat → Heap → Prop} (hn : n ≤ 4096) (hL : L.length ≤ 1048576) (kL : Keeps h0 R qL (eV L)) (s : St h0 h R)
    (hk : ∀ h' q c qs Y, Keeps h0 Y q (slV qs) → Sls h0 Y qs (clsL (joinsL n 0 (fun v => v) L) n) → St h0 h' (Y ++ R) → K q (clsL (joinsL n 0 (fun v => v) L) n).length c h') : straitref20_Of (n : Int) qL L.length cL h K := by
  unfold straitref20_Of
  refine s.new_ fun b h1 s1 => ⟨_, s1.rd0 0, _, _, _, s1.rd0 1, callP3.self (RHeavy_of hn hL kL.cons s1 fun h2 q c qs Y k1 k2 s2 => ?_)⟩
  exact hk h2 q c qs (Y ++ [(b, [.int .i64 (n : Int), .slice qL L.length cL])]) (k1.sub fun x hx => by simp [hx]) (k2.sub fun x hx => by simp [hx]) (by simpa [List.append_assoc] using s2)
/-! ### Lists of lists, read -/
/-- A list in a list. -/
theorem sls_row {h : Heap} {q : Option Addr} {qs : List SlT} {ls : List (List Nat)} {i : Nat} {l : List Nat} {T : Rws} (kq : Keeps h0 R q (slV qs)) (ks : Sls h0 R qs ls) (s : St h0 h T) (hs : ∀ x ∈ R, x ∈ T) (hl : ls[i]? = some l) :
    ∃ (a : Addr) (p : Option Addr) (cp : Nat), q = some a ∧ cell h (a.add i) = some (.slice p l.length cp) ∧ qs[i]? = some (p, l.length, cp) ∧ Keeps h0 R p (nums l) := by
  obtain ⟨x, hx⟩ : ∃ x, qs[i]? = some x := ⟨_, List.getElem?_eq_getElem (by rw [ks.1]; exact lt_get hl)⟩
  obtain ⟨p, pl, cp⟩ := x
  obtain ⟨e1, e2⟩ := ks.2 i _ _ hx hl
  simp only at e1 e2
  subst e1
  obtain ⟨a, ha, hc⟩ := kq h T s hs i _ (slV_get hx)
  exact ⟨a, p, cp, ha, hc, hx, e2⟩
theorem nums_at {h : Heap} {p : Option Addr} {l : List Nat} {j x : Nat} {T : Rws} (kp : Keeps h0 R p (nums l)) (s : St h0 h T) (hs : ∀ x ∈ R, x ∈ T) (hx : l[j]? = some x) : ∃ a, p = some a ∧ cell h (a.add j) = some (.int .i64 (x : Int)) := kp h T s hs j _ (nums_get hx)
theorem rreach_l1 {K0 : Option Addr → Nat → Nat → Heap → Prop} {K4 : Heap → Prop} {v : Int} {h : Heap} {q : Option Addr} {c i : Nat} {qs : List SlT} {ls : List (List Nat)} {l : List Nat} (hls : ls.length ≤ 4096) (hll : l.length ≤ 4096) (kq : Keeps h0 R q (slV qs)) (ks : Sls h0 R qs ls) (s : St h0 h R) (hl : ls[i]? = some l)
    (hk0 : (∃ x ∈ l, (x : Int) = v) → ∀ p cp, Keeps h0 R p (nums l) → K0 p l.length cp h) (hk4 : (∀ x ∈ l, (x : Int) ≠ v) → K4 h) :
    ∀ (d j : Nat), j + d = l.length → (∀ x ∈ l.take j, (x : Int) ≠ v) → straitref20_Reach.l1 K0 K4 (d + 1) v q ls.length c (i : Int) (j : Int) h := by
  obtain ⟨a, p, cp, rfl, hc, hx, kp⟩ := sls_row kq ks s (fun x hx => hx) hl
  have hi := lt_get hl
  intro d
  induction d with
  | zero =>
    intro j hj hne
    unfold straitref20_Reach.l1 straitref20_Reach.b1
    have : j = l.length := by omega
    subst this
    rw [List.take_length] at hne
    rw [chkP_some, Int.toNat_natCast, Nat.mul_one]
    exact ⟨by omega, _, _, _, hc, iteB_neg (decide_eq_false (by omega)) (hk4 hne)⟩
  | succ d ih =>
    intro j hj hne
    unfold straitref20_Reach.l1 straitref20_Reach.b1
    obtain ⟨x, hxj⟩ := get_lt (l := l) (i := j) (by omega)
    obtain ⟨a2, ha2, hc2⟩ := nums_at kp s (fun x hx => hx) hxj
    rw [chkP_some, Int.toNat_natCast, Nat.mul_one]
    refine ⟨by omega, _, _, _, hc, iteB_pos (decide_eq_true (by omega)) ?_⟩
    rw [chkP_some]
    refine ⟨by omega, _, _, _, hc, ?_⟩
    subst ha2
    rw [chkP_some, Int.toNat_natCast, Nat.mul_one]
    refine ⟨by omega, _, hc2, iteB_intro (fun e => ?_) fun e => ?_⟩
    · have e : (x : Int) = v := by simpa using e
      rw [chkP_some]
      exact ⟨by omega, _, _, _, hc, hk0 ⟨x, List.mem_of_getElem? hxj, e⟩ _ _ kp⟩
    · have e : ¬ (x : Int) = v := by simpa using e
      rw [wrap64 (by omega) (by omega)]
      refine ih (j + 1) (by omega) fun y hy => ?_
      rw [take_snoc hxj] at hy
      rcases List.mem_append.1 hy with hy | hy
      · exact hne y hy
      · obtain rfl := List.mem_singleton.1 hy; exact e
theorem rreach_l0 {K0 : Option Addr → Nat → Nat → Heap → Prop} {K2 : Heap → Prop} {v : Int} {h : Heap} {q : Option Addr} {c : Nat} {qs : List SlT} {ls : List (List Nat)} (hls : ls.length ≤ 4096) (hll : ∀ l ∈ ls, l.length ≤ 4096) (kq : Keeps h0 R q (slV qs)) (ks : Sls h0 R qs ls) (s : St h0 h R)
    (hk0 : ∀ l ∈ ls, (∃ x ∈ l, (x : Int) = v) → ∀ p cp, Keeps h0 R p (nums l) → K0 p l.length cp h) (hk2 : (∀ l ∈ ls, ∀ x ∈ l, (x : Int) ≠ v) → K2 h) :
    ∀ (d i : Nat), i + d = ls.length → (∀ l ∈ ls.take i, ∀ x ∈ l, (x : Int) ≠ v) → straitref20_Reach.l0 K0 K2 (d + 1) v q ls.length c (i : Int) h := by
  intro d
  induction d with
  | zero =>
    intro i hi hne
    unfold straitref20_Reach.l0 straitref20_Reach.b0
    have : i = ls.length := by omega
    subst this
    rw [List.take_length] at hne
    exact iteB_neg (decide_eq_false (by omega)) (hk2 hne)
  | succ d ih =>
    intro i hi hne
    unfold straitref20_Reach.l0 straitref20_Reach.b0
    obtain ⟨l, hl⟩ := get_lt (l := ls) (i := i) (by omega)
    have hm := List.mem_of_getElem? hl
    refine iteB_pos (decide_eq_true (by omega)) ⟨l.length + 1, rreach_l1 hls (hll l hm) kq ks s hl (hk0 l hm) (fun no => ?_) l.length 0 (by omega) (fun x hx => by simp at hx)⟩
    rw [wrap64 (by omega) (by omega)]
    refine ih (i + 1) (by omega) fun y hy => ?_
    rw [take_snoc hl] at hy
    rcases List.mem_append.1 hy with hy | hy
    · exact hne y hy
    · obtain rfl := List.mem_singleton.1 hy; exact no
/-- The classes: each holds those that are called alike, and each is in one. -/
theorem mem_clsL {C : Nat → Nat} {l : List Nat} (h : l ∈ clsL C n) : ∃ c, c < n ∧ C c = c ∧ l = clsF C n c := by
  obtain ⟨c, hc, rfl⟩ := List.mem_map.1 h
  obtain ⟨h1, h2⟩ := List.mem_filter.1 hc
  exact ⟨c, List.mem_range.1 h1, by simpa using h2, rfl⟩
theorem mem_clsF {C : Nat → Nat} {c x : Nat} : x ∈ clsF C n c ↔ x < n ∧ C x = c := by
  unfold clsF; rw [List.mem_filter, List.mem_range, beq_iff_eq]
theorem clsL_all {C : Nat → Nat} (na : Names n C) {x : Nat} (hx : x < n) : clsF C n (C x) ∈ clsL C n :=
  List.mem_map.2 ⟨C x, List.mem_filter.2 ⟨List.mem_range.2 (na.lt hx), by simpa using na.idem x hx⟩, rfl⟩
theorem clsL_len_le (C : Nat → Nat) (n : Nat) : (clsL C n).length ≤ n := clsT_le C n n
theorem RReach_of {h : Heap} {cL : Nat} {qL : Option Addr} {v : Int} {K : Option Addr → Nat → Nat → Heap → Prop} (hn : n ≤ 4096) (hL : L.length ≤ 1048576) (kL : Keeps h0 R qL (eV L)) (s : St h0 h R)
    (hk : ∀ h' q c Y, Keeps h0 (Y ++ R) q (nums (reachF n L v)) → St h0 h' (Y ++ R) → K q (reachF n L v).length c h') : straitref20_Reach (n : Int) qL L.length cL v h K := by
  unfold straitref20_Reach
  have na : Names n (joinsL n 0 (fun v => v) L) := joinsL_names (Names.id n)
  refine s.new_ fun b h1 s1 => ⟨_, s1.rd0 0, _, _, _, s1.rd0 1, callP3.self (ROf20_of hn hL kL.cons s1 fun h2 q c qs Y k1' k2' s2 => ?_)⟩
  have k1 : Keeps h0 (Y ++ ((b, [.int .i64 (n : Int), .slice qL L.length cL]) :: R)) q (slV qs) := k1'.sub fun x hx => by simp [hx]
  have k2 : Sls h0 (Y ++ ((b, [.int .i64 (n : Int), .slice qL L.length cL]) :: R)) qs _ := k2'.sub fun x hx => by simp [hx]
  have hkk : ∀ l, l = reachF n L v → ∀ p cp, Keeps h0 (Y ++ ((b, [.int .i64 (n : Int), .slice qL L.length cL]) :: R)) p (nums l) → K p l.length cp h2 := fun l el p cp kp => by
    subst el
    exact hk h2 p cp (Y ++ [(b, [.int .i64 (n : Int), .slice qL L.length cL])]) (kp.sub fun x hx => by simpa [List.append_assoc] using hx) (by simpa [List.append_assoc] using s2)
  have hle := clsL_len_le (joinsL n 0 (fun v => v) L) n
  refine ⟨_, rreach_l0 (by omega) (fun l hl => ?_) k1 k2 s2 (fun l hl hx p cp kp => hkk l ?_ p cp kp) (fun no => hkk [] ?_ none 0 Keeps.nil) _ 0 (Nat.zero_add _) (fun l hl => by simp at hl)⟩
  · obtain ⟨c, _, _, rfl⟩ := mem_clsL hl
    have := clsF_le (joinsL n 0 (fun v => v) L) n c; omega
  · obtain ⟨x, hx, rfl⟩ := hx
    obtain ⟨c, hc, hcc, rfl⟩ := mem_clsL hl
    obtain ⟨h3, h4⟩ := mem_clsF.1 hx
    unfold reachF
    rw [if_pos (by omega), Int.toNat_natCast, h4]
  · unfold reachF
    rw [if_neg]
    intro hv
    obtain ⟨x, rfl⟩ := Int.eq_ofNat_of_zero_le hv.1
    have hx : x < n := by omega
    exact no _ (clsL_all na hx) x (mem_clsF.2 ⟨hx, rfl⟩) rfl
/-! ### Names -/
theorem rname_l1 {K4 : Heap → Prop} {C : Nat → Nat} {b q1 : Nat} {q : Option Addr} {c i : Nat} {qs : List SlT} {ls : List (List Nat)} {l : List Nat} {ch : Nat} (hn : n ≤ 4096) (hls : ls.length ≤ 4096) (kq : Keeps h0 R q (slV qs)) (ks : Sls h0 R qs ls) (hl : ls[i]? = some l) (hh : l[0]? = some ch) (hC : ∀ x ∈ l, x < n ∧ C x = ch) (hll : l.length ≤ 4096) {D : Nat → Prop}
    (hk : ∀ h' f, (∀ x, D x → f x = C x) → (∀ x ∈ l, f x = C x) → St h0 h' ((b, intN n f) :: R) → K4 h') :
    ∀ (d j : Nat) (h : Heap) (f : Nat → Nat), j + d = l.length → (∀ x, D x → f x = C x) → (∀ x ∈ l.take j, f x = C x) → St h0 h ((b, intN n f) :: R) → straitref20_Name.l1 K4 (d + 1) ⟨b, 0, none⟩ n n q ls.length c (i : Int) (j : Int) h := by
  have hi := lt_get hl
  intro d
  induction d with
  | zero =>
    intro j h f hj hD hf s
    obtain ⟨a, p, cp, rfl, hc, hx, kp⟩ := sls_row kq ks s (fun x hx => by simp [hx]) hl
    unfold straitref20_Name.l1 straitref20_Name.b1
    have : j = l.length := by omega
    subst this
    rw [List.take_length] at hf
    rw [chkP_some, Int.toNat_natCast, Nat.mul_one]
    exact ⟨by omega, _, _, _, hc, iteB_neg (decide_eq_false (by omega)) (hk h f hD hf s)⟩
  | succ d ih =>
    intro j h f hj hD hf s
    obtain ⟨a, p, cp, rfl, hc, hx, kp⟩ := sls_row kq ks s (fun x hx => by simp [hx]) hl
    unfold straitref20_Name.l1 straitref20_Name.b1
    obtain ⟨x, hxj⟩ := get_lt (l := l) (i := j) (by omega)
    obtain ⟨a2, ha2, hc2⟩ := nums_at kp s (fun x hx => by simp [hx]) hxj
    obtain ⟨a3, ha3, hc3⟩ := nums_at kp s (fun x hx => by simp [hx]) hh
    obtain ⟨hxn, hxc⟩ := hC x (List.mem_of_getElem? hxj)
    rw [chkP_some, Int.toNat_natCast, Nat.mul_one]
    refine ⟨by omega, _, _, _, hc, iteB_pos (decide_eq_true (by omega)) ?_⟩
    rw [chkP_some]
    refine ⟨by omega, _, _, _, hc, ?_⟩
    subst ha2
    cases ha3
    rw [chkP_some, Int.toNat_natCast, Nat.mul_one]
    refine ⟨by omega, _, hc2, ?_⟩
    rw [chkP_some]
    refine ⟨by omega, _, _, _, hc, ?_⟩
    rw [chkP_some]
    refine ⟨⟨by omega, by omega⟩, _, hc3, ⟨by omega, by omega⟩, ?_⟩
    rw [Int.toNat_natCast, Nat.mul_one, add_mk, Nat.zero_add]
    refine s.st0 (by rw [intN_len]; exact hxn) fun h2 s2 => ?_
    rw [intN_set] at s2
    rw [wrap64 (by omega) (by omega)]
    have keep : ∀ y, f y = C y → upd f x ch y = C y := fun y hy => by
      by_cases c : y = x
      · subst c; rw [upd_same, hxc]
      · rw [upd_ne _ _ c, hy]
    refine ih (j + 1) h2 (upd f x ch) (by omega) (fun y hy => keep y (hD y hy)) (fun y hy => ?_) s2
    rw [take_snoc hxj] at hy
    rcases List.mem_append.1 hy with hy | hy
    · exact keep y (hf y hy)
    · obtain rfl := List.mem_singleton.1 hy; rw [upd_same, hxc]
theorem rname_l0 {K2 : Heap → Prop} {C : Nat → Nat} {b : Nat} {q : Option Addr} {c : Nat} {qs : List SlT} {ls : List (List Nat)} (hn : n ≤ 4096) (hls : ls.length ≤ 4096) (kq : Keeps h0 R q (slV qs)) (ks : Sls h0 R qs ls) (hC : ∀ l ∈ ls, l.length ≤ 4096 ∧ ∃ ch, l[0]? = some ch ∧ ∀ x ∈ l, x < n ∧ C x = ch)
    (hk : ∀ h' f, (∀ l ∈ ls, ∀ x ∈ l, f x = C x) → St h0 h' ((b, intN n f) :: R) → K2 h') :
    ∀ (d i : Nat) (h : Heap) (f : Nat → Nat), i + d = ls.length → (∀ l ∈ ls.take i, ∀ x ∈ l, f x = C x) → St h0 h ((b, intN n f) :: R) → straitref20_Name.l0 K2 (d + 1) ⟨b, 0, none⟩ n n q ls.length c (i : Int) h := by
  intro d
  induction d with
  | zero =>
    intro i h f hi hf s
    unfold straitref20_Name.l0 straitref20_Name.b0
    have : i = ls.length := by omega
    subst this
    rw [List.take_length] at hf
    exact iteB_neg (decide_eq_false (by omega)) (hk h f hf s)
  | succ d ih =>
    intro i h f hi hf s
    unfold straitref20_Name.l0 straitref20_Name.b0
    obtain ⟨l, hl⟩ := get_lt (l := ls) (i := i) (by omega)
    obtain ⟨hll, ch, hh, hCl⟩ := hC l (List.mem_of_getElem? hl)
    refine iteB_pos (decide_eq_true (by omega)) ⟨l.length + 1, rname_l1 (q1 := 0) (C := C) (D := fun x => ∃ l ∈ ls.take i, x ∈ l) hn hls kq ks hl hh hCl hll (fun h2 f2 hD hf2 s2 => ?_) l.length 0 h f (by omega) (fun x hx => by obtain ⟨l, h1, h2⟩ := hx; exact hf l h1 x h2) (fun x hx => by simp at hx) s⟩
    rw [wrap64 (by omega) (by omega)]
    refine ih (i + 1) h2 f2 (by omega) (fun y hy x hx => ?_) s2
    rw [take_snoc hl] at hy
    rcases List.mem_append.1 hy with hy | hy
    · exact hD x ⟨y, hy, hx⟩
    · obtain rfl := List.mem_singleton.1 hy; exact hf2 x hx
theorem RName_of {h : Heap} {cL : Nat} {qL : Option Addr} {K : Option Addr → Nat → Nat → Heap → Prop} (hn : n ≤ 4096) (hL : L.length ≤ 1048576) (kL : Keeps h0 R qL (eV L)) (s : St h0 h R)
    (hk : ∀ h' q c Y, Keeps h0 (Y ++ R) q (intN n (joinsL n 0 (fun v => v) L)) → St h0 h' (Y ++ R) → K q n c h') : straitref20_Name (n : Int) qL L.length cL h K := by
  unfold straitref20_Name
  have na : Names n (joinsL n 0 (fun v => v) L) := joinsL_names (Names.id n)
  refine s.new_ fun b h1 s1 => ⟨_, s1.rd0 0, by omega, s1.new_ fun b6 h2 s2 => ?_⟩
  rw [Int.toNat_natCast] at s2 ⊢
  rw [intN_zero] at s2
  have r3 : ∀ j, cell h2 ⟨b, j, none⟩ = [Value.int .i64 (n : Int), .slice qL L.length cL][j]? := s2.rd (by simp)
  refine ⟨_, r3 0, _, _, _, r3 1, callP3.self (ROf20_of hn hL kL.cons.cons s2 fun h4 q c qs Y k1 k2 s4 => ?_)⟩
  have hle := clsL_len_le (joinsL n 0 (fun v => v) L) n
  have s5 : St h0 h4 ((b6, intN n fun _ => 0) :: (Y ++ ((b, [.int .i64 (n : Int), .slice qL L.length cL]) :: R))) := (St.re s4 (by intro a; simp only [cntR_append, cntR_cons, cntR_nil, List.cons_append, List.nil_append, List.set_cons_zero, List.set_cons_succ]; omega))
  refine ⟨_, rname_l0 (R := Y ++ ((b, [.int .i64 (n : Int), .slice qL L.length cL]) :: R)) (C := joinsL n 0 (fun v => v) L) hn (by omega) (k1.sub fun x hx => by simp [hx]) (k2.sub fun x hx => by simp [hx]) (fun l hl => ?_) (fun h6 f hf s6 => ?_) _ 0 h4 _ (Nat.zero_add _) (fun l hl => by simp at hl) s5⟩
  · obtain ⟨c, hc, hcc, rfl⟩ := mem_clsL hl
    obtain ⟨r, hr⟩ := clsF_head na hc hcc
    refine ⟨by have := clsF_le (joinsL n 0 (fun v => v) L) n c; omega, c, by rw [hr]; rfl, fun x hx => mem_clsF.1 hx⟩
  · have e : intN n f = intN n (joinsL n 0 (fun v => v) L) := intN_congr fun x hx => hf _ (clsL_all na hx) x (mem_clsF.2 ⟨hx, rfl⟩)
    rw [e] at s6
    exact hk h6 _ n ((b6, intN n (joinsL n 0 (fun v => v) L)) :: (Y ++ [(b, [.int .i64 (n : Int), .slice qL L.length cL])])) (Keeps.own (z := []) (by simp)) (by simpa [List.append_assoc] using s6)
end
end Go.Proofs.YtbhndlpjfncliaaGreat
