/-
  A cut by chance: the program's walk: loose, pick, step, Groups.
-/
import Derived.Test.YtbhndlpjfncliaaGreatU1
namespace Go.Proofs.YtbhndlpjfncliaaGreat
set_option linter.unusedVariables false
set_option linter.unusedSimpArgs false
set_option linter.unnecessarySimpa false
open Go Go.Hp Go.RowKit
attribute [local irreducible] Go.Hp.iteB Go.Hp.stC Go.Hp.newP

theorem wrapU {x : Int} (h0 : 0 ≤ x) (h1 : x < 18446744073709551616) : IntKind.u64.wrap x = x := by rw [Go.Hp.wrap_u64]; omega
theorem set3 {l1 r : List Value} {a b c x y w : Value} {k : Nat} (h : l1.length = k) : (((l1 ++ a :: b :: c :: r).set k x).set (k + 1) y).set (k + 2) w = l1 ++ x :: y :: w :: r := by
  subst h
  rw [List.set_append_right _ _ (by omega), List.set_append_right _ _ (by omega), List.set_append_right _ _ (by omega)]
  rw [Nat.sub_self, show l1.length + 1 - l1.length = 1 by omega, show l1.length + 2 - l1.length = 2 by omega]; rfl
theorem eV_cons (e : Ed) (l : List Ed) : eV (e :: l) = Ed.vs e ++ eV l := by simp [eV]
theorem looseL_snoc {C : Nat → Nat} {n : Nat} {A : List Ed} {e : Ed} : looseL C n (A ++ [e]) = looseL C n A ++ (if sameF C n e.1 e.2.1 = true then [] else [e]) := by
  unfold looseL
  rw [List.filter_append]
  congr 1
  cases h : sameF C n e.1 e.2.1 <;> simp [h]
abbrev drH (a q p : Option Addr) (l cap pl pc : Nat) (t : Int) : List Value := [.pointer a, .slice q l cap, .slice p pl pc, .int .i64 t]
section
variable {h0 : Base} {R : Rws} {C : Nat → Nat} {n : Nat} {a : DA}
theorem loose_l0 {K2 : Int → Option Addr → Nat → Nat → Heap → Prop} {p0 : Option Addr} {be cap : Nat} {L : List Ed} {z0 : List Value} (hn : n ≤ 4096) (hL : L.length ≤ 1048576) (hw : ∀ e ∈ L, 0 < e.2.2) (hs : wall L ≤ 2 ^ 52) (hcap : L.length * 3 + z0.length = cap * 3)
    (hk : ∀ h' z mid Y, z.n = n → DInv z C → (looseL C n L).length * 3 + mid.length = cap * 3 → St h0 h' ((be, eV (looseL C n L) ++ mid) :: (z.rows a ++ (Y ++ R))) → K2 (wall (looseL C n L)) (some ⟨be, 0, none⟩) (looseL C n L).length cap h') :
    ∀ (d i : Nat) (h : Heap) (z : DS) (mid : List Value) (Y : Rws) (kl : Nat), i + d = L.length → z.n = n → DInv z C → kl = (looseL C n (L.take i)).length → kl * 3 + mid.length = i * 3 → St h0 h ((be, eV (looseL C n (L.take i)) ++ (mid ++ (eV (L.drop i) ++ z0))) :: (z.rows a ++ (Y ++ R))) →
      karger_draw_loose.l0 K2 (d + 1) p0 (some ⟨a.b, 0, none⟩) (wall (looseL C n (L.take i))) (some ⟨be, 0, none⟩) kl cap (some ⟨be, 0, none⟩) L.length cap (L.length : Int) (i : Int) h := by
  intro d
  induction d with
  | zero =>
    intro i h z mid Y kl hi zn iv hkl hmid s
    subst hkl
    unfold karger_draw_loose.l0 karger_draw_loose.b0
    have : i = L.length := by omega
    subst this
    rw [List.take_length] at s hmid ⊢
    rw [List.drop_length, show eV [] = [] from rfl, List.nil_append] at s
    exact iteB_neg (decide_eq_false (by omega)) (hk h z (mid ++ z0) Y zn iv (by rw [List.length_append]; omega) s)
  | succ d ih =>
    intro i h z mid Y kl hi zn iv hkl hmid s
    unfold karger_draw_loose.l0 karger_draw_loose.b0
    refine iteB_pos (decide_eq_true (by omega)) ?_
    obtain ⟨e, he⟩ := get_lt (l := L) (i := i) (by omega)
    have hew := hw e (List.mem_of_getElem? he)
    have hsn := looseL_snoc (C := C) (n := n) (A := L.take i) (e := e)
    rw [← take_snoc he] at hsn
    have hki : kl ≤ i := by rw [hkl]; have := List.length_filter_le (fun e : Ed => !sameF C n e.1 e.2.1) (L.take i); rw [List.length_take] at this; unfold looseL; omega
    have hkw : wall (looseL C n (L.take i)) + e.2.2 ≤ 2 ^ 52 := by
      have h1 := wall_filter (fun e : Ed => !sameF C n e.1 e.2.1) (L := L.take i) fun x hx => hw x (List.mem_of_mem_take hx)
      have h2 : wall (L.take (i + 1)) ≤ wall L := by
        have : wall L = wall (L.take (i + 1)) + wall (L.drop (i + 1)) := by
          have := tsum_app (fun e => e.2.2) (L.take (i + 1)) (L.drop (i + 1))
          rw [List.take_append_drop] at this; exact this
        have := (wall_pos (L := L.drop (i + 1)) fun x hx => hw x (List.mem_of_mem_drop hx)).1
        omega
      rw [take_snoc he, wall_snoc] at h2
      unfold looseL; omega
    have hk0 : 0 ≤ wall (looseL C n (L.take i)) := (wall_pos (L := looseL C n (L.take i)) fun x hx => hw x (List.mem_of_mem_take (looseL_sub hx).1)).1
    obtain ⟨u, v, w⟩ := e
    simp only at hew hkw
    rw [drop_cons he, eV_cons] at s
    have nx : IntKind.i64.wrap ((i : Int) + 1) = ((i + 1 : Nat) : Int) := by rw [wrap64 (by omega) (by omega)]; omega
    have hA : (eV (looseL C n (L.take i)) ++ mid).length = i * 3 := by rw [List.length_append, eV_len, ← hkl]; exact hmid
    have rdE : ∀ o, o < 3 → cell h ⟨be, i * 3 + o, none⟩ = (Ed.vs (u, v, w))[o]? := fun o ho => by
      rw [s.rd0, ← List.append_assoc, List.getElem?_append_right (by omega), hA, Nat.add_sub_cancel_left, List.append_assoc, List.getElem?_append_left (by simpa [Ed.vs] using ho)]
    have r0 := rdE 0 (by omega)
    have r1 := rdE 1 (by omega)
    have r2 := rdE 2 (by omega)
    rw [Nat.add_zero] at r0
    rw [chkP_some, Int.toNat_natCast]
    simp -zeta only [add_mk, Nat.zero_add]
    refine ⟨by omega, u, r0, v, r1, w, r2, s.new_ fun b h2 s2 => s2.st0 (by simp) fun h3 s3 => s3.st0 (by simp) fun h4 s4 => s4.st0 (by simp) fun h5 s5 => ?_⟩
    simp only [List.set_cons_zero, List.set_cons_succ] at s5
    refine ⟨u, s5.rd0 0, v, s5.rd0 1, ?_⟩
    have s6 : St h0 h5 (z.rows a ++ ((b, [.int .i64 u, .int .i64 v, .int .i64 w]) :: ((be, eV (looseL C n (L.take i)) ++ (mid ++ (Ed.vs (u, v, w) ++ eV (L.drop (i + 1)) ++ z0))) :: (Y ++ R)))) := (St.re s5 (by intro a; simp only [cntR_append, cntR_cons, cntR_nil, List.cons_append, List.nil_append, List.set_cons_zero, List.set_cons_succ]; omega))
    refine callP1.self (DSame_of (u := u) (v := v) iv s6 fun h7 U iv7 s7 => ?_)
    rw [zn]
    have s8 : St h0 h7 ((be, eV (looseL C n (L.take i)) ++ (mid ++ (Ed.vs (u, v, w) ++ eV (L.drop (i + 1)) ++ z0))) :: (({ z with up := U } : DS).rows a ++ (((b, [.int .i64 u, .int .i64 v, .int .i64 w]) :: Y) ++ R))) := (St.re s7 (by intro a; simp only [cntR_append, cntR_cons, cntR_nil, List.cons_append, List.nil_append, List.set_cons_zero, List.set_cons_succ]; omega))
    have rb : ∀ {h' : Heap} {T : Rws}, St h0 h' T → (b, [Value.int .i64 u, .int .i64 v, .int .i64 w]) ∈ T → ∀ j, cell h' ⟨b, j, none⟩ = [Value.int .i64 u, .int .i64 v, .int .i64 w][j]? := fun s hm => s.rd hm
    cases hsm : sameF C n u v with
    | true =>
      rw [hsm, if_pos rfl, List.append_nil] at hsn
      refine iteB_neg rfl ?_
      rw [nx, ← hsn]
      refine ih (i + 1) h7 { z with up := U } (mid ++ Ed.vs (u, v, w)) ((b, [.int .i64 u, .int .i64 v, .int .i64 w]) :: Y) kl (by omega) zn iv7 (by rw [hsn]; exact hkl) (by rw [List.length_append]; simp only [Ed.vs, List.length_cons, List.length_nil]; omega) ?_
      rw [hsn]
      have e : mid ++ Ed.vs (u, v, w) ++ (eV (L.drop (i + 1)) ++ z0) = mid ++ (Ed.vs (u, v, w) ++ eV (L.drop (i + 1)) ++ z0) := by simp only [List.append_assoc]
      rw [e]; exact s8
    | false =>
      rw [hsm, if_neg (by decide)] at hsn
      refine iteB_pos rfl ⟨u, rb s8 (by simp) 0, v, rb s8 (by simp) 1, w, rb s8 (by simp) 2, s8.new_ fun b2 h9 s9 => ⟨Ed.vs (u, v, w), ⟨rfl, fun j hj => ⟨_, rfl, ?_⟩⟩, ⟨fun _ => ?_, fun hc => absurd hc (by omega)⟩⟩⟩
      · rw [add_mk, Nat.zero_add]; exact s9.rd0 j
      · obtain ⟨x1, x2, x3, mid', hM⟩ : ∃ x1 x2 x3 mid', mid ++ Ed.vs (u, v, w) = x1 :: x2 :: x3 :: mid' := by
          have hlen : 3 ≤ (mid ++ Ed.vs (u, v, w)).length := by rw [List.length_append]; simp only [Ed.vs, List.length_cons, List.length_nil]; omega
          match hm : mid ++ Ed.vs (u, v, w), hlen with
          | x1 :: x2 :: x3 :: r, _ => exact ⟨x1, x2, x3, r, rfl⟩
        have hml : mid.length = mid'.length := by have := congrArg List.length hM; rw [List.length_append] at this; simp only [Ed.vs, List.length_cons, List.length_nil] at this; omega
        have e1 : eV (looseL C n (L.take i)) ++ (mid ++ (Ed.vs (u, v, w) ++ eV (L.drop (i + 1)) ++ z0)) = eV (looseL C n (L.take i)) ++ x1 :: x2 :: x3 :: (mid' ++ (eV (L.drop (i + 1)) ++ z0)) := by
          have : mid ++ (Ed.vs (u, v, w) ++ eV (L.drop (i + 1)) ++ z0) = (mid ++ Ed.vs (u, v, w)) ++ (eV (L.drop (i + 1)) ++ z0) := by simp only [List.append_assoc]
          rw [this, hM]; simp
        have hkl3 : (eV (looseL C n (L.take i))).length = kl * 3 := by rw [eV_len, hkl]
        show stL [.int .i64 u, .int .i64 v, .int .i64 w] h9 ((⟨be, 0, none⟩ : Addr).add (kl * 3)) 0 _
        show stC h9 (((⟨be, 0, none⟩ : Addr).add (kl * 3)).add 0) (.int .i64 u) fun h' => stC h' (((⟨be, 0, none⟩ : Addr).add (kl * 3)).add 1) (.int .i64 v) fun h' => stC h' (((⟨be, 0, none⟩ : Addr).add (kl * 3)).add 2) (.int .i64 w) _
        simp -zeta only [add_mk, Nat.zero_add, Nat.add_zero]
        have sA : St h0 h9 ((be, eV (looseL C n (L.take i)) ++ x1 :: x2 :: x3 :: (mid' ++ (eV (L.drop (i + 1)) ++ z0))) :: (({ z with up := U } : DS).rows a ++ (((b2, [.int .i64 u, .int .i64 v, .int .i64 w]) :: (b, [.int .i64 u, .int .i64 v, .int .i64 w]) :: Y) ++ R))) := by
          rw [← e1]; exact (St.re s9 (by intro a; simp only [cntR_append, cntR_cons, cntR_nil, List.cons_append, List.nil_append, List.set_cons_zero, List.set_cons_succ]; omega))
        refine sA.st0 (by rw [List.length_append, hkl3]; simp only [List.length_cons]; omega) fun hB sB => sB.st0 (by rw [List.length_set, List.length_append, hkl3]; simp only [List.length_cons]; omega) fun hC sC => sC.st0 (by rw [List.length_set, List.length_set, List.length_append, hkl3]; simp only [List.length_cons]; omega) fun hD sD => ?_
        rw [set3 hkl3] at sD
        refine ⟨w, rb sD (by simp) 2, bindV_intro fun m hm => ?_⟩
        have hm : m = wall (looseL C n (L.take (i + 1))) := by
          rw [hm, hsn, wall_snoc, wrapU (x := w) (by omega) (by omega), wrapU (by omega) (by omega)]
        subst hm
        rw [nx]
        have hkl2 : kl + 1 = (looseL C n (L.take (i + 1))).length := by rw [hsn, List.length_append, ← hkl]; rfl
        refine ih (i + 1) hD { z with up := U } mid' ((b2, [.int .i64 u, .int .i64 v, .int .i64 w]) :: (b, [.int .i64 u, .int .i64 v, .int .i64 w]) :: Y) (kl + 1) (by omega) zn iv7 hkl2 (by omega) ?_
        have e2 : eV (looseL C n (L.take (i + 1))) ++ (mid' ++ (eV (L.drop (i + 1)) ++ z0)) = eV (looseL C n (L.take i)) ++ Value.int .i64 u :: .int .i64 v :: .int .i64 w :: (mid' ++ (eV (L.drop (i + 1)) ++ z0)) := by
          rw [hsn, eV_app, eV_one, List.append_assoc]; rfl
        rw [e2]; exact sD
theorem Loose_of {h : Heap} {bd cap pl pc : Nat} {t : Int} {q p : Option Addr} {z : DS} {L : List Ed} {X Y : Rws} {K : Int → Heap → Prop} (hn : n ≤ 4096) (zn : z.n = n) (iv : DInv z C) (hL : L.length ≤ 1048576) (hw : ∀ e ∈ L, 0 < e.2.2) (hs : wall L ≤ 2 ^ 52) (o : Own3 q cap L X)
    (s : St h0 h ((bd, drH (some ⟨a.b, 0, none⟩) q p L.length cap pl pc t) :: (X ++ (z.rows a ++ (Y ++ R)))))
    (hk : ∀ h' z' X' Y', z'.n = n → DInv z' C → Own3 q cap (looseL C n L) X' → St h0 h' ((bd, drH (some ⟨a.b, 0, none⟩) q p (looseL C n L).length cap pl pc t) :: (X' ++ (z'.rows a ++ (Y' ++ R)))) → K (wall (looseL C n L)) h') : karger_draw_loose (some ⟨bd, 0, none⟩) h K := by
  unfold karger_draw_loose
  rw [chkP_some]
  refine ⟨_, s.rd0 0, ?_⟩
  rw [chkP_some]
  refine ⟨_, _, _, s.rd0 1, by omega, ?_⟩
  rw [chkP_some]
  refine ⟨_, _, _, s.rd0 1, ?_⟩
  rcases o with ⟨rfl, rfl, rfl, rfl⟩ | ⟨be, z0, rfl, hcap, rfl⟩
  · refine ⟨1, ?_⟩
    unfold karger_draw_loose.l0 karger_draw_loose.b0
    refine iteB_neg rfl ?_
    show chkP (some (⟨bd, 0, none⟩ : Addr)) fun a12 => stC h (a12.add 1) (.slice none 0 0) fun h13 => K 0 h13
    rw [chkP_some]
    refine s.st0 (by simp) fun h2 s2 => hk h2 z [] Y zn iv (.inl ⟨rfl, rfl, rfl, rfl⟩) s2
  · rw [List.length_append, eV_len] at hcap
    have ep : (if cap = 0 then some (⟨be, 0, none⟩ : Addr) else (some (⟨be, 0, none⟩ : Addr)).map (·.add (0 * 3))) = some ⟨be, 0, none⟩ := by split <;> rfl
    rw [ep]
    have s1 : St h0 h ((be, eV (looseL C n (L.take 0)) ++ ([] ++ (eV (L.drop 0) ++ z0))) :: (z.rows a ++ (Y ++ ((bd, drH (some ⟨a.b, 0, none⟩) (some ⟨be, 0, none⟩) p L.length cap pl pc t) :: R)))) := by
      rw [List.take_zero, List.drop_zero]; show St h0 h ((be, eV L ++ z0) :: _)
      exact (St.re s (by intro a; simp only [cntR_append, cntR_cons, cntR_nil, List.cons_append, List.nil_append, List.set_cons_zero, List.set_cons_succ]; omega))
    refine ⟨L.length + 1, loose_l0 (R := (bd, drH (some ⟨a.b, 0, none⟩) (some ⟨be, 0, none⟩) p L.length cap pl pc t) :: R) hn hL hw hs hcap (fun h2 z' mid Y' zn' iv' hl s2 => ?_) L.length 0 h z [] Y 0 (by omega) zn iv (by simp [looseL]) (by simp) s1⟩
    rw [chkP_some]
    have s3 : St h0 h2 ((bd, drH (some ⟨a.b, 0, none⟩) (some ⟨be, 0, none⟩) p L.length cap pl pc t) :: ([(be, eV (looseL C n L) ++ mid)] ++ (z'.rows a ++ (Y' ++ R)))) := (St.re s2 (by intro a; simp only [cntR_append, cntR_cons, cntR_nil, List.cons_append, List.nil_append, List.set_cons_zero, List.set_cons_succ]; omega))
    refine s3.st0 (by simp) fun h4 s4 => hk h4 z' _ Y' zn' iv' (.inr ⟨be, mid, rfl, by rw [List.length_append, eV_len]; exact hl, rfl⟩) s4
/-! ### Picks -/
abbrev u64V (p : List Int) : List Value := p.map (Value.int .u64)
theorem Pick_of {h : Heap} {bd l cap t : Nat} {q p ap : Option Addr} {pc : Nat} {ps : List Int} {T : Rws} {K : Int → Heap → Prop} (ht : t < 2 ^ 40) (hp : ps.length < 2 ^ 40) (kp : Keeps h0 T p (u64V ps))
    (s : St h0 h ((bd, drH ap q p l cap ps.length pc (t : Int)) :: T))
    (hk : ∀ h', St h0 h' ((bd, drH ap q p l cap ps.length pc ((t + 1 : Nat) : Int)) :: T) → K (pickF ps (t + 1)) h') : karger_draw_pick (some ⟨bd, 0, none⟩) h K := by
  unfold karger_draw_pick
  rw [chkP_some]
  refine ⟨_, s.rd0 3, ?_⟩
  rw [chkP_some, wrap64 (by omega) (by omega), show (t : Int) + 1 = ((t + 1 : Nat) : Int) by omega]
  refine s.st0 (by simp) fun h2 s2 => ?_
  have s3 : St h0 h2 ((bd, drH ap q p l cap ps.length pc ((t + 1 : Nat) : Int)) :: T) := s2
  have hk2 := hk h2 s3
  clear hk
  rw [chkP_some]
  refine ⟨_, s3.rd0 3, ?_⟩
  rw [chkP_some]
  refine ⟨_, _, _, s3.rd0 2, ?_⟩
  unfold pickF at hk2
  by_cases c : t + 1 > ps.length
  · rw [if_pos c] at hk2
    exact iteB_pos (decide_eq_true (by omega)) hk2
  · rw [if_neg c] at hk2
    refine iteB_neg (decide_eq_false (by omega)) ?_
    rw [chkP_some]
    refine ⟨_, _, _, s3.rd0 2, ?_⟩
    rw [chkP_some]
    refine ⟨_, s3.rd0 3, ?_⟩
    obtain ⟨x, hx⟩ := get_lt (l := ps) (i := t) (by omega)
    obtain ⟨b, hb, hc⟩ := kp h2 _ s3 (fun y hy => by simp [hy]) t (.int .u64 x) (by rw [List.getElem?_map, hx]; rfl)
    subst hb
    rw [chkP_some, wrap64 (by omega) (by omega), show ((t + 1 : Nat) : Int) - 1 = (t : Int) by omega, Int.toNat_natCast, Nat.mul_one]
    refine ⟨by omega, x, hc, ?_⟩
    rw [Nat.add_sub_cancel, List.getD_eq_getElem?_getD, hx] at hk2
    exact hk2
/-! ### A step -/
theorem hit_l0 {K0 K2 : Heap → Prop} {bd cL : Nat} {q : Option Addr} {L : List Ed} {e0 : Ed} (hL : L.length ≤ 1048576) (hw : ∀ e ∈ L, 0 < e.2.2 ∧ e.2.2 ≤ 2 ^ 52) (hd : ∀ {h' : Heap} {R' : Rws}, St h0 h' R' → (∀ x ∈ R, x ∈ R') → cell h' ⟨bd, 0, none⟩ = some (.pointer (some ⟨a.b, 0, none⟩)) ∧ valsAt h' q (eV L))
    (hk : ∀ h' z' Y, z'.n = n → DInv z' (joinC C n e0.1 e0.2.1) → St h0 h' (z'.rows a ++ (Y ++ R)) → K0 h') :
    ∀ (d i : Nat) (h : Heap) (z : DS) (Y : Rws) (x : Int), i + d = L.length → 0 ≤ x → x ≤ 2 ^ 53 → hitE x (L.drop i) = some e0 → z.n = n → DInv z C → St h0 h (z.rows a ++ (Y ++ R)) →
      karger_draw_step.l0 K0 K2 (d + 1) (some ⟨bd, 0, none⟩) x q L.length cL (L.length : Int) (i : Int) h := by
  intro d
  induction d with
  | zero =>
    intro i h z Y x hi hx hx2 he zn iv s
    have : i = L.length := by omega
    subst this
    rw [List.drop_length] at he
    cases he
  | succ d ih =>
    intro i h z Y x hi hx hx2 he zn iv s
    unfold karger_draw_step.l0 karger_draw_step.b0
    refine iteB_pos (decide_eq_true (by omega)) ?_
    obtain ⟨e, hei⟩ := get_lt (l := L) (i := i) (by omega)
    have hwe := hw e (List.mem_of_getElem? hei)
    rw [drop_cons hei] at he
    unfold hitE at he
    obtain ⟨u, v, w⟩ := e
    simp only at he hwe
    obtain ⟨_, vq⟩ := hd s (fun x hx => by simp [hx])
    obtain ⟨a0, rfl, g0⟩ := vq _ _ (eV_get0 hei)
    obtain ⟨a1, ha1, g1⟩ := vq _ _ (eV_get1 hei)
    obtain ⟨a2, ha2, g2⟩ := vq _ _ (eV_get2 hei)
    cases ha1; cases ha2
    rw [chkP_some, Int.toNat_natCast]
    refine ⟨by omega, _, g0, _, by rw [addr_add]; exact g1, _, by rw [addr_add]; exact g2, s.new_ fun b h2 s2 => s2.st0 (by simp) fun h3 s3 => ?_⟩
    rw [add_mk, add_mk]
    refine s3.st0 (by simp) fun h4 s4 => s4.st0 (by simp) fun h5 s5 => ?_
    simp only [List.set_cons_zero, List.set_cons_succ, Nat.zero_add] at s5
    have s6 : St h0 h5 (z.rows a ++ (((b, [.int .i64 u, .int .i64 v, .int .i64 w]) :: Y) ++ R)) := (St.re s5 (by intro a; simp only [cntR_append, cntR_cons, cntR_nil, List.cons_append, List.nil_append, List.set_cons_zero, List.set_cons_succ]; omega))
    refine ⟨_, s5.rd0 2, ?_⟩
    rw [wrapU (x := w) (by omega) (by omega)]
    by_cases c : x ≥ w
    · rw [if_pos c] at he
      refine iteB_pos (decide_eq_true c) (bindV_intro fun m hm => ?_)
      rw [wrapU (by omega) (by omega)] at hm
      subst hm
      rw [wrap64 (by omega) (by omega)]
      exact ih (i + 1) h5 z _ (x - w) (by omega) (by omega) (by omega) he zn iv s6
    · rw [if_neg c] at he
      obtain rfl := Option.some.inj he
      refine iteB_neg (decide_eq_false c) ?_
      rw [chkP_some]
      refine ⟨_, (hd s6 (fun x hx => by simp [hx])).1, _, s5.rd0 0, _, s5.rd0 1, callP1.self (DJoin_of iv s6 fun h8 z' zn' iv' s8 => ?_)⟩
      rw [zn] at zn' iv'
      exact hk h8 z' _ zn' iv' s8
theorem clsL_two {C : Nat → Nat} {n : Nat} (na : Names n C) (hl : 2 ≤ (headF C n).length) : ∃ r0 r1 : List Nat, (clsL C n)[0]? = some ((headF C n).getD 0 0 :: r0) ∧ (clsL C n)[1]? = some ((headF C n).getD 1 0 :: r1) := by
  have one : ∀ i, i < 2 → ∃ r : List Nat, (clsL C n)[i]? = some ((headF C n).getD i 0 :: r) := fun i hi => by
    have e : (headF C n)[i]? = some (headF C n)[i] := List.getElem?_eq_getElem (by omega)
    have hm : (headF C n)[i] ∈ (List.range n).filter fun v => C v == v := List.mem_of_getElem? e
    rw [List.mem_filter, List.mem_range] at hm
    obtain ⟨r, hr⟩ := clsF_head na hm.1 (by simpa using hm.2)
    refine ⟨r, ?_⟩
    have : clsL C n = (headF C n).map fun c => clsF C n c := rfl
    rw [this, List.getElem?_map, e, List.getD_eq_getElem?_getD, e]
    simp only [Option.map_some, Option.getD_some]
    rw [← hr]
  obtain ⟨r0, h0⟩ := one 0 (by omega)
  obtain ⟨r1, h1⟩ := one 1 (by omega)
  exact ⟨r0, r1, h0, h1⟩
/-- A list in a list. -/
theorem sls_row {h : Heap} {q : Option Addr} {qs : List SlT} {ls : List (List Nat)} {i : Nat} {l : List Nat} {S T : Rws} (kq : Keeps h0 S q (slV qs)) (ks : Sls h0 S qs ls) (s : St h0 h T) (hs : ∀ x ∈ S, x ∈ T) (hl : ls[i]? = some l) :
    ∃ (a : Addr) (p : Option Addr) (cp : Nat), q = some a ∧ cell h (a.add i) = some (.slice p l.length cp) ∧ Keeps h0 S p (nums l) := by
  obtain ⟨x, hx⟩ : ∃ x, qs[i]? = some x := ⟨_, List.getElem?_eq_getElem (by rw [ks.1]; exact lt_get hl)⟩
  obtain ⟨p, pl, cp⟩ := x
  obtain ⟨e1, e2⟩ := ks.2 i _ _ hx hl
  simp only at e1 e2
  subst e1
  obtain ⟨a, ha, hc⟩ := kq h T s hs i _ (slV_get hx)
  exact ⟨a, p, cp, ha, hc, e2⟩
theorem Step_of {h : Heap} {bd cap pc : Nat} {q p : Option Addr} {z : DS} {ps : List Int} {sd : Drw} {X Y : Rws} {K : Heap → Prop} (hn : n ≤ 4096) (od : DrwOk n sd) (hl : 2 ≤ (headF sd.C n).length) (hps : ps.length < 2 ^ 40) (hpp : ∀ t, 0 ≤ pickF ps t) (ht : sd.t < 2 ^ 40) (zn : z.n = n) (iv : DInv z sd.C) (o : Own3 q cap sd.L X) (kp : ∀ T, (∀ x ∈ R, x ∈ T) → Keeps h0 T p (u64V ps))
    (s : St h0 h ((bd, drH (some ⟨a.b, 0, none⟩) q p sd.L.length cap ps.length pc (sd.t : Int)) :: (X ++ (z.rows a ++ (Y ++ R)))))
    (hk : ∀ h' z' X' Y', z'.n = n → DInv z' (stepK n ps sd).C → Own3 q cap (stepK n ps sd).L X' → St h0 h' ((bd, drH (some ⟨a.b, 0, none⟩) q p (stepK n ps sd).L.length cap ps.length pc ((stepK n ps sd).t : Int)) :: (X' ++ (z'.rows a ++ (Y' ++ R)))) → K h') : karger_draw_step (some ⟨bd, 0, none⟩) h K := by
  unfold karger_draw_step
  obtain ⟨l1, l2, l3⟩ := od.loose
  refine callP1.self (Loose_of hn zn iv od.len (fun e he => (od.ed e he).2.2.2.2) od.sum o s fun h2 z2 X2 Y2 zn2 iv2 o2 s2 => ?_)
  unfold stepK at hk
  have na := od.na
  have hpos := wall_pos (L := looseL sd.C n sd.L) fun e he => (l1 e he).2.2.2.2
  by_cases c : looseL sd.C n sd.L = []
  · simp only [c, if_true] at hk
    refine iteB_pos (by rw [c]; rfl) ?_
    rw [c] at s2 o2
    rw [chkP_some]
    have s3 : St h0 h2 (z2.rows a ++ ((bd, drH (some ⟨a.b, 0, none⟩) q p ([] : List Ed).length cap ps.length pc (sd.t : Int)) :: (X2 ++ (Y2 ++ R)))) := (St.re s2 (by intro a; simp only [cntR_append, cntR_cons, cntR_nil, List.cons_append, List.nil_append, List.set_cons_zero, List.set_cons_succ]; omega))
    refine ⟨_, s2.rd0 0, callP3.self (DList_of iv2 s3 fun h4 U ql cl qs Z iv4 k4 l4 s4 => ?_)⟩
    rw [zn2] at l4 ⊢
    obtain ⟨r0, r1, e0, e1⟩ := clsL_two na hl
    obtain ⟨al, p0, cp0, rfl, c0, kp0⟩ := sls_row k4 l4 s4 (fun x hx => by simp [hx]) e0
    obtain ⟨al1, p1, cp1, hal, c1, kp1⟩ := sls_row k4 l4 s4 (fun x hx => by simp [hx]) e1
    cases hal
    have hlen : (clsL sd.C n).length = (headF sd.C n).length := clsL_len _ _
    obtain ⟨b0, hb0, g0⟩ := kp0 h4 _ s4 (fun x hx => by simp [hx]) 0 _ (nums_get (l := (headF sd.C n).getD 0 0 :: r0) rfl)
    obtain ⟨b1, hb1, g1⟩ := kp1 h4 _ s4 (fun x hx => by simp [hx]) 0 _ (nums_get (l := (headF sd.C n).getD 1 0 :: r1) rfl)
    subst hb0; subst hb1
    have rd0' : cell h4 ⟨bd, 0, none⟩ = some (.pointer (some ⟨a.b, 0, none⟩)) := (s4.rd (b := bd) (cs := drH (some ⟨a.b, 0, none⟩) q p ([] : List Ed).length cap ps.length pc (sd.t : Int)) (by simp)) 0
    rw [chkP_some]
    refine ⟨_, rd0', ?_⟩
    rw [chkP_some]
    refine ⟨by omega, _, _, _, c0, ?_⟩
    rw [chkP_some]
    refine ⟨⟨by omega, by rw [List.length_cons]; omega⟩, _, g0, ?_⟩
    rw [chkP_some]
    refine ⟨by omega, _, _, _, c1, ?_⟩
    rw [chkP_some]
    refine ⟨⟨by omega, by rw [List.length_cons]; omega⟩, _, g1, ?_⟩
    have s5 : St h0 h4 (({ z2 with up := U } : DS).rows a ++ ((bd, drH (some ⟨a.b, 0, none⟩) q p ([] : List Ed).length cap ps.length pc (sd.t : Int)) :: (X2 ++ ((Z ++ Y2) ++ R)))) := (St.re s4 (by intro a; simp only [cntR_append, cntR_cons, cntR_nil, List.cons_append, List.nil_append, List.set_cons_zero, List.set_cons_succ]; omega))
    refine callP1.self (DJoin_of iv4 s5 fun h6 z6 zn6 iv6 s6 => ?_)
    have zn6 : z6.n = n := zn6.trans zn2
    have iv6 : DInv z6 (joinC sd.C n (h01 sd.C n).1 (h01 sd.C n).2) := by
      have : DInv z6 (joinC sd.C z2.n _ _) := iv6
      rw [zn2] at this; exact this
    exact hk h6 z6 X2 (Z ++ Y2) zn6 iv6 o2 ((St.re s6 (by intro a; simp only [cntR_append, cntR_cons, cntR_nil, List.cons_append, List.nil_append, List.set_cons_zero, List.set_cons_succ]; omega)))
  · simp only [c, if_false] at hk
    have hp := hpos.2 c
    refine iteB_neg (by simp; omega) ?_
    obtain ⟨x0, x1⟩ := pick_range od c (hpp (sd.t + 1))
    obtain ⟨e, he, hm⟩ := hitE_some x0 x1
    rw [he] at hk
    refine callP1.self (Pick_of ht hps (kp _ fun x hx => by simp [hx]) s2 fun h4 s4 => ⟨by omega, ?_⟩)
    rw [chkP_some]
    refine ⟨_, _, _, s4.rd0 1, ⟨(looseL sd.C n sd.L).length + 1, ?_⟩⟩
    have s5 : St h0 h4 (z2.rows a ++ (Y2 ++ ((bd, drH (some ⟨a.b, 0, none⟩) q p (looseL sd.C n sd.L).length cap ps.length pc ((sd.t + 1 : Nat) : Int)) :: (X2 ++ R)))) := (St.re s4 (by intro a; simp only [cntR_append, cntR_cons, cntR_nil, List.cons_append, List.nil_append, List.set_cons_zero, List.set_cons_succ]; omega))
    refine hit_l0 (C := sd.C) (R := (bd, drH (some ⟨a.b, 0, none⟩) q p (looseL sd.C n sd.L).length cap ps.length pc ((sd.t + 1 : Nat) : Int)) :: (X2 ++ R)) (e0 := e) l3 (fun e' he' => ⟨(l1 e' he').2.2.2.2, ?_⟩) (fun {h'} {R'} s' hs' => ⟨?_, ?_⟩) (fun h6 z6 Y6 zn6 iv6 s6 => ?_) (looseL sd.C n sd.L).length 0 h4 z2 Y2 _ (by omega) x0 (by omega) (by rw [List.drop_zero]; exact he) zn2 iv2 s5
    · have := tsum_mem_le (f := fun e : Ed => e.2.2) (l := looseL sd.C n sd.L) (fun x hx => by have := (l1 x hx).2.2.2.2; omega) e' he'
      have h2 : tsum (fun e : Ed => e.2.2) (looseL sd.C n sd.L) ≤ 2 ^ 52 := l2
      have h3 : e'.2.2 ≤ tsum (fun e : Ed => e.2.2) (looseL sd.C n sd.L) := this
      omega
    · exact (s'.rd (b := bd) (cs := drH (some ⟨a.b, 0, none⟩) q p (looseL sd.C n sd.L).length cap ps.length pc ((sd.t + 1 : Nat) : Int)) (hs' _ (by simp))) 0
    · exact o2.keeps (R := X2) (fun x hx => hx) h' R' s' (fun x hx => hs' x (by simp [hx]))
    · exact hk h6 z6 X2 Y6 zn6 iv6 o2 ((St.re s6 (by intro a; simp only [cntR_append, cntR_cons, cntR_nil, List.cons_append, List.nil_append, List.set_cons_zero, List.set_cons_succ]; omega)))
end
end Go.Proofs.YtbhndlpjfncliaaGreat
