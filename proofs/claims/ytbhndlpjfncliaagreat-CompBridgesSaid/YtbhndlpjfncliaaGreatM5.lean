/-
  Bridges: the walk that the program takes, step by step.
-/
import Derived.Test.YtbhndlpjfncliaaGreatM4
namespace Go.Proofs.YtbhndlpjfncliaaGreat
set_option linter.unusedVariables false
set_option linter.unusedSimpArgs false
set_option linter.unnecessarySimpa false
open Go.Hp Go.RowKit
attribute [local irreducible] Go.Hp.iteB Go.Hp.stC Go.Hp.newP

/-- A slice of one's own, of things of k cells. -/
def OwnK (k : Nat) (q : Option Addr) (cap : Nat) (l : List Value) (X : Rws) : Prop := (q = none ∧ cap = 0 ∧ l = [] ∧ X = []) ∨ ∃ (b : Nat) (z : List Value), q = some ⟨b, 0, none⟩ ∧ (l ++ z).length = cap * k ∧ X = [(b, l ++ z)]
/-- A step of the way: a vertex, where from, who is near and not yet looked at. -/
structure Stp where
  v : Nat
  fr : Int
  q : Option Addr
  c : Nat
  rest : List Nat
abbrev Stp.cells (s : Stp) : List Value := [.int .i64 (s.v : Int), .int .i64 s.fr, .slice s.q s.rest.length s.c]
def wV : List Stp → List Value
  | [] => []
  | s :: r => wV r ++ s.cells
theorem wV_len : ∀ r : List Stp, (wV r).length = r.length * 3
  | [] => rfl
  | s :: r => by
    simp only [wV, List.length_append, wV_len r, List.length_cons, List.length_nil]; omega
theorem wV_flat : ∀ (r : List Stp), ∀ v ∈ wV r, flat v = true
  | s :: r, v, hv => by
    unfold wV at hv
    rcases List.mem_append.1 hv with h | h
    · exact wV_flat r v h
    · simp only [List.mem_cons, List.not_mem_nil, or_false] at h
      rcases h with rfl | rfl | rfl <;> rfl
def fV (F : List (Nat × Nat)) : List Value := F.flatMap fun p => [.int .i64 (p.1 : Int), .int .i64 (p.2 : Int)]
theorem fV_len : ∀ F : List (Nat × Nat), (fV F).length = F.length * 2
  | [] => rfl
  | p :: F => by
    have := fV_len F
    unfold fV at this ⊢
    rw [List.flatMap_cons, List.length_append, this]; simp only [List.length_cons, List.length_nil]; omega
theorem fV_app (A B : List (Nat × Nat)) : fV (A ++ B) = fV A ++ fV B := by simp [fV]
/-- What is known on the way, in plain words. -/
structure BSt where
  met : Nat → Nat
  low : Nat → Nat
  time : Nat
  found : List (Nat × Nat)
  way : List (Nat × Int × List Nat)
def stepB (N : List (List Nat)) (s : BSt) : BSt := match s.way with
  | [] => s
  | (v, fr, []) :: r =>
    if 0 ≤ fr then
      let low' := upd s.low fr.toNat (min (s.low fr.toNat) (s.low v))
      { s with low := low', found := if low' v > s.met fr.toNat then s.found ++ [(fr.toNat, v)] else s.found, way := r }
    else { s with way := r }
  | (v, fr, u :: rest) :: r =>
    if (u : Int) = fr then { s with way := (v, fr, rest) :: r }
    else if s.met u > 0 then { s with low := upd s.low v (min (s.low v) (s.met u)), way := (v, fr, rest) :: r }
    else { met := upd s.met u (s.time + 1), low := upd s.low u (s.time + 1), time := s.time + 1, found := s.found, way := (u, (v : Int), N.getD u []) :: (v, fr, rest) :: r }
def runB (N : List (List Nat)) : Nat → BSt → Option BSt
  | 0, s => if s.way = [] then some s else none
  | m + 1, s => if s.way = [] then some s else runB N m (stepB N s)
abbrev wHead (g bm bl n t : Nat) (qf : Option Addr) (lf cf : Nat) : List Value := [.pointer (some ⟨g, 0, none⟩), .slice (some ⟨bm, 0, none⟩) n n, .slice (some ⟨bl, 0, none⟩) n n, .int .i64 (t : Int), .slice qf lf cf]
section
variable {h0 : Base} {R : Rws} {g n bw bm bl : Nat} {L : List Ed} {N : List (List Nat)}
theorem open_of {h : Heap} {v t lf cf : Nat} {fr : Int} {qf : Option Addr} {met low : Nat → Nat} {l : List Nat} {K : Int → Int → Option Addr → Nat → Nat → Heap → Prop} (nh : NetG h0.heap g n L N) (hv : v < n) (hl : N[v]? = some l) (hll : l.length < 2 ^ 40) (ht : t < 2 ^ 40)
    (s : St h0 h ((bw, wHead g bm bl n t qf lf cf) :: (bm, intN n met) :: (bl, intN n low) :: R))
    (hk : ∀ h' q c X, Hp.Own q c (natV l) X → St h0 h' ((bw, wHead g bm bl n (t + 1) qf lf cf) :: (bm, intN n (upd met v (t + 1))) :: (bl, intN n (upd low v (t + 1))) :: (X ++ R)) → K (v : Int) fr q l.length c h') :
    comp_walk_open (some ⟨bw, 0, none⟩) (v : Int) fr h K := by
  unfold comp_walk_open
  refine s.new_ fun b4 h1 s1 => ?_
  have s2 : St h0 h1 ((bw, wHead g bm bl n t qf lf cf) :: (bm, intN n met) :: (bl, intN n low) :: ((b4, [Value.int .i64 0, .int .i64 0, .slice none 0 0]) :: R)) := (St.re s1 (by intro a; simp only [cntR_append, cntR_cons, cntR_nil, List.cons_append, List.nil_append, List.set_cons_zero, List.set_cons_succ]; omega))
  rw [chkP_some]
  refine ⟨_, s2.rd0 3, ?_⟩
  rw [chkP_some, add_mk, Nat.zero_add]
  refine s2.st0 (by simp) fun h3 s3 => ?_
  have e3 : (wHead g bm bl n t qf lf cf).set 3 (.int .i64 (IntKind.i64.wrap ((t : Int) + 1))) = wHead g bm bl n (t + 1) qf lf cf := by
    rw [wrap64 (by omega) (by omega)]; rfl
  rw [e3] at s3
  rw [chkP_some]
  refine ⟨_, _, _, s3.rd0 1, ?_⟩
  rw [chkP_some]
  refine ⟨_, _, _, s3.rd0 2, ?_⟩
  rw [chkP_some]
  refine ⟨_, s3.rd0 3, ?_⟩
  rw [chkP_some]
  refine ⟨_, s3.rd0 3, ?_⟩
  rw [chkP_some]
  refine ⟨⟨by omega, by omega⟩, ?_⟩
  rw [Int.toNat_natCast, Nat.mul_one, add_mk, Nat.zero_add]
  refine s3.st1 (by rw [intN_len]; exact hv) fun h4 s4 => ?_
  rw [intN_set] at s4
  rw [chkP_some]
  refine ⟨⟨by omega, by omega⟩, ?_⟩
  rw [add_mk, Nat.zero_add]
  refine s4.st2 (by rw [intN_len]; exact hv) fun h5 s5 => ?_
  rw [intN_set] at s5
  rw [chkP_some]
  refine ⟨_, s5.rd0 0, callP3.self (GNear_of nh s5 hv hl hll fun q c X h6 o s6 => ?_)⟩
  have s7 : St h0 h6 ((b4, [Value.int .i64 0, .int .i64 0, .slice none 0 0]) :: ((bw, wHead g bm bl n (t + 1) qf lf cf) :: (bm, intN n (upd met v (t + 1))) :: (bl, intN n (upd low v (t + 1))) :: (X ++ R))) := (St.re s6 (by intro a; simp only [cntR_append, cntR_cons, cntR_nil, List.cons_append, List.nil_append, List.set_cons_zero, List.set_cons_succ]; omega))
  refine s7.st0 (by simp) fun h8 s8 => ?_
  rw [add_mk, add_mk]
  refine s8.st0 (by simp) fun h9 s9 => s9.st0 (by simp) fun hA sA => ?_
  simp only [List.set_cons_zero, List.set_cons_succ, Nat.zero_add] at sA
  exact ⟨_, sA.rd0 0, _, sA.rd0 1, _, _, _, sA.rd0 2, hk hA q c X o sA.tail⟩
/-! ### The way -/
/-- What lies in memory of the way. -/
structure WayM (h0 : Base) (Y : Rws) (n : Nat) (ws : List Stp) : Prop where
  ok : ∀ s ∈ ws, s.v < n ∧ (0 ≤ s.fr → s.fr < n) ∧ (∀ u ∈ s.rest, u < n) ∧ s.rest.length ≤ s.c ∧ Keeps h0 Y s.q (natV s.rest)
theorem WayM.sub {h0 : Base} {Y Y' : Rws} {n : Nat} {ws : List Stp} (w : WayM h0 Y n ws) (hs : ∀ x ∈ Y, x ∈ Y') : WayM h0 Y' n ws := ⟨fun s hm => by obtain ⟨a, b, c, d, k⟩ := w.ok s hm; exact ⟨a, b, c, d, k.sub hs⟩⟩
theorem keeps_tail {h0 : Base} {Y : Rws} {q : Option Addr} {u c : Nat} {rest : List Nat} (k : Keeps h0 Y q (natV (u :: rest))) (hc : rest.length + 1 ≤ c) : Keeps h0 Y (if c = 1 then q else q.map (·.add (1 * 1))) (natV rest) := by
  intro h L s hs i v hv
  by_cases e : c = 1
  · have : rest = [] := List.length_eq_zero_iff.1 (by omega)
    subst this; simp [natV] at hv
  · rw [if_neg e]
    obtain ⟨a, ha, hc⟩ := k h L s hs (i + 1) v (by simpa [natV] using hv)
    subst ha
    exact ⟨a.add 1, rfl, by rw [addr_add, Nat.add_comm 1 i]; exact hc⟩
abbrev pureS (s : Stp) : Nat × Int × List Nat := (s.v, s.fr, s.rest)
end
end Go.Proofs.YtbhndlpjfncliaaGreat
