/-
  Graphs: New.
-/
import Derived.Test.YtbhndlpjfncliaaGreatY8
namespace Go.Proofs.YtbhndlpjfncliaaGreat
set_option linter.unusedVariables false
set_option linter.unusedSimpArgs false
set_option linter.unnecessarySimpa false
open Go.Hp Go.RowKit
attribute [local irreducible] Go.Hp.iteB Go.Hp.stC Go.Hp.newP

/-- Who is next to whom, as edges come. -/
def lnk1 (N : List (List Nat)) (a b : Nat) : List (List Nat) := N.set a (N.getD a [] ++ [b])
def lnkE (N : List (List Nat)) (e : Ed) : List (List Nat) := lnk1 (lnk1 N e.1.toNat e.2.1.toNat) e.2.1.toNat e.1.toNat
def nearL (n : Nat) (L : List Ed) : List (List Nat) := (L.foldl lnkE (List.replicate n [])).map sortN
/-- The edges that a graph is made of. -/
def netL (l : List Ed) : List Ed := ((mergeD l).getD []).filter nz
/-- Why there is no graph. -/
def newE (n : Int) (l : List Ed) : Int × Int := if n < 0 then (1, 0) else if n > 4096 ∨ l.length > 1048576 then (3, 0) else chksE n 0 l
theorem newE_ok {n : Int} {l : List Ed} (h : (newE n l).1 = 0) : 0 ≤ n ∧ n ≤ 4096 ∧ l.length ≤ 1048576 ∧ Chk n l := by
  unfold newE at h
  split at h
  · simp at h
  · split at h
    · simp at h
    · rename_i c
      exact ⟨by omega, by omega, by omega, chks_ok h⟩
/-- A graph in memory. -/
structure NetK (h0 : Base) (R : Rws) (g n : Nat) (L : List Ed) (N : List (List Nat)) : Prop where
  gr : Gr n L
  hn : n ≤ 4096
  ex : ∃ (nr dg cm : Nat) (qm : Option Addr) (tot : Int) (E : List Nr), Keeps h0 R (some ⟨g, 0, none⟩) [.slice (some ⟨nr, 0, none⟩) n n, .slice (some ⟨dg, 0, none⟩) n n, .slice qm L.length cm, .int .i64 tot] ∧ Keeps h0 R qm (eV L) ∧ Keeps h0 R (some ⟨nr, 0, none⟩) (nrV E) ∧ nrL E = N ∧ E.length = n ∧ ∀ e ∈ E, Keeps h0 R e.q (natV e.l)
theorem NetK.sub {h0 : Base} {R R' : Rws} {g n : Nat} {L : List Ed} {N : List (List Nat)} (k : NetK h0 R g n L N) (hs : ∀ x ∈ R, x ∈ R') : NetK h0 R' g n L N := by
  obtain ⟨g1, g2, nr, dg, cm, qm, tot, E, k1, k2, k3, k4, k5, k6⟩ := k
  exact ⟨g1, g2, nr, dg, cm, qm, tot, E, k1.sub hs, k2.sub hs, k3.sub hs, k4, k5, fun e he => (k6 e he).sub hs⟩
theorem zr_nr : ∀ n, zeroRow [.slice none 0 0] n = nrV (List.replicate n ⟨none, 0, [], []⟩)
  | 0 => rfl
  | n + 1 => by rw [zeroRow, zr_nr n]; simp [nrV, List.replicate_succ]
theorem nrR_rep : ∀ n, nrR (List.replicate n ⟨none, 0, [], []⟩) = []
  | 0 => rfl
  | n + 1 => by rw [List.replicate_succ]; show [] ++ nrR _ = []; rw [nrR_rep n]; rfl

section
variable {h0 : Base} {Z : Rws} {n : Nat}
/-- An edge that is noted. -/
theorem link_of {K : Heap → Prop} {h : Heap} {g nr dg k mm cm : Nat} {qm : Option Addr} {tot w : Int} {a b : Nat} {E : List Nr} {F : Nat → Int} (hE : E.length = n) (hn : n ≤ 4096) (ok : nrOk k E) (hkk : k ≤ 2 ^ 21) (ha : a < n) (hb : b < n)
    (s : St h0 h ((g, [.slice (some ⟨nr, 0, none⟩) n n, .slice (some ⟨dg, 0, none⟩) n n, .slice qm mm cm, .int .i64 tot]) :: (nr, nrV E) :: (dg, ints n F) :: (nrR E ++ Z)))
    (hk : ∀ h' E' F', E'.length = n → nrOk (k + 2) E' → nrL E' = lnkE (nrL E) ((a : Int), (b : Int), w) → St h0 h' ((g, [.slice (some ⟨nr, 0, none⟩) n n, .slice (some ⟨dg, 0, none⟩) n n, .slice qm mm cm, .int .i64 tot]) :: (nr, nrV E') :: (dg, ints n F') :: (nrR E' ++ Z)) → K h') :
    net_ends_link (some ⟨g, 0, none⟩) (a : Int) (b : Int) w h K := by
  unfold net_ends_link
  refine s.new_ fun c3 h1 s1 => ?_
  try simp -zeta (disch := omega) only [chkP_some, iteB_true, iteB_false, add_mk, Nat.zero_add, Nat.add_zero, Nat.mul_one, Nat.reduceAdd, Int.toNat_natCast, ex_int, ex_slice, ex_ptr, ex_bool, ex_str, ex_flt, ex_any, bnd_in, List.getElem?_cons_zero, List.getElem?_cons_succ, List.set_cons_zero, List.set_cons_succ, List.cons_append, List.nil_append, bne_self_eq_false, beq_self_eq_true, Bool.not_true, Bool.not_false, Option.isNone_some, Option.isNone_none, eq_self, true_and, and_true, and_self, s1.rd0]
  refine ⟨3, link_step (i := 0) (a := a) (b := b) hE hn ok (by omega) ha (by omega) rfl rfl s1 fun h2 E2 F2 l2 ok2 n2 s2 => ?_⟩
  refine link_step (i := 1) (a := b) (b := a) l2 hn ok2 (by omega) hb (by omega) rfl rfl s2 fun h3 E3 F3 l3 ok3 n3 s3 => ?_
  unfold net_ends_link.l0 net_ends_link.b0
  refine iteB_neg rfl (hk h3 E3 F3 l3 ok3 ?_ s3.tail)
  rw [n3, n2]; rfl
theorem newnet_l0 {K3 : Heap → Prop} {g nr dg mm cm : Nat} {nI : Int} {qm : Option Addr} {L : List Ed} (hn : n ≤ 4096) (hL : L.length = mm) (hm : mm ≤ 1048576) (hr : ∀ e ∈ L, 0 ≤ e.1 ∧ e.1 < e.2.1 ∧ e.2.1 < n ∧ 0 < e.2.2) (km : Keeps h0 Z qm (eV L))
    (hk : ∀ h' E' F' t', E'.length = n → nrOk 2097152 E' → nrL E' = L.foldl lnkE (List.replicate n []) → St h0 h' ((g, [.slice (some ⟨nr, 0, none⟩) n n, .slice (some ⟨dg, 0, none⟩) n n, .slice qm mm cm, .int .i64 t']) :: (nr, nrV E') :: (dg, ints n F') :: (nrR E' ++ Z)) → K3 h') :
    ∀ (d i : Nat) (h : Heap) (E : List Nr) (F : Nat → Int) (t : Int), i + d = mm → E.length = n → nrOk (2 * i) E → nrL E = (L.take i).foldl lnkE (List.replicate n []) →
      St h0 h ((g, [.slice (some ⟨nr, 0, none⟩) n n, .slice (some ⟨dg, 0, none⟩) n n, .slice qm mm cm, .int .i64 t]) :: (nr, nrV E) :: (dg, ints n F) :: (nrR E ++ Z)) → net_New.l0 K3 (d + 1) nI ⟨g, 0, none⟩ qm mm cm (mm : Int) (i : Int) h
  | 0, i, h, E, F, t, hi, hE, ok, hN, s => by
    unfold net_New.l0 net_New.b0
    have : i = mm := by omega
    subst this
    rw [List.take_of_length_le (by omega)] at hN
    exact iteB_neg (decide_eq_false (by omega)) (hk h E F t hE (ok.more (by omega)) hN s)
  | d + 1, i, h, E, F, t, hi, hE, ok, hN, s => by
    unfold net_New.l0 net_New.b0
    obtain ⟨⟨u, v, w⟩, hx⟩ := get_lt (l := L) (i := i) (by omega)
    have hxr := hr _ (List.mem_of_getElem? hx)
    obtain ⟨a, rfl⟩ : ∃ a : Nat, u = a := ⟨u.toNat, by simp only at hxr; omega⟩
    obtain ⟨b, rfl⟩ : ∃ a : Nat, v = a := ⟨v.toNat, by simp only at hxr; omega⟩
    have vl : valsAt h qm (eV L) := km h _ s (fun x hx => by simp [hx])
    refine iteB_pos (decide_eq_true (by omega)) ?_
    simp -zeta (disch := omega) only [chkP_some, iteB_true, iteB_false, add_mk, Nat.zero_add, Nat.add_zero, Nat.mul_one, Nat.reduceAdd, Int.toNat_natCast, ex_int, ex_slice, ex_ptr, ex_bool, ex_str, ex_flt, ex_any, bnd_in, List.getElem?_cons_zero, List.getElem?_cons_succ, List.set_cons_zero, List.set_cons_succ, List.cons_append, List.nil_append, bne_self_eq_false, beq_self_eq_true, Bool.not_true, Bool.not_false, Option.isNone_some, Option.isNone_none, eq_self, true_and, and_true, and_self, vals_edge vl hx]
    refine s.new_ fun b1 h1 s1 => s1.st0 (by simp) fun h2 s2 => s2.st0 (by simp) fun h3 s3 => s3.st0 (by simp) fun h4 s4 => ?_
    simp only [List.set_cons_zero, List.set_cons_succ, Nat.zero_add] at s4
    try simp -zeta (disch := omega) only [chkP_some, iteB_true, iteB_false, add_mk, Nat.zero_add, Nat.add_zero, Nat.mul_one, Nat.reduceAdd, Int.toNat_natCast, ex_int, ex_slice, ex_ptr, ex_bool, ex_str, ex_flt, ex_any, bnd_in, List.getElem?_cons_zero, List.getElem?_cons_succ, List.set_cons_zero, List.set_cons_succ, List.cons_append, List.nil_append, bne_self_eq_false, beq_self_eq_true, Bool.not_true, Bool.not_false, Option.isNone_some, Option.isNone_none, eq_self, true_and, and_true, and_self, s4.rd0]
    have s5 : St h0 h4 ((g, [.slice (some ⟨nr, 0, none⟩) n n, .slice (some ⟨dg, 0, none⟩) n n, .slice qm mm cm, .int .i64 t]) :: (nr, nrV E) :: (dg, ints n F) :: (nrR E ++ ((b1, [Value.int .i64 (a : Int), .int .i64 (b : Int), .int .i64 w]) :: Z))) := (St.re s4 (by intro a; simp only [cntR_append, cntR_cons, cntR_nil, List.cons_append, List.nil_append, List.set_cons_zero, List.set_cons_succ]; omega))
    refine callP0.self (link_of (w := w) hE hn ok (by omega) (by simp only at hxr; omega) (by simp only at hxr; omega) s5 fun h6 E' F' l6 ok6 n6 s6 => ?_)
    have rb : ∀ j, cell h6 ⟨b1, j, none⟩ = [Value.int .i64 (a : Int), .int .i64 (b : Int), .int .i64 w][j]? := s6.rd (by simp)
    simp -zeta (disch := omega) only [chkP_some, iteB_true, iteB_false, add_mk, Nat.zero_add, Nat.add_zero, Nat.mul_one, Nat.reduceAdd, Int.toNat_natCast, ex_int, ex_slice, ex_ptr, ex_bool, ex_str, ex_flt, ex_any, bnd_in, List.getElem?_cons_zero, List.getElem?_cons_succ, List.set_cons_zero, List.set_cons_succ, List.cons_append, List.nil_append, bne_self_eq_false, beq_self_eq_true, Bool.not_true, Bool.not_false, Option.isNone_some, Option.isNone_none, eq_self, true_and, and_true, and_self, s6.rd0, rb]
    refine s6.st0 (by simp) fun h7 s7 => ?_
    simp only [List.set_cons_zero, List.set_cons_succ, Nat.zero_add] at s7
    rw [wrap64 (x := (i : Int) + 1) (by omega) (by omega)]
    refine newnet_l0 hn hL hm hr km hk d (i + 1) h7 E' F' (IntKind.i64.wrap (t + w)) (by omega) l6 (ok6.more (by omega)) ?_ ((St.re s7 (by intro a; simp only [cntR_append, cntR_cons, cntR_nil, List.cons_append, List.nil_append, List.set_cons_zero, List.set_cons_succ]; omega)))
    rw [n6, hN, take_snoc hx, List.foldl_append]; rfl
theorem newnet_l1 {K5 : Heap → Prop} {g nr : Nat} {c1 c2 c3 : Value} {A : Rws} {N : List (List Nat)} (hn : n ≤ 4096) (hN : N.length = n)
    (hk : ∀ h' E', E'.length = n → nrOk 2097152 E' → nrL E' = N.map sortN → St h0 h' ((g, [.slice (some ⟨nr, 0, none⟩) n n, c1, c2, c3]) :: (nr, nrV E') :: (nrR E' ++ A)) → K5 h') :
    ∀ (d i : Nat) (h : Heap) (E : List Nr), i + d = n → E.length = n → nrOk 2097152 E → nrL E = (N.take i).map sortN ++ N.drop i →
      St h0 h ((g, [.slice (some ⟨nr, 0, none⟩) n n, c1, c2, c3]) :: (nr, nrV E) :: (nrR E ++ A)) → net_New.l1 K5 (d + 1) ⟨g, 0, none⟩ (n : Int) (i : Int) h
  | 0, i, h, E, hi, hE, ok, hNE, s => by
    unfold net_New.l1 net_New.b1
    have : i = n := by omega
    subst this
    rw [List.take_of_length_le (by omega), List.drop_of_length_le (by omega), List.append_nil] at hNE
    exact iteB_neg (decide_eq_false (by omega)) (hk h E hE ok hNE s)
  | d + 1, i, h, E, hi, hE, ok, hNE, s => by
    unfold net_New.l1 net_New.b1
    refine iteB_pos (decide_eq_true (by omega)) ?_
    obtain ⟨P, e, Q, rfl, hP⟩ := split_at (l := E) (i := i) (by omega)
    have rn : cell h ⟨nr, i, none⟩ = some (.slice e.q e.l.length e.cap) := by rw [s.rd1, nrV_get hP]
    have hok := ok e (by simp)
    simp -zeta (disch := omega) only [chkP_some, iteB_true, iteB_false, add_mk, Nat.zero_add, Nat.add_zero, Nat.mul_one, Nat.reduceAdd, Int.toNat_natCast, ex_int, ex_slice, ex_ptr, ex_bool, ex_str, ex_flt, ex_any, bnd_in, List.getElem?_cons_zero, List.getElem?_cons_succ, List.set_cons_zero, List.set_cons_succ, List.cons_append, List.nil_append, bne_self_eq_false, beq_self_eq_true, Bool.not_true, Bool.not_false, Option.isNone_some, Option.isNone_none, eq_self, true_and, and_true, and_self, s.rd0, rn]
    have s2 : St h0 h (e.X ++ ((g, [.slice (some ⟨nr, 0, none⟩) n n, c1, c2, c3]) :: (nr, nrV (P ++ e :: Q)) :: (nrR P ++ (nrR Q ++ A)))) := (St.re s (by intro a; simp only [cntR_append, cntR_cons, cntR_nil, List.cons_append, List.nil_append, List.set_cons_zero, List.set_cons_succ, nrR_mid]; omega))
    refine callP0.self (SortN_of rfl (by omega) hok.1 s2 fun X3 h3 o3 s3 => ?_)
    rw [wrap64 (by omega) (by omega)]
    have hV : nrV (P ++ e :: Q) = nrV (P ++ (⟨e.q, e.cap, sortN e.l, X3⟩ : Nr) :: Q) := by rw [nrV_mid, nrV_mid]; simp [sortN_len]
    rw [hV] at s3
    obtain ⟨x, hx⟩ := get_lt (l := N) (i := i) (by omega)
    have hnl : nrL (P ++ e :: Q) = nrL P ++ e.l :: nrL Q := by simp [nrL]
    have lP : (nrL P).length = i := by simp [nrL, hP]
    have hdr : N.drop i = x :: N.drop (i + 1) := drop_cons hx
    rw [hnl, hdr] at hNE
    have lT : ((N.take i).map sortN).length = i := by simp; omega
    obtain ⟨e1, e2⟩ := List.append_inj hNE (by rw [lP, lT])
    obtain ⟨e3, e4⟩ := List.cons.inj e2
    refine newnet_l1 hn hN hk d (i + 1) h3 (P ++ (⟨e.q, e.cap, sortN e.l, X3⟩ : Nr) :: Q) (by omega) (by simpa using hE) (fun y hy => ?_) ?_ ((St.re s3 (by intro a; simp only [cntR_append, cntR_cons, cntR_nil, List.cons_append, List.nil_append, List.set_cons_zero, List.set_cons_succ, nrR_mid]; omega)))
    · rcases List.mem_append.1 hy with hy | hy
      · exact ok y (by simp [hy])
      · rcases List.mem_cons.1 hy with rfl | hy
        · exact ⟨o3, by simp only [sortN_len]; exact hok.2⟩
        · exact ok y (by simp [hy])
    · have : nrL (P ++ (⟨e.q, e.cap, sortN e.l, X3⟩ : Nr) :: Q) = nrL P ++ sortN e.l :: nrL Q := by simp [nrL]
      rw [this, e1, e3, e4, take_snoc hx]; simp
theorem New_of {h : Heap} {R : Rws} {nI : Int} {cl k : Nat} {q : Option Addr} {l : List Ed} {K : Option Addr → Int → Int → Heap → Prop} (hl : l.length = k) (hk40 : k < 2 ^ 40) (kl : Keeps h0 R q (eV l)) (s : St h0 h R)
    (hk0 : (newE nI l).1 ≠ 0 → ∀ h', St h0 h' R → K none (newE nI l).1 (newE nI l).2 h')
    (hk : (newE nI l).1 = 0 → ∀ (n g : Nat) (X : Rws) h', nI = n → NetK h0 X g n (netL l) (nearL n (netL l)) → St h0 h' (X ++ R) → K (some ⟨g, 0, none⟩) 0 0 h') : net_New nI q k cl h K := by
  unfold net_New
  intro j
  have J : 0 ≤ nI → nI ≤ 4096 → k ≤ 1048576 → j := fun b1 b2 b3 => by
    simp -zeta only [j]
    clear j
    have eN : newE nI l = chksE nI 0 l := by unfold newE; rw [if_neg (by omega), if_neg (by omega)]
    refine callP2.self (Checks_of hl hk40 kl s fun h1 s1 => ?_)
    rw [← eN]
    refine iteB_intro (fun c => hk0 (by simpa using c) h1 s1) fun c => ?_
    have c : (newE nI l).1 = 0 := by simpa using c
    have hk := hk c
    obtain ⟨_, _, _, ck⟩ := newE_ok c
    clear hk0 c eN
    obtain ⟨n, rfl⟩ : ∃ n : Nat, nI = n := ⟨nI.toNat, by omega⟩
    obtain ⟨P, S, m1, m2, m3, m4, G⟩ := gr (n := n) ck (by omega)
    have eL : netL l = S.filter nz := by unfold netL; rw [m2]; rfl
    refine callP4.self (Merge_of hl (by omega) ck.fit kl s1 (fun no => by rw [m1] at no; cases no) fun P' hP h2 qm cm X o2 s2 => ?_)
    rw [m1] at hP
    obtain rfl := Option.some.inj hP
    rw [m3] at o2
    rw [m4]
    rw [eL] at hk
    generalize S.filter nz = L at *
    have hLl := G.len
    have fin : ∀ (nr dg g : Nat) h3, St h0 h3 ((g, [.slice (some ⟨nr, 0, none⟩) n n, .slice (some ⟨dg, 0, none⟩) n n, .slice qm L.length cm, .int .i64 0]) :: (nr, nrV (List.replicate n ⟨none, 0, [], []⟩)) :: (dg, ints n fun _ => 0) :: (X ++ R)) →
        ∃ m29, net_New.l0 (fun h28 => ∃ m31, net_New.l1 (fun h30 => K (some ⟨g, 0, none⟩) 0 0 h30) m31 ⟨g, 0, none⟩ (n : Int) 0 h28) m29 (n : Int) ⟨g, 0, none⟩ qm L.length cm (L.length : Int) 0 h3 := fun nr dg g h3 s3 => by
      refine ⟨L.length + 1, newnet_l0 (Z := X ++ R) (by omega) rfl (by omega) G.range (o2.keeps fun x hx => by simp [hx]) (fun h4 E4 F4 t4 l4 ok4 n4 s4 => ?_) L.length 0 h3 (List.replicate n ⟨none, 0, [], []⟩) (fun _ => 0) 0 (by omega) (by simp) (fun e he => ?_) ?_ (by rw [nrR_rep]; exact s3)⟩
      · have lN : (L.foldl lnkE (List.replicate n [])).length = n := by rw [← n4]; simp [nrL, l4]
        refine ⟨n + 1, newnet_l1 (nr := nr) (c1 := .slice (some ⟨dg, 0, none⟩) n n) (c2 := .slice qm L.length cm) (c3 := .int .i64 t4) (A := (dg, ints n F4) :: (X ++ R)) (by omega) lN (fun h5 E5 l5 ok5 n5 s5 => ?_) n 0 h4 E4 (by omega) l4 ok4 (by rw [n4]; rfl) ((St.re s4 (by intro a; simp only [cntR_append, cntR_cons, cntR_nil, List.cons_append, List.nil_append, List.set_cons_zero, List.set_cons_succ]; omega)))⟩
        refine hk n g ((g, [.slice (some ⟨nr, 0, none⟩) n n, .slice (some ⟨dg, 0, none⟩) n n, .slice qm L.length cm, .int .i64 t4]) :: (nr, nrV E5) :: (nrR E5 ++ ((dg, ints n F4) :: X))) h5 rfl ⟨G, by omega, nr, dg, cm, qm, t4, E5, Keeps.row (by simp), o2.keeps fun x hx => by simp [hx], Keeps.row (by simp), n5, l5, fun e he => ?_⟩ ((St.re s5 (by intro a; simp only [cntR_append, cntR_cons, cntR_nil, List.cons_append, List.nil_append, List.set_cons_zero, List.set_cons_succ]; omega)))
        exact (ok5 e he).1.keeps fun x hx => by
          have : x ∈ nrR E5 := List.mem_flatMap.2 ⟨e, he, hx⟩
          simp [this]
      · obtain ⟨_, rfl⟩ := List.mem_replicate.1 he
        exact ⟨by simpa [natV] using Hp.Own.nil, by simp⟩
      · simp [nrL]
    simp -zeta only [Int.toNat_natCast, zr_nr, ints_zero]
    refine ⟨⟨⟨by omega, by omega, by omega, by omega⟩, s2.new_ fun nr h3 s3 => ⟨⟨by omega, by omega, by omega, by omega⟩, s3.new_ fun dg h4 s4 => s4.new_ fun g h5 s5 => fin nr dg g h5 ((St.re s5 (by intro a; simp only [cntR_append, cntR_cons, cntR_nil, List.cons_append, List.nil_append, List.set_cons_zero, List.set_cons_succ]; omega)))⟩⟩, ⟨by omega, by omega, by omega, by omega⟩, s2.new_ fun dg h3 s3 => ⟨⟨by omega, by omega, by omega, by omega⟩, s3.new_ fun nr h4 s4 => s4.new_ fun g h5 s5 => fin nr dg g h5 ((St.re s5 (by intro a; simp only [cntR_append, cntR_cons, cntR_nil, List.cons_append, List.nil_append, List.set_cons_zero, List.set_cons_succ]; omega)))⟩⟩
  clear_value j
  refine iteB_intro (fun c => ?_) fun c => iteB_intro (fun c2 => iteB_intro (fun c3 => ?_) fun c3 => ?_) fun c2 => iteB_intro (fun c3 => ?_) fun c3 => ?_
  · have c := of_decide_eq_true c
    have e : newE nI l = (1, 0) := by unfold newE; rw [if_pos c]
    have := hk0 (by rw [e]; decide) h s
    rw [e] at this; exact this
  · have c := of_decide_eq_false c
    have c3 := of_decide_eq_true c3
    have e : newE nI l = (3, 0) := by unfold newE; rw [if_neg c, if_pos (.inl c3)]
    have := hk0 (by rw [e]; decide) h s
    rw [e] at this; exact this
  · rw [c2] at c3; cases c3
  · have c := of_decide_eq_false c
    have c3 := of_decide_eq_true c3
    have e : newE nI l = (3, 0) := by unfold newE; rw [if_neg c, if_pos (.inr (by omega))]
    have := hk0 (by rw [e]; decide) h s
    rw [e] at this; exact this
  · have c := of_decide_eq_false c
    have c2 := of_decide_eq_false c2
    have c3 := of_decide_eq_false c3
    exact J (by omega) (by omega) (by omega)
end
end Go.Proofs.YtbhndlpjfncliaaGreat
