/-
  Bridges: a graph without one of its edges has one class more just if that is found: the plain law.
-/
import Derived.Test.YtbhndlpjfncliaaGreatM9
namespace Go.Proofs.YtbhndlpjfncliaaGreat
set_option linter.unusedVariables false
set_option linter.unusedSimpArgs false
set_option linter.unnecessarySimpa false
open Go.Hp Go.RowKit

theorem names_eq {n : Nat} {A B : Nat → Nat} (ha : Names n A) (hb : Names n B) (h1 : ∀ x y, x < n → y < n → A x = A y → B x = B y) (h2 : ∀ x y, x < n → y < n → B x = B y → A x = A y) {v : Nat} (hv : v < n) : A v = B v := by
  have e1 : B (A v) = B v := h1 _ _ (ha.lt hv) hv (ha.idem v hv)
  have e2 : A (B v) = A v := h2 _ _ (hb.lt hv) hv (hb.idem v hv)
  have l1 := hb.le (A v) (ha.lt hv)
  have l2 := ha.le (B v) (hb.lt hv)
  omega
theorem headF_eq {n : Nat} {A B : Nat → Nat} (h : ∀ v, v < n → A v = B v) : headF A n = headF B n := by
  unfold headF
  exact List.filter_congr fun v hv => by rw [h v (List.mem_range.1 hv)]
/-- Two classes joined are one less. -/
theorem headF_join {n : Nat} {C : Nat → Nat} (hn : n ≤ 4096) (na : Names n C) {a b : Nat} (ha : a < n) (hb : b < n) (hc : C a ≠ C b) : (headF (joinC C n (a : Int) (b : Int)) n).length + 1 = (headF C n).length := by
  have iv : DInv ⟨n, C, fun v => (clsF C n (C v)).length, C, (headF C n).length⟩ C :=
    { n := hn, names := na, up := fun v hv => ⟨na.lt hv, na.idem v hv⟩, rank := ⟨fun v => if C v = v then 0 else 1, fun v hv hne => by
        have hne : C v ≠ v := hne
        show (if C (C v) = C v then 0 else 1) < (if C v = v then 0 else 1)
        rw [if_pos (na.idem v hv), if_neg hne]; omega⟩,
      root := fun v hv hr => ⟨rfl, rfl⟩, uniq := fun u v _ _ hu hv e => by
        have hu : C u = u := hu
        have hv : C v = v := hv
        rw [← hu, ← hv]; exact e, cnt := rfl }
  have ia := na.idem a ha
  have ib := na.idem b hb
  have l := (iv.link (a := C a) (b := C b) (na.lt ha) (na.lt hb) ia ib hc).cnt
  have l : (headF C n).length - 1 = (headF (fun x => joinF (C (C a)) (C (C b)) (C x)) n).length := l
  have e : joinC C n (a : Int) (b : Int) = fun x => joinF (C (C a)) (C (C b)) (C x) := by
    funext x; unfold joinC; rw [if_pos ⟨by omega, by omega⟩, Int.toNat_natCast, Int.toNat_natCast, ia, ib]
  rw [e, ← l]
  have : 0 < (headF C n).length := List.length_pos_of_mem (a := C a) (by unfold headF; rw [List.mem_filter, List.mem_range]; exact ⟨na.lt ha, by simpa using ia⟩)
  omega
/-! ### Who is near -/
theorem near_nb {n : Nat} {L : List Ed} (G : Gr n L) {w u : Nat} : u ∈ nb (nearL n L) w ↔ ∃ e ∈ L, adj e w u := by
  have hlen : (nearL n L).length = n := by
    unfold nearL
    rw [List.length_map]
    have : ∀ (L : List Ed) (N : List (List Nat)), (L.foldl lnkE N).length = N.length := fun L => by
      induction L with
      | nil => intro N; rfl
      | cons e L ih => intro N; rw [List.foldl_cons, ih]; unfold lnkE; rw [lnk1_len, lnk1_len]
    rw [this]; simp
  by_cases hw : w < n
  · obtain ⟨l, hl, _, hm⟩ := near_row G hw
    have : nb (nearL n L) w = l := by unfold nb; rw [List.getD_eq_getElem?_getD, hl]; rfl
    rw [this]; exact hm u
  · have : nb (nearL n L) w = [] := by unfold nb; rw [List.getD_eq_getElem?_getD, List.getElem?_eq_none (by omega)]; rfl
    rw [this]
    constructor
    · intro h; cases h
    · rintro ⟨e, he, h⟩
      have r := G.range e he
      rcases h with ⟨a, b⟩ | ⟨a, b⟩ <;> omega
theorem adj_sym {e : Ed} {v u : Nat} (h : adj e v u) : adj e u v := by
  rcases h with ⟨a, b⟩ | ⟨a, b⟩
  · exact .inr ⟨b, a⟩
  · exact .inl ⟨b, a⟩
theorem near_sym {n : Nat} {L : List Ed} (G : Gr n L) : ∀ u w, u ∈ nb (nearL n L) w → w ∈ nb (nearL n L) u := fun u w h => by
  obtain ⟨e, he, h⟩ := (near_nb G).1 h
  exact (near_nb G).2 ⟨e, he, adj_sym h⟩
theorem near_lt {n : Nat} {L : List Ed} (G : Gr n L) : ∀ w, ∀ u ∈ nb (nearL n L) w, u < n := fun w u h => by
  obtain ⟨e, he, h⟩ := (near_nb G).1 h
  have r := G.range e he
  rcases h with ⟨a, b⟩ | ⟨a, b⟩ <;> omega
theorem nb_lnk1 (N : List (List Nat)) (a b v : Nat) : (nb (lnk1 N a b) v).length ≤ (nb N v).length + 1 := by
  unfold nb lnk1
  rw [List.getD_eq_getElem?_getD, List.getD_eq_getElem?_getD, List.getElem?_set]
  by_cases e : a = v
  · subst e
    rw [if_pos rfl]
    by_cases h : a < N.length
    · rw [if_pos h, List.getD_eq_getElem?_getD]
      simp
    · rw [if_neg h]; simp
  · rw [if_neg e, ← List.getD_eq_getElem?_getD]; omega
theorem near_deg {n : Nat} (L : List Ed) (v : Nat) : (nb (nearL n L) v).length ≤ 2 * L.length := by
  have h : ∀ (L : List Ed) (N : List (List Nat)), (nb (L.foldl lnkE N) v).length ≤ (nb N v).length + 2 * L.length := fun L => by
    induction L with
    | nil => intro N; simp
    | cons e L ih =>
      intro N
      rw [List.foldl_cons]
      have h1 := ih (lnkE N e)
      have h2 := nb_lnk1 (lnk1 N e.1.toNat e.2.1.toNat) e.2.1.toNat e.1.toNat v
      have h3 := nb_lnk1 N e.1.toNat e.2.1.toNat v
      have h4 : lnkE N e = lnk1 (lnk1 N e.1.toNat e.2.1.toNat) e.2.1.toNat e.1.toNat := rfl
      rw [← h4] at h2
      rw [List.length_cons]; omega
  have h1 := h L (List.replicate n [])
  have h2 : nb (List.replicate n ([] : List Nat)) v = [] := by
    unfold nb
    rw [List.getD_eq_getElem?_getD, List.getElem?_replicate]
    split <;> rfl
  rw [h2] at h1
  have h3 : nb (nearL n L) v = sortN (nb (L.foldl lnkE (List.replicate n [])) v) := by
    unfold nb nearL
    rw [List.getD_eq_getElem?_getD, List.getD_eq_getElem?_getD, List.getElem?_map]
    cases (L.foldl lnkE (List.replicate n []))[v]? with
    | none => exact (List.length_eq_zero_iff.1 (by rw [sortN_len]; rfl)).symm
    | some l => rfl
  rw [h3, sortN_len]; simpa using h1
theorem sumB_bound {f : Nat → Nat} {k : Nat} (h : ∀ i, f i ≤ k) : ∀ n, sumB f n ≤ n * k
  | 0 => by simp [sumB]
  | n + 1 => by
    have := sumB_bound h n
    have := h n
    unfold sumB
    rw [Nat.add_mul, Nat.one_mul]; omega
/-! ### Without one -/
/-- All edges but one. -/
def woL (L : List Ed) (i : Nat) : List Ed := L.take i ++ L.drop (i + 1)
section
variable {n : Nat} {L : List Ed} {i : Nat} {e : Ed}
theorem wo_mem (he : L[i]? = some e) {x : Ed} (hx : x ∈ L) (hne : x ≠ e) : x ∈ woL L i := by
  have h : L = L.take i ++ e :: L.drop (i + 1) := by rw [← drop_cons he, List.take_append_drop]
  rw [h] at hx
  unfold woL
  rcases List.mem_append.1 hx with hx | hx
  · exact List.mem_append.2 (.inl hx)
  · rcases List.mem_cons.1 hx with rfl | hx
    · exact absurd rfl hne
    · exact List.mem_append.2 (.inr hx)
theorem wo_sub {x : Ed} (hx : x ∈ woL L i) : x ∈ L := by
  rcases List.mem_append.1 hx with hx | hx
  · exact List.mem_of_mem_take hx
  · exact List.mem_of_mem_drop hx
theorem wo_ne (up : Up L) (he : L[i]? = some e) {x : Ed} (hx : x ∈ woL L i) : ¬ (x.1 = e.1 ∧ x.2.1 = e.2.1) := by
  have h : L = L.take i ++ e :: L.drop (i + 1) := by rw [← drop_cons he, List.take_append_drop]
  have up : Up (L.take i ++ e :: L.drop (i + 1)) := by rw [← h]; exact up
  obtain ⟨_, u2, u3⟩ := List.pairwise_append.1 up
  rcases List.mem_append.1 hx with hx | hx
  · have := u3 x hx e (by simp)
    unfold ltK at this; omega
  · have := (List.pairwise_cons.1 u2).1 x hx
    unfold ltK at this; omega
/-- Classes by all edges, and by all but one. -/
theorem cls_without (hn : n ≤ 4096) (G : Gr n L) (he : L[i]? = some e) {F : List (Nat × Nat)} (h1 : ∀ q ∈ F, Brg (nearL n L) q.1 q.2) (h2 : ∀ x y C, x < n → y ∈ nb (nearL n L) x → GoodC (nearL n L) x y C → GdB F x y C) :
    (headF (joinsL n 0 (fun v => v) (woL L i)) n).length = (headF (joinsL n 0 (fun v => v) L) n).length + (if inF F e = true then 1 else 0) := by
  have hm := List.mem_of_getElem? he
  have r := G.range e hm
  obtain ⟨x, hx⟩ : ∃ a : Nat, e.1 = a := ⟨e.1.toNat, by omega⟩
  obtain ⟨y, hy⟩ : ∃ a : Nat, e.2.1 = a := ⟨e.2.1.toNat, by omega⟩
  have hxn : x < n := by omega
  have hyn : y < n := by omega
  have na : Names n (joinsL n 0 (fun v => v) L) := joinsL_names (Names.id n)
  have nb' : Names n (joinsL n 0 (fun v => v) (woL L i)) := joinsL_names (Names.id n)
  generalize hC : joinsL n 0 (fun v => v) L = C at *
  generalize hD : joinsL n 0 (fun v => v) (woL L i) = D at *
  have eC : ∀ z ∈ L, C z.1.toNat = C z.2.1.toNat := fun z hz => by
    have r := G.range z hz
    rw [← hC]; exact joinsL_edge z hz (by omega) (by omega) (by omega)
  have eD : ∀ z ∈ woL L i, D z.1.toNat = D z.2.1.toNat := fun z hz => by
    have r := G.range z (wo_sub hz)
    rw [← hD]; exact joinsL_edge z hz (by omega) (by omega) (by omega)
  have cC : ∀ S : Nat → Prop, (∀ z ∈ L, S z.1.toNat ↔ S z.2.1.toNat) → ∀ a b, C a = C b → (S a ↔ S b) := fun S hS a b hab => by
    rw [← hC] at hab
    exact joinsL_closed (fun z hz _ => hS z hz) (fun a b e => by rw [show a = b from e]) a b hab
  have cD : ∀ S : Nat → Prop, (∀ z ∈ woL L i, S z.1.toNat ↔ S z.2.1.toNat) → ∀ a b, D a = D b → (S a ↔ S b) := fun S hS a b hab => by
    rw [← hD] at hab
    exact joinsL_closed (fun z hz _ => hS z hz) (fun a b e => by rw [show a = b from e]) a b hab
  have DC : ∀ a b, D a = D b → C a = C b := fun a b h => ((cD (fun z => C z = C b) (fun z hz => by rw [eC z (wo_sub hz)]) a b h).2 rfl)
  have exn : e.1.toNat = x := by omega
  have eyn : e.2.1.toNat = y := by omega
  have hCe : C x = C y := by have := eC e hm; rw [exn, eyn] at this; exact this
  have inE : inF F e = true ↔ ((x, y) ∈ F ∨ (y, x) ∈ F) := by unfold inF; rw [exn, eyn]; simp
  have brg : ∀ p v, ((p = x ∧ v = y) ∨ (p = y ∧ v = x)) → (p, v) ∈ F → D p ≠ D v := fun p v hpv hF hD2 => by
    obtain ⟨S, s1, s2, s3⟩ := h1 _ hF
    simp only at s1 s2 s3
    have key : ∀ a b, b ∈ nb (nearL n L) a → ¬ (a = x ∧ b = y) → ¬ (a = y ∧ b = x) → S a → S b := fun a b hab n1 n2 sa => by
      apply Classical.byContradiction
      intro nsb
      have := s3 a b hab sa nsb
      omega
    refine s2 ((cD S (fun z hz => ?_) p v hD2).2 s1)
    have rz := G.range z (wo_sub hz)
    have nz := wo_ne G.canon.1 he hz
    have a1 : z.2.1.toNat ∈ nb (nearL n L) z.1.toNat := (near_nb G).2 ⟨z, wo_sub hz, .inl ⟨by omega, by omega⟩⟩
    exact ⟨key _ _ a1 (by omega) (by omega), key _ _ (near_sym G _ _ a1) (by omega) (by omega)⟩
  by_cases c : inF F e = true
  · rw [if_pos c]
    have hne : D x ≠ D y := by
      rcases inE.1 c with h | h
      · exact brg x y (.inl ⟨rfl, rfl⟩) h
      · exact fun h' => brg y x (.inr ⟨rfl, rfl⟩) h h'.symm
    have hj := headF_join hn nb' hxn hyn hne
    rw [← hj]
    congr 2
    refine headF_eq fun v hv => ?_
    refine names_eq (joinC_names nb' _ _) na (fun a b ha hb h => ?_) (fun a b ha hb h => ?_) hv
    · have bd : ((0 : Int) ≤ (x : Int) ∧ (x : Int) < n) ∧ ((0 : Int) ≤ (y : Int) ∧ (y : Int) < n) := by omega
      unfold joinC at h
      rw [if_pos bd, if_pos bd, Int.toNat_natCast, Int.toNat_natCast] at h
      by_cases ca : D a = D x ∨ D a = D y <;> by_cases cb : D b = D x ∨ D b = D y
      · have h3 : C a = C x := by
          rcases ca with k | k
          · exact DC _ _ k
          · rw [hCe]; exact DC _ _ k
        have h4 : C b = C x := by
          rcases cb with k | k
          · exact DC _ _ k
          · rw [hCe]; exact DC _ _ k
        rw [h3, h4]
      · rw [joinF_in ca, joinF_out cb] at h
        exact absurd (by rw [← h]; exact min_or _ _) cb
      · rw [joinF_out ca, joinF_in cb] at h
        exact absurd (by rw [h]; exact min_or _ _) ca
      · rw [joinF_out ca, joinF_out cb] at h
        exact DC _ _ h
    · refine (cC (fun z => joinC D n (x : Int) (y : Int) z = joinC D n (x : Int) (y : Int) b) (fun z hz => ?_) a b h).2 rfl
      by_cases ez : z = e
      · subst ez
        have := joinC_self (C := D) (n := n) (u := (x : Int)) (v := (y : Int)) (by omega) (by omega)
        rw [Int.toNat_natCast, Int.toNat_natCast] at this
        rw [exn, eyn, this]
      · rw [joinC_eq (eD z (wo_mem he hz ez))]
  · rw [if_neg c, Nat.add_zero]
    have hDe : D x = D y := by
      have hxy : y ∈ nb (nearL n L) x := (near_nb G).2 ⟨e, hm, .inl ⟨hx, hy⟩⟩
      have hg : GoodC (nearL n L) x y D := fun w u hwu n1 n2 => by
        obtain ⟨z, hz, ha⟩ := (near_nb G).1 hwu
        have ez : z ≠ e := by
          rintro rfl
          rcases ha with ⟨a, b⟩ | ⟨a, b⟩
          · exact n1 ⟨by omega, by omega⟩
          · exact n2 ⟨by omega, by omega⟩
        have := eD z (wo_mem he hz ez)
        rcases ha with ⟨a, b⟩ | ⟨a, b⟩
        · rw [a, b, Int.toNat_natCast, Int.toNat_natCast] at this; exact this
        · rw [a, b, Int.toNat_natCast, Int.toNat_natCast] at this; exact this.symm
      rcases h2 x y D hxn hxy hg with h | h | h
      · exact h
      · exact absurd (inE.2 (.inl h)) c
      · exact absurd (inE.2 (.inr h)) c
    rw [headF_eq fun v hv => ?_]
    refine names_eq nb' na (fun a b _ _ h => DC a b h) (fun a b _ _ h => ?_) hv
    refine (cC (fun z => D z = D b) (fun z hz => ?_) a b h).2 rfl
    by_cases ez : z = e
    · subst ez; rw [exn, eyn, hDe]
    · rw [eD z (wo_mem he hz ez)]
end
end Go.Proofs.YtbhndlpjfncliaaGreat
