/-
  Classes of a graph, the plain laws: what joined edges do, who is near, and what is met by going from one to who is near.
-/
import Derived.Test.YtbhndlpjfncliaaGreatM1
namespace Go.Proofs.YtbhndlpjfncliaaGreat
set_option linter.unusedVariables false
set_option linter.unusedSimpArgs false
set_option linter.unnecessarySimpa false
open Go.Hp Go.RowKit

/-! ### Joined edges -/
theorem joinsL_names {n : Nat} {least : Int} : ∀ {L : List Ed} {C : Nat → Nat}, Names n C → Names n (joinsL n least C L)
  | [], C, h => h
  | e :: L, C, h => by
    show Names n (joinsL n least (if e.2.2 ≥ least then joinC C n e.1 e.2.1 else C) L)
    refine joinsL_names ?_
    split
    · exact joinC_names h _ _
    · exact h
theorem joinC_eq {n : Nat} {C : Nat → Nat} {u v : Int} {a b : Nat} (h : C a = C b) : joinC C n u v a = joinC C n u v b := by unfold joinC; rw [h]
theorem joinC_self {n : Nat} {C : Nat → Nat} {u v : Int} (hu : 0 ≤ u ∧ u < n) (hv : 0 ≤ v ∧ v < n) : joinC C n u v u.toNat = joinC C n u v v.toNat := by
  unfold joinC
  rw [if_pos ⟨hu, hv⟩, if_pos ⟨hu, hv⟩, joinF_in (.inl rfl), joinF_in (.inr rfl)]
theorem joinsL_eq {n : Nat} {least : Int} {a b : Nat} : ∀ {L : List Ed} {C : Nat → Nat}, C a = C b → joinsL n least C L a = joinsL n least C L b
  | [], C, h => h
  | e :: L, C, h => by
    show joinsL n least (if e.2.2 ≥ least then joinC C n e.1 e.2.1 else C) L a = joinsL n least (if e.2.2 ≥ least then joinC C n e.1 e.2.1 else C) L b
    refine joinsL_eq ?_
    split
    · exact joinC_eq h
    · exact h
theorem joinsL_edge {n : Nat} {least : Int} : ∀ {L : List Ed} {C : Nat → Nat}, ∀ e ∈ L, 0 ≤ e.1 ∧ e.1 < n → 0 ≤ e.2.1 ∧ e.2.1 < n → least ≤ e.2.2 → joinsL n least C L e.1.toNat = joinsL n least C L e.2.1.toNat
  | x :: L, C, e, he, hu, hv, hw => by
    show joinsL n least (if x.2.2 ≥ least then joinC C n x.1 x.2.1 else C) L _ = joinsL n least (if x.2.2 ≥ least then joinC C n x.1 x.2.1 else C) L _
    rcases List.mem_cons.1 he with rfl | he
    · rw [if_pos (show e.2.2 ≥ least from hw)]
      exact joinsL_eq (joinC_self hu hv)
    · exact joinsL_edge e he hu hv hw
theorem joinsL_closed {n : Nat} {least : Int} {S : Nat → Prop} : ∀ {L : List Ed} {C : Nat → Nat}, (∀ e ∈ L, least ≤ e.2.2 → (S e.1.toNat ↔ S e.2.1.toNat)) → (∀ x y, C x = C y → (S x ↔ S y)) → ∀ x y, joinsL n least C L x = joinsL n least C L y → (S x ↔ S y)
  | [], C, _, h => h
  | e :: L, C, hL, h => by
    show ∀ x y, joinsL n least (if e.2.2 ≥ least then joinC C n e.1 e.2.1 else C) L x = joinsL n least (if e.2.2 ≥ least then joinC C n e.1 e.2.1 else C) L y → (S x ↔ S y)
    refine joinsL_closed (fun e' he' => hL e' (by simp [he'])) ?_
    split
    · rename_i hw
      have hS := hL e (by simp) hw
      intro x y hxy
      unfold joinC at hxy
      split at hxy
      · by_cases cx : C x = C e.1.toNat ∨ C x = C e.2.1.toNat
        · have sx : S x ↔ S e.1.toNat := by
            rcases cx with c | c
            · exact h _ _ c
            · exact (h _ _ c).trans hS.symm
          by_cases cy : C y = C e.1.toNat ∨ C y = C e.2.1.toNat
          · have sy : S y ↔ S e.1.toNat := by
              rcases cy with c | c
              · exact h _ _ c
              · exact (h _ _ c).trans hS.symm
            exact sx.trans sy.symm
          · rw [joinF_in cx, joinF_out cy] at hxy
            exact absurd (by rw [← hxy]; exact min_or _ _) cy
        · by_cases cy : C y = C e.1.toNat ∨ C y = C e.2.1.toNat
          · rw [joinF_out cx, joinF_in cy] at hxy
            exact absurd (by rw [hxy]; exact min_or _ _) cx
          · rw [joinF_out cx, joinF_out cy] at hxy
            exact h _ _ hxy
      · exact h _ _ hxy
    · exact h
/-! ### Who is near -/
def adj (e : Ed) (v u : Nat) : Prop := (e.1 = v ∧ e.2.1 = u) ∨ (e.2.1 = v ∧ e.1 = u)
theorem lnk1_len (N : List (List Nat)) (a b : Nat) : (lnk1 N a b).length = N.length := by simp [lnk1]
theorem lnk1_get {N : List (List Nat)} {a b v : Nat} {l la : List Nat} (hl : N[v]? = some l) (ha : N[a]? = some la) : (lnk1 N a b)[v]? = some (if v = a then la ++ [b] else l) := by
  unfold lnk1
  have hv := lt_get hl
  by_cases c : v = a
  · subst c
    rw [if_pos rfl, List.getElem?_set_self hv, List.getD_eq_getElem?_getD, ha]; rfl
  · rw [if_neg c, List.getElem?_set_ne (fun e => c e.symm), hl]
structure NearI (n : Nat) (A : List Ed) (N : List (List Nat)) : Prop where
  len : N.length = n
  row : ∀ v, v < n → ∃ l, N[v]? = some l ∧ l.length ≤ 2 * A.length ∧ ∀ u, u ∈ l ↔ ∃ e ∈ A, adj e v u
theorem NearI.step {n : Nat} {A : List Ed} {N : List (List Nat)} {e : Ed} (I : NearI n A N) (h0 : 0 ≤ e.1) (h1 : e.1 < e.2.1) (h2 : e.2.1 < n) : NearI n (A ++ [e]) (lnkE N e) := by
  obtain ⟨u, v, w⟩ := e
  simp only at h0 h1 h2
  obtain ⟨a, rfl⟩ : ∃ a : Nat, u = a := ⟨u.toNat, by omega⟩
  obtain ⟨b, rfl⟩ : ∃ a : Nat, v = a := ⟨v.toNat, by omega⟩
  refine ⟨by unfold lnkE; rw [lnk1_len, lnk1_len]; exact I.len, fun x hx => ?_⟩
  unfold lnkE
  simp only [Int.toNat_natCast]
  obtain ⟨l, hl, hll, hm⟩ := I.row x hx
  obtain ⟨la, hla, hlla, hma⟩ := I.row a (by omega)
  obtain ⟨lb, hlb, hllb, hmb⟩ := I.row b (by omega)
  have e1 := lnk1_get (b := b) hl hla
  have e2 := lnk1_get (b := b) hlb hla
  rw [if_neg (show ¬ b = a by omega)] at e2
  have e3 := lnk1_get (b := a) e1 e2
  refine ⟨_, e3, ?_, fun y => ?_⟩
  · rw [List.length_append, List.length_singleton]
    split
    · rw [List.length_append, List.length_singleton]; omega
    · split
      · rw [List.length_append, List.length_singleton]; omega
      · omega
  · have ex : (∃ e ∈ A ++ [((a : Int), (b : Int), w)], adj e x y) ↔ (∃ e ∈ A, adj e x y) ∨ (x = a ∧ y = b) ∨ (x = b ∧ y = a) := by
      constructor
      · rintro ⟨e, he, h⟩
        rcases List.mem_append.1 he with he | he
        · exact .inl ⟨e, he, h⟩
        · obtain rfl := List.mem_singleton.1 he
          rcases h with ⟨h1, h2⟩ | ⟨h1, h2⟩
          · simp only at h1 h2; right; left; omega
          · simp only at h1 h2; right; right; omega
      · rintro (⟨e, he, h⟩ | h | h)
        · exact ⟨e, by simp [he], h⟩
        · exact ⟨((a : Int), (b : Int), w), by simp, .inl ⟨by simp only; omega, by simp only; omega⟩⟩
        · exact ⟨((a : Int), (b : Int), w), by simp, .inr ⟨by simp only; omega, by simp only; omega⟩⟩
    rw [ex]
    by_cases c1 : x = b
    · subst c1
      obtain rfl : lb = l := by rw [hlb] at hl; exact Option.some.inj hl
      rw [if_pos rfl, List.mem_append, List.mem_singleton, hmb]
      constructor
      · rintro (h | h)
        · exact .inl h
        · exact .inr (.inr ⟨rfl, h⟩)
      · rintro (h | h | h)
        · exact .inl h
        · omega
        · exact .inr h.2
    · rw [if_neg c1]
      by_cases c2 : x = a
      · subst c2
        obtain rfl : la = l := by rw [hla] at hl; exact Option.some.inj hl
        rw [if_pos rfl, List.mem_append, List.mem_singleton, hma]
        constructor
        · rintro (h | h)
          · exact .inl h
          · exact .inr (.inl ⟨rfl, h⟩)
        · rintro (h | h | h)
          · exact .inl h
          · exact .inr h.2
          · omega
      · rw [if_neg c2, hm]
        constructor
        · exact .inl
        · rintro (h | h | h)
          · exact h
          · omega
          · omega
theorem NearI.all {n : Nat} : ∀ {L A : List Ed} {N : List (List Nat)}, NearI n A N → (∀ e ∈ L, 0 ≤ e.1 ∧ e.1 < e.2.1 ∧ e.2.1 < n) → NearI n (A ++ L) (L.foldl lnkE N)
  | [], A, N, I, _ => by rw [List.append_nil]; exact I
  | e :: L, A, N, I, h => by
    have h1 := h e (by simp)
    have := NearI.all (I.step h1.1 h1.2.1 h1.2.2) (L := L) fun x hx => h x (by simp [hx])
    rw [List.append_assoc] at this
    exact this
theorem sortN_mem {l : List Nat} {u : Nat} : u ∈ sortN l ↔ u ∈ l := List.mem_mergeSort
theorem near_row {n : Nat} {L : List Ed} (G : Gr n L) {v : Nat} (hv : v < n) : ∃ l, (nearL n L)[v]? = some l ∧ l.length < 2 ^ 40 ∧ ∀ u, u ∈ l ↔ ∃ e ∈ L, adj e v u := by
  have I0 : NearI n [] (List.replicate n []) := ⟨by simp, fun x hx => ⟨[], by simp [hx], by simp, fun u => by simp⟩⟩
  have I := I0.all (L := L) fun e he => by have := G.range e he; omega
  obtain ⟨l, hl, hll, hm⟩ := I.row v hv
  rw [List.nil_append] at hll hm
  refine ⟨sortN l, ?_, ?_, fun u => sortN_mem.trans (hm u)⟩
  · unfold nearL; rw [List.getElem?_map, hl]; rfl
  · have := G.len; rw [sortN_len]; omega
/-! ### What is met -/
def visit (W l : List Nat) : List Nat := l.foldl (fun W u => if u ∈ W then W else W ++ [u]) W
theorem visit_cons (W : List Nat) (u : Nat) (l : List Nat) : visit W (u :: l) = visit (if u ∈ W then W else W ++ [u]) l := rfl
theorem visit_pre : ∀ (l W : List Nat), ∃ Z, visit W l = W ++ Z
  | [], W => ⟨[], by simp [visit]⟩
  | u :: l, W => by
    rw [visit_cons]
    obtain ⟨Z, hZ⟩ := visit_pre l (if u ∈ W then W else W ++ [u])
    split at hZ
    · rename_i c; rw [if_pos c]; exact ⟨Z, hZ⟩
    · rename_i c; rw [if_neg c]; exact ⟨[u] ++ Z, by rw [hZ, List.append_assoc]⟩
theorem visit_mem {x : Nat} : ∀ {l W : List Nat}, x ∈ visit W l ↔ x ∈ W ∨ x ∈ l
  | [], W => by simp [visit]
  | u :: l, W => by
    rw [visit_cons, visit_mem]
    by_cases c : u ∈ W
    · rw [if_pos c]
      constructor
      · rintro (h | h); exact .inl h; exact .inr (by simp [h])
      · rintro (h | h)
        · exact .inl h
        · rcases List.mem_cons.1 h with rfl | h
          · exact .inl c
          · exact .inr h
    · rw [if_neg c, List.mem_append, List.mem_singleton, List.mem_cons, or_assoc]
theorem visit_nodup : ∀ {l W : List Nat}, W.Nodup → (visit W l).Nodup
  | [], W, h => h
  | u :: l, W, h => by
    rw [visit_cons]
    refine visit_nodup ?_
    split
    · exact h
    · rename_i c
      exact List.nodup_append.2 ⟨h, by simp, fun a ha b hb e => c (by rw [List.mem_singleton] at hb; subst hb; subst e; exact ha)⟩
structure Met (n : Nat) (L : List Ed) (C : Nat → Nat) (v : Nat) (W : List Nat) (i : Nat) : Prop where
  nodup : W.Nodup
  lt : ∀ x ∈ W, x < n
  cls : ∀ x ∈ W, C x = C v
  me : v ∈ W
  done : ∀ j, j < i → ∀ x, W[j]? = some x → ∀ u, (∃ e ∈ L, adj e x u) → u ∈ W
theorem Met.start {n : Nat} {L : List Ed} {C : Nat → Nat} {v : Nat} (hv : v < n) : Met n L C v [v] 0 :=
  ⟨by simp, fun x hx => by obtain rfl := List.mem_singleton.1 hx; exact hv, fun x hx => by obtain rfl := List.mem_singleton.1 hx; rfl, by simp, fun j hj => by omega⟩
theorem Met.len {n : Nat} {L : List Ed} {C : Nat → Nat} {v i : Nat} {W : List Nat} (M : Met n L C v W i) : W.length ≤ n := by
  have p : W.Perm ((List.range n).filter fun x => decide (x ∈ W)) := (List.perm_ext_iff_of_nodup M.nodup (List.nodup_range.filter _)).2 fun x => by
    rw [List.mem_filter, List.mem_range, decide_eq_true_eq]
    exact ⟨fun h => ⟨M.lt x h, h⟩, fun h => h.2⟩
  rw [p.length_eq]
  have := List.length_filter_le (fun x => decide (x ∈ W)) (List.range n)
  simpa using this
theorem Met.step {n : Nat} {L : List Ed} {v i x : Nat} {W l : List Nat} (G : Gr n L) (M : Met n L (joinsL n 0 (fun v => v) L) v W i) (hx : W[i]? = some x) (hm : ∀ u, u ∈ l ↔ ∃ e ∈ L, adj e x u) : Met n L (joinsL n 0 (fun v => v) L) v (visit W l) (i + 1) := by
  have one : ∀ u ∈ l, u < n ∧ joinsL n 0 (fun v => v) L u = joinsL n 0 (fun v => v) L v := fun u hu => by
    obtain ⟨e, he, h⟩ := (hm u).1 hu
    have r := G.range e he
    have ee := joinsL_edge (n := n) (least := 0) (C := fun v => v) e he ⟨by omega, by omega⟩ ⟨by omega, by omega⟩ (by omega)
    have cx := M.cls x (List.mem_of_getElem? hx)
    rcases h with ⟨h1, h2⟩ | ⟨h1, h2⟩
    · rw [h1, h2, Int.toNat_natCast, Int.toNat_natCast] at ee
      exact ⟨by omega, ee.symm.trans cx⟩
    · rw [h1, h2, Int.toNat_natCast, Int.toNat_natCast] at ee
      exact ⟨by omega, ee.trans cx⟩
  refine ⟨visit_nodup M.nodup, fun y hy => ?_, fun y hy => ?_, visit_mem.2 (.inl M.me), fun j hj y hy u hu => ?_⟩
  · rcases visit_mem.1 hy with h | h
    · exact M.lt y h
    · exact (one y h).1
  · rcases visit_mem.1 hy with h | h
    · exact M.cls y h
    · exact (one y h).2
  · obtain ⟨Z, hZ⟩ := visit_pre l W
    have hi := lt_get hx
    rw [hZ, List.getElem?_append_left (by omega)] at hy
    by_cases c : j = i
    · subst c
      rw [hx] at hy
      obtain rfl := Option.some.inj hy
      exact visit_mem.2 (.inr ((hm u).2 hu))
    · exact visit_mem.2 (.inl (M.done j (by omega) y hy u hu))
theorem Met.all {n : Nat} {L : List Ed} {v : Nat} {W : List Nat} (G : Gr n L) (hv : v < n) (M : Met n L (joinsL n 0 (fun v => v) L) v W W.length) : sortN W = clsF (joinsL n 0 (fun v => v) L) n (joinsL n 0 (fun v => v) L v) := by
  have cl : ∀ x y, (∃ e ∈ L, adj e x y) → x ∈ W → y ∈ W := fun x y h hx => by
    obtain ⟨j, hj⟩ := List.mem_iff_getElem?.1 hx
    exact M.done j (lt_get hj) x hj y h
  have all := joinsL_closed (n := n) (least := 0) (S := fun x => x ∈ W) (L := L) (C := fun v => v) (fun e he _ => by
    have r := G.range e he
    have a1 : adj e e.1.toNat e.2.1.toNat := .inl ⟨by omega, by omega⟩
    have a2 : adj e e.2.1.toNat e.1.toNat := .inr ⟨by omega, by omega⟩
    exact ⟨cl _ _ ⟨e, he, a1⟩, cl _ _ ⟨e, he, a2⟩⟩) (fun x y h => by rw [h])
  have p : (sortN W).Perm (clsF (joinsL n 0 (fun v => v) L) n (joinsL n 0 (fun v => v) L v)) := by
    refine (List.mergeSort_perm ..).trans ?_
    refine (List.perm_ext_iff_of_nodup M.nodup (List.nodup_range.filter _)).2 fun x => ?_
    rw [List.mem_filter, List.mem_range, beq_iff_eq]
    exact ⟨fun h => ⟨M.lt x h, M.cls x h⟩, fun h => (all _ _ h.2).2 M.me⟩
  refine List.Perm.eq_of_pairwise (le := fun x y : Nat => x ≤ y) (fun x y _ _ h1 h2 => by omega) ?_ ?_ p
  · have := List.pairwise_mergeSort (le := fun x y : Nat => decide (x ≤ y)) (fun x y z h1 h2 => by simp only [decide_eq_true_eq] at *; omega) (fun x y => by simp only [Bool.or_eq_true, decide_eq_true_eq]; omega) W
    exact this.imp fun h => of_decide_eq_true h
  · exact (List.Pairwise.filter _ List.pairwise_lt_range).imp fun h => by omega
end Go.Proofs.YtbhndlpjfncliaaGreat
