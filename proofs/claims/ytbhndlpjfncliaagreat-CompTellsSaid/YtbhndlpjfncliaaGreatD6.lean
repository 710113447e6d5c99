/-
  The program's list of classes: what comes out of the map, sorted.
-/
import Derived.Test.YtbhndlpjfncliaaGreatD5
import Derived.Test.YtbhndlpjfncliaaGreatSo2
import Derived.Test.YtbhndlpjfncliaaGreatShF
namespace Go.Proofs.YtbhndlpjfncliaaGreat
set_option linter.unusedVariables false
set_option linter.unusedSimpArgs false
set_option linter.unnecessarySimpa false
open Go.Hp Go.RowKit Go.Sort
attribute [local irreducible] Go.Hp.iteB Go.Hp.stC Go.Hp.newP

theorem clsF_head {C : Nat → Nat} {n c : Nat} (hn : Names n C) (hc : c < n) (hcc : C c = c) : ∃ r, clsF C n c = c :: r := by
  obtain ⟨k, rfl⟩ : ∃ k, n = c + (k + 1) := ⟨n - c - 1, by omega⟩
  unfold clsF
  rw [List.range_add, List.filter_append, List.filter_eq_nil_iff.2 (fun u hu => by
    have hu := List.mem_range.1 hu
    have := hn.le u (by omega)
    simp; omega), List.nil_append, List.range_succ_eq_map, List.map_cons, List.filter_cons]
  simp [hcc]

/-- How two are compared. -/
def cf3 (x y : Nat) : Int := if x < y then -1 else if x > y then 1 else 0
theorem compare3_of {x y : Nat} {h : Heap} {K : Int → Heap → Prop} (hk : K (cf3 x y) h) : cmp_Compare_int (x : Int) (y : Int) h K := by
  unfold cmp_Compare_int
  refine qcallP1.of false (fun R hR => by unfold cmp_isNaN_int; simpa using hR) ?_
  refine qcallP1.of false (fun R hR => by unfold cmp_isNaN_int; simpa using hR) ?_
  refine iteB_neg rfl (iteB_neg rfl ?_)
  unfold cf3 at hk
  refine iteB_intro (fun e => ?_) (fun e => ?_)
  · have e := of_decide_eq_true e
    rwa [if_pos (by omega)] at hk
  · have e := of_decide_eq_false e
    rw [if_neg (by omega)] at hk
    refine iteB_intro (fun e2 => ?_) (fun e2 => ?_)
    · have e2 := of_decide_eq_true e2
      rwa [if_pos (by omega)] at hk
    · have e2 := of_decide_eq_false e2
      rwa [if_neg (by omega)] at hk

section
variable {E : List Ent}
abbrev EE (E : List Ent) := { e : Ent // e ∈ E }
def encE (x : EE E) : Value := .slice x.1.q x.1.mem.length x.1.cap
def cfE (x y : EE E) : Int := cf3 x.1.key y.1.key
theorem ltE (x y : EE E) : ltOf cfE x y = decide (x.1.key < y.1.key) := by
  unfold ltOf cfE cf3
  refine decide_eq_decide.2 ?_
  split
  · rename_i h; simp [h]
  · split <;> simp <;> omega
theorem swoE : SWO (ltOf (cfE (E := E))) where
  irrefl x := by rw [ltE]; simp
  trans x y z := by simp only [ltE, decide_eq_true_eq]; omega
  ntrans x y z := by simp only [ltE, decide_eq_false_iff_not]; omega

variable {B : Base} {R : Rws}
theorem keepsE (ho : okE E) {e : Ent} (he : e ∈ E) : Keeps B (rowsE E ++ R) e.q (nums e.mem) := by
  refine (ho e he).keeps fun x hx => ?_
  rw [List.mem_append]; left
  exact List.mem_flatMap.2 ⟨e, he, hx⟩
theorem cmpE [Inhabited (EE E)] (ho : okE E) (hm : ∀ e ∈ E, ∃ r, e.mem = e.key :: r) {b n : Nat} {d : Array (EE E)} {z : List Value} {w : World} (s : St B w.heap ((b, d.toList.map encE ++ z) :: (rowsE E ++ R))) (hd : d.size = n) : CmpLays1 Tryz.prog 84 #[] (encE (E := E)) cfE b 0 n w := fun m os dk hdk x y => by
  letI : DKc := ⟨True⟩
  have s2 := s.sorted (n := m) (d' := dk) (os := os) (by omega)
  have one : ∀ x : EE E, ∃ r, x.1.mem = x.1.key :: r ∧ valsAt (sortWorld encE w b 0 m dk os).heap x.1.q (nums (x.1.key :: r)) := fun x => by
    obtain ⟨r, hr⟩ := hm x.1 x.2
    exact ⟨r, hr, by rw [← hr]; exact (keepsE ho x.2).atC s2⟩
  obtain ⟨rx, ex, vx⟩ := one x
  obtain ⟨ry, ey, vy⟩ := one y
  have hc := (dsu_Classes_List_c1.calls (a1 := x.1.q) (a1l := x.1.mem.length) (a1c := x.1.cap) (a2 := y.1.q) (a2l := y.1.mem.length) (a2c := y.1.cap) (h := (sortWorld encE w b 0 m dk os).heap) (K := fun r h' => r = cfE x y ∧ h' = (sortWorld encE w b 0 m dk os).heap) (by
    unfold dsu_Classes_List_c1
    rw [ex, ey]
    have gx : (nums (x.1.key :: rx))[0]? = some (.int .i64 (x.1.key : Int)) := rfl
    have gy : (nums (y.1.key :: ry))[0]? = some (.int .i64 (y.1.key : Int)) := rfl
    obtain ⟨ax, hax, hcx⟩ := vx 0 _ gx
    obtain ⟨ay, hay, hcy⟩ := vy 0 _ gy
    rw [hax, hay, chkP_some]
    refine ⟨⟨by omega, by simp⟩, _, hcx, ?_⟩
    rw [chkP_some]
    refine ⟨⟨by omega, by simp⟩, _, hcy, ?_⟩
    exact qcallP1.of (cfE x y) (fun Q hQ => compare3_of hQ) ⟨rfl, rfl⟩) _ rfl).2
  refine hc.mono ?_
  rintro e w' ⟨v, rfl, ho2, hr⟩
  have hv := dsu_Classes_List_c1.ret_elim (K' := fun v h' => v = .int .i64 (cfE x y) ∧ h' = (sortWorld encE w b 0 m dk os).heap) (by rintro r h' ⟨rfl, rfl⟩; exact ⟨rfl, rfl⟩) hr
  exact ⟨by rw [hv.1], _, #[], (ho2.drewN trivial hv.2).trans (Go.Sort.grow_empty _).symm⟩

theorem SortE_of {h : Heap} {q : Option Addr} {c n : Nat} {d F : List Ent} {X : Rws} {K : Heap → Prop} (ho : okE E) (hm : ∀ e ∈ E, ∃ r, e.mem = e.key :: r) (hi : ∀ x ∈ E, ∀ y ∈ E, x.key = y.key → x = y) (hd : ∀ e ∈ d, e ∈ E) (hn : d.length = n) (hn2 : n < 2 ^ 40)
    (hF : F.Perm d) (hFs : F.Pairwise fun x y => x.key < y.key) (o : Own q c (slV (d.map Ent.sl)) X) (s : St B h (X ++ (rowsE E ++ R)))
    (hk : ∀ X' h', Own q c (slV (F.map Ent.sl)) X' → St B h' (X' ++ (rowsE E ++ R)) → K h') : slices_SortFunc_LLint_Lint_dsu_Classes_List_c1 q n c h K := by
  intro w hw
  subst hw
  refine ⟨enters_of Tryz.func83 (by kernel_rfl) rfl _ _, ?_⟩
  by_cases h0 : d = []
  · subst h0
    have hn : n = 0 := by simpa using hn.symm
    subst hn
    have : F = [] := List.Perm.eq_nil hF
    subst this
    refine (AnyF.slices_SortFunc_none Tryz.sortF0 _ _ _ w).mono ?_
    rintro e w' ⟨rfl, rfl⟩
    exact ⟨_, rfl, Out.refl _, hk X _ o s⟩
  obtain ⟨e0, he0⟩ := List.exists_mem_of_ne_nil d h0
  haveI : Inhabited (EE E) := ⟨⟨e0, hd e0 he0⟩⟩
  rcases o with ⟨rfl, rfl, hl, rfl⟩ | ⟨b, zz, rfl, hc2, rfl⟩
  · have : d = [] := by simpa [slV] using hl
    exact absurd this h0
  obtain ⟨d', hd'⟩ : ∃ d' : List (EE E), d'.map (·.1) = d := ⟨d.attach.map fun x => ⟨x.1, hd _ x.2⟩, by simp⟩
  have hd2 : d'.toArray.toList.map encE = slV (d.map Ent.sl) := by rw [← hd']; simp [encE, slV, Function.comp_def]
  have hsz : d'.toArray.size = n := by rw [← hn, ← hd']; simp
  have s' : St B w.heap ((b, d'.toArray.toList.map encE ++ zz) :: (rowsE E ++ R)) := by rw [hd2]; exact s
  have hH := holds_row (enc := encE) (d := d'.toArray) (z := zz) (s'.rows (b, d'.toArray.toList.map encE ++ zz) (by simp))
  have hlt := (s'.rows (b, d'.toArray.toList.map encE ++ zz) (by simp)).lt
  have HC := Any.slices_SortFunc_total Tryz.sortF encE (fun x => rfl) cfE swoE 84 #[] b 0 c d'.toArray w (fun _ _ => enters_of Tryz.func84 (by kernel_rfl) rfl _ _) (cmpE ho hm s' rfl) hH hlt (by omega) (fun x y h1 h2 => by
    rw [ltE] at h1 h2
    have h1 := of_decide_eq_false h1; have h2 := of_decide_eq_false h2
    exact Subtype.ext (hi _ x.2 _ y.2 (by omega)))
  rw [hsz] at HC
  refine HC.mono ?_
  rintro e w' ⟨rfl, m, os, rfl⟩
  refine ⟨_, rfl, out_sorted, ?_⟩
  have e2 : (d'.mergeSort fun x y => !(ltOf cfE) y x).map (·.1) = F := by
    have p1 : (d'.mergeSort fun x y => !(ltOf cfE) y x).Perm d' := List.mergeSort_perm ..
    have p2 : ((d'.mergeSort fun x y => !(ltOf cfE) y x).map (·.1)).Perm F := by
      have := p1.map (·.1); rw [hd'] at this; exact this.trans hF.symm
    have srt := List.pairwise_mergeSort (le := fun x y : EE E => !(ltOf cfE) y x) (fun x y z h1 h2 => by
      simp only [ltE, Bool.not_eq_true', decide_eq_false_iff_not] at *; omega) (fun x y => by simp only [ltE, Bool.or_eq_true, Bool.not_eq_true', decide_eq_false_iff_not]; omega) d'
    refine List.Perm.eq_of_pairwise (le := fun x y : Ent => x.key ≤ y.key) (fun x y hx hy h1 h2 => ?_) ?_ (hFs.imp fun h => Nat.le_of_lt h) p2
    · have hx' : x ∈ E := by obtain ⟨t, _, rfl⟩ := List.mem_map.1 hx; exact t.2
      have hy' : y ∈ E := hd y (hF.mem_iff.1 hy)
      exact hi x hx' y hy' (by omega)
    · refine List.pairwise_map.2 (srt.imp fun {x y} h => ?_)
      simp only [ltE, Bool.not_eq_true', decide_eq_false_iff_not] at h; omega
  have e1 : ((d'.mergeSort fun x y => !(ltOf cfE) y x).toArray.toList.map encE) = slV (F.map Ent.sl) := by rw [← e2]; simp [encE, slV, Function.comp_def]
  have s2 := s'.sorted (n := m) (d' := (d'.toArray.toList.mergeSort fun x y => !(ltOf cfE) y x).toArray) (os := os) (by simp)
  rw [e1] at s2
  refine hk [(b, slV (F.map Ent.sl) ++ zz)] _ (.inr ⟨b, zz, rfl, ?_, rfl⟩) s2
  rw [hc2, List.length_append, List.length_append, slV_len, slV_len, List.length_map, List.length_map, hF.length_eq]
end

/-! ### The range over the map -/
section
variable {B : Base} {R : Rws} {E : List Ent}
theorem seen_perm {n : Nat} {s : List Nat} (hd : s.Nodup) (hb : ∀ i ∈ s, i < n) (hall : ∀ i, i < n → i ∈ s) : s.Perm (List.range n) := by
  refine (List.perm_ext_iff_of_nodup hd List.nodup_range).2 fun i => ?_
  rw [List.mem_range]; exact ⟨hb i, hall i⟩
theorem dlist_l1 {K4 : Option Addr → Nat → Nat → Heap → Prop} {b r : Nat} (hb : B.free b) (hr : (B.with b (mapObj (kvE E))).free r) (hn : E.length ≤ 4096)
    (hk : ∀ (h' : Heap) (seen : List Nat) (q : Option Addr) (c : Nat) (X : Rws), seen.Perm (List.range E.length) → Own q c (slV (seen.map fun i => (E.getD i ⟨0, none, 0, [], []⟩).sl)) X → St B h' (X ++ R) → K4 q E.length c h') :
    ∀ (d : Nat) (seen : List Nat) (h : Heap) (q : Option Addr) (c : Nat) (X : Rws), seen.length + d = E.length → seen.Nodup → (∀ i ∈ seen, i < E.length) → Own q c (slV (seen.map fun i => (E.getD i ⟨0, none, 0, [], []⟩).sl)) X →
      St ((B.with b (mapObj (kvE E))).with r (.mapIter (some b) (kvE E).length seen.toArray (kvE E).length)) h (X ++ R) → dsu_Classes_List.l1 K4 (d + 1) q seen.length c ⟨r, 0, none⟩ h
  | d, seen, h, q, c, X, hsd, hnd, hlt, o, s => by
    unfold dsu_Classes_List.l1 dsu_Classes_List.b1
    intro j
    have hkl := kvE_len E
    have step : d ≠ 0 → ∀ i h', i < E.length → i ∉ seen → St ((B.with b (mapObj (kvE E))).with r (.mapIter (some b) (kvE E).length (seen ++ [i]).toArray (kvE E).length)) h' (X ++ R) → j true h' := by
      intro hd0 i h' hi hno s2
      obtain ⟨d, rfl⟩ := Nat.exists_eq_succ_of_ne_zero hd0
      simp -zeta only [j]
      obtain ⟨e, he⟩ := get_lt hi
      have hge : (kvE E)[i]? = some (Value.int .i64 (e.key : Int), Value.slice e.q e.mem.length e.cap) := by unfold kvE; rw [List.getElem?_map, he]; rfl
      refine iteB_pos rfl ⟨by simp, b, kvE E, seen, i, _, ⟨s2.obj, s2.dropO.mapAt, hge⟩, e.q, e.mem.length, e.cap, rfl, ?_⟩
      refine Own.push1 o s2 (by rw [slV_len, List.length_map]) rfl (by rw [slV_len, List.length_map]; omega) fun q2 c2 X2 h2 o2 s3 => ?_
      have := dlist_l1 hb hr hn hk d (seen ++ [i]) h2 q2 c2 X2 (by simp; omega) (by
        refine List.nodup_append.2 ⟨hnd, by simp, fun x hx y hy e => ?_⟩
        simp only [List.mem_singleton] at hy
        exact hno (hy ▸ e ▸ hx)) (fun x hx => by
        rcases List.mem_append.1 hx with hx | hx
        · exact hlt x hx
        · simp only [List.mem_singleton] at hx; subst hx; exact hi) (by
        rw [List.map_append, slV_app]
        have : slV ([i].map fun i => (E.getD i ⟨0, none, 0, [], []⟩).sl) = [Value.slice e.q e.mem.length e.cap] := by simp [slV, List.getD, he]
        rw [this]; exact o2) s3
      rw [slV_len, List.length_map]
      simpa using this
    have fin : (∀ i, i < E.length → i ∈ seen) → j false h := by
      intro hall
      simp -zeta only [j]
      refine iteB_neg rfl ?_
      have p := seen_perm hnd hlt hall
      have hl := p.length_eq
      rw [List.length_range] at hl
      rw [hl]
      exact hk h seen q c X p o s.dropO.dropO
    clear_value j
    refine ⟨⟨rfl, rfl⟩, b, kvE E, seen, ⟨s.obj, s.dropO.mapAt⟩, fun hall => fin (fun i hi => hall i (by omega)), fun i e hi hno => ?_⟩
    have hil := lt_get hi
    refine bindV_intro fun h2 e2 => step (fun hd0 => ?_) i h2 (by omega) hno ?_
    · -- all have come
      have hsub : seen.length = E.length := by omega
      have : i ∈ seen := by
        refine Classical.byContradiction fun hni => ?_
        have h1 : (i :: seen).Nodup := List.nodup_cons.2 ⟨hni, hnd⟩
        have h2 : (i :: seen) ⊆ List.range E.length := fun x hx => by
          rcases List.mem_cons.1 hx with rfl | hx
          · exact List.mem_range.2 (by omega)
          · exact List.mem_range.2 (hlt x hx)
        have := h1.length_le_of_subset h2
        simp at this; omega
      exact hno this
    · rw [e2]; exact s.setO hr rfl

theorem range_getD {α : Type} (l : List α) (x : α) : (List.range l.length).map (fun i => l.getD i x) = l := by
  apply List.ext_getElem?
  intro i
  by_cases h : i < l.length
  · simp [h, List.getD]
  · rw [List.getElem?_eq_none (by simp; omega), List.getElem?_eq_none (by omega)]

/-- Behind the loop that fills the map. -/
theorem dlist_tail {K : Option Addr → Nat → Nat → Heap → Prop} {C : Nat → Nat} {n b : Nat} {h : Heap} (na : Names n C) (hn : n ≤ 4096) (hb : B.free b) (hm : km E = entT C n) (ho : okE E) (s : St (B.with b (mapObj (kvE E))) h (rowsE E ++ R))
    (hk : ∀ h' q c qs Y, Keeps B Y q (slV qs) → Sls B Y qs (clsL C n) → St B h' (Y ++ R) → K q (clsL C n).length c h') :
    (chkM (some b) fun b7 => ∃ m8, mapAt h b7 m8 ∧ (0 ≤ (0 : Int) ∧ (0 : Int) ≤ (m8.length : Int) ∧ (m8.length : Int) * (24 : Nat) ≤ 2 ^ 47 ∧ (m8.length : Int) ≤ 2 ^ 47) ∧ newP h (.cells (zeroRow [(.slice none 0 0)] (m8.length : Int).toNat).toArray 33) fun a9 h10 => (chkM (some b) fun b11 => ∃ m12, mapAt h10 b11 m12 ∧ newP h10 (.mapIter (some b11) m12.length #[] m12.length) fun a13 h14 => (∃ m17, dsu_Classes_List.l1 (fun z15 z15l z15c h16 => ((callP0 (slices_SortFunc_LLint_Lint_dsu_Classes_List_c1 z15 z15l z15c h16) fun h18 => K z15 z15l z15c h18))) m17 (some a9) ((0 : Int).toNat) ((m8.length : Int).toNat) a13 h14))) := by
  rw [chkM_some]
  have hkl := kvE_len E
  have hl1 : E.length = (clsL C n).length := by
    have : (km E).length = (entT C n).length := by rw [hm]
    simpa [km, entT, clsL, clsT] using this
  have hl2 : E.length ≤ 4096 := by rw [hl1]; exact Nat.le_trans (clsT_le C n n) hn
  have nd := keys_nodup hm
  have hmem : ∀ e ∈ E, e.mem = clsF C n e.key ∧ e.key < n ∧ C e.key = e.key := fun e he => ⟨(mem_entT hm he).2.2, (mem_entT hm he).1, (mem_entT hm he).2.1⟩
  refine ⟨kvE E, s.mapAt, ⟨by omega, by omega, by omega, by omega⟩, ?_⟩
  refine s.new_ fun bo h1 s1 => ?_
  rw [chkM_some]
  refine ⟨kvE E, s1.mapAt, St.newO rfl s1 fun r h2 hr s2 => ⟨E.length + 1, ?_⟩⟩
  have ozz : Own (some ⟨bo, 0, none⟩) (kvE E).length (slV (([] : List Nat).map fun i => (E.getD i ⟨0, none, 0, [], []⟩).sl)) [(bo, zeroRow [Value.slice none 0 0] (kvE E).length)] :=
    .inr ⟨bo, zeroRow [Value.slice none 0 0] (kvE E).length, rfl, by simp [slV, length_zeroRow], by simp [slV]⟩
  have := dlist_l1 (R := rowsE E ++ R) (K4 := fun z15 z15l z15c h16 => callP0 (slices_SortFunc_LLint_Lint_dsu_Classes_List_c1 z15 z15l z15c h16) fun h18 => K z15 z15l z15c h18) hb hr hl2 (fun h3 seen q c X hp o s3 => ?_) E.length [] h2 _ _ _ (by simp) (by simp) (by simp) ozz (by simpa using s2)
  · simpa using this
  · obtain ⟨D, hD⟩ : ∃ D : List Ent, D = seen.map fun i => E.getD i ⟨0, none, 0, [], []⟩ := ⟨_, rfl⟩
    have hDp : D.Perm E := by
      have := hp.map fun i => E.getD i ⟨0, none, 0, [], []⟩
      rw [range_getD, ← hD] at this; exact this
    have o : Own q c (slV (D.map Ent.sl)) X := by rw [hD, List.map_map]; exact o
    refine callP0.self (SortE_of (F := E) ho (fun e he => ?_) (fun x hx y hy e => ?_) (fun e he => hDp.mem_iff.1 he) hDp.length_eq (by omega) hDp.symm ?_ o s3 fun X' h4 o4 s4 => ?_)
    · obtain ⟨h1, h2, h3⟩ := hmem e he
      rw [h1]; exact clsF_head na h2 h3
    · obtain ⟨i, hi⟩ := List.mem_iff_getElem?.1 hx
      obtain ⟨k, hk⟩ := List.mem_iff_getElem?.1 hy
      have g1 : (E.map (·.key))[i]? = some x.key := by rw [List.getElem?_map, hi]; rfl
      have g2 : (E.map (·.key))[k]? = some x.key := by rw [List.getElem?_map, hk, e]; rfl
      obtain ⟨l1, g1⟩ := List.getElem?_eq_some_iff.1 g1
      obtain ⟨l2, g2⟩ := List.getElem?_eq_some_iff.1 g2
      have := (List.getElem_inj (h₀ := l1) (h₁ := l2) nd).1 (g1.trans g2.symm)
      subst this
      rw [hi] at hk; exact Option.some.inj hk
    · have : (E.map (·.key)).Pairwise (· < ·) := by
        have e1 : E.map (·.key) = (km E).map (·.1) := by simp [km]
        rw [e1, hm]
        have e2 : (entT C n).map (·.1) = (List.range n).filter fun v => C v == v := by unfold entT; rw [List.map_map]; exact List.map_id _
        rw [e2]; exact List.pairwise_lt_range.filter _
      exact List.pairwise_map.1 this
    · rw [hl1]
      refine hk h4 q c (E.map Ent.sl) (X' ++ rowsE E) (o4.keeps fun x hx => by simp [hx]) ⟨by rw [List.length_map, hl1], fun i p l h1 h2 => ?_⟩ ((St.re s4 (by intro a; simp only [cntR_append, cntR_cons, cntR_nil, List.cons_append, List.nil_append, List.set_cons_zero, List.set_cons_succ]; omega)))
      have hlt : i < E.length := by have := lt_get h1; simpa using this
      obtain ⟨e, he⟩ := get_lt hlt
      have heE := List.mem_of_getElem? he
      rw [List.getElem?_map, he] at h1
      have h1 := Option.some.inj h1
      have e3 : clsL C n = E.map (·.mem) := by
        have e1 : E.map (·.mem) = (km E).map (·.2) := by simp [km]
        rw [e1, hm]
        unfold clsL clsT entT clsF; rw [List.map_map]; rfl
      rw [e3, List.getElem?_map, he] at h2
      have h2 := Option.some.inj h2
      subst h1; subst h2
      exact ⟨rfl, (ho e heE).keeps fun x hx => by rw [List.mem_append]; right; exact List.mem_flatMap.2 ⟨e, heE, hx⟩⟩
end

section
variable {h0 : Base} {R : Rws} {C : Nat → Nat} {z : DS} {a : DA}
theorem DList_of {K : Option Addr → Nat → Nat → Heap → Prop} {h : Heap} (iv : DInv z C) (s : St h0 h (z.rows a ++ R))
    (hk : ∀ h' U q c qs Y, DInv { z with up := U } C → Keeps h0 Y q (slV qs) → Sls h0 Y qs (clsL C z.n) → St h0 h' (Y ++ (({ z with up := U } : DS).rows a ++ R)) → K q (clsL C z.n).length c h') : dsu_Classes_List (some ⟨a.b, 0, none⟩) h K := by
  unfold dsu_Classes_List
  refine St.newO rfl s fun b h1 hb s1 => ?_
  refine qcallP1.of (z.n : Int) (fun Q hQ => DRoom_of s1 hQ) ⟨z.n + 1, ?_⟩
  refine dlist_l0 hb iv.n (fun h2 U E iv2 hm ho s2 => ?_) z.n 0 h1 z.up [] (by omega) iv rfl (fun e he => by cases he) s1
  exact dlist_tail iv.names iv.n hb hm ho s2 fun h3 q c qs Y k1 k2 s3 => hk h3 U q c qs Y iv2 k1 k2 s3
theorem DList_nil {K : Option Addr → Nat → Nat → Heap → Prop} {h : Heap} (s : St h0 h R) (hk : ∀ h' q c, St h0 h' R → K q 0 c h') : dsu_Classes_List none h K := by
  unfold dsu_Classes_List
  refine St.newO rfl s fun b h1 hb s1 => ?_
  refine qcallP1.of 0 (fun Q hQ => DRoom_nil hQ) ⟨1, ?_⟩
  unfold dsu_Classes_List.l0 dsu_Classes_List.b0
  refine iteB_neg rfl ?_
  exact dlist_tail (C := fun v => v) (n := 0) (E := []) (Names.id 0) (by omega) hb rfl (fun e he => by cases he) s1 fun h3 q c qs Y k1 k2 s3 => hk h3 q c s3.drop
end
end Go.Proofs.YtbhndlpjfncliaaGreat
