/-
  The program's list of classes, its first half: what comes into the map.
-/
import Derived.Test.YtbhndlpjfncliaaGreatD4
namespace Go.Proofs.YtbhndlpjfncliaaGreat
set_option linter.unusedVariables false
set_option linter.unusedSimpArgs false
set_option linter.unnecessarySimpa false
open Go.Hp Go.RowKit
attribute [local irreducible] Go.Hp.iteB Go.Hp.stC Go.Hp.newP

/-- What a class has so far. -/
structure Ent where
  key : Nat
  q : Option Addr
  cap : Nat
  mem : List Nat
  X : Rws
abbrev Ent.sl (e : Ent) : SlT := (e.q, e.mem.length, e.cap)
def kvE (E : List Ent) : KV := E.map fun e => (Value.int .i64 (e.key : Int), .slice e.q e.mem.length e.cap)
def rowsE (E : List Ent) : Rws := E.flatMap (·.X)
def okE (E : List Ent) : Prop := ∀ e ∈ E, Own e.q e.cap (nums e.mem) e.X
theorem kvE_len (E : List Ent) : (kvE E).length = E.length := by simp [kvE]
theorem kvE_key (E : List Ent) : ∀ e ∈ kvE E, isKey (.int .i64) e.1 = true := by
  intro e he
  obtain ⟨x, _, rfl⟩ := List.mem_map.1 he
  rfl
/-- What the classes among the first i are. -/
def entT (C : Nat → Nat) (i : Nat) : List (Nat × List Nat) := ((List.range i).filter fun v => C v == v).map fun c => (c, (List.range i).filter fun u => C u == c)
def km (E : List Ent) : List (Nat × List Nat) := E.map fun e => (e.key, e.mem)
theorem keys_nodup {C : Nat → Nat} {i : Nat} {E : List Ent} (h : km E = entT C i) : (E.map (·.key)).Nodup := by
  have : E.map (·.key) = (km E).map (·.1) := by simp [km]
  rw [this, h]
  have : (entT C i).map (·.1) = (List.range i).filter fun v => C v == v := by unfold entT; rw [List.map_map]; exact List.map_id _
  rw [this]; exact List.nodup_range.filter _
theorem mem_entT {C : Nat → Nat} {i : Nat} {E : List Ent} (h : km E = entT C i) {e : Ent} (he : e ∈ E) : e.key < i ∧ C e.key = e.key ∧ e.mem = (List.range i).filter fun u => C u == e.key := by
  have : (e.key, e.mem) ∈ entT C i := by rw [← h]; exact List.mem_map.2 ⟨e, he, rfl⟩
  obtain ⟨c, hc, e1⟩ := List.mem_map.1 this
  rw [List.mem_filter, List.mem_range] at hc
  obtain ⟨e2, e3⟩ := Prod.mk.inj e1
  subst e2
  exact ⟨hc.1, by simpa using hc.2, e3.symm⟩
/-- One comes to a class that there is. -/
theorem entT_old {C : Nat → Nat} {n i : Nat} (hn : Names n C) (hi : i < n) (hc : C i ≠ i) {A B : List Ent} {e : Ent} {q : Option Addr} {cap : Nat} {X : Rws} (h : km (A ++ e :: B) = entT C i) (hk : e.key = C i) :
    km (A ++ ⟨C i, q, cap, e.mem ++ [i], X⟩ :: B) = entT C (i + 1) := by
  have nd := keys_nodup h
  have e1 : entT C (i + 1) = (entT C i).map fun p => if p.1 = C i then (p.1, p.2 ++ [i]) else p := by
    unfold entT
    rw [filter_succ (fun v => C v == v), if_neg (by simpa using hc), List.append_nil, List.map_map]
    refine List.map_congr_left fun c _ => ?_
    rw [filter_succ]
    simp only [Function.comp_apply]
    by_cases d : c = C i
    · rw [if_pos d, if_pos (by simp [d])]
    · rw [if_neg d, if_neg (by simp; exact fun h => d h.symm), List.append_nil]
  have ne : ∀ x, x ∈ A ∨ x ∈ B → x.key ≠ C i := fun x hx e2 => by
    rw [List.map_append, List.map_cons, List.nodup_append, List.nodup_cons] at nd
    rcases hx with hx | hx
    · exact nd.2.2 _ (List.mem_map.2 ⟨x, hx, rfl⟩) e.key (by simp) (by rw [e2, hk])
    · exact nd.2.1.1 (by rw [hk, ← e2]; exact List.mem_map.2 ⟨x, hx, rfl⟩)
  rw [e1, ← h]
  unfold km
  rw [List.map_append, List.map_append, List.map_append, List.map_cons, List.map_cons, List.map_cons, List.map_map, List.map_map]
  congr 1
  · refine List.map_congr_left fun x hx => ?_
    simp only [Function.comp_apply]
    rw [if_neg (ne x (.inl hx))]
  · congr 1
    · simp [hk]
    · refine List.map_congr_left fun x hx => ?_
      simp only [Function.comp_apply]
      rw [if_neg (ne x (.inr hx))]
/-- One is the first of its class. -/
theorem entT_new {C : Nat → Nat} {n i : Nat} (hn : Names n C) (hi : i < n) (hc : C i = i) {E : List Ent} {q : Option Addr} {cap : Nat} {X : Rws} (h : km E = entT C i) :
    km (E ++ [⟨i, q, cap, [i], X⟩]) = entT C (i + 1) := by
  have e0 : ((List.range i).filter fun u => C u == i) = [] := List.filter_eq_nil_iff.2 fun u hu => by
    have hu := List.mem_range.1 hu
    have := hn.le u (by omega)
    simp; omega
  unfold entT
  rw [filter_succ (fun v => C v == v), if_pos (by simpa using hc), List.map_append]
  unfold km at h ⊢
  rw [List.map_append, h]
  unfold entT
  congr 1
  · refine List.map_congr_left fun c hc2 => ?_
    have hc3 := List.mem_range.1 (List.mem_filter.1 hc2).1
    rw [filter_succ, if_neg (by simp; omega), List.append_nil]
  · simp only [List.map_cons, List.map_nil]
    rw [filter_succ, if_pos (by simpa using hc), e0]; rfl

theorem keyEq_int {a b : Nat} : keyEq (.int .i64 (a : Int)) (.int .i64 (b : Int)) = (a == b) := by
  unfold keyEq; rw [Bool.eq_iff_iff]; simp; omega

section
variable {h0 : Base} {R : Rws} {C : Nat → Nat} {z : DS} {a : DA}
theorem dlist_l0 {K2 : Heap → Prop} {b : Nat} (hf : Base.free h0 b) (hn : z.n ≤ 4096)
    (hk : ∀ h' U E, DInv { z with up := U } C → km E = entT C z.n → okE E → St (h0.with b (mapObj (kvE E))) h' (rowsE E ++ (({ z with up := U } : DS).rows a ++ R)) → K2 h') :
    ∀ (d i : Nat) (h : Heap) (U : Nat → Nat) (E : List Ent), i + d = z.n → DInv { z with up := U } C → km E = entT C i → okE E → St (h0.with b (mapObj (kvE E))) h (rowsE E ++ (({ z with up := U } : DS).rows a ++ R)) →
      dsu_Classes_List.l0 K2 (d + 1) (some ⟨a.b, 0, none⟩) (some b) (z.n : Int) (i : Int) h
  | 0, i, h, U, E, hi, iv, hm, ho, s => by
    unfold dsu_Classes_List.l0 dsu_Classes_List.b0
    have e : i = z.n := by omega
    subst e
    exact iteB_neg (decide_eq_false (by omega)) (hk h U E iv hm ho s)
  | d + 1, i, h, U, E, hi, iv, hm, ho, s => by
    unfold dsu_Classes_List.l0 dsu_Classes_List.b0
    have hin : i < z.n := by omega
    have na : Names z.n C := iv.names
    refine iteB_pos (decide_eq_true (by omega)) ?_
    have s' : St (h0.with b (mapObj (kvE E))) h (({ z with up := U } : DS).rows a ++ (rowsE E ++ R)) := s.flip
    refine callP1.self (DOf_of (v := (i : Int)) iv s' fun h1 U1 iv1 s1 => ?_)
    have hof : ofF C z.n (i : Int) = (C i : Int) := by unfold ofF; rw [if_pos (by omega), Int.toNat_natCast]
    show chkM (some b) _
    rw [chkM_some]
    rw [show ofF C ({ z with up := U } : DS).n (i : Int) = (C i : Int) from hof]
    refine ⟨kvE E, ⟨s1.mapAt, kvE_key E⟩, ?_⟩
    by_cases hc : C i = i
    · -- a new class
      have hne : ∀ e ∈ kvE E, keyEq (.int .i64 (C i : Int)) e.1 = false := fun e he => by
        obtain ⟨x, hx, rfl⟩ := List.mem_map.1 he
        have := mem_entT hm hx
        show keyEq _ (.int .i64 (x.key : Int)) = false
        rw [keyEq_int]; simp; omega
      rw [getM_none hne]
      refine ⟨none, 0, 0, rfl, ?_⟩
      refine Own.push1 (X := []) Own.nil (show St _ h1 ([] ++ (({ z with up := U1 } : DS).rows a ++ (rowsE E ++ R))) from s1) rfl rfl (by simp) fun q2 c2 X2 h2 o2 s2 => ?_
      show chkM (some b) _
      rw [chkM_some]
      refine ⟨kvE E, ⟨s2.mapAt, kvE_key E⟩, ?_⟩
      rw [putM_none hne]
      refine bindV_intro fun h3 e3 => ?_
      have s3 := s2.setO (o' := mapObj (kvE E ++ [(Value.int .i64 (C i : Int), .slice q2 ([] : List Value).length.succ c2)])) hf rfl
      rw [wrap64 (by omega) (by omega)]
      refine dlist_l0 hf hn hk d (i + 1) h3 U1 (E ++ [⟨i, q2, c2, [i], X2⟩]) (by omega) iv1 (entT_new na hin hc hm) (fun e he => ?_) ?_
      · rcases List.mem_append.1 he with he | he
        · exact ho e he
        · simp only [List.mem_singleton] at he; subst he; simpa [nums] using o2
      · have ek : kvE (E ++ [⟨i, q2, c2, [i], X2⟩]) = kvE E ++ [(Value.int .i64 (C i : Int), .slice q2 ([] : List Value).length.succ c2)] := by
          unfold kvE; rw [List.map_append]; simp [hc]
        have er : rowsE (E ++ [⟨i, q2, c2, [i], X2⟩]) = rowsE E ++ X2 := by unfold rowsE; rw [List.flatMap_append]; simp
        rw [ek, er, e3]
        exact (St.re s3 (by intro a; simp only [cntR_append, cntR_cons, cntR_nil, List.cons_append, List.nil_append, List.set_cons_zero, List.set_cons_succ]; omega))
    · -- a class that there is
      have hlt : C i < i := by have := na.le i hin; omega
      have hcm : (C i, (List.range i).filter fun u => C u == C i) ∈ km E := by
        rw [hm]; exact List.mem_map.2 ⟨C i, List.mem_filter.2 ⟨List.mem_range.2 hlt, by simpa using na.idem i hin⟩, rfl⟩
      obtain ⟨e, heE, hke⟩ := List.mem_map.1 hcm
      obtain ⟨A, B, rfl⟩ := List.append_of_mem heE
      have hek : e.key = C i := (Prod.mk.inj hke).1
      have hA : ∀ x ∈ kvE A, keyEq (.int .i64 (C i : Int)) x.1 = false := fun x hx => by
        obtain ⟨y, hy, rfl⟩ := List.mem_map.1 hx
        show keyEq _ (.int .i64 (y.key : Int)) = false
        rw [keyEq_int]
        have nd := keys_nodup hm
        rw [List.map_append, List.map_cons, List.nodup_append] at nd
        have := nd.2.2 y.key (List.mem_map.2 ⟨y, hy, rfl⟩) e.key (by simp)
        simp; omega
      have ek : kvE (A ++ e :: B) = kvE A ++ (Value.int .i64 (e.key : Int), Value.slice e.q e.mem.length e.cap) :: kvE B := by unfold kvE; rw [List.map_append, List.map_cons]
      have hke2 : keyEq (.int .i64 (C i : Int)) (.int .i64 (e.key : Int)) = true := by rw [keyEq_int]; simp [hek]
      have er : rowsE (A ++ e :: B) = rowsE A ++ (e.X ++ rowsE B) := by unfold rowsE; rw [List.flatMap_append, List.flatMap_cons]
      rw [ek, getM_mid hA hke2]
      refine ⟨e.q, e.mem.length, e.cap, rfl, ?_⟩
      rw [ek, er] at s1
      have s1 : St (h0.with b (mapObj (kvE A ++ (Value.int .i64 (e.key : Int), Value.slice e.q e.mem.length e.cap) :: kvE B))) h1 (e.X ++ (rowsE A ++ (rowsE B ++ (({ z with up := U1 } : DS).rows a ++ R)))) := (St.re s1 (by intro a; simp only [cntR_append, cntR_cons, cntR_nil, List.cons_append, List.nil_append, List.set_cons_zero, List.set_cons_succ]; omega))
      have ml : e.mem.length ≤ i := by rw [(mem_entT hm heE).2.2]; exact filter_le _ _
      refine Own.push1 (ho e heE) s1 (nums_len _).symm rfl (by rw [nums_len]; omega) fun q2 c2 X2 h2 o2 s2 => ?_
      show chkM (some b) _
      rw [chkM_some]
      have kk := kvE_key (A ++ e :: B)
      rw [ek] at kk
      refine ⟨_, ⟨s2.mapAt, kk⟩, ?_⟩
      rw [putM_mid hA hke2, nums_len]
      refine bindV_intro fun h3 e3 => ?_
      have s3 := s2.setO (o' := mapObj (kvE A ++ (Value.int .i64 (C i : Int), Value.slice q2 (e.mem.length + 1) c2) :: kvE B)) hf rfl
      rw [wrap64 (by omega) (by omega)]
      refine dlist_l0 hf hn hk d (i + 1) h3 U1 (A ++ ⟨C i, q2, c2, e.mem ++ [i], X2⟩ :: B) (by omega) iv1 (entT_old na hin hc hm hek) (fun x hx => ?_) ?_
      · rcases List.mem_append.1 hx with hx | hx
        · exact ho x (by simp [hx])
        · rcases List.mem_cons.1 hx with rfl | hx
          · simpa [nums_app, nums_one] using o2
          · exact ho x (by simp [hx])
      · have ek2 : kvE (A ++ ⟨C i, q2, c2, e.mem ++ [i], X2⟩ :: B) = kvE A ++ (Value.int .i64 (C i : Int), Value.slice q2 (e.mem.length + 1) c2) :: kvE B := by
          unfold kvE; rw [List.map_append, List.map_cons]; simp
        have er2 : rowsE (A ++ ⟨C i, q2, c2, e.mem ++ [i], X2⟩ :: B) = rowsE A ++ (X2 ++ rowsE B) := by unfold rowsE; rw [List.flatMap_append, List.flatMap_cons]
        rw [ek2, er2, e3]
        exact (St.re s3 (by intro a; simp only [cntR_append, cntR_cons, cntR_nil, List.cons_append, List.nil_append, List.set_cons_zero, List.set_cons_succ]; omega))
end
end Go.Proofs.YtbhndlpjfncliaaGreat
