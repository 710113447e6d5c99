/-
  The frame of my own, part 2: an operation that only reckons, or only looks, has one value; and the model's own operation comes to it.
-/
import Derived.Test.YtokemibmanjpmaaGreatDoorFw1
import Derived.Laws.Entries
import Derived.WalkSpells
namespace Go.Hp
set_option linter.unusedVariables false
set_option linter.unusedSimpArgs false

section
variable {P : Program} {K : Value → Prop}

theorem val_val {v : Option Value} (h : val v K) : ∃ u, K u ∧ val v (· = u) := by
  cases v with
  | none => exact h.elim
  | some v => exact ⟨v, h, rfl⟩

theorem chkP_elim {q : Option Addr} {F : Addr → Prop} (h : chkP q F) : ∃ a, q = some a ∧ F a := by
  cases q with
  | none => exact h.elim
  | some a => exact ⟨a, rfl, h⟩

theorem iteB_val {b : Bool} {u v : Value} (h : iteB b (K u) (K v)) : ∃ x, K x ∧ iteB b (u = x) (v = x) := by
  cases b
  · exact ⟨v, h, rfl⟩
  · exact ⟨u, h, rfl⟩

theorem intBin_val {op : BinOp} {k : IntKind} {a b : Int} (h : intBin op k a b K) : ∃ v, K v ∧ intBin op k a b (· = v) := by
  cases op <;> simp only [intBin] at h ⊢ <;> first | exact h.elim | exact ⟨_, h, rfl⟩ | exact ⟨_, h.2, h.1, rfl⟩

theorem strBin_val {op : BinOp} {a b : ByteArray} (h : strBin op a b K) : ∃ v, K v ∧ strBin op a b (· = v) := by
  cases op <;> simp only [strBin] at h ⊢ <;> first | exact h.elim | exact ⟨_, h, rfl⟩ | exact ⟨_, h.2, h.1, rfl⟩

theorem fltBin_val {op : BinOp} {k : FloatKind} {a b : Nat} (h : fltBin op k a b K) : ∃ v, K v ∧ fltBin op k a b (· = v) := by
  cases op <;> simp only [fltBin] at h ⊢ <;> first | exact h.elim | exact ⟨_, h, rfl⟩ | (obtain ⟨r, hr, h⟩ := h; exact ⟨_, h, r, hr, rfl⟩)

theorem binK_val {op : BinOp} {t : TypeId} {x y : Value} (h : binK P op t x y K) : ∃ v, K v ∧ binK P op t x y (· = v) := by
  unfold binK at h ⊢
  split at h
  · exact ⟨_, h.2, h.1, rfl⟩
  · exact ⟨_, h.2, h.1, rfl⟩
  · split at h
    · rename_i hk; subst hk; simpa using intBin_val h
    · exact h.elim
  · exact strBin_val h
  · split at h
    · rename_i hk; subst hk; simpa using fltBin_val h
    · exact h.elim
  all_goals first
    | (split at h
       · exact ⟨_, h, rfl⟩
       · exact h.elim)
    | exact h.elim

theorem sliceK_val {t : TypeId} {x : Value} {lo hi : Option Value} (h : sliceK P t x lo hi K) : ∃ v, K v ∧ sliceK P t x lo hi (· = v) := by
  unfold sliceK at h ⊢
  split at h
  · split at h
    · split at h
      · exact ⟨_, h, rfl⟩
      · exact ⟨_, h.2, h.1, rfl⟩
      · exact h.elim
    · split at h
      · exact ⟨_, h.2, h.1, rfl⟩
      · exact ⟨_, h.2.2, h.1, h.2.1, rfl⟩
      · exact h.elim
    · exact h.elim
  · split at h
    · exact h.elim
    split at h
    · split at h
      · exact ⟨_, h, rfl⟩
      · exact ⟨_, h.2, h.1, rfl⟩
      · exact h.elim
    · split at h
      · exact ⟨_, h.2, h.1, rfl⟩
      · exact ⟨_, h.2.2, h.1, h.2.1, rfl⟩
      · exact h.elim
    · exact h.elim
  · exact h.elim

theorem convK_val {s d : TypeId} {x : Value} (h : convK P s d x K) : ∃ v, K v ∧ convK P s d x (· = v) := by
  unfold convK at h ⊢
  split at h
  · exact ⟨_, h, rfl⟩
  · exact ⟨_, h, rfl⟩
  · exact ⟨_, h, rfl⟩
  · obtain ⟨n, h1, h2, h⟩ := h; exact ⟨_, h, n, h1, h2, rfl⟩
  · exact h.elim

theorem buildK_val {t : TypeId} {ixs : List Nat} {vs : List Value} (h : buildK P t ixs vs K) : ∃ v, K v ∧ buildK P t ixs vs (· = v) := by
  unfold buildK at h ⊢
  split at h
  · rw [bif_and] at h
    obtain ⟨hb, h⟩ := h
    simp only [hb, cond_true]
    split at h
    · exact ⟨_, h, rfl⟩
    · exact h.elim
  · split at h
    · split at h
      · exact ⟨_, h, rfl⟩
      · exact h.elim
    · exact h.elim
  · exact h.elim

theorem rdS_val {s : Sh} {c : Option Value} (h : rdS s c K) : ∃ v, c = some v ∧ K v ∧ rdS s c (· = v) := by
  cases s <;> simp only [rdS] at h ⊢
  case sl => obtain ⟨a, l, n, e, hk⟩ := h; exact ⟨_, e, hk, a, l, n, e, rfl⟩
  all_goals (obtain ⟨x, e, hk⟩ := h; exact ⟨_, e, hk, x, e, rfl⟩)

theorem rdS_mono {s : Sh} {c : Option Value} {K' : Value → Prop} (h : rdS s c K) (hk : ∀ v, K v → K' v) : rdS s c K' := by
  cases s <;> simp only [rdS] at h ⊢
  case sl => obtain ⟨a, l, n, e, hh⟩ := h; exact ⟨a, l, n, e, hk _ hh⟩
  all_goals (obtain ⟨x, e, hh⟩ := h; exact ⟨x, e, hk _ hh⟩)

theorem rdF_mono : ∀ {l : List Sh} {cs : List Value} {i : Nat} {K K' : List Value → Prop}, rdF l cs i K → (∀ x, K x → K' x) → rdF l cs i K'
  | [], _, _, _, _, h, hk => hk _ h
  | s :: r, cs, i, K, K', h, hk => rdS_mono h fun v hv => rdF_mono hv fun x hx => hk _ hx
theorem rdF_val : ∀ {l : List Sh} {cs : List Value} {i : Nat} {K : List Value → Prop}, rdF l cs i K →
    ∃ vs, (cs.drop i).take l.length = vs ∧ K vs ∧ rdF l cs i (· = vs)
  | [], _, _, _, hh => ⟨[], by simp, hh, rfl⟩
  | s :: r, cs, i, K, hh => by
    obtain ⟨v, hc, hk, hv⟩ := rdS_val hh
    obtain ⟨vs, hl, hK, hr⟩ := rdF_val hk
    obtain ⟨hi, hc⟩ := List.getElem?_eq_some_iff.1 hc
    refine ⟨v :: vs, ?_, hK, ?_⟩
    · rw [List.length_cons, List.drop_eq_getElem_cons hi, List.take_succ_cons, hc, hl]
    · refine rdS_mono hv ?_
      rintro u rfl
      exact rdF_mono hr fun x hx => by rw [hx]

theorem nilK_val {op : BinOp} {t : TypeId} {a : Value} (h : nilK P op t a K) : ∃ v, K v ∧ nilK P op t a (· = v) := by
  unfold nilK at h ⊢
  split at h
  · unfold nilP at h ⊢
    split at h
    · exact ⟨_, h, rfl⟩
    · exact h.elim
  · unfold nilP at h ⊢
    split at h
    · exact ⟨_, h, rfl⟩
    · exact h.elim
  · exact h.elim

theorem pureV_val {o : Op} {vs : List Value} (h : pureV P o vs K) : ∃ v, K v ∧ pureV P o vs (· = v) := by
  unfold pureV at h ⊢
  split at h
  · exact ⟨_, h, rfl⟩
  · exact ⟨_, h, rfl⟩
  · exact iteB_val h
  · obtain ⟨a, rfl, h⟩ := chkP_elim h
    exact ⟨_, h, rfl⟩
  · exact ⟨_, h, rfl⟩
  · split at h
    · exact nilK_val h
    · exact binK_val h
  · exact ⟨_, h, rfl⟩
  · exact ⟨_, h, rfl⟩
  · exact ⟨_, h, rfl⟩
  · exact val_val h
  · split at h
    · exact ⟨_, h, rfl⟩
    · exact h.elim
  · split at h
    · split at h
      · exact ⟨_, h, rfl⟩
      · exact val_val h
      · exact h.elim
    · exact h.elim
  · split at h
    · obtain ⟨a, rfl, h⟩ := chkP_elim h
      exact ⟨_, h.2, h.1, rfl⟩
    · exact h.elim
  · split at h
    · split at h
      · exact ⟨_, h.2, h.1, rfl⟩
      · exact h.elim
    · exact h.elim
  · split at h
    · obtain ⟨h0, b, hb, hk⟩ := h
      exact ⟨_, hk, h0, b, hb, rfl⟩
    · exact h.elim
  · split at h
    · split at h
      · rw [bif_and] at h
        obtain ⟨hb, h0, h⟩ := h
        obtain ⟨v, _, hk, hr⟩ := rdS_val h
        refine ⟨v, hk, ?_⟩
        rw [bif_and]
        exact ⟨hb, h0, hr⟩
      · rw [bif_and] at h
        obtain ⟨hb, h0, h⟩ := h
        obtain ⟨vs, _, hk, hr⟩ := rdF_val h
        refine ⟨_, hk, ?_⟩
        rw [bif_and]
        exact ⟨hb, h0, rdF_mono hr fun x hx => by rw [hx]⟩
      · exact h.elim
    · exact h.elim
  · exact sliceK_val h
  · exact sliceK_val h
  · exact sliceK_val h
  · exact sliceK_val h
  · exact convK_val h
  · split at h
    · exact h.elim
    · exact ⟨_, h, rfl⟩
    · exact h.elim
  · exact ⟨_, h, rfl⟩
  · exact buildK_val h
  · split at h
    · split at h
      · exact ⟨_, h, rfl⟩
      · exact ⟨_, h, rfl⟩
      · exact h.elim
    · exact h.elim
  · split at h
    · split at h
      · exact ⟨_, h, rfl⟩
      · exact h.elim
    · exact h.elim
  · exact val_val h
  · exact val_val h
  · exact h.elim

theorem rdL_val : ∀ {l : List Sh} {h : Heap} {a : Addr} {i : Nat} {K : List Value → Prop}, rdL l h a i K →
    ∃ vs, vs.length = l.length ∧ (∀ j, j < l.length → cell h (a.add (i + j)) = vs[j]?) ∧ K vs ∧ rdL l h a i (· = vs)
  | [], _, _, _, _, hh => ⟨[], rfl, fun _ hj => absurd hj (by simp), hh, rfl⟩
  | s :: r, h, a, i, K, hh => by
    obtain ⟨v, hc, hk, hv⟩ := rdS_val hh
    obtain ⟨vs, hl, hcs, hK, hr⟩ := rdL_val hk
    refine ⟨v :: vs, by simp [hl], ?_, hK, ?_⟩
    · intro j hj
      cases j with
      | zero => simpa using hc
      | succ j =>
        have := hcs j (by simpa using hj)
        simp only [List.getElem?_cons_succ]
        rw [← this]; congr 2; omega
    · refine rdS_mono hv ?_
      rintro u rfl
      refine (show ∀ {l : List Sh} {i : Nat} {K K' : List Value → Prop}, rdL l h a i K → (∀ x, K x → K' x) → rdL l h a i K' from ?_) hr (fun x hx => by rw [hx])
      intro l
      induction l with
      | nil => intro i K K' h1 h2; exact h2 _ h1
      | cons s l ih => intro i K K' h1 h2; exact rdS_mono h1 fun v hv => ih hv fun x hx => h2 _ hx

theorem readV_val {o : Op} {vs : List Value} {h : Heap} (hh : readV P o vs h K) : ∃ v, K v ∧ readV P o vs h (· = v) := by
  unfold readV at hh ⊢
  split at hh
  · split at hh
    · obtain ⟨ws, _, _, hk, hr⟩ := rdL_val hh
      split at hk
      · rename_i hi
        cases hb : Nat.beq _ ws.length with
        | false => rw [hb] at hk; exact hk.elim
        | true =>
          rw [hb] at hk
          refine ⟨_, hk, ?_⟩
          refine (show ∀ {l : List Sh} {a : Addr} {i : Nat} {K K' : List Value → Prop}, rdL l h a i K → (∀ x, K x → K' x) → rdL l h a i K' from ?_) hr (fun x hx => by subst hx; simp [hb])
          intro l
          induction l with
          | nil => intro a i K K' h1 h2; exact h2 _ h1
          | cons s l ih => intro a i K K' h1 h2; exact rdS_mono h1 fun v hv => ih hv fun x hx => h2 _ hx
      · exact hk.elim
    · split at hh
      · obtain ⟨v, _, hk, hv⟩ := rdS_val hh
        exact ⟨v, hk, hv⟩
      · exact hh.elim
    · exact hh.elim
  · unfold strK at hh ⊢
    split at hh
    · split at hh
      · obtain ⟨l, h1, h2⟩ := hh; exact ⟨_, h2, l, h1, rfl⟩
      · exact hh.elim
    · exact hh.elim
  · exact hh.elim
end

end Go.Hp
