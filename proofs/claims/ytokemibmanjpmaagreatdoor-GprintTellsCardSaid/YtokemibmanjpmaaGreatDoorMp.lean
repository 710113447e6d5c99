/-
  Maps, and iterators, among the rows: things that are no cells stand in the beginning.
-/
import Derived.Test.YtokemibmanjpmaaGreatDoorWk
namespace Go.Hp
set_option linter.unusedVariables false
set_option linter.unusedSimpArgs false
set_option linter.unnecessarySimpa false

/-- One thing more. -/
abbrev Base.with (B : Base) (b : Nat) (o : Obj) : Base := ⟨B.heap, (b, o) :: B.objs⟩
theorem St.dropO {B : Base} {h : Heap} {L : Rws} {b : Nat} {o : Obj} (s : St (B.with b o) h L) : St B h L := ⟨s.ext, s.rows, s.new, s.nodup, fun x hx => s.objs x (List.mem_cons_of_mem _ hx)⟩
theorem St.obj {B : Base} {h : Heap} {L : Rws} {b : Nat} {o : Obj} (s : St (B.with b o) h L) : h[b]? = some o := (s.objs (b, o) (by simp)).1
theorem St.mapAt {B : Base} {h : Heap} {L : Rws} {b : Nat} {m : KV} (s : St (B.with b (mapObj m)) h L) : mapAt h b m := s.obj
/-- A thing that is not there yet. -/
def Base.free (B : Base) (b : Nat) : Prop := ∀ x ∈ B.objs, x.1 ≠ b
theorem St.newO {B : Base} {h : Heap} {L : Rws} {o : Obj} {K : Addr → Heap → Prop} (ho : isRow o = false) (s : St B h L)
    (hk : ∀ b h', B.free b → St (B.with b o) h' L → K ⟨b, 0, none⟩ h') : newP h o K := by
  have e : Ext h (h.push o) := (Ext.refl h).push o
  refine hk h.size _ (fun x hx e => ?_) ⟨s.ext.trans e, fun x hx => (s.rows x hx).ext e, s.new, s.nodup, fun x hx => ?_⟩
  · have := (Array.getElem?_eq_some_iff.1 (s.objs x hx).1).1; omega
  · rcases List.mem_cons.1 hx with rfl | hx
    · exact ⟨by simp, s.ext.size, ho⟩
    · exact s.objs.ext e x hx
/-- It is another one. -/
theorem St.setO {B : Base} {h : Heap} {L : Rws} {b : Nat} {o o' : Obj} (hf : B.free b) (s : St (B.with b o) h L) (ho : isRow o' = false) : St (B.with b o') (setO h b o') L := by
  obtain ⟨h1, h2, h3⟩ := s.objs (b, o) (by simp)
  have hb : b < h.size := (Array.getElem?_eq_some_iff.1 h1).1
  have other : ∀ i, i ≠ b → (Hp.setO h b o')[i]? = h[i]? := fun i hi => by simp only [Hp.setO]; rw [Array.getElem?_setIfInBounds_ne (fun e => hi e.symm)]
  refine ⟨⟨by simpa [Hp.setO] using s.ext.size, fun i hi => ?_⟩, fun x hx => ?_, s.new, s.nodup, fun x hx => ?_⟩
  · rw [other i (by simp only at h2 hi; omega)]; exact s.ext.at_ i hi
  · obtain ⟨t, ht⟩ := s.rows x hx
    refine ⟨t, ?_⟩
    rw [other x.1 (fun e => ?_)]
    · exact ht
    · rw [← e, ht] at h1; have h1 := Option.some.inj h1; rw [← h1] at h3; cases h3
  · rcases List.mem_cons.1 hx with rfl | hx
    · refine ⟨?_, h2, ho⟩
      simp only [Hp.setO]; rw [Array.getElem?_setIfInBounds_self_of_lt hb]
    · obtain ⟨g1, g2, g3⟩ := s.objs x (List.mem_cons_of_mem _ hx)
      exact ⟨by rw [other x.1 (hf x hx)]; exact g1, g2, g3⟩
theorem St.swapO {B : Base} {h : Heap} {L : Rws} {b c : Nat} {o p : Obj} (s : St ((B.with b o).with c p) h L) : St ((B.with c p).with b o) h L :=
  ⟨s.ext, s.rows, s.new, s.nodup, fun x hx => s.objs x (by simp only [List.mem_cons] at hx ⊢; rcases hx with h | h | h <;> simp [h])⟩
theorem Keeps.withO {B : Base} {R : Rws} {q : Option Addr} {l : List Value} {b : Nat} {o : Obj} (k : Keeps B R q l) : Keeps (B.with b o) R q l := fun h L s hs => k h L s.dropO hs

/-! ### What is in a map -/
theorem getM_none {key : Value} : ∀ {m : KV}, (∀ e ∈ m, keyEq key e.1 = false) → getM key m = none
  | [], _ => rfl
  | e :: r, h => by unfold getM; rw [h e (by simp)]; exact getM_none fun x hx => h x (by simp [hx])
theorem putM_none {key v : Value} : ∀ {m : KV}, (∀ e ∈ m, keyEq key e.1 = false) → putM key v m = m ++ [(key, v)]
  | [], _ => rfl
  | e :: r, h => by unfold putM; rw [h e (by simp)]; simp only [cond_false, List.cons_append]; rw [putM_none fun x hx => h x (by simp [hx])]
theorem getM_mid {key key' v : Value} : ∀ {m n : KV}, (∀ e ∈ m, keyEq key e.1 = false) → keyEq key key' = true → getM key (m ++ (key', v) :: n) = some v
  | [], n, _, h2 => by simp [getM, h2]
  | e :: r, n, h, h2 => by simp only [List.cons_append, getM]; rw [h e (by simp)]; exact getM_mid (fun x hx => h x (by simp [hx])) h2
theorem putM_mid {key key' u v : Value} : ∀ {m n : KV}, (∀ e ∈ m, keyEq key e.1 = false) → keyEq key key' = true → putM key u (m ++ (key', v) :: n) = m ++ (key, u) :: n
  | [], n, _, h2 => by simp [putM, h2]
  | e :: r, n, h, h2 => by simp only [List.cons_append, putM]; rw [h e (by simp)]; simp only [cond_false]; rw [putM_mid (fun x hx => h x (by simp [hx])) h2]
end Go.Hp
