/-
  Sorting a row by the contract of the library's sort.
-/
import Derived.Test.YtokemibmanjpmaaGreatDoorWk
import Derived.Shelf.GgSortFunc.Insertion
namespace Go.Hp
open Go.Sort Go.RowKit Go.Proofs
set_option linter.unusedVariables false
set_option linter.unusedSimpArgs false

/-- One row is another one; what else was there stays; there may be more. -/
theorem St.mod {h0 : Base} {h h' : Heap} {L : Rws} {b : Nat} {cs cs' : List Value} (s : St h0 h ((b, cs) :: L)) (hs : h.size ≤ h'.size) (ho : ∀ i, i < h.size → i ≠ b → h'[i]? = h[i]?) (r : row h' b cs') : St h0 h' ((b, cs') :: L) := by
  have hb : h0.heap.size ≤ b := s.new (b, cs) (by simp)
  have hn := s.nodup
  rw [List.map_cons, List.nodup_cons] at hn
  have hk : ∀ x ∈ L, x.1 ≠ b := fun x hx e => hn.1 (List.mem_map.2 ⟨x, hx, e⟩)
  refine ⟨⟨Nat.le_trans s.ext.size hs, fun i hi => ?_⟩, ?_, ?_, (by rw [List.map_cons, List.nodup_cons]; exact hn), fun x hx => ?_⟩
  · have := s.ext.size
    rw [ho i (by omega) (by omega)]; exact s.ext.at_ i hi
  · intro x hx
    rcases List.mem_cons.1 hx with rfl | hx
    · exact r
    · have r2 := s.rows x (by simp [hx])
      refine ⟨r2.choose, ?_⟩
      rw [ho _ r2.lt (hk x hx)]; exact r2.choose_spec
  · intro x hx
    rcases List.mem_cons.1 hx with rfl | hx
    · exact hb
    · exact s.new x (by simp [hx])
  · obtain ⟨h1, h2, h3⟩ := s.objs x hx
    refine ⟨?_, h2, h3⟩
    obtain ⟨t, ht⟩ := s.rows (b, cs) (by simp)
    have hne : x.1 ≠ b := by rintro e; rw [e, ht] at h1; have h1 := Option.some.inj h1; rw [← h1] at h3; cases h3
    rw [ho _ (Array.getElem?_eq_some_iff.1 h1).1 hne]; exact h1

section
variable {α : Type} [Inhabited α] {enc : α → Value}

theorem row_get {d : Array α} {z : List Value} {j : Nat} (hj : j < d.size) : (d.toList.map enc ++ z)[j]? = some (enc d[j]!) := by
  rw [List.getElem?_append_left (by simpa using hj)]; simp [hj, getElem!_pos]
theorem holds_row {w : World} {b : Nat} {d : Array α} {z : List Value} (r : row w.heap b (d.toList.map enc ++ z)) : Holds enc w b 0 d := fun j hj => by
  rw [Nat.zero_add]
  refine ⟨?_, ?_⟩
  · rw [cell_eq, r.cell]; exact row_get hj
  · rw [frz_eq]; exact r.frz j
theorem putCells_row {d d' : Array α} {z : List Value} (hs : d'.size = d.size) : putCells enc 0 d' (d.toList.map enc ++ z).toArray = (d'.toList.map enc ++ z).toArray := by
  apply Array.ext_getElem?
  intro k
  simp only [putCells, Array.getElem?_mapIdx, List.getElem?_toArray, Nat.zero_le, true_and, Nat.zero_add, Nat.sub_zero]
  by_cases hk : k < d'.size
  · rw [row_get hk, row_get (by omega)]; simp [hk]
  · simp only [if_neg hk, Option.map_id']
    rw [List.getElem?_append_right (by simp; omega), List.getElem?_append_right (by simp; omega)]
    simp [hs]
theorem St.sorted {w : World} {h0 : Base} {b n : Nat} {d d' : Array α} {z : List Value} {R : Rws} {os : Array Obj} (s : St h0 w.heap ((b, d.toList.map enc ++ z) :: R)) (hs : d'.size = d.size) :
    St h0 (sortWorld enc w b 0 n d' os).heap ((b, d'.toList.map enc ++ z) :: R) := by
  have r := s.rd0 (b := b)
  obtain ⟨t, ht⟩ := s.rows (b, d.toList.map enc ++ z) (by simp)
  have hb := (Array.getElem?_eq_some_iff.1 ht).1
  have e : (sortWorld enc w b 0 n d' os).heap = w.heap.modify b (onCells (putCells enc 0 d')) ++ os := rfl
  refine s.mod ?_ ?_ ⟨t, ?_⟩
  · rw [e]; simp
  · intro i hi hne
    rw [e, Array.getElem?_append_left (by simpa using hi), Array.getElem?_modify, if_neg (fun h => hne h.symm)]
  · rw [e, Array.getElem?_append_left (by simpa using hb), Array.getElem?_modify, if_pos rfl, ht]
    simp only [Option.map_some, onCells, putCells_row hs]
theorem out_sorted {w : World} {b off n : Nat} {d' : Array α} {os : Array Obj} : Out w (sortWorld enc w b off n d' os) := ⟨rfl, rfl, rfl, fun _ => Nat.le_add_right _ _⟩
end

/-- Many cells stored. -/
theorem St.many {h0 : Base} {R : Rws} {b off : Nat} {K : Heap → Prop} {n : Nat} (hk : ∀ h' cs', cs'.length = n → St h0 h' ((b, cs') :: R) → K h') :
    ∀ (vs : List Value) (i : Nat) (cs : List Value) (h : Heap), St h0 h ((b, cs) :: R) → cs.length = n → (∀ v ∈ vs, flat v = true) → off + i + vs.length ≤ n → stL vs h ⟨b, off, none⟩ i K
  | [], i, cs, h, s, hc, _, _ => by unfold stL; exact hk h cs hc s
  | v :: vs, i, cs, h, s, hc, hf, hl => by
    unfold stL
    rw [hf v (by simp)]
    simp only [add_mk]
    simp only [List.length_cons] at hl
    exact s.st0 (by omega) fun h2 s2 => St.many hk vs (i + 1) _ h2 s2 (by simpa using hc) (fun x hx => hf x (by simp [hx])) (by omega)
theorem flat_zeroRow {z : Value} (hz : flat z = true) : ∀ n, ∀ v ∈ zeroRow [z] n, flat v = true
  | 0, v, hv => by simp [zeroRow] at hv
  | n + 1, v, hv => by
    simp only [zeroRow, List.cons_append, List.nil_append, List.mem_cons] at hv
    rcases hv with rfl | hv
    · exact hz
    · exact flat_zeroRow hz n v hv
/-- A row's end cleared. -/
theorem St.clear {h0 : Base} {h : Heap} {R : Rws} {b off n : Nat} {cs : List Value} {z : Value} {K : Heap → Prop} (s : St h0 h ((b, cs) :: R)) (hz : flat z = true) (hl : off + n ≤ cs.length) (hk : ∀ h' cs', cs'.length = cs.length → St h0 h' ((b, cs') :: R) → K h') :
    clearP [z] (some ⟨b, off, none⟩) n h K :=
  St.many hk (zeroRow [z] n) 0 cs h s rfl (flat_zeroRow hz n) (by rw [length_zeroRow]; simp; omega)
end Go.Hp
