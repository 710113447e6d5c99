/-
  Matrices: unlike numbers: what a map's keys are, sorted.
-/
import Derived.Test.YtfidcekobjmamaaJ4
import Derived.Test.YtfidcekobjmamaaMp
import Derived.Test.YtfidcekobjmamaaShK
namespace Go.Proofs.Ytfidcekobjmamaa
open Go Go.Proofs Go.RowKit Go.Shelf Go.Maps Go.Hp
set_option linter.unusedVariables false
set_option linter.unusedSimpArgs false
set_option linter.unnecessarySimpa false

/-- Keys, as a map holds them. -/
def kvB (ks : List Int) : KV := ks.map fun k => (Value.int .i64 k, Value.bool true)
theorem entries_key : ∀ (m : KV) (i : Nat), (entriesFrom i m).map (·.key) = m.map (·.1)
  | [], _ => rfl
  | e :: r, i => by simp [entriesFrom, entries_key r (i + 1)]
theorem entries_born : ∀ (m : KV) (i : Nat), (entriesFrom i m).map (·.born) = (List.range' i m.length)
  | [], _ => rfl
  | e :: r, i => by simp [entriesFrom, entries_born r (i + 1), List.range'_succ]
theorem entries_len : ∀ (m : KV) (i : Nat), (entriesFrom i m).length = m.length
  | [], _ => rfl
  | e :: r, i => by simp [entriesFrom, entries_len r (i + 1)]
abbrev RvB : Value → Option (DataW Unit × List MemPlace) := fun _ => some (.lit (.bool true), [])
theorem entries_rg {P : Program} {t : TypeId} (ht : P.underlying t = some (.int .i64)) : ∀ (ks : List Int) (i : Nat), (∀ k ∈ ks, (Lit.int .i64 k).wf = true) →
    (entriesFrom i (kvB ks)).map (Go.WideElems.rg P t RvB) = ks.map (fun k => ((Lit.int .i64 k, .lit (.bool true)) : Lit × DataW Unit)) ∧ ∀ x ∈ entriesFrom i (kvB ks), ∃ y, Go.WideElems.rd P t RvB x = some y
  | [], _, _ => ⟨rfl, by simp [kvB, entriesFrom]⟩
  | k :: ks, i, h => by
    obtain ⟨h1, h2⟩ := entries_rg ht ks (i + 1) fun x hx => h x (by simp [hx])
    have e : Go.WideElems.rd P t RvB { key := Value.int .i64 k, val := .bool true, born := i } = some (Lit.int .i64 k, .lit (.bool true)) := by
      unfold Go.WideElems.rd
      rw [Go.Maps.keyOf_int_mk ht (h k (by simp))]; rfl
    have e1 : entriesFrom i (kvB (k :: ks)) = { key := Value.int .i64 k, val := .bool true, born := i } :: entriesFrom (i + 1) (kvB ks) := rfl
    rw [e1]
    refine ⟨?_, fun x hx => ?_⟩
    · rw [List.map_cons, List.map_cons, h1]
      unfold Go.WideElems.rg
      rw [e]; rfl
    · rcases List.mem_cons.1 hx with rfl | hx
      · exact ⟨_, e⟩
      · exact h2 x hx
theorem owns_of {P : Program} {t : TypeId} (ht : P.underlying t = some (.int .i64)) {w : World} {b : Nat} {ks : List Int} (hm : mapAt w.heap b (kvB ks)) (hnd : ks.Nodup) (hwf : ∀ k ∈ ks, (Lit.int .i64 k).wf = true) (hl : ks.length ≤ 2 ^ 20) :
    w.ownsMap P t RvB b ks.length (.map ((ks.map (fun k => ((Lit.int .i64 k, .lit (.bool true)) : Lit × DataW Unit))).foldr DataW.insert [])) := by
  obtain ⟨h1, h2⟩ := entries_rg ht ks 0 hwf
  have hlen : (entriesFrom 0 (kvB ks)).length = ks.length := by rw [entries_len]; simp [kvB]
  refine ⟨_, _, hm, ⟨?_, ⟨?_, ?_, ?_⟩, ?_⟩, ?_, ?_⟩
  · simp only [List.size_toArray, hlen]; unfold maxLen; omega
  · intro x hx
    have hb : x.born ∈ (entriesFrom 0 (kvB ks)).map (·.born) := List.mem_map.2 ⟨x, by simpa using hx, rfl⟩
    rw [entries_born, List.mem_range'_1] at hb
    omega
  · have : (entriesFrom 0 (kvB ks)).toArray.toList = entriesFrom 0 (kvB ks) := by simp
    rw [this, entries_born]; exact List.nodup_range'
  · have : (entriesFrom 0 (kvB ks)).toArray.toList = entriesFrom 0 (kvB ks) := by simp
    rw [this, entries_key]
    unfold kvB
    rw [List.map_map]
    exact List.Pairwise.map _ (fun a b hab e => hab (by simpa using e)) hnd
  · intro x hx; exact h2 x (by simpa using hx)
  · simp only [List.size_toArray, hlen]; exact Nat.le_refl _
  · have : (entriesFrom 0 (kvB ks)).toArray.toList = entriesFrom 0 (kvB ks) := by simp
    rw [this, h1]
def sortI (l : List Int) : List Int := l.mergeSort fun x y => decide (x ≤ y)
theorem sortI_one {l m : List Int} (p : l.Perm m) (hm : m.Pairwise (· ≤ ·)) : sortI l = m := by
  refine List.Perm.eq_of_pairwise (le := (· ≤ ·)) (fun a b _ _ h1 h2 => Int.le_antisymm h1 h2) ?_ hm ((List.mergeSort_perm ..).trans p)
  have := List.pairwise_mergeSort (le := fun x y : Int => decide (x ≤ y)) (fun a b c h1 h2 => by simp at *; omega) (fun a b => by simp; omega) l
  exact this.imp fun h => by simpa using h
theorem sortI_perm {l l' : List Int} (p : l.Perm l') : sortI l = sortI l' := by
  refine sortI_one (p.trans (List.mergeSort_perm l' fun x y => decide (x ≤ y)).symm) ?_
  have := List.pairwise_mergeSort (le := fun x y : Int => decide (x ≤ y)) (fun a b c h1 h2 => by simp at *; omega) (fun a b => by simp; omega) l'
  exact this.imp fun h => by simpa using h
theorem sorts_in (m : Nat) : AnyZI.SortsIn Try.prog Try.sortedA_ren Fence.wide m :=
  ⟨fun blk off cap ss W hH hblk hsz => callsIn_wide.2 (AnyG.slices_Sort_int Try.sort64 blk off cap ss W hH hblk hsz),
   fun p cap W => callsIn_wide.2 (AnyG.slices_Sort_int_none Try.sort64 p cap W)⟩
set_option maxHeartbeats 1000000 in
theorem SortedKeys_of {h : Heap} {a b : Nat} {ks : List Int} {K : Option Addr → Nat → Nat → Heap → Prop} (hbox : Hp.cell h ⟨a, 0, none⟩ = some (.map (some b))) (hm : mapAt h b (kvB ks)) (hnd : ks.Nodup) (hwf : ∀ k ∈ ks, (Lit.int .i64 k).wf = true) (hl : ks.length ≤ 2 ^ 20)
    (hk : ∀ h' q c, Ext h h' → valsAt h' q ((sortI ks).map (Value.int .i64)) → K q ks.length c h') : slices_Sorted_int64 (.func (.func 76) #[] #[.pointer (some ⟨a, 0, none⟩)]) h K := by
  intro w hw
  subst hw
  refine ⟨enters_of Try.func60 (by kernel_rfl) rfl _ _, ?_⟩
  have hown := owns_of Try.underlying2 hm hnd hwf hl
  generalize hD : (DataW.map ((ks.map (fun k => ((Lit.int .i64 k, .lit (.bool true)) : Lit × DataW Unit))).foldr DataW.insert [])) = D0 at hown
  have hsz : Maps.size D0 = ks.length := by rw [← hD, Maps.size_eq, Go.length_sorted]; simp
  have hcell : w.cell? ⟨a, 0, none⟩ = some (.map (some b)) := by rw [cell_eq]; exact hbox
  have hlt : a < w.heap.size := cell_lt (p := ⟨a, 0, none⟩) hbox
  have hseq : SeqGives Fence.wide 2 Try.prog 76 #[.pointer (some ⟨a, 0, none⟩)] encZ (fun ss => ss.Perm (intKeys D0)) (Maps.size D0) w :=
    AnyZI.keys_gives (ρ := Try.keysA_ren) { Try.keysA with } Fence.wide _ trivial rfl (by omega) a b ks.length D0 w hlt hcell hown
  have cS := AnyZI.sorted_in Try.sortedA Fence.wide 5 trivial trivial trivial trivial rfl (by omega) (sorts_in _) (enters_of Try.func75 (by kernel_rfl) rfl) 76 #[.pointer (some ⟨a, 0, none⟩)] trivial (enters_of Try.func76 (by kernel_rfl) rfl) _ _ (by rw [hsz]; unfold maxLen; omega) (by rw [hsz]; omega) _ hseq
  change CallsIn _ _ Try.prog 60 _ _ _ at cS
  refine (callsIn_wide.1 cS).mono ?_
  rintro e w' ⟨v, ss, rfl, hS, hrow, hnil, hB⟩
  have hp : ss.Perm ks := by
    refine hS.trans ?_
    rw [← hD]
    simp only [intKeys]
    refine ((Go.WideShapes.sorted_perm _).map _).trans (List.Perm.of_eq ?_)
    rw [List.map_map]
    exact (List.map_congr_left fun k _ => rfl).trans (List.map_id _)
  have hlen : ss.length = ks.length := hp.length_eq
  have eS : (ss.mergeSort fun x y => decide (x ≤ y)) = sortI ks := sortI_perm hp
  refine ⟨v, rfl, ⟨hB.tape, hB.os, hB.output, fun d => d.elim⟩, ?_⟩
  rw [eS] at hrow
  rcases hrow.2 with ⟨rfl, hz⟩ | ⟨gb, cap, cur, rfl, hbase, hgb, r1, r2, r3, r4⟩
  · have hss : ss = [] := List.eq_nil_of_length_eq_zero hz
    have hks : ks = [] := List.eq_nil_of_length_eq_zero (by rw [← hlen, hz])
    have := hk w'.heap none 0 ⟨hB.size, hB.block⟩ (by rw [hks]; intro i v hi; simp [sortI] at hi)
    rw [hks] at this
    exact this
  · have := hk w'.heap (some ⟨gb, 0, none⟩) cap ⟨hB.size, hB.block⟩ (fun i v hi => ⟨_, rfl, ?_⟩)
    · rw [← hlen] at this; exact this
    · rw [add_mk, Nat.zero_add]
      have : row w'.heap gb cur.toList := ⟨_, by simpa using hgb⟩
      rw [this.cell, ← hi]
      have hil := lt_get hi
      rw [← r4, List.getElem?_take]
      rw [if_pos]
      rw [List.length_map] at hil
      have : (sortI ks).length = ks.length := List.length_mergeSort ..
      omega
end Go.Proofs.Ytfidcekobjmamaa
