/-
  Texts: strings.Builder: WriteString, WriteByte.
-/
import Derived.Test.YtnepdopakngpfaaDoorZ5
namespace Go.Proofs.YtnepdopakngpfaaDoor
set_option linter.unusedVariables false
set_option linter.unusedSimpArgs false
open Go.Proofs Go.Shelf Go.RowKit Go.Lib
/-- A builder that has written. -/
abbrev Used (B b : Nat) (bs : List Value) (w : World) : Prop := BuilderAt 75 5 B b (.pointer (some ⟨b, 0, none⟩)) bs w
abbrev Bldr (B b : Nat) (bs : List Value) (w : World) : Prop := IsBuilder 75 5 B b bs w
theorem check_any (B b : Nat) (bs : List Value) (w : World) (h : Bldr B b bs w) :
    Calls Tryd.prog 64 #[.pointer (some ⟨b, 0, none⟩)] w fun e w' => e = .returned (.tuple #[]) ∧ Used B b bs w' ∧ Below B w w' := by
  rcases h with h | h
  · refine (check_fresh b w h.cell0 h.shape h.frozen0).mono ?_
    rintro e w' ⟨rfl, rfl⟩
    exact ⟨rfl, h.used _, (Below.refl B w).setCell (p := ⟨b, 0, none⟩) h.1 _⟩
  · refine (check_used b w h.cell0).mono ?_
    rintro e w' ⟨rfl, rfl⟩
    exact ⟨rfl, h, Below.refl B _⟩
theorem lt_of_some {w : World} {b : Nat} {o : Obj} (h : w.heap[b]? = some o) : b < w.heap.size := (Array.getElem?_eq_some_iff.1 h).1
theorem own_slice {w : World} {B e n : Nat} {v : Value} {xs : List Value} (h : w.ownsRow B e 1 v n xs) : ∃ a m c, v = .slice a m c := by
  rcases h.2 with ⟨h, _⟩ | ⟨g, cap, cur, h, _⟩ <;> exact ⟨_, _, _, h⟩
set_option maxHeartbeats 1000000 in
set_option maxRecDepth 100000 in
theorem write_string (B b : Nat) (bs : List Value) (s : ByteArray) (w : World) (h : Bldr B b bs w) (hl : bs.length + s.size ≤ 2 ^ 40) (hB0 : B ≤ w.heap.size) :
    Calls Tryd.prog 47 #[.pointer (some ⟨b, 0, none⟩), .string s] w fun e w' => e = .returned (.tuple #[.int .i64 s.size, .nilIface]) ∧ Used B b (bs ++ strCells s) w' ∧ Below B w w' := by
  obtain ⟨i0, hi, z0, z1, z2⟩ := info_parts (show (Tryd.prog.info? 5).map (fun i => (i.zero, i.size, i.bytes)) = some (some (.int .u8 0), 1, 1) by kernel_rfl)
  have e64 : ∀ args w, (callFunc 64 args).run Tryd.prog w = .ok (.enter 64 args) w := enters_of Tryd.func64 (by kernel_rfl) rfl
  go_enter Tryd.func47, Tryd.ntmps47
  go_wp2_with (go_at_call 64; refine (check_any B b bs _ h).mono ?_)
  rintro e w1 ⟨rfl, h1, u1⟩
  obtain ⟨hB, v, hk, own1, ne1⟩ := h1
  have k0 : w1.cell? ⟨b, 0, none⟩ = some (.pointer (some ⟨b, 0, none⟩)) := by rw [cell_of_heap hk]; rfl
  have k1 : w1.cell? ⟨b, 1, none⟩ = some v := by rw [cell_of_heap hk]; rfl
  have hB1 : B ≤ w1.heap.size := Nat.le_trans hB0 u1.size
  go_wp2_with (at_builtin; refine wpList_append_own_string _ rfl _ _ 73 9 rfl B 5 i0 Tryd.underlying73 Tryd.underlying9 hi z0 z1 z2 _ _ _ rfl own1 s rfl (by unfold maxLen; omega) (by omega) hB1 ?_)
  intro v' w2 own2 grew _
  have hk2 : w2.heap[b]? = some (.cells #[.pointer (some ⟨b, 0, none⟩), v] 75 (0, 0)) := by rw [grew.block b (lt_of_some hk) (fun e => ne1 e.symm)]; exact hk
  have q0 : w2.cell? ⟨b, 0, none⟩ = some (.pointer (some ⟨b, 0, none⟩)) := by rw [cell_of_heap hk2]; rfl
  have q1 : w2.cell? ⟨b, 1, none⟩ = some v := by rw [cell_of_heap hk2]; rfl
  have q2 : w2.frozen? ⟨b, 1, none⟩ = false := frozen_of_heap hk2 1
  obtain ⟨a', m', c', rfl⟩ := own_slice own2
  go_wp2
  go_ret2
  refine ⟨rfl, BuilderAt.put (T := 75) (e := 5) hB hk2 (bs' := bs ++ strCells s) (by simpa [strCells_length] using own2) (by decide), ?_⟩
  exact (u1.grown grew hB1 (fun k hk => (own1.lt k hk).1)).setCell (p := ⟨b, 1, none⟩) hB _
set_option maxHeartbeats 1000000 in
set_option maxRecDepth 100000 in
theorem write_byte (B b : Nat) (bs : List Value) (c : Int) (w : World) (h : Bldr B b bs w) (hl : bs.length ≤ 2 ^ 40) (hB0 : B ≤ w.heap.size) :
    Calls Tryd.prog 48 #[.pointer (some ⟨b, 0, none⟩), .int .u8 c] w fun e w' => e = .returned .nilIface ∧ Used B b (bs ++ [.int .u8 c]) w' ∧ Below B w w' := by
  obtain ⟨i0, hi, z0, z1, z2⟩ := info_parts (show (Tryd.prog.info? 5).map (fun i => (i.zero, i.size, i.bytes)) = some (some (.int .u8 0), 1, 1) by kernel_rfl)
  have e64 : ∀ args w, (callFunc 64 args).run Tryd.prog w = .ok (.enter 64 args) w := enters_of Tryd.func64 (by kernel_rfl) rfl
  go_enter Tryd.func48, Tryd.ntmps48
  go_wp2_with (go_at_call 64; refine (check_any B b bs _ h).mono ?_)
  rintro e w1 ⟨rfl, h1, u1⟩
  obtain ⟨hB, v, hk, own1, ne1⟩ := h1
  have k0 : w1.cell? ⟨b, 0, none⟩ = some (.pointer (some ⟨b, 0, none⟩)) := by rw [cell_of_heap hk]; rfl
  have k1 : w1.cell? ⟨b, 1, none⟩ = some v := by rw [cell_of_heap hk]; rfl
  have hB1 : B ≤ w1.heap.size := Nat.le_trans hB0 u1.size
  have hlt := lt_of_some hk
  go_wp2_with (at_builtin; refine wpList_append_own _ rfl _ _ 73 rfl B 5 i0 (.int .u8 0) 1 1 Tryd.underlying73 hi z0 z1 z2 rfl (by decide) _ _ _ rfl (own1.alloc _) ⟨w1.heap.size, 0, none⟩ 1 1 [.int .u8 c] rfl rfl ?r1 ?r2 ?r3 ?r4 ?r5 ?_)
  case r1 =>
    intro j u hj
    match j, hj with
    | 0, hj => simp at hj; subst hj; simp [Addr.add]
  case r2 => intro u hu; simp at hu; subst hu; rfl
  case r3 => unfold maxLen; omega
  case r4 => omega
  case r5 => simp; omega
  intro v' w2 own2 grew _
  have hk2 : w2.heap[b]? = some (.cells #[.pointer (some ⟨b, 0, none⟩), v] 75 (0, 0)) := by
    rw [grew.block b (by simp; omega) (fun e => ne1 e.symm), alloc_old w1 _ b hlt]
    exact hk
  have q0 : w2.cell? ⟨b, 0, none⟩ = some (.pointer (some ⟨b, 0, none⟩)) := by rw [cell_of_heap hk2]; rfl
  have q1 : w2.cell? ⟨b, 1, none⟩ = some v := by rw [cell_of_heap hk2]; rfl
  have q2 : w2.frozen? ⟨b, 1, none⟩ = false := frozen_of_heap hk2 1
  obtain ⟨a', m', c', rfl⟩ := own_slice own2
  go_wp2
  go_ret
  refine ⟨rfl, BuilderAt.put (T := 75) (e := 5) hB hk2 (bs' := bs ++ [.int .u8 c]) (by simpa using own2) (by decide), ?_⟩
  exact ((u1.alloc hB1 _).grown grew (by simp; omega) (fun k hk => (own1.lt k hk).1)).setCell (p := ⟨b, 1, none⟩) hB _
end Go.Proofs.YtnepdopakngpfaaDoor
