/-
  The frame of my own, part 5: operations that write, or make memory, as the model runs them.
-/
import Derived.Test.YtlfcfoodlbbbjaaFw4
import Derived.Laws.AppendOwn
import Derived.Laws.MakeOwn
namespace Go.Hp
set_option linter.unusedVariables false
set_option linter.unusedSimpArgs false

section
variable {P : Program} {ρ : Operand → Value}

theorem length_zeroRow (l : List Value) : ∀ n, (zeroRow l n).length = n * l.length
  | 0 => by simp [zeroRow]
  | n + 1 => by simp [zeroRow, length_zeroRow l n, Nat.add_mul]; omega

theorem zeroRow_get (l : List Value) : ∀ (n j : Nat), j < n * l.length → (zeroRow l n)[j]? = l[j % l.length]?
  | 0, j, h => by simp at h
  | n + 1, j, h => by
    simp only [zeroRow]
    by_cases hj : j < l.length
    · rw [List.getElem?_append_left hj, Nat.mod_eq_of_lt hj]
    · rw [List.getElem?_append_right (by omega), zeroRow_get l n (j - l.length) (by rw [Nat.add_mul] at h; omega), ← Nat.mod_eq_sub_mod (by omega)]

theorem rangeRow_eq (c : Array Value) (n : Nat) : ((Array.range (n * c.size)).map (c[· % c.size]!)) = (zeroRow c.toList n).toArray := by
  apply Array.ext'
  apply List.ext_getElem?
  intro j
  by_cases hj : j < n * c.size
  · have h0 : 0 < c.size := by
      rcases Nat.eq_zero_or_pos c.size with h | h
      · rw [h] at hj; simp at hj
      · exact h
    have hm : j % c.size < c.size := Nat.mod_lt _ h0
    have hz := zeroRow_get c.toList n j (by simpa using hj)
    simp only [Array.length_toList] at hz
    rw [hz]
    simp [hj, hm]
  · rw [List.getElem?_eq_none, List.getElem?_eq_none]
    · simp [length_zeroRow] at hj ⊢; omega
    · simp at hj ⊢; omega

theorem madeCells_eq (z : Value) (n : Nat) : madeCells z.cells (n * (cellsL z).length) = (zeroRow (cellsL z) n).toArray := by
  rw [← cells_size, ← cells_toList]; exact rangeRow_eq z.cells n
theorem zeroCells_eq (z : Value) (n : Nat) : Builtin.zeroCells z.cells n = (zeroRow (cellsL z) n).toArray := by
  rw [← cells_toList]; exact rangeRow_eq z.cells n

theorem stL_run : ∀ {vs : List Value} {h : Heap} {a : Addr} {i : Nat} {K : Heap → Prop}, stL vs h a i K → ∀ w : World, w.heap = h →
    ∃ w', (storeCells a vs i).run P w = .ok () w' ∧ Out w w' ∧ K w'.heap
  | [], h, a, i, K, hh, w, hw => ⟨w, by simp [storeCells], Out.refl w, by rw [hw]; exact hh⟩
  | v :: r, h, a, i, K, hh, w, hw => by
    simp only [stL] at hh
    split at hh
    · rename_i hf
      obtain ⟨⟨h1, h2⟩, hh⟩ := hh
      obtain ⟨w', hr, ho, hk⟩ := stL_run hh (w.setCell (a.add i) v) (by rw [setC_eq, hw])
      refine ⟨w', ?_, ⟨ho.1, ho.2, ho.3, ho.4⟩, hk⟩
      have h1' : (w.cell? (a.add i)).isSome = true := by rw [cell_eq, hw]; exact h1
      have h2' : w.frozen? (a.add i) = false := by rw [frz_eq, hw]; exact h2
      obtain ⟨u, hu⟩ := Option.isSome_iff_exists.1 h1'
      have hs : (store (a.add i) v).run P w = .ok () (w.setCell (a.add i) v) := by
        rw [run_store P w _ v _ (by cases v <;> first | rfl | cases hf)]
        simp [hu, h2']
      simp [storeCells, hs, hr]
    · exact hh.elim

theorem run_row {h : Heap} {q : Option Addr} {n len cap size : Nat} {vs : List Value} (hr : cellsAt h q (n * size) vs) (w : World) (hw : w.heap = h) :
    (Builtin.firstCells size n (.slice q len cap)).run P w = .ok vs.toArray w := by
  obtain ⟨hl, hr⟩ := hr
  cases q with
  | none =>
    have h0 : n * size = 0 := by
      rcases Nat.eq_zero_or_pos (n * size) with h | h
      · exact h
      · obtain ⟨a, ha, _⟩ := hr 0 h; cases ha
    rw [h0] at hl
    have : vs = [] := List.length_eq_zero_iff.1 hl
    subst this
    simp [Builtin.firstCells]
  | some a =>
    refine run_firstCells_some w size n a len cap vs hl fun j v hj => ?_
    have hlt : j < n * size := by
      rcases Nat.lt_or_ge j (n * size) with h | h
      · exact h
      · rw [List.getElem?_eq_none (by omega)] at hj; cases hj
    obtain ⟨b, hb, hc⟩ := hr j hlt
    cases hb
    rw [cell_eq, hw, hc, hj]

theorem appP_run {t u e ty : TypeId} {i : TypeInfo} {z : Value} {d : TypeDesc} (ht : P.underlying t = some (.slice e)) (hu : P.underlying u = some d) (hd : ∀ k, d ≠ .int k)
    (hi : P.info? e = some i) (hz : i.zero = some z) {q : Option Addr} {len cap n : Nat} {news : List Value} {x : Value} {h : Heap} {K : Option Addr → Nat → Nat → Heap → Prop}
    (hp : appP e i.size i.bytes (cellsL z) q len cap n news h K) (w : World) (hw : w.heap = h) (hx : ∀ w : World, (Builtin.lenOf x).run P w = .ok n w)
    (hf : ∀ w' : World, w'.heap = h → (Builtin.firstCells i.size n x).run P w' = .ok news.toArray w') :
    ∃ q' l' c' w', (Builtin.append_ #[t, u] ty #[.slice q len cap, x]).run P w = .ok (.slice q' l' c') w' ∧ Out w w' ∧ K q' l' c' w'.heap := by
  obtain ⟨h1, h2⟩ := hp
  by_cases hc : len + n ≤ cap
  · have hk := h1 hc
    cases q with
    | none =>
      refine ⟨none, len + n, cap, w, ?_, Out.refl w, by rw [hw]; exact hk⟩
      simp [Builtin.append_, run_underlying ht, run_sizeOf hi, run_underlying hu, hx, hf w hw, hc]
    | some a =>
      obtain ⟨w', hr, ho, hk⟩ := stL_run (P := P) hk w hw
      refine ⟨some a, len + n, cap, w', ?_, ho, hk⟩
      simp [Builtin.append_, run_underlying ht, run_sizeOf hi, run_underlying hu, hx, hf w hw, hc, hr]
  · obtain ⟨hb, hb2, olds, hro, hk⟩ := h2 (by omega)
    have hn : ¬ len + n ≤ cap := hc
    have hcut : len + n ≤ grownCap w (len + n) cap e := by simp [grownCap, Question.cut]
    refine ⟨some ⟨w.heap.size, 0, none⟩, len + n, grownCap w (len + n) cap e, w.drew.alloc (.cells (olds ++ news ++ zeroRow (cellsL z) (grownCap w (len + n) cap e - (len + n))).toArray e), ?_, ?_, ?_⟩
    rotate_left
    · exact ⟨rfl, rfl, rfl, fun _ => Nat.le_succ _⟩
    · have := hk _ hcut
      rw [← hw] at this
      exact this
    · have h48 : ¬ (281474976710656 < Builtin.nextslicecap (len + n) cap * i.bytes) := by
        have := growslice_fits (need := len + n) (old := cap) (bytes := i.bytes) (by omega) (by omega)
        omega
      have h63 : ¬ (9223372036854775807 < ((len : Int) + (n : Int)) ∧ i.bytes = 0) := by omega
      have hro' := run_row (P := P) (len := len) (cap := cap) hro w.drew (by show w.heap = h; exact hw)
      have hf' := hf w.drew (by show w.heap = h; exact hw)
      simp [Builtin.append_, run_underlying ht, run_sizeOf hi, run_underlying hu, hx, hn, h48, h63, Question.forced, run_info hi, run_zeroValue hi hz, hro', hf', newRow, grownCap, zeroCells_eq]

theorem lenOf_slice (q : Option Addr) (n c : Nat) (w : World) : (Builtin.lenOf (.slice q n c)).run P w = .ok n w := by simp [Builtin.lenOf]
theorem lenOf_string (s : ByteArray) (w : World) : (Builtin.lenOf (.string s)).run P w = .ok s.size w := by simp [Builtin.lenOf]
theorem first_string (size : Nat) (s : ByteArray) (w : World) : (Builtin.firstCells size s.size (.string s)).run P w = .ok (s.toList.map fun b => Value.int .u8 b.toNat).toArray w := by
  have hx : s.extract 0 s.size = s := by simp
  simp only [Builtin.firstCells, hx, Sem.run_pure]
  congr 1
  apply Array.ext'
  simp [ByteArray.toList_eq]

theorem storeVar_run {t : TypeId} {i : TypeInfo} (hi : P.info? t = some i) {a : Addr} {v : Value} (hs : i.size = (cellsL v).length) {h : Heap} {K : Heap → Prop} (hk : stL (cellsL v) h a 0 K) (w : World) (hw : w.heap = h) :
    ∃ w', (Instr.storeAt t (.pointer (some a)) v).run P w = .ok () w' ∧ Out w w' ∧ K w'.heap := by
  obtain ⟨w', hr, ho, hk⟩ := stL_run (P := P) hk w hw
  refine ⟨w', ?_, ho, hk⟩
  simp [Instr.storeAt, Instr.sureAddr, storeVar, run_sizeOf hi, cells_size, hs, cells_toList, hr]

theorem writeV_run {o : Oper} {h : Heap} {K : Value → Heap → Prop} (hh : writeV P o.op ((opsOf o.op).map ρ) h K) (w : World) (hw : w.heap = h) :
    ∃ v nx w', (execOp ρ o).run P w = .ok nx w' ∧ (nx = .value v ∨ (nx = .skip ∧ v = undef)) ∧ Out w w' ∧ K v w'.heap := by
  obtain ⟨dst, op, type, pos, after, guard⟩ := o
  simp only at hh
  unfold writeV at hh
  split at hh
  case h_1 he =>
    split at hh
    · rename_i hi
      refine ⟨_, _, w.alloc (.cells (cellsL _).toArray _), ?_, .inl rfl, ⟨rfl, rfl, rfl, fun _ => Nat.le_refl _⟩, by rw [← hw] at hh; exact hh⟩
      simp [execOp, Instr.alloc, run_zeroValue hi rfl, newVar, newRow, ← cells_toList, hw]
    · exact hh.elim
  case h_2 he =>
    simp [opsOf] at he
    refine ⟨_, _, w.alloc (.cells (cellsL _).toArray _), ?_, .inl rfl, ⟨rfl, rfl, rfl, fun _ => Nat.le_refl _⟩, by rw [← hw] at hh; exact hh⟩
    simp [execOp, he, Instr.box, newVar, newRow, ← cells_toList, hw]
  case h_3 t x y a v he =>
    simp [opsOf] at he
    split at hh
    · rename_i i hi
      rw [bif_and] at hh
      obtain ⟨hb, hh⟩ := hh
      have hs := Nat.eq_of_beq_eq_true hb
      have hst : stL (cellsL v) h a 0 fun h' => K undef h' := by
        split at hh
        · rename_i hc
          rw [hc]
          split at hh
          · rename_i hf
            simp only [stL, hf, Addr.add_zero']
            exact hh
          · exact hh.elim
        · exact hh
      obtain ⟨w', hr, ho, hk⟩ := storeVar_run hi hs hst w hw
      refine ⟨undef, .skip, w', ?_, .inr ⟨rfl, rfl⟩, ho, hk⟩
      simp [execOp, he.1, he.2, hr]
    · exact hh.elim
  case h_4 =>
    rename_i t len ps
    split at hh
    · rename_i e hu
      split at hh
      · rename_i desc str size bytes hp al fa z cm ms hi
        rw [bif_and] at hh
        obtain ⟨hb, hh⟩ := hh
        rw [Bool.and_eq_true] at hb
        split at hh
        · rename_i cs hf
          have hz : (ps.toList.map (·.1)).zip ((ps.toList.map (·.2)).map ρ) = (ps.map fun (i, x) => (i, ρ x)).toList := by
            rw [List.map_map]
            exact (zip_map_fst ps.toList ρ).trans (by simp)
          simp only [opsOf] at hf
          have hfill := fillL_fill (place' := fun i => some (i * size, size)) (fun i x hx => hx) _ _ _ _ hf
          rw [hz] at hfill
          have hs : size = (cellsL z).length := Nat.eq_of_beq_eq_true hb.2
          have hle : len * size ≤ 100000 := Nat.le_of_ble_eq_true hb.1
          have hrow : ((Array.range (len * size)).map (z.cells[· % z.cells.size]!)) = (zeroRow (cellsL z) len).toArray := by
            rw [hs, ← cells_size, ← cells_toList]; exact rangeRow_eq z.cells len
          have hb24 : ¬ (len * size > 2 ^ 24) := by omega
          refine ⟨_, _, w.alloc (.cells cs.toArray e), ?_, .inl rfl, ⟨rfl, rfl, rfl, fun _ => Nat.le_refl _⟩, by rw [← hw] at hh; exact hh⟩
          by_cases h0 : len * size = 0
          · have hnil : zeroRow (cellsL z) len = [] := by
              apply List.length_eq_zero_iff.1; rw [length_zeroRow, ← hs]; exact h0
            rw [hnil] at hfill
            have h0' : len = 0 ∨ size = 0 := Nat.mul_eq_zero.1 h0
            simp only [execOp, Instr.buildSlice, Sem.run_bind, run_underlying hu, Result.andThen, run_sizeOf hi, if_neg hb24, h0]
            simp at hfill
            simp [hfill, newRow, Array.range_zero']
          · simp only [execOp, Instr.buildSlice, Sem.run_bind, run_underlying hu, Result.andThen, run_sizeOf hi, if_neg hb24, if_neg h0, run_zeroValue hi rfl]
            rw [← hrow] at hfill
            simp at hfill
            simp [hfill, newRow, run_zeroValue hi rfl]
        · exact hh.elim
      · exact hh.elim
    · exact hh.elim
  case h_5 t x y kl l kc c he =>
    simp [opsOf] at he
    split at hh
    · rename_i e hu
      split at hh
      · rename_i desc str size bytes hp al fa z cm ms hi
        rw [bif_and] at hh
        obtain ⟨hb, ⟨h0, h1, h2, h3⟩, hh⟩ := hh
        have hs := Nat.eq_of_beq_eq_true hb
        have := run_make (P := P) w t e _ z hu hi rfl kl kc l c h0 h1 (by show (bytes : Int) * c ≤ _; rw [Int.mul_comm]; omega) (by omega)
        rw [hs, madeCells_eq] at this
        exact ⟨_, .value (.slice (some ⟨w.heap.size, 0, none⟩) l.toNat c.toNat), w.alloc (.cells (zeroRow (cellsL z) c.toNat).toArray e), by simp [execOp, he.1, he.2, this], .inl rfl, ⟨rfl, rfl, rfl, fun _ => Nat.le_refl _⟩, by rw [← hw] at hh; exact hh⟩
      · exact hh.elim
    · exact hh.elim
  case h_6 args tys s x he =>
    simp only [opsOf] at he
    split at hh
    · rename_i t u ht
      split at hh
      · exact hh.elim
      · rename_i d hd hu
        unfold appK at hh
        split at hh
        · rename_i e hut
          split at hh
          · rename_i z hi
            split at hh
            · split at hh
              · rename_i q2 n2 c2
                obtain ⟨news, hr, hp⟩ := hh
                obtain ⟨q', l', c', w', hrun, ho, hk⟩ := appP_run (ty := type) hut hu (fun k hk => hd k (by rw [hk])) hi rfl hp w hw (lenOf_slice q2 n2 c2) (fun w' hw' => run_row hr w' hw')
                exact ⟨_, _, w', by simp [execOp, resolve, invoke, builtin, arr_map he, arr_one ht, hrun], .inl rfl, ho, hk⟩
              · obtain ⟨q', l', c', w', hrun, ho, hk⟩ := appP_run (ty := type) hut hu (fun k hk => hd k (by rw [hk])) hi rfl hh w hw (lenOf_string _) (fun w' hw' => first_string _ _ w')
                exact ⟨_, _, w', by simp [execOp, resolve, invoke, builtin, arr_map he, arr_one ht, hrun], .inl rfl, ho, hk⟩
              · exact hh.elim
            · exact hh.elim
          · exact hh.elim
        · exact hh.elim
      · exact hh.elim
    · exact hh.elim
  case h_7 args tys q len cap q2 n c2 he =>
    simp only [opsOf] at he
    split at hh
    · rename_i t r ht
      split at hh
      · rename_i e size hes
        obtain ⟨i, hu, hi, hs⟩ := elemSize_parts hes
        subst hs
        obtain ⟨news, hr, hp⟩ := hh
        have hrun := run_row (P := P) (len := n) (cap := c2) hr w hw
        cases q with
        | none =>
          exact ⟨_, .value (.int .i64 (Nat.min n len : Nat)), w, by simp [execOp, resolve, invoke, builtin, arr_map he, arr_one ht, Builtin.copy_, run_underlying hu, lenOf_slice, run_sizeOf hi, hrun, goInt], .inl rfl, Out.refl w, by rw [hw]; exact hp⟩
        | some a =>
          obtain ⟨w', hst, ho, hk⟩ := stL_run (P := P) hp w hw
          exact ⟨_, .value (.int .i64 (Nat.min n len : Nat)), w', by simp [execOp, resolve, invoke, builtin, arr_map he, arr_one ht, Builtin.copy_, run_underlying hu, lenOf_slice, run_sizeOf hi, hrun, goInt, hst], .inl rfl, ho, hk⟩
      · exact hh.elim
    · exact hh.elim
  case h_8 args tys q n c he =>
    simp only [opsOf] at he
    split at hh
    · rename_i t ht
      split at hh
      · rename_i e hu
        split at hh
        · rename_i z hi
          cases q with
          | none => exact ⟨_, .value (.tuple #[]), w, by simp [execOp, resolve, invoke, builtin, arr_map he, arr_one ht, Builtin.clear_, run_underlying hu], .inl rfl, Out.refl w, by rw [hw]; exact hh⟩
          | some a =>
            obtain ⟨w', hst, ho, hk⟩ := stL_run (P := P) hh w hw
            refine ⟨_, .value (.tuple #[]), w', ?_, .inl rfl, ho, hk⟩
            cases n with
            | zero =>
              simp only [zeroRow, storeCells] at hst
              cases hst
              simp [execOp, resolve, invoke, builtin, arr_map he, arr_one ht, Builtin.clear_, run_underlying hu]
            | succ n => simp [execOp, resolve, invoke, builtin, arr_map he, arr_one ht, Builtin.clear_, run_underlying hu, run_zeroValue hi rfl, zeroCells_eq, hst]
        · exact hh.elim
      · exact hh.elim
    · exact hh.elim
  case h_9 => exact hh.elim
end
end Go.Hp
