/-
  The frame of my own, part 5: operations that write, or make memory, as the model runs them.
-/
import Derived.Test.YtokemibmanjpmaaGreatDoorFw4
import Derived.Laws.AppendOwn
import Derived.Laws.MakeOwn
import Derived.Maps.RangeRun
import Derived.Lib.OthersKept
namespace Go.Hp
set_option linter.unusedVariables false
set_option linter.unusedSimpArgs false

section
variable {P : Program} {ρ : Operand → Value}

theorem length_zeroRow (l : List Value) : ∀ n, (zeroRow l n).length = n * l.length
  | 0 => by simp [zeroRow]
  | n + 1 => by simp [zeroRow, length_zeroRow l n, Nat.add_mul]; omega

theorem zeroRow_get (l : List Value) : ∀ (n j : Nat), j < n * l.length → (zeroRow l n)[j]? = l[j % l.length]?
  | 0, j, h => by simp at h
  | n + 1, j, h => by
    simp only [zeroRow]
    by_cases hj : j < l.length
    · rw [List.getElem?_append_left hj, Nat.mod_eq_of_lt hj]
    · rw [List.getElem?_append_right (by omega), zeroRow_get l n (j - l.length) (by rw [Nat.add_mul] at h; omega), ← Nat.mod_eq_sub_mod (by omega)]

theorem rangeRow_eq (c : Array Value) (n : Nat) : ((Array.range (n * c.size)).map (c[· % c.size]!)) = (zeroRow c.toList n).toArray := by
  apply Array.ext'
  apply List.ext_getElem?
  intro j
  by_cases hj : j < n * c.size
  · have h0 : 0 < c.size := by
      rcases Nat.eq_zero_or_pos c.size with h | h
      · rw [h] at hj; simp at hj
      · exact h
    have hm : j % c.size < c.size := Nat.mod_lt _ h0
    have hz := zeroRow_get c.toList n j (by simpa using hj)
    simp only [Array.length_toList] at hz
    rw [hz]
    simp [hj, hm]
  · rw [List.getElem?_eq_none, List.getElem?_eq_none]
    · simp [length_zeroRow] at hj ⊢; omega
    · simp at hj ⊢; omega

theorem madeCells_eq (z : Value) (n : Nat) : madeCells z.cells (n * (cellsL z).length) = (zeroRow (cellsL z) n).toArray := by
  rw [← cells_size, ← cells_toList]; exact rangeRow_eq z.cells n
theorem zeroCells_eq (z : Value) (n : Nat) : Builtin.zeroCells z.cells n = (zeroRow (cellsL z) n).toArray := by
  rw [← cells_toList]; exact rangeRow_eq z.cells n

theorem stL_run [DKc] : ∀ {vs : List Value} {h : Heap} {a : Addr} {i : Nat} {K : Heap → Prop}, stL vs h a i K → ∀ w : World, w.heap = h →
    ∃ w', (storeCells a vs i).run P w = .ok () w' ∧ Out w w' ∧ K w'.heap
  | [], h, a, i, K, hh, w, hw => ⟨w, by simp [storeCells], Out.refl w, by rw [hw]; exact hh⟩
  | v :: r, h, a, i, K, hh, w, hw => by
    simp only [stL] at hh
    split at hh
    · rename_i hf
      obtain ⟨⟨h1, h2⟩, hh⟩ := hh
      obtain ⟨w', hr, ho, hk⟩ := stL_run hh (w.setCell (a.add i) v) (by rw [setC_eq, hw])
      refine ⟨w', ?_, ⟨ho.1, ho.2, ho.3, ho.4⟩, hk⟩
      have h1' : (w.cell? (a.add i)).isSome = true := by rw [cell_eq, hw]; exact h1
      have h2' : w.frozen? (a.add i) = false := by rw [frz_eq, hw]; exact h2
      obtain ⟨u, hu⟩ := Option.isSome_iff_exists.1 h1'
      have hs : (store (a.add i) v).run P w = .ok () (w.setCell (a.add i) v) := by
        rw [run_store P w _ v _ (by cases v <;> first | rfl | cases hf)]
        simp [hu, h2']
      simp [storeCells, hs, hr]
    · exact hh.elim

theorem run_row {h : Heap} {q : Option Addr} {n len cap size : Nat} {vs : List Value} (hr : cellsAt h q (n * size) vs) (w : World) (hw : w.heap = h) :
    (Builtin.firstCells size n (.slice q len cap)).run P w = .ok vs.toArray w := by
  obtain ⟨hl, hr⟩ := hr
  cases q with
  | none =>
    have h0 : n * size = 0 := by
      rcases Nat.eq_zero_or_pos (n * size) with h | h
      · exact h
      · obtain ⟨a, ha, _⟩ := hr 0 h; cases ha
    rw [h0] at hl
    have : vs = [] := List.length_eq_zero_iff.1 hl
    subst this
    simp [Builtin.firstCells]
  | some a =>
    refine run_firstCells_some w size n a len cap vs hl fun j v hj => ?_
    have hlt : j < n * size := by
      rcases Nat.lt_or_ge j (n * size) with h | h
      · exact h
      · rw [List.getElem?_eq_none (by omega)] at hj; cases hj
    obtain ⟨b, hb, hc⟩ := hr j hlt
    cases hb
    rw [cell_eq, hw, hc, hj]

theorem appP_run [DKc] {t u e ty : TypeId} {i : TypeInfo} {z : Value} {d : TypeDesc} (ht : P.underlying t = some (.slice e)) (hu : P.underlying u = some d) (hd : ∀ k, d ≠ .int k)
    (hi : P.info? e = some i) (hz : i.zero = some z) {q : Option Addr} {len cap n : Nat} {news : List Value} {x : Value} {h : Heap} {K : Option Addr → Nat → Nat → Heap → Prop}
    (hp : appP e i.size i.bytes (cellsL z) q len cap n news h K) (w : World) (hw : w.heap = h) (hx : ∀ w : World, (Builtin.lenOf x).run P w = .ok n w)
    (hf : ∀ w' : World, w'.heap = h → (Builtin.firstCells i.size n x).run P w' = .ok news.toArray w') :
    ∃ q' l' c' w', (Builtin.append_ #[t, u] ty #[.slice q len cap, x]).run P w = .ok (.slice q' l' c') w' ∧ Out w w' ∧ K q' l' c' w'.heap := by
  obtain ⟨h1, h2⟩ := hp
  by_cases hc : len + n ≤ cap
  · have hk := h1 hc
    cases q with
    | none =>
      refine ⟨none, len + n, cap, w, ?_, Out.refl w, by rw [hw]; exact hk⟩
      simp [Builtin.append_, run_underlying ht, run_sizeOf hi, run_underlying hu, hx, hf w hw, hc]
    | some a =>
      obtain ⟨w', hr, ho, hk⟩ := stL_run (P := P) hk w hw
      refine ⟨some a, len + n, cap, w', ?_, ho, hk⟩
      simp [Builtin.append_, run_underlying ht, run_sizeOf hi, run_underlying hu, hx, hf w hw, hc, hr]
  · obtain ⟨hb, hb2, olds, hro, hk⟩ := h2 (by omega)
    have hn : ¬ len + n ≤ cap := hc
    have hcut : len + n ≤ grownCap w (len + n) cap e := by simp [grownCap, Question.cut]
    refine ⟨some ⟨w.heap.size, 0, none⟩, len + n, grownCap w (len + n) cap e, w.drew.alloc (.cells (olds ++ news ++ zeroRow (cellsL z) (grownCap w (len + n) cap e - (len + n))).toArray e), ?_, ?_, ?_⟩
    rotate_left
    · exact ⟨rfl, rfl, rfl, fun _ => Nat.le_succ _⟩
    · have := hk _ hcut
      rw [← hw] at this
      exact this
    · have h48 : ¬ (281474976710656 < Builtin.nextslicecap (len + n) cap * i.bytes) := by
        have := growslice_fits (need := len + n) (old := cap) (bytes := i.bytes) (by omega) (by omega)
        omega
      have h63 : ¬ (9223372036854775807 < ((len : Int) + (n : Int)) ∧ i.bytes = 0) := by omega
      have hro' := run_row (P := P) (len := len) (cap := cap) hro w.drew (by show w.heap = h; exact hw)
      have hf' := hf w.drew (by show w.heap = h; exact hw)
      simp [Builtin.append_, run_underlying ht, run_sizeOf hi, run_underlying hu, hx, hn, h48, h63, Question.forced, run_info hi, run_zeroValue hi hz, hro', hf', newRow, grownCap, zeroCells_eq]

theorem lenOf_slice (q : Option Addr) (n c : Nat) (w : World) : (Builtin.lenOf (.slice q n c)).run P w = .ok n w := by simp [Builtin.lenOf]
theorem lenOf_string (s : ByteArray) (w : World) : (Builtin.lenOf (.string s)).run P w = .ok s.size w := by simp [Builtin.lenOf]
theorem first_string (size : Nat) (s : ByteArray) (w : World) : (Builtin.firstCells size s.size (.string s)).run P w = .ok (s.toList.map fun b => Value.int .u8 b.toNat).toArray w := by
  have hx : s.extract 0 s.size = s := by simp
  simp only [Builtin.firstCells, hx, Sem.run_pure]
  congr 1
  apply Array.ext'
  simp [ByteArray.toList_eq]

theorem storeVar_run [DKc] {t : TypeId} {i : TypeInfo} (hi : P.info? t = some i) {a : Addr} {v : Value} (hs : i.size = (cellsL v).length) {h : Heap} {K : Heap → Prop} (hk : stL (cellsL v) h a 0 K) (w : World) (hw : w.heap = h) :
    ∃ w', (Instr.storeAt t (.pointer (some a)) v).run P w = .ok () w' ∧ Out w w' ∧ K w'.heap := by
  obtain ⟨w', hr, ho, hk⟩ := stL_run (P := P) hk w hw
  refine ⟨w', ?_, ho, hk⟩
  simp [Instr.storeAt, Instr.sureAddr, storeVar, run_sizeOf hi, cells_size, hs, cells_toList, hr]

theorem writeV_run [DKc] {o : Oper} {h : Heap} {K : Value → Heap → Prop} (hh : writeV P o.op ((opsOf o.op).map ρ) h K) (w : World) (hw : w.heap = h) :
    ∃ v nx w', (execOp ρ o).run P w = .ok nx w' ∧ (nx = .value v ∨ (nx = .skip ∧ v = undef)) ∧ Out w w' ∧ K v w'.heap := by
  obtain ⟨dst, op, type, pos, after, guard⟩ := o
  simp only at hh
  unfold writeV at hh
  split at hh
  case h_1 he =>
    split at hh
    · rename_i hi
      refine ⟨_, _, w.alloc (.cells (cellsL _).toArray _), ?_, .inl rfl, ⟨rfl, rfl, rfl, fun _ => Nat.le_refl _⟩, by rw [← hw] at hh; exact hh⟩
      simp [execOp, Instr.alloc, run_zeroValue hi rfl, newVar, newRow, ← cells_toList, hw]
    · exact hh.elim
  case h_2 he =>
    simp [opsOf] at he
    refine ⟨_, _, w.alloc (.cells (cellsL _).toArray _), ?_, .inl rfl, ⟨rfl, rfl, rfl, fun _ => Nat.le_refl _⟩, by rw [← hw] at hh; exact hh⟩
    simp [execOp, he, Instr.box, newVar, newRow, ← cells_toList, hw]
  case h_3 t x y a v he =>
    simp [opsOf] at he
    split at hh
    · rename_i i hi
      rw [bif_and] at hh
      obtain ⟨hb, hh⟩ := hh
      have hs := Nat.eq_of_beq_eq_true hb
      have hst : stL (cellsL v) h a 0 fun h' => K undef h' := by
        split at hh
        · rename_i hc
          rw [hc]
          split at hh
          · rename_i hf
            simp only [stL, hf, Addr.add_zero']
            exact hh
          · exact hh.elim
        · exact hh
      obtain ⟨w', hr, ho, hk⟩ := storeVar_run hi hs hst w hw
      refine ⟨undef, .skip, w', ?_, .inr ⟨rfl, rfl⟩, ho, hk⟩
      simp [execOp, he.1, he.2, hr]
    · exact hh.elim
  case h_4 =>
    rename_i t len ps
    split at hh
    · rename_i e hu
      split at hh
      · rename_i desc str size bytes hp al fa z cm ms hi
        rw [bif_and] at hh
        obtain ⟨hb, hh⟩ := hh
        rw [Bool.and_eq_true] at hb
        split at hh
        · rename_i cs hf
          have hz : (ps.toList.map (·.1)).zip ((ps.toList.map (·.2)).map ρ) = (ps.map fun (i, x) => (i, ρ x)).toList := by
            rw [List.map_map]
            exact (zip_map_fst ps.toList ρ).trans (by simp)
          simp only [opsOf] at hf
          have hfill := fillL_fill (place' := fun i => some (i * size, size)) (fun i x hx => hx) _ _ _ _ hf
          rw [hz] at hfill
          have hs : size = (cellsL z).length := Nat.eq_of_beq_eq_true hb.2
          have hle : len * size ≤ 100000 := Nat.le_of_ble_eq_true hb.1
          have hrow : ((Array.range (len * size)).map (z.cells[· % z.cells.size]!)) = (zeroRow (cellsL z) len).toArray := by
            rw [hs, ← cells_size, ← cells_toList]; exact rangeRow_eq z.cells len
          have hb24 : ¬ (len * size > 2 ^ 24) := by omega
          refine ⟨_, _, w.alloc (.cells cs.toArray e), ?_, .inl rfl, ⟨rfl, rfl, rfl, fun _ => Nat.le_refl _⟩, by rw [← hw] at hh; exact hh⟩
          by_cases h0 : len * size = 0
          · have hnil : zeroRow (cellsL z) len = [] := by
              apply List.length_eq_zero_iff.1; rw [length_zeroRow, ← hs]; exact h0
            rw [hnil] at hfill
            have h0' : len = 0 ∨ size = 0 := Nat.mul_eq_zero.1 h0
            simp only [execOp, Instr.buildSlice, Sem.run_bind, run_underlying hu, Result.andThen, run_sizeOf hi, if_neg hb24, h0]
            simp at hfill
            simp [hfill, newRow, Array.range_zero']
          · simp only [execOp, Instr.buildSlice, Sem.run_bind, run_underlying hu, Result.andThen, run_sizeOf hi, if_neg hb24, if_neg h0, run_zeroValue hi rfl]
            rw [← hrow] at hfill
            simp at hfill
            simp [hfill, newRow, run_zeroValue hi rfl]
        · exact hh.elim
      · exact hh.elim
    · exact hh.elim
  case h_5 t x y kl l kc c he =>
    simp [opsOf] at he
    split at hh
    · rename_i e hu
      split at hh
      · rename_i desc str size bytes hp al fa z cm ms hi
        rw [bif_and] at hh
        obtain ⟨hb, ⟨h0, h1, h2, h3⟩, hh⟩ := hh
        have hs := Nat.eq_of_beq_eq_true hb
        have := run_make (P := P) w t e _ z hu hi rfl kl kc l c h0 h1 (by show (bytes : Int) * c ≤ _; rw [Int.mul_comm]; omega) (by omega)
        rw [hs, madeCells_eq] at this
        exact ⟨_, .value (.slice (some ⟨w.heap.size, 0, none⟩) l.toNat c.toNat), w.alloc (.cells (zeroRow (cellsL z) c.toNat).toArray e), by simp [execOp, he.1, he.2, this], .inl rfl, ⟨rfl, rfl, rfl, fun _ => Nat.le_refl _⟩, by rw [← hw] at hh; exact hh⟩
      · exact hh.elim
    · exact hh.elim
  case h_6 args tys s x he =>
    simp only [opsOf] at he
    split at hh
    · rename_i t u ht
      split at hh
      · exact hh.elim
      · rename_i d hd hu
        unfold appK at hh
        split at hh
        · rename_i e hut
          split at hh
          · rename_i z hi
            split at hh
            · split at hh
              · rename_i q2 n2 c2
                obtain ⟨news, hr, hp⟩ := hh
                obtain ⟨q', l', c', w', hrun, ho, hk⟩ := appP_run (ty := type) hut hu (fun k hk => hd k (by rw [hk])) hi rfl hp w hw (lenOf_slice q2 n2 c2) (fun w' hw' => run_row hr w' hw')
                exact ⟨_, _, w', by simp [execOp, resolve, invoke, builtin, arr_map he, arr_one ht, hrun], .inl rfl, ho, hk⟩
              · obtain ⟨q', l', c', w', hrun, ho, hk⟩ := appP_run (ty := type) hut hu (fun k hk => hd k (by rw [hk])) hi rfl hh w hw (lenOf_string _) (fun w' hw' => first_string _ _ w')
                exact ⟨_, _, w', by simp [execOp, resolve, invoke, builtin, arr_map he, arr_one ht, hrun], .inl rfl, ho, hk⟩
              · exact hh.elim
            · exact hh.elim
          · exact hh.elim
        · exact hh.elim
      · exact hh.elim
    · exact hh.elim
  case h_7 args tys q len cap q2 n c2 he =>
    simp only [opsOf] at he
    split at hh
    · rename_i t r ht
      split at hh
      · rename_i e size hes
        obtain ⟨i, hu, hi, hs⟩ := elemSize_parts hes
        subst hs
        obtain ⟨news, hr, hp⟩ := hh
        have hrun := run_row (P := P) (len := n) (cap := c2) hr w hw
        cases q with
        | none =>
          exact ⟨_, .value (.int .i64 (Nat.min n len : Nat)), w, by simp [execOp, resolve, invoke, builtin, arr_map he, arr_one ht, Builtin.copy_, run_underlying hu, lenOf_slice, run_sizeOf hi, hrun, goInt], .inl rfl, Out.refl w, by rw [hw]; exact hp⟩
        | some a =>
          obtain ⟨w', hst, ho, hk⟩ := stL_run (P := P) hp w hw
          exact ⟨_, .value (.int .i64 (Nat.min n len : Nat)), w', by simp [execOp, resolve, invoke, builtin, arr_map he, arr_one ht, Builtin.copy_, run_underlying hu, lenOf_slice, run_sizeOf hi, hrun, goInt, hst], .inl rfl, ho, hk⟩
      · exact hh.elim
    · exact hh.elim
  case h_8 args tys q n c he =>
    simp only [opsOf] at he
    split at hh
    · rename_i t ht
      split at hh
      · rename_i e hu
        split at hh
        · rename_i z hi
          cases q with
          | none => exact ⟨_, .value (.tuple #[]), w, by simp [execOp, resolve, invoke, builtin, arr_map he, arr_one ht, Builtin.clear_, run_underlying hu], .inl rfl, Out.refl w, by rw [hw]; exact hh⟩
          | some a =>
            obtain ⟨w', hst, ho, hk⟩ := stL_run (P := P) hh w hw
            refine ⟨_, .value (.tuple #[]), w', ?_, .inl rfl, ho, hk⟩
            cases n with
            | zero =>
              simp only [zeroRow, storeCells] at hst
              cases hst
              simp [execOp, resolve, invoke, builtin, arr_map he, arr_one ht, Builtin.clear_, run_underlying hu]
            | succ n => simp [execOp, resolve, invoke, builtin, arr_map he, arr_one ht, Builtin.clear_, run_underlying hu, run_zeroValue hi rfl, zeroCells_eq, hst]
        · exact hh.elim
      · exact hh.elim
    · exact hh.elim
  case h_9 => exact hh.elim
/-! ### Maps -/
theorem entries_get : ∀ (m : KV) (i j : Nat), (entriesFrom i m)[j]? = (m[j]?).map fun e => { key := e.1, val := e.2, born := i + j }
  | [], i, j => by simp [entriesFrom]
  | e :: r, i, 0 => by simp [entriesFrom]
  | e :: r, i, j + 1 => by simp [entriesFrom, entries_get r (i + 1) j]; congr 1; funext e; congr 1; omega
theorem entries_len : ∀ (m : KV) (i : Nat), (entriesFrom i m).length = m.length
  | [], _ => rfl
  | _ :: r, i => by simp [entriesFrom, entries_len r (i + 1)]
theorem entries_mem {m : KV} {x : MapEntry} (h : x ∈ entriesFrom 0 m) : ∃ i e, m[i]? = some e ∧ x = { key := e.1, val := e.2, born := i } := by
  obtain ⟨i, hi⟩ := List.mem_iff_getElem?.1 h
  rw [entries_get] at hi
  cases he : m[i]? with
  | none => rw [he] at hi; cases hi
  | some e => rw [he] at hi; simp only [Option.map_some, Nat.zero_add, Option.some.injEq] at hi; exact ⟨i, e, he, hi.symm⟩
theorem entries_born (m : KV) (i : Nat) : (entriesFrom i m).map (·.born) = (List.range m.length).map (i + ·) := by
  apply List.ext_getElem?
  intro j
  rw [List.getElem?_map, entries_get, List.getElem?_map]
  by_cases h : j < m.length
  · simp [h]
  · rw [List.getElem?_eq_none (by omega), List.getElem?_eq_none (by simp; omega)]; rfl
theorem keyKind_int {kt : TypeId} {k : IntKind} (h : keyKind P kt = some (.int k)) : P.underlying kt = some (.int k) := by
  unfold keyKind at h
  split at h
  · cases h; assumption
  · split at h
    · split at h
      · rename_i i hi
        cases hb : (Nat.beq _ 2 && Nat.beq i.size 1) <;> rw [hb] at h <;> cases h
      · cases h
    · cases h
  · cases h
theorem keyKind_two {kt : TypeId} {k : IntKind} (h : keyKind P kt = some (.two k)) : ∃ e i, P.underlying kt = some (.array 2 e) ∧ P.underlying e = some (.int k) ∧ P.info? e = some i ∧ i.size = 1 := by
  unfold keyKind at h
  split at h
  · cases h
  · rename_i n e hu
    split at h
    · rename_i k' he
      split at h
      · rename_i i hi
        cases hb : (Nat.beq n 2 && Nat.beq i.size 1) with
        | false => rw [hb] at h; cases h
        | true =>
          rw [hb] at h; cases h
          rw [Bool.and_eq_true] at hb
          obtain rfl := Nat.eq_of_beq_eq_true hb.1
          exact ⟨e, i, hu, he, hi, Nat.eq_of_beq_eq_true hb.2⟩
      · cases h
    · cases h
  · cases h
theorem isKey_int {k : IntKind} {v : Value} (h : isKey (.int k) v = true) : ∃ a, v = .int k a := by
  cases v <;> simp [isKey] at h
  subst h; exact ⟨_, rfl⟩
theorem isKey_two {k : IntKind} {v : Value} (h : isKey (.two k) v = true) : ∃ a b, v = .agg #[.int k a, .int k b] := by
  cases v with
  | agg xs =>
    obtain ⟨l⟩ := xs
    match l, h with
    | [.int k1 a, .int k2 b], h =>
      have h : (decide (k = k1) && decide (k = k2)) = true := h
      rw [Bool.and_eq_true] at h
      have h2 := of_decide_eq_true h.1; have h3 := of_decide_eq_true h.2
      subst h2; subst h3; exact ⟨_, _, rfl⟩
  | _ => simp [isKey] at h
/-- What is found: where, and what. -/
def findM (key : Value) : KV → Nat → Option (Nat × Value)
  | [], _ => none
  | e :: r, i => bif keyEq key e.1 then some (i, e.2) else findM key r (i + 1)
theorem findM_get (key : Value) : ∀ (m : KV) (i : Nat), (findM key m i).map (·.2) = getM key m
  | [], _ => rfl
  | e :: r, i => by
    unfold findM getM
    cases keyEq key e.1
    · simpa using findM_get key r (i + 1)
    · rfl
theorem checkKey_run {empty : Bool} {kk : KK} {kt : TypeId} {key : Value} (hk : keyKind P kt = some kk) (hi : isKey kk key = true) (w : World) : (Instr.checkKey empty 10000 kt key).run P w = .ok () w := by
  show (Instr.checkKey empty (9999 + 1) kt key).run P w = .ok () w
  unfold Instr.checkKey
  cases kk with
  | int k =>
    obtain ⟨a, rfl⟩ := isKey_int hi
    simp [run_underlying (keyKind_int hk)]
  | two k =>
    obtain ⟨a, b, rfl⟩ := isKey_two hi
    obtain ⟨e, i, h1, h2, h3, h4⟩ := keyKind_two hk
    have hag : aggB P e = some false := by simp [aggB, h2]
    have c1 : ∀ x, (Instr.checkKey empty 9999 e (.int k x)).run P w = .ok () w := fun x => by
      show (Instr.checkKey empty (9998 + 1) e (.int k x)).run P w = .ok () w
      unfold Instr.checkKey
      simp [run_underlying h2]
    simp [run_underlying h1, part, run_isAgg hag, run_sizeOf h3, h4, c1, Std.Legacy.Range.forIn_eq_forIn_range', Std.Legacy.Range.size, List.range']
theorem keyEqual_run {kt : TypeId} {k : IntKind} {a b c d : Int} (hk : keyKind P kt = some (.two k)) (w : World) : (Op.equal kt (.agg #[.int k a, .int k b]) (.agg #[.int k c, .int k d])).run P w = .ok (a == c && b == d) w := by
  obtain ⟨e, i, h1, h2, h3, h4⟩ := keyKind_two hk
  have hag : aggB P e = some false := by simp [aggB, h2]
  have c1 : ∀ x y, (Op.equalIn 9999 e (.int k x) (.int k y)).run P w = .ok (x == y) w := fun x y => by
    show (Op.equalIn (9998 + 1) e (.int k x) (.int k y)).run P w = .ok (x == y) w
    unfold Op.equalIn
    simp [run_underlying h2]
  rw [equal_succ]
  unfold Op.equalIn
  simp [run_underlying h1, part, run_isAgg hag, run_sizeOf h3, h4, c1, Std.Legacy.Range.forIn_eq_forIn_range', Std.Legacy.Range.size, List.range']
  by_cases h5 : a = c <;> by_cases h6 : b = d <;> simp [h5, h6]
theorem findKey_run {kk : KK} {kt : TypeId} {key : Value} (hk : keyKind P kt = some kk) (hi : isKey kk key = true) (w : World) : ∀ {m : KV}, (∀ e ∈ m, isKey kk e.1 = true) → (Instr.findKey kt key (entriesFrom 0 m)).run P w = .ok (findM key m 0) w := by
  intro m hm
  cases kk with
  | int k =>
    obtain ⟨a, rfl⟩ := isKey_int hi
    have hf : ∀ (m : KV) (i j : Nat), (∀ e ∈ m, isKey (.int k) e.1 = true) → Instr.findNow (.int k) (.int k a) (entriesFrom j m) i = some (findM (.int k a) m i) := by
      intro m
      induction m with
      | nil => intro i j _; rfl
      | cons e r ih =>
        intro i j hm
        obtain ⟨c, hc⟩ := isKey_int (hm e (by simp))
        have ih := ih (i + 1) (j + 1) fun x hx => hm x (by simp [hx])
        unfold entriesFrom Instr.findNow findM
        rw [hc]
        simp only [Instr.sameNow, keyEq, if_true]
        cases h5 : a == c
        · simpa using ih
        · rfl
    unfold Instr.findKey
    simp [run_underlying (keyKind_int hk), hf m 0 0 hm]
  | two k =>
    obtain ⟨a, b, rfl⟩ := isKey_two hi
    obtain ⟨e0, i0, h1, h2, h3, h4⟩ := keyKind_two hk
    have hf : ∀ (m : KV) (i j : Nat), (∀ e ∈ m, isKey (.two k) e.1 = true) → (Instr.findAsking kt (.agg #[.int k a, .int k b]) (entriesFrom j m) i).run P w = .ok (findM (.agg #[.int k a, .int k b]) m i) w := by
      intro m
      induction m with
      | nil => intro i j _; rfl
      | cons e r ih =>
        intro i j hm
        obtain ⟨c, d, hc⟩ := isKey_two (hm e (by simp))
        have ih := ih (i + 1) (j + 1) fun x hx => hm x (by simp [hx])
        unfold entriesFrom Instr.findAsking findM
        rw [hc]
        simp only [Sem.run_bind, keyEqual_run hk, Result.andThen_ok, keyEq]
        cases h5 : (a == c && b == d)
        · simpa using ih
        · rfl
    unfold Instr.findKey
    cases m with
    | nil => simp [run_underlying h1, entriesFrom, Instr.findNow, findM]
    | cons e r =>
      obtain ⟨c, d, hc⟩ := isKey_two (hm e (by simp))
      have hn : Instr.findNow (.array 2 e0) (.agg #[.int k a, .int k b]) (entriesFrom 0 (e :: r)) 0 = none := by
        unfold entriesFrom Instr.findNow
        rw [hc]; rfl
      simp only [Sem.run_bind, run_underlying h1, Result.andThen_ok, hn]
      exact hf (e :: r) 0 0 hm
theorem findM_lt {key : Value} : ∀ {m : KV} {i j : Nat} {v : Value}, findM key m i = some (j, v) → i ≤ j ∧ ∃ e, m[j - i]? = some e ∧ keyEq key e.1 = true ∧ v = e.2
  | [], i, j, v, h => by cases h
  | e :: r, i, j, v, h => by
    unfold findM at h
    cases hc : keyEq key e.1 with
    | true => rw [hc] at h; simp only [cond_true, Option.some.injEq, Prod.mk.injEq] at h; obtain ⟨rfl, rfl⟩ := h; exact ⟨Nat.le_refl _, e, by simp, hc, rfl⟩
    | false =>
      rw [hc] at h; simp only [cond_false] at h
      obtain ⟨h1, e', h2, h3, h4⟩ := findM_lt h
      refine ⟨by omega, e', ?_, h3, h4⟩
      rw [show j - i = (j - (i + 1)) + 1 by omega, List.getElem?_cons_succ]; exact h2
theorem put_none {key v : Value} : ∀ {m : KV} {i : Nat}, findM key m i = none → putM key v m = m ++ [(key, v)]
  | [], _, _ => rfl
  | e :: r, i, h => by
    unfold findM at h
    unfold putM
    cases hc : keyEq key e.1 with
    | true => rw [hc] at h; cases h
    | false => rw [hc] at h; simp only [cond_false] at h ⊢; rw [put_none h]; rfl
theorem put_some {key v : Value} : ∀ {m : KV} {i j : Nat} {u : Value}, findM key m i = some (j, u) → putM key v m = m.set (j - i) (key, v)
  | [], _, _, _, h => by cases h
  | e :: r, i, j, u, h => by
    have h0 := findM_lt h
    unfold findM at h
    unfold putM
    cases hc : keyEq key e.1 with
    | true => rw [hc] at h; simp only [cond_true, Option.some.injEq, Prod.mk.injEq] at h ⊢; obtain ⟨rfl, rfl⟩ := h; simp
    | false =>
      rw [hc] at h; simp only [cond_false] at h ⊢
      have h1 := findM_lt h
      rw [put_some h, show j - i = (j - (i + 1)) + 1 by omega]; rfl
theorem entries_append : ∀ (m n : KV) (i : Nat), entriesFrom i (m ++ n) = entriesFrom i m ++ entriesFrom (i + m.length) n
  | [], n, i => by simp [entriesFrom]
  | e :: r, n, i => by simp only [List.cons_append, entriesFrom, entries_append r n (i + 1), List.length_cons]; congr 3; omega
theorem entries_set {m : KV} {j : Nat} {e : Value × Value} (i : Nat) : entriesFrom i (m.set j e) = (entriesFrom i m).modify j fun x => { x with key := e.1, val := e.2 } := by
  apply List.ext_getElem?
  intro k
  rw [entries_get, List.getElem?_modify, entries_get, List.getElem?_set]
  by_cases c : j = k
  · subst c
    by_cases d : j < m.length
    · simp [d]
    · rw [if_pos rfl, if_neg d, List.getElem?_eq_none (by omega)]; rfl
  · rw [if_neg c]; simp [c]
theorem sameKey {kk : KK} {a b : Value} (ha : isKey kk a = true) (hb : isKey kk b = true) (h : keyEq a b = true) : a = b := by
  cases kk with
  | int k =>
    obtain ⟨x, rfl⟩ := isKey_int ha; obtain ⟨y, rfl⟩ := isKey_int hb
    unfold keyEq at h; simp at h; rw [h]
  | two k =>
    obtain ⟨x, y, rfl⟩ := isKey_two ha; obtain ⟨u, v, rfl⟩ := isKey_two hb
    unfold keyEq at h; simp at h; rw [h.1, h.2]
theorem stays_run {kk : KK} {a : Value} (ha : isKey kk a = true) (w : World) : (Instr.keyThatStays a a).run P w = .ok a w := by
  have : Instr.sameBits 10000 a a = true := by
    cases kk with
    | int k => obtain ⟨x, rfl⟩ := isKey_int ha; simp [Instr.sameBits]
    | two k =>
      obtain ⟨x, y, rfl⟩ := isKey_two ha
      show Instr.sameBits (9999 + 1) _ _ = true
      unfold Instr.sameBits
      have : ∀ z : Int, Instr.sameBits 9999 (.int k z) (.int k z) = true := fun z => by simp [Instr.sameBits]
      simp [this]
  unfold Instr.keyThatStays
  simp [this]

theorem lookup_run {t kt et : TypeId} {kk : KK} {i : TypeInfo} {z key : Value} {b : Nat} {m : KV} {ok : Bool} {w : World} (hu : P.underlying t = some (.map kt et)) (hkk : keyKind P kt = some kk) (hi : P.info? et = some i) (hz : i.zero = some z)
    (hk : isKey kk key = true) (hb : w.heap[b]? = some (.map (entriesFrom 0 m).toArray m.length)) (hks : ∀ e ∈ m, isKey kk e.1 = true) :
    (Instr.lookup t (.map (some b)) key ok).run P w = .ok (okV ok ((getM key m).getD z) (getM key m).isSome) w := by
  have hg := findM_get key m 0
  simp only [Instr.lookup, Sem.run_bind, run_underlying hu, Result.andThen_ok, Go.MapKept.run_getObj_map hb, checkKey_run hkk hk, Sem.run_pure]
  have hf := findKey_run hkk hk w hks
  rw [hf]
  simp only [Result.andThen_ok]
  cases hf2 : findM key m 0 with
  | none =>
    rw [hf2] at hg
    have hg : getM key m = none := by simpa using hg.symm
    cases ok <;> simp [hg, run_zeroValue hi hz, okV]
  | some p =>
    rw [hf2] at hg
    have hg : getM key m = some p.2 := by simpa using hg.symm
    cases ok <;> simp [hg, okV]
theorem update_run {t kt et : TypeId} {kk : KK} {key v : Value} {b : Nat} {m : KV} {w : World} (hu : P.underlying t = some (.map kt et)) (hkk : keyKind P kt = some kk)
    (hk : isKey kk key = true) (hb : w.heap[b]? = some (.map (entriesFrom 0 m).toArray m.length)) (hks : ∀ e ∈ m, isKey kk e.1 = true) :
    (Instr.mapUpdate t (.map (some b)) key v).run P w = .ok () { w with heap := w.heap.setIfInBounds b (mapObj (putM key v m)) } := by
  simp only [Instr.mapUpdate, Sem.run_bind, run_underlying hu, Result.andThen_ok, Go.MapKept.run_getObj_map hb, checkKey_run hkk hk, Sem.run_pure]
  have hf := findKey_run hkk hk w hks
  rw [hf]
  simp only [Result.andThen_ok]
  cases hf2 : findM key m 0 with
  | none =>
    have hp := put_none (v := v) hf2
    have e1 : (Obj.map ((entriesFrom 0 m).toArray.push { key := key, val := v, born := m.length }) (m.length + 1)) = mapObj (putM key v m) := by
      rw [hp]; unfold mapObj; rw [entries_append]; simp [entriesFrom]
    simp only [Go.MapKept.run_setObj_map _ hb, e1]
  | some p =>
    obtain ⟨j, u⟩ := p
    have hp := put_some (v := v) hf2
    obtain ⟨_, e, h2, h3, h4⟩ := findM_lt hf2
    rw [Nat.sub_zero] at hp h2
    have hke := sameKey hk (hks e (List.mem_of_getElem? h2)) h3
    have hj : ((entriesFrom 0 m).toArray[j]?).map (·.key) = some key := by
      simp [entries_get, h2, hke]
    have e1 : (Obj.map ((entriesFrom 0 m).toArray.modify j fun x => { x with key := key, val := v }) m.length) = mapObj (putM key v m) := by
      rw [hp]; unfold mapObj; rw [entries_set]; simp
    simp only [hj, Option.getD_some, Sem.run_bind, stays_run hk, Result.andThen_ok, Go.MapKept.run_setObj_map _ hb, e1]

theorem mapV_run [DKc] {o : Oper} {h : Heap} {K : Value → Heap → Prop} (hh : mapV P o.op ((opsOf o.op).map ρ) h K) (w : World) (hw : w.heap = h) :
    ∃ v nx w', (execOp ρ o).run P w = .ok nx w' ∧ (nx = .value v ∨ (nx = .skip ∧ v = undef)) ∧ Out w w' ∧ K v w'.heap := by
  obtain ⟨dst, op, type, pos, after, guard⟩ := o
  simp only at hh
  unfold mapV at hh
  split at hh
  case h_1 he =>
    refine ⟨_, _, w.alloc (mapObj []), ?_, .inl rfl, ⟨rfl, rfl, rfl, fun _ => Nat.le_refl _⟩, by rw [← hw] at hh; exact hh⟩
    simp [execOp, Instr.makeMap, mapObj, entriesFrom, hw]
  case h_2 t x y ok q key he =>
    simp [opsOf] at he
    split at hh
    · rename_i kt et hu
      split at hh
      · rename_i hkk hsh hi
        rw [bif_and] at hh
        obtain ⟨hk, hh⟩ := hh
        cases q with
        | none => exact hh.elim
        | some b =>
          obtain ⟨m, ⟨hm, hks⟩, hh⟩ := hh
          obtain ⟨v, hv, hkv, _⟩ := rdS_val hh
          have hv := Option.some.inj hv
          have hb : w.heap[b]? = some (.map (entriesFrom 0 m).toArray m.length) := by rw [hw]; exact hm
          have hrun := lookup_run (ok := ok) hu hkk hi rfl hk hb hks
          rw [hv] at hrun
          exact ⟨_, .value (okV ok v (getM key m).isSome), w, by simp [execOp, he.1, he.2, hrun], .inl rfl, Out.refl w, by rw [hw]; exact hkv⟩
      · exact hh.elim
    · exact hh.elim
  case h_3 t x y z q key v he =>
    simp [opsOf] at he
    split at hh
    · rename_i kt et hu
      split at hh
      · rename_i kk hkk
        rw [bif_and] at hh
        obtain ⟨hk, hh⟩ := hh
        cases q with
        | none => exact hh.elim
        | some b =>
          obtain ⟨m, ⟨hm, hks⟩, hh⟩ := hh
          have hb : w.heap[b]? = some (.map (entriesFrom 0 m).toArray m.length) := by rw [hw]; exact hm
          have hrun := update_run (v := v) hu hkk hk hb hks
          refine ⟨undef, .skip, { w with heap := w.heap.setIfInBounds b (mapObj (putM key v m)) }, ?_, .inr ⟨rfl, rfl⟩, ⟨rfl, rfl, rfl, fun _ => Nat.le_refl _⟩, by rw [← hw] at hh; exact hh⟩
          simp [execOp, he.1, he.2.1, he.2.2, hrun]
      · exact hh.elim
    · exact hh.elim
  case h_4 args tys q he =>
    simp only [opsOf] at he
    split at hh
    · rename_i t ht
      split at hh
      · rename_i kt et hu
        cases q with
        | none => exact hh.elim
        | some b =>
          obtain ⟨m, hm, hh⟩ := hh
          have hb : w.heap[b]? = some (.map (entriesFrom 0 m).toArray m.length) := by rw [hw]; exact hm
          exact ⟨_, .value (.int .i64 m.length), w, by simp [execOp, resolve, invoke, builtin, arr_map he, arr_one ht, Builtin.len_, run_underlying hu, Go.MapKept.run_getObj_map hb, entries_len, goInt], .inl rfl, Out.refl w, by rw [hw]; exact hh⟩
      · exact hh.elim
    · exact hh.elim
  case h_5 t x q he =>
    simp [opsOf] at he
    split at hh
    · rename_i kt et hu
      cases q with
      | none => exact hh.elim
      | some b =>
        obtain ⟨m, hm, hh⟩ := hh
        have hb : w.heap[b]? = some (.map (entriesFrom 0 m).toArray m.length) := by rw [hw]; exact hm
        refine ⟨_, .value (.pointer (some ⟨w.heap.size, 0, none⟩)), w.alloc (.mapIter (some b) m.length #[] m.length), ?_, .inl rfl, ⟨rfl, rfl, rfl, fun _ => Nat.le_refl _⟩, by rw [← hw] at hh; exact hh⟩
        simp [execOp, he, Instr.range, run_underlying hu, getObj, Sem.run, hb]
    · exact hh.elim
  case h_6 x a he =>
    simp [opsOf] at he
    obtain ⟨⟨ha, hs⟩, b, m, seen, ⟨hr, hm⟩, h1, h2⟩ := hh
    have hb : w.heap[b]? = some (.map (entriesFrom 0 m).toArray m.length) := by rw [hw]; exact hm
    have hr' : w.heap[a.block]? = some (.mapIter (some b) m.length seen.toArray m.length) := by rw [hw]; exact hr
    obtain ⟨ab, ao, asp⟩ := a
    simp only at ha hs hr' h2
    subst ha hs
    have hold : ∀ x ∈ (entriesFrom 0 m).toArray.toList, x.born < m.length := fun x hx => by
      obtain ⟨i, e, hi, rfl⟩ := entries_mem (by simpa using hx); exact (List.getElem?_eq_some_iff.1 hi).1
    rcases run_next_at (P := P) w type ab b m.length m.length seen.toArray (entriesFrom 0 m).toArray m.length hr' hb hold (Nat.le_refl _) with ⟨h0, hrun⟩ | ⟨e, hmem, w1, hw1, hrun⟩
    · refine ⟨_, .value (.tuple #[.bool false]), w, by simp [execOp, he, hrun], .inl rfl, Out.refl w, ?_⟩
      rw [hw]; refine h1 fun i hi => ?_
      have h0 := Array.eq_empty_of_size_eq_zero h0
      refine Classical.byContradiction fun hn => ?_
      have : ({ key := (m[i]).1, val := (m[i]).2, born := i } : MapEntry) ∈ (leftOf (entriesFrom 0 m).toArray seen.toArray) := by
        unfold leftOf
        rw [Array.mem_filter]
        refine ⟨?_, by simpa using hn⟩
        rw [List.mem_toArray]
        refine List.mem_iff_getElem?.2 ⟨i, ?_⟩
        rw [entries_get, List.getElem?_eq_getElem hi]; simp
      rw [h0] at this; simp at this
    · have hmem' : e ∈ entriesFrom 0 m ∧ ¬ e.born ∈ seen := by
        unfold leftOf at hmem
        simpa using hmem
      obtain ⟨i, x, hi, rfl⟩ := entries_mem hmem'.1
      refine ⟨_, .value (.tuple #[.bool true, x.1, x.2]), _, by simp [execOp, he, hrun]; rfl, .inl rfl, ?_, ?_⟩
      · rcases hw1 with rfl | rfl
        · exact ⟨rfl, rfl, rfl, fun _ => Nat.le_refl _⟩
        · exact ⟨rfl, rfl, rfl, fun _ => Nat.le_succ _⟩
      · have := h2 i x hi hmem'.2
        have e1 : (seen.toArray.push i) = (seen ++ [i]).toArray := by simp
        rcases hw1 with rfl | rfl
        · subst hw; exact this
        · subst hw; exact this
  case h_7 x a he =>
    simp [opsOf] at he
    obtain ⟨⟨ha, hs⟩, b, m, seen, i, e, ⟨hr, hm, hi⟩, q, l, c, he2, hh⟩ := hh
    have hb : w.heap[b]? = some (.map (entriesFrom 0 m).toArray m.length) := by rw [hw]; exact hm
    obtain ⟨ab, ao, asp⟩ := a
    simp only at ha hs hr
    subst ha hs
    have hr' : w.heap[ab]? = some (.mapIter (some b) m.length (seen.toArray.push i) m.length) := by rw [hw, hr]; simp
    have hrun := run_entry_at (P := P) w ab b m.length seen.toArray (entriesFrom 0 m).toArray m.length { key := e.1, val := e.2, born := i } hr' hb (by
      refine List.mem_iff_getElem?.2 ⟨i, ?_⟩
      rw [List.toList_toArray, entries_get, hi]; simp) (by
      rw [List.toList_toArray, entries_born]
      exact List.pairwise_map.2 ((List.nodup_range (n := m.length)).imp fun h e => h (by omega)))
    exact ⟨_, .value (.tuple #[e.1, e.2]), w, by simp [execOp, he, hrun], .inl rfl, Out.refl w, by rw [hw, he2]; exact hh⟩
  case h_8 t x s he =>
    simp [opsOf] at he
    split at hh
    · rename_i hu
      refine ⟨_, .value (.pointer (some ⟨w.heap.size, 0, none⟩)), w.alloc (.stringIter s 0), ?_, .inl rfl, ⟨rfl, rfl, rfl, fun _ => Nat.le_refl _⟩, by rw [← hw] at hh; exact hh⟩
      simp [execOp, he, Instr.range, run_underlying hu, Sem.run]
    · exact hh.elim
  case h_9 x a he =>
    simp [opsOf] at he
    obtain ⟨⟨ha, hs⟩, s, pos, hr, h1, h2⟩ := hh
    obtain ⟨ab, ao, asp⟩ := a
    simp only at ha hs hr h2
    subst ha hs
    have hr' : w.heap[ab]? = some (.stringIter s pos) := by rw [hw]; exact hr
    by_cases hp : pos < s.size
    · refine ⟨_, .value (.tuple #[.bool true, .int .i64 (pos : Int), .int .i32 ((Utf8.decode s pos).1 : Int)]), w.iterAt ab s (pos + (Utf8.decode s pos).2), by simp [execOp, he, Lib.run_next_any_at w ab s pos _ hr' hp], .inl rfl, ⟨rfl, rfl, rfl, fun _ => Nat.le_refl _⟩, ?_⟩
      subst hw; exact h2 hp
    · exact ⟨_, .value (.tuple #[.bool false]), w, by simp [execOp, he, Lib.run_next_end_at w ab s pos _ hr' hp], .inl rfl, Out.refl w, by rw [hw]; exact h1 hp⟩
  case h_10 => exact hh.elim
end
end Go.Hp
