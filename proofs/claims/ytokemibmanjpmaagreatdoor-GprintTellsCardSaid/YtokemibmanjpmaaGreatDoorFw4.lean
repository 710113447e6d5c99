/-
  The frame of my own, part 4: operations that only reckon, or only look, as the model runs them.
-/
import Derived.Test.YtokemibmanjpmaaGreatDoorFw3
import Derived.Laws.IdiomStrings
namespace Go.Hp
set_option linter.unusedVariables false
set_option linter.unusedSimpArgs false

section
variable {P : Program} {ρ : Operand → Value}

theorem run_typed_index {t e : TypeId} {i : TypeInfo} {a : Addr} {len cap : Nat} {k : IntKind} {n : Int} (hu : P.underlying t = some (.slice e)) (hi : P.info? e = some i)
    (hn : 0 ≤ n ∧ n < (len : Int)) (w : World) : (Instr.indexAt t (.slice (some a) len cap) (.int k n)).run P w = .ok (.pointer (some (a.add (n.toNat * i.size)))) w := by
  simp [Instr.indexAt, asIntOf, run_underlying hu, hn, run_sizeOf hi]

theorem run_array_index {t e : TypeId} {i : TypeInfo} {a : Addr} {len : Nat} {k : IntKind} {n : Int} (hu : P.underlying t = some (.array len e)) (hi : P.info? e = some i)
    (hn : 0 ≤ n ∧ n < (len : Int)) (w : World) : (Instr.indexAt t (.pointer (some a)) (.int k n)).run P w = .ok (.pointer (some (a.add (n.toNat * i.size)))) w := by
  simp [Instr.indexAt, asIntOf, run_underlying hu, hn, run_sizeOf hi, Instr.sureAddr]

theorem fieldOf_parts {s : TypeId} {f off t n : Nat} (h : fieldOf P s f = some (off, t, n)) :
    ∃ fs g i, P.underlying s = some (.struct fs) ∧ fs[f]? = some g ∧ P.info? g.type = some i ∧ i.size = n ∧ g.offset = off ∧ g.type = t ∧ n ≠ 0 := by
  unfold fieldOf at h
  split at h
  · rename_i fs hu
    split at h
    · rename_i g hg
      split at h
      · rename_i i hi
        split at h
        · cases h
        · rename_i m hm
          cases h
          exact ⟨fs, g, i, hu, hg, hi, hm, rfl, rfl, by omega⟩
      · cases h
    · cases h
  · cases h

theorem elemSize_parts {t e n : Nat} (h : elemSize P t = some (e, n)) : ∃ i, P.underlying t = some (.slice e) ∧ P.info? e = some i ∧ i.size = n := by
  unfold elemSize at h
  split at h
  · rename_i hu
    split at h
    · rename_i i hi
      cases h
      exact ⟨i, hu, hi, rfl⟩
    · cases h
  · cases h

theorem extract_list (cs : Array Value) (i n : Nat) : cs.extract i (i + n) = (cs.toList.drop i |>.take n).toArray := by
  apply Array.ext'
  simp

theorem arr_map {args : Array Operand} {l : List Value} (h : args.toList.map ρ = l) : args.map ρ = l.toArray := by
  rw [← h]; exact Array.ext' (by simp)
theorem arr_one {args : Array TypeId} {l : List TypeId} (h : args.toList = l) : args = l.toArray := by
  rw [← h]

theorem pureV_run {o : Oper} {v : Value} (h : pureV P o.op ((opsOf o.op).map ρ) (· = v)) (w : World) : (execOp ρ o).run P w = .ok (.value v) w := by
  obtain ⟨dst, op, type, pos, after, guard⟩ := o
  simp only at h
  unfold pureV at h
  split at h
  case h_1 he => subst h; simp [opsOf] at he; simp [execOp, he]
  case h_2 he => subst h; simp [opsOf] at he; simp [execOp, he]
  case h_3 he =>
    simp [opsOf] at he
    obtain ⟨h1, h2, h3⟩ := he
    rename_i t _ _
    cases t <;> simp only [iteB] at h <;> subst h <;> simp [execOp, h1, h2, h3, asBool]
  case h_4 he =>
    obtain ⟨a, rfl, h⟩ := chkP_elim h
    subst h; simp [opsOf] at he; simp [execOp, he]
  case h_5 he => subst h; simp [opsOf] at he; simp [execOp, he]
  case h_6 he =>
    simp [opsOf] at he
    obtain ⟨h1, h2⟩ := he
    split at h
    · rename_i hq
      obtain ⟨hy, hb⟩ := nilQ_parts hq
      subst hy hb
      have := fun x => nilK_run (x := x) h w
      simp only [execOp, h1, h2]
      simp only [Sem.run_bind] at this ⊢
      simp [this]
    · have := fun x y => binK_run (x := x) (y := y) h w
      simp only [execOp, h1, h2]
      simp only [Sem.run_bind] at this ⊢
      simp [this]
  case h_7 he => subst h; simp [opsOf] at he; simp [execOp, he, Op.unary, Op.intArith]
  case h_8 he => subst h; simp [opsOf] at he; simp [execOp, he, Op.unary]; rfl
  case h_9 he => subst h; simp [opsOf] at he; simp [execOp, he, Op.unary]
  case h_10 he => simp [opsOf] at he; have := val_eq h; simp [execOp, he, Instr.extract, this]
  case h_11 he =>
    simp [opsOf] at he
    split at h
    · rename_i hf
      subst h
      obtain ⟨fs, g, i, hu, hg, hi, hs, ho, ht, hn⟩ := fieldOf_parts hf
      simp [execOp, he, Instr.fieldAt, run_underlying hu, hg, Instr.sureAddr, fieldPlace, run_sizeOf hi, hs, hn, ho]
    · exact h.elim
  case h_12 he =>
    simp [opsOf] at he
    split at h
    · rename_i hf
      obtain ⟨fs, g, i, hu, hg, hi, hs, ho, ht, hn⟩ := fieldOf_parts hf
      subst ht
      split at h
      · rename_i ha
        subst h
        simp [execOp, he, Instr.field, run_underlying hu, hg, asAgg, part, run_isAgg ha, run_sizeOf hi, hs, ho, extract_list]
      · rename_i ha
        have := val_eq h
        simp [execOp, he, Instr.field, run_underlying hu, hg, asAgg, part, run_isAgg ha, ho, this]
      · exact h.elim
    · exact h.elim
  case h_13 he =>
    simp [opsOf] at he
    split at h
    · rename_i hf
      obtain ⟨i, hu, hi, hs⟩ := elemSize_parts hf
      obtain ⟨a, rfl, h0, h⟩ := chkP_elim h
      subst h
      simp [execOp, he.1, he.2, run_typed_index hu hi h0, hs]
    · exact h.elim
  case h_14 he =>
    simp [opsOf] at he
    split at h
    · rename_i hu
      split at h
      · rename_i hi
        obtain ⟨h0, h⟩ := h
        subst h
        simp [execOp, he.1, he.2, run_array_index hu hi h0]
      · exact h.elim
    · exact h.elim
  case h_15 he =>
    simp [opsOf] at he
    split at h
    · rename_i hu
      obtain ⟨h0, b, hb, h⟩ := h
      subst h
      simp [execOp, he.1, he.2, Instr.index, asIntOf, run_underlying hu, h0, hb]
    · exact h.elim
  case h_16 he =>
    simp [opsOf] at he
    split at h
    · rename_i hu
      split at h
      · rename_i ha hk hj
        rw [bif_and] at h
        obtain ⟨hb, h0, h⟩ := h
        obtain ⟨u, hc, hk, _⟩ := rdS_val h
        subst hk
        have hs := Nat.eq_of_beq_eq_true hb
        rw [Array.getElem?_toList] at hc
        simp [execOp, he.1, he.2, Instr.index, asIntOf, run_underlying hu, h0, run_sizeOf hj, hs, part, run_isAgg ha, hc]
      · rename_i ha hj
        rw [bif_and] at h
        obtain ⟨hb, h0, h⟩ := h
        obtain ⟨vs, hv, hk, _⟩ := rdF_val h
        subst hk
        have hs := Nat.eq_of_beq_eq_true hb
        rw [← hs] at hv
        simp [execOp, he.1, he.2, Instr.index, asIntOf, run_underlying hu, h0, run_sizeOf hj, part, run_isAgg ha, ← hv, extract_list]
      · exact h.elim
    · exact h.elim
  case h_17 he => simp [opsOf] at he; have := sliceK_run h w; simp [execOp, he, this]
  case h_18 he => simp [opsOf] at he; have := sliceK_run h w; simp [execOp, he.1, he.2, this]
  case h_19 he => simp [opsOf] at he; have := sliceK_run h w; simp [execOp, he.1, he.2, this]
  case h_20 he => simp [opsOf] at he; have := sliceK_run h w; simp [execOp, he.1, he.2.1, he.2.2, this]
  case h_21 he => simp [opsOf] at he; have := convK_run h w; simp [execOp, he, this]
  case h_22 he =>
    simp [opsOf] at he
    split at h
    · exact h.elim
    · rename_i hn hu
      subst h
      simp only [execOp, he, Instr.makeInterface, Sem.run_bind, run_underlying hu, Result.andThen]
      rename_i d
      cases d <;> first | (exact (hn _ rfl).elim) | simp
    · exact h.elim
  case h_23 he =>
    subst h
    simp [opsOf]
    simp [execOp, Instr.makeFunc]
    exact ⟨Array.ext' (by simp), Array.ext' (by simp)⟩
  case h_24 he =>
    simp only [opsOf] at h
    have := buildK_run h w
    simp [execOp, this]
  case h_25 he =>
    simp only [opsOf] at he
    split at h
    · rename_i ha
      split at h
      · rename_i hu
        subst h
        simp [execOp, resolve, invoke, builtin, arr_map he, arr_one ha, Builtin.len_, run_underlying hu, goInt]
      · rename_i hu
        subst h
        simp [execOp, resolve, invoke, builtin, arr_map he, arr_one ha, Builtin.len_, run_underlying hu, goInt]
      · exact h.elim
    · exact h.elim
  case h_26 he =>
    simp only [opsOf] at he
    split at h
    · rename_i ha
      split at h
      · rename_i hu
        subst h
        simp [execOp, resolve, invoke, builtin, arr_map he, arr_one ha, Builtin.cap_, run_underlying hu, goInt]
      · exact h.elim
    · exact h.elim
  case h_27 he =>
    simp only [opsOf] at he
    have hv := val_eq h
    have := fold_run (P := P) (fun x y z hh w => min2_run hh w) hv w
    simp [execOp, resolve, invoke, builtin, arr_map he, Builtin.min_, this]
  case h_28 he =>
    simp only [opsOf] at he
    have hv := val_eq h
    have := fold_run (P := P) (fun x y z hh w => max2_run hh w) hv w
    simp [execOp, resolve, invoke, builtin, arr_map he, Builtin.max_, this]
  case h_29 => exact h.elim

theorem readV_run {o : Oper} {v : Value} {h : Heap} (hh : readV P o.op ((opsOf o.op).map ρ) h (· = v)) (w : World) (hw : w.heap = h) : (execOp ρ o).run P w = .ok (.value v) w := by
  obtain ⟨dst, op, type, pos, after, guard⟩ := o
  simp only at hh
  unfold readV at hh
  split at hh
  case h_3 => exact hh.elim
  case h_2 he =>
    simp [opsOf] at he
    subst hw
    unfold strK at hh
    split at hh
    · rename_i hs hd
      split at hh
      · rename_i hu
        obtain ⟨l, ⟨hl, hb⟩, hv⟩ := hh
        subst hv hl
        simp only [execOp, he]
        rename_i q _ _
        simp only [Sem.run_bind]
        cases q with
        | none =>
          match l, hb with
          | [], _ => rw [run_convert_bytes_string w _ _ _ none _ _ hs hu hd]; simp [Conv.bytesToString, Sem.run_pure, Result.andThen]; rfl
          | b :: l, hb => obtain ⟨a, ha, _⟩ := hb 0 b rfl; cases ha
        | some a =>
          rw [run_convert_bytes_back w _ _ _ a _ l hs hu hd fun j hj => by
            obtain ⟨a', ha, hc⟩ := hb j l[j] (List.getElem?_eq_getElem hj)
            cases ha
            rw [cell_eq]; exact hc]
          simp [Sem.run_pure, Result.andThen]
      · exact hh.elim
    · exact hh.elim
  case h_1 he =>
    simp [opsOf] at he
    split at hh
    · rename_i ha
      obtain ⟨ws, hl, hc, hk, _⟩ := rdL_val hh
      split at hk
      · rename_i i hi
        rw [bif_and] at hk
        obtain ⟨hb, hk⟩ := hk
        subst hk
        have hs : i.size = ws.length := by simpa using hb
        have := run_loadCells_list (P := P) w _ ws (fun j u hu => by
          have hj : j < ws.length := by
            rcases Nat.lt_or_ge j ws.length with h | h
            · exact h
            · rw [List.getElem?_eq_none h] at hu; cases hu
          have := hc j (by omega)
          rw [Nat.zero_add] at this
          rw [cell_eq, hw, this]; exact hu)
        simp [execOp, he, Instr.loadAt, Instr.sureAddr, loadVar, run_isAgg ha, run_sizeOf hi, hs, this]
      · exact hk.elim
    · rename_i ha
      split at hh
      · obtain ⟨u, hc, hk, _⟩ := rdS_val hh
        subst hk
        subst hw
        simp [execOp, he, Instr.loadAt, Instr.sureAddr, loadVar, run_isAgg ha, run_load, cell_eq, hc]
      · exact hh.elim
    · exact hh.elim
end
end Go.Hp
