/-
  The frame of my own, part 3: the model's operation comes to the value that part 1 says.
-/
import Derived.Test.YtokemibmanjpmaaGreatDoorFw2
import Derived.Laws.StructEq
namespace Go.Hp
set_option linter.unusedVariables false
set_option linter.unusedSimpArgs false

section
variable {P : Program} {ρ : Operand → Value}

theorem run_info {P : Program} {t : TypeId} {i : TypeInfo} (h : P.info? t = some i) (w : World) : (typeInfo t).run P w = .ok i w := by
  simp [typeInfo, program, Sem.run, bind, Sem.bind, h, pure]

theorem run_sizeOf {P : Program} {t : TypeId} {i : TypeInfo} (h : P.info? t = some i) (w : World) : (sizeOf t).run P w = .ok i.size w := by
  simp [sizeOf, run_info h]

theorem run_isAgg {P : Program} {t : TypeId} {b : Bool} (h : aggB P t = some b) (w : World) : (isAgg t).run P w = .ok b w := by
  unfold aggB at h
  cases hu : P.underlying t with
  | none => rw [hu] at h; cases h
  | some d =>
    rw [hu] at h
    simp only [isAgg, Sem.run_bind, run_underlying hu]
    cases d <;> simp_all

theorem equal_succ (t : TypeId) (x y : Value) : Op.equal t x y = Op.equalIn (9999 + 1) t x y := rfl

theorem equal_bool {t : TypeId} (h : P.underlying t = some .bool) (a b : Bool) (w : World) : (Op.equal t (.bool a) (.bool b)).run P w = .ok (a == b) w := by
  rw [equal_succ, Op.equalIn]; simp only [Sem.run_bind, run_underlying h]; rfl
theorem equal_ptr {t e : TypeId} (h : P.underlying t = some (.pointer e)) (q : Option Addr) (w : World) : (Op.equal t (.pointer q) (.pointer none)).run P w = .ok q.isNone w := by
  rw [equal_succ, Op.equalIn]; simp only [Sem.run_bind, run_underlying h]; cases q <;> rfl
theorem equal_slice {t e : TypeId} (h : P.underlying t = some (.slice e)) (q : Option Addr) (l n l' n' : Nat) (w : World) :
    (Op.equal t (.slice q l n) (.slice none l' n')).run P w = .ok q.isNone w := by
  rw [equal_succ, Op.equalIn]; simp only [Sem.run_bind, run_underlying h]; cases q <;> rfl

theorem eqCell_run {t : TypeId} {x y : Value} {b : Bool} {d : Nat} (h : eqCell P t x y = some b) (w : World) : (Op.equalIn (d + 1) t x y).run P w = .ok b w := by
  unfold eqCell at h
  split at h
  · rename_i hu
    split at h
    · rename_i hk; cases h; subst hk; rw [Op.equalIn]; simp only [Sem.run_bind, run_underlying hu]; simp
    · cases h
  · rename_i hu; cases h; rw [Op.equalIn]; simp only [Sem.run_bind, run_underlying hu]; rfl
  · rename_i hu; cases h; rw [Op.equalIn]; simp only [Sem.run_bind, run_underlying hu, beq_toListBytes]; rfl
  · cases h

theorem eqCell_agg {t : TypeId} {x y : Value} {b : Bool} (h : eqCell P t x y = some b) : aggB P t = some false := by
  unfold eqCell at h
  unfold aggB
  split at h
  · rename_i hu; rw [hu]
  · rename_i hu; rw [hu]
  · rename_i hu; rw [hu]
  · cases h

theorem eqRow_run {d : Nat} (hx : Array Value) (hy : Array Value) (w : World) : ∀ (fs : List Field) (k : Nat) (xs ys : List Value) (bs : List Bool), hx.toList.drop k = xs → hy.toList.drop k = ys →
    eqRow P k fs xs ys = some bs → (Op.eqFields (d + 1) hx hy fs).run P w = .ok (eqAll bs) w
  | [], k, xs, ys, bs, _, _, h => by
    match xs, ys, h with
    | [], [], h => cases h; simp [Op.eqFields, eqAll]
    | _ :: _, _, h => simp [eqRow] at h
    | [], _ :: _, h => simp [eqRow] at h
  | f :: fs, k, [], ys, bs, _, _, h => by simp [eqRow] at h
  | f :: fs, k, x :: xs, [], bs, _, _, h => by simp [eqRow] at h
  | f :: fs, k, x :: xs, y :: ys, bs, h1, h2, h => by
    simp only [eqRow] at h
    cases hc : (Nat.beq f.offset k && !(f.name == "_")) with
    | false => rw [hc] at h; cases h
    | true =>
      rw [hc] at h
      simp only [cond_true] at h
      rw [Bool.and_eq_true] at hc
      have hoff := Nat.eq_of_beq_eq_true hc.1
      have hn : f.name ≠ "_" := by simpa using hc.2
      split at h
      · rename_i b hb
        split at h
        · rename_i bs' hbs
          cases h
          have hag := eqCell_agg hb
          have ex : hx[k]? = some x := by
            have : (hx.toList.drop k)[0]? = some x := by rw [h1]; rfl
            rw [List.getElem?_drop] at this; simpa using this
          have ey : hy[k]? = some y := by
            have : (hy.toList.drop k)[0]? = some y := by rw [h2]; rfl
            rw [List.getElem?_drop] at this; simpa using this
          have px : (part f.type hx f.offset).run P w = .ok x w := by simp [part, run_isAgg hag, hoff, ex]
          have py : (part f.type hy f.offset).run P w = .ok y w := by simp [part, run_isAgg hag, hoff, ey]
          have ih := eqRow_run (d := d) hx hy w fs (k + 1) xs ys bs' (by rw [← List.drop_drop, h1]; rfl) (by rw [← List.drop_drop, h2]; rfl) hbs
          rw [Op.eqFields, if_pos hn]
          simp only [Sem.run_bind, px, py, eqCell_run hb w, Result.andThen_ok]
          cases b
          · simp [eqAll]
          · simpa [eqAll] using ih
        · cases h
      · cases h

theorem eqArr_get {e : TypeId} : ∀ (xs ys : List Value) (bs : List Bool), eqArr P e xs ys = some bs → bs.length = xs.length ∧ ∀ i, i < xs.length → ∃ x y, xs[i]? = some x ∧ ys[i]? = some y ∧ eqCell P e x y = some (bs.getD i true)
  | [], ys, bs, h => by
    cases ys with
    | nil => cases h; exact ⟨rfl, fun i hi => by cases hi⟩
    | cons y ys => simp [eqArr] at h
  | x :: xs, [], bs, h => by simp [eqArr] at h
  | x :: xs, y :: ys, bs, h => by
    simp only [eqArr] at h
    split at h
    · rename_i b hb
      split at h
      · rename_i bs' hbs
        cases h
        obtain ⟨h1, h2⟩ := eqArr_get xs ys bs' hbs
        refine ⟨by simp [h1], fun i hi => ?_⟩
        cases i with
        | zero => exact ⟨x, y, rfl, rfl, hb⟩
        | succ i => exact h2 i (by simpa using hi)
      · cases h
    · cases h
theorem eqAll_all : ∀ (bs : List Bool), eqAll bs = (List.range' 0 bs.length).all fun i => bs.getD i true := by
  have g : ∀ (bs : List Bool) (k : Nat) (cs : List Bool), cs.drop k = bs → eqAll bs = (List.range' k bs.length).all fun i => cs.getD i true := by
    intro bs
    induction bs with
    | nil => intro k cs _; rfl
    | cons b bs ih =>
      intro k cs h
      have h0 : cs.getD k true = b := by
        have : (cs.drop k)[0]? = some b := by rw [h]; rfl
        rw [List.getElem?_drop] at this
        rw [List.getD_eq_getElem?_getD, show k = k + 0 from rfl, this]; rfl
      rw [List.length_cons, List.range'_succ, List.all_cons, h0, eqAll, ih (k + 1) cs (by rw [← List.drop_drop, h]; rfl)]
  exact fun bs => g bs 0 bs rfl

theorem equal_agg {t : TypeId} {xs ys : Array Value} {bs : List Bool} (h : eqAgg P t xs.toList ys.toList = some bs) (w : World) :
    (Op.equal t (.agg xs) (.agg ys)).run P w = .ok (eqAll bs) w ∧ ∀ (op : BinOp) (x y : Operand), (eqGuard op t x y (.agg xs) (.agg ys)).run P w = .ok () w := by
  unfold eqAgg at h
  split at h
  · rename_i fs hu
    cases hc : (!P.stoodInHeld t && !P.eqGuardType P.depth t) with
    | false => rw [hc] at h; cases h
    | true =>
      rw [hc] at h
      simp only [cond_true] at h
      rw [Bool.and_eq_true] at hc
      have hp : P.stoodInHeld t = false := by simpa using hc.1
      have hg : P.eqGuardType P.depth t = false := by simpa using hc.2
      have hf : P.fieldsOf t = fs := by simp [Program.fieldsOf, hu]
      refine ⟨?_, fun op x y => ?_⟩
      · rw [equal_succ, run_equalIn_struct (P := P) w 9999 t xs ys (by rw [hf]; exact hu) hp, hf]
        exact eqRow_run (d := 9998) xs ys w fs.toList 0 xs.toList ys.toList bs rfl rfl h
      · unfold eqGuard
        cases op <;> simp [hg]
  · rename_i len e hu
    cases hc : (!P.eqGuardType P.depth t && (oneB P e && Nat.beq xs.toList.length len)) with
    | false => rw [hc] at h; cases h
    | true =>
      rw [hc] at h
      simp only [cond_true] at h
      rw [Bool.and_eq_true, Bool.and_eq_true] at hc
      have hg : P.eqGuardType P.depth t = false := by simpa using hc.1
      have hlen := Nat.eq_of_beq_eq_true hc.2.2
      obtain ⟨i, hi, hsz⟩ : ∃ i, P.info? e = some i ∧ i.size = 1 := by
        have := hc.2.1
        unfold oneB at this
        split at this
        · rename_i i hi; exact ⟨i, hi, Nat.eq_of_beq_eq_true this⟩
        · cases this
      refine ⟨?_, fun op x y => ?_⟩
      · obtain ⟨hbl, hb⟩ := eqArr_get _ _ _ h
        rw [eqAll_all, hbl, hlen, equal_succ, Op.equalIn]
        simp only [Sem.run_bind, run_underlying hu, Result.andThen_ok, run_sizeOf hi, hsz, Std.Legacy.Range.forIn_eq_forIn_range', Std.Legacy.Range.size, Nat.sub_zero, Nat.add_sub_cancel, Nat.div_one]
        have hl : ∀ i ∈ List.range' 0 len 1, i < len := fun i hi => by simpa using (List.mem_range'_1.1 hi).2
        generalize List.range' 0 len 1 = l at hl ⊢
        induction l with
        | nil => simp
        | cons i l ih =>
          obtain ⟨x, y, ex, ey, hc⟩ := hb i (by rw [hlen]; exact hl i (by simp))
          have hag := eqCell_agg hc
          have ex : xs[i]? = some x := by simpa using ex
          have ey : ys[i]? = some y := by simpa using ey
          have px : (part e xs (i * 1)).run P w = .ok x w := by simp [part, run_isAgg hag, ex]
          have py : (part e ys (i * 1)).run P w = .ok y w := by simp [part, run_isAgg hag, ey]
          simp only [List.forIn_cons, Sem.run_bind, px, py, eqCell_run (d := 9998) hc w, Result.andThen_ok, List.all_cons]
          cases bs.getD i true
          · simp
          · simp only [Bool.not_true, Bool.false_eq_true, if_false, Sem.run_pure, Result.andThen_ok, Bool.true_and]
            exact ih fun j hj => hl j (by simp [hj])
      · unfold eqGuard
        cases op <;> simp [hg]
  · cases h

theorem run_eql' {t : TypeId} {x y : Operand} {xs ys : Array Value} {q : Bool} {w : World} (hg : (eqGuard .eql t x y (.agg xs) (.agg ys)).run P w = .ok () w)
    (h : (Op.equal t (.agg xs) (.agg ys)).run P w = .ok q w) : (do eqGuard .eql t x y (.agg xs) (.agg ys); binOp .eql t (.agg xs) (.agg ys) : Sem Value).run P w = .ok (.bool q) w := by
  have hb : binOp .eql t (.agg xs) (.agg ys) = (do pure (.bool (← Op.equal t (.agg xs) (.agg ys)))) := rfl
  rw [hb]; simp only [Sem.run_bind, hg, Result.andThen]; rw [h]; rfl
theorem run_neq' {t : TypeId} {x y : Operand} {xs ys : Array Value} {q : Bool} {w : World} (hg : (eqGuard .neq t x y (.agg xs) (.agg ys)).run P w = .ok () w)
    (h : (Op.equal t (.agg xs) (.agg ys)).run P w = .ok q w) : (do eqGuard .neq t x y (.agg xs) (.agg ys); binOp .neq t (.agg xs) (.agg ys) : Sem Value).run P w = .ok (.bool (!q)) w := by
  have hb : binOp .neq t (.agg xs) (.agg ys) = (do pure (.bool (!(← Op.equal t (.agg xs) (.agg ys))))) := rfl
  rw [hb]; simp only [Sem.run_bind, hg, Result.andThen]; rw [h]; rfl

theorem run_eql {t : TypeId} {x y : Operand} {a b : Value} {q : Bool} {w : World} (hb : binOp .eql t a b = (do pure (.bool (← Op.equal t a b))))
    (hg : eqGuard .eql t x y a b = pure ()) (h : (Op.equal t a b).run P w = .ok q w) : (do eqGuard .eql t x y a b; binOp .eql t a b : Sem Value).run P w = .ok (.bool q) w := by
  rw [hg, hb]; simp [h]
theorem run_neq {t : TypeId} {x y : Operand} {a b : Value} {q : Bool} {w : World} (hb : binOp .neq t a b = (do pure (.bool (!(← Op.equal t a b)))))
    (hg : eqGuard .neq t x y a b = pure ()) (h : (Op.equal t a b).run P w = .ok q w) : (do eqGuard .neq t x y a b; binOp .neq t a b : Sem Value).run P w = .ok (.bool (!q)) w := by
  rw [hg, hb]; simp [h]

theorem nilQ_parts {y : Operand} {b : Value} (h : nilQ y b = true) : y = .const .nilIface ∧ b = .nilIface := by
  unfold nilQ at h
  split at h
  · exact ⟨rfl, rfl⟩
  · cases h

theorem isNil_parts {a : Value} {z : Bool} (h : isNil a = some z) : (a = .nilIface ∧ z = true) ∨ (∃ t v, a = .iface t v ∧ z = false) := by
  unfold isNil at h
  split at h
  · exact .inl ⟨rfl, by injection h with h; exact h.symm⟩
  · exact .inr ⟨_, _, rfl, by injection h with h; exact h.symm⟩
  · cases h

theorem equal_nil {t : TypeId} {i} (h : P.underlying t = some (.interface i)) (w : World) : (Op.equal t .nilIface .nilIface).run P w = .ok true w := by
  rw [equal_succ, Op.equalIn]; simp only [Sem.run_bind, run_underlying h]; rfl
theorem equal_iface {t t' : TypeId} {v : Value} {i} (h : P.underlying t = some (.interface i)) (w : World) : (Op.equal t (.iface t' v) .nilIface).run P w = .ok false w := by
  rw [equal_succ, Op.equalIn]; simp only [Sem.run_bind, run_underlying h]; rfl
theorem equal_isNil {t : TypeId} {a : Value} {z : Bool} {i} (h : P.underlying t = some (.interface i)) (hz : isNil a = some z) (w : World) : (Op.equal t a .nilIface).run P w = .ok z w := by
  rcases isNil_parts hz with ⟨rfl, rfl⟩ | ⟨t', v', rfl, rfl⟩
  · exact equal_nil h w
  · exact equal_iface h w

theorem nilK_run {op : BinOp} {t : TypeId} {x : Operand} {a v : Value} (h : nilK P op t a (· = v)) (w : World) :
    (do eqGuard op t x (.const .nilIface) a .nilIface; binOp op t a .nilIface : Sem Value).run P w = .ok v w := by
  unfold nilK at h
  split at h
  · rename_i hu
    unfold nilP at h
    split at h
    · rename_i hz
      subst h
      rcases isNil_parts hz with ⟨rfl, rfl⟩ | ⟨t', v', rfl, rfl⟩
      · exact run_eql rfl (by simp [eqGuard]) (equal_nil hu w)
      · exact run_eql rfl (by simp [eqGuard]) (equal_iface hu w)
    · exact h.elim
  · rename_i hu
    unfold nilP at h
    split at h
    · rename_i hz
      subst h
      rcases isNil_parts hz with ⟨rfl, rfl⟩ | ⟨t', v', rfl, rfl⟩
      · exact run_neq rfl (by simp [eqGuard]) (equal_nil hu w)
      · exact run_neq rfl (by simp [eqGuard]) (equal_iface hu w)
    · exact h.elim
  · exact h.elim

theorem binK_run {op : BinOp} {t : TypeId} {x y : Operand} {a b v : Value} (h : binK P op t a b (· = v)) (w : World) :
    (do eqGuard op t x y a b; binOp op t a b : Sem Value).run P w = .ok v w := by
  unfold binK at h
  split at h
  · obtain ⟨h0, rfl⟩ := h
    simp [go_sem, Op.shift, Int.not_lt.mpr h0]
  · obtain ⟨h0, rfl⟩ := h
    simp [go_sem, Op.shift, Int.not_lt.mpr h0]
  · split at h
    · rename_i k a k' b hsl hsr hk
      subst hk
      cases op <;> simp only [intBin] at h <;> first
        | exact h.elim
        | (subst h; simp [go_sem]; done)
        | (obtain ⟨h0, rfl⟩ := h; simp [go_sem, h0]; done)
        | (subst h; rfl)
    · exact h.elim
  · rename_i a b
    cases op <;> simp only [strBin] at h <;> first
      | exact h.elim
      | (subst h; simp [go_sem, binOp, Op.stringOp]; done)
      | (obtain ⟨h0, rfl⟩ := h; simp [go_sem, binOp, Op.stringOp]; omega)
  · split at h
    · rename_i k a k' b hk
      subst hk
      cases op <;> simp only [fltBin] at h <;> first
        | exact h.elim
        | (subst h; simp [go_sem, binOp, Op.floatCmp]; done)
        | (obtain ⟨r, hr, rfl⟩ := h; simp [go_sem, binOp, Op.floatArith, hr]; done)
    · exact h.elim
  all_goals first
    | exact h.elim
    | (split at h
       · rename_i hu
         subst h
         first
           | exact run_eql rfl (by simp [go_sem]) (equal_bool hu _ _ _)
           | exact run_neq rfl (by simp [go_sem]) (equal_bool hu _ _ _)
           | exact run_eql rfl (by simp [go_sem]) (equal_ptr hu _ _)
           | exact run_neq rfl (by simp [go_sem]) (equal_ptr hu _ _)
           | exact run_eql rfl (by simp [go_sem]) (equal_slice hu _ _ _ _ _ _)
           | exact run_neq rfl (by simp [go_sem]) (equal_slice hu _ _ _ _ _ _)
           | exact run_eql' ((equal_agg hu w).2 _ _ _) (equal_agg hu w).1
           | exact run_neq' ((equal_agg hu w).2 _ _ _) (equal_agg hu w).1
       · exact h.elim)


theorem bound_run {k : IntKind} {l : Int} {y : Nat} {c : BoundsCode} (h : 0 ≤ l ∧ l ≤ (y : Int)) (w : World) : (Instr.sliceBound (.int k l) y c).run P w = .ok l.toNat w := by
  simp [Instr.sliceBound, asIntOf, h]

theorem sliceK_run {t : TypeId} {x v : Value} {lo hi : Option Value} (h : sliceK P t x lo hi (· = v)) (w : World) : (Instr.sliceAt t x lo hi none).run P w = .ok v w := by
  unfold sliceK at h
  split at h
  · rename_i s hu
    split at h
    · split at h
      · subst h; simp [Instr.sliceAt, Instr.slice, Instr.sliceBounds, run_underlying hu]
      · obtain ⟨h0, rfl⟩ := h; simp [Instr.sliceAt, Instr.slice, Instr.sliceBounds, run_underlying hu, bound_run h0]
      · exact h.elim
    · split at h
      · obtain ⟨h0, rfl⟩ := h; simp [Instr.sliceAt, Instr.slice, Instr.sliceBounds, run_underlying hu, bound_run h0]
      · obtain ⟨h0, h1, rfl⟩ := h; simp [Instr.sliceAt, Instr.slice, Instr.sliceBounds, run_underlying hu, bound_run h0, bound_run h1]
      · exact h.elim
    · exact h.elim
  · rename_i e a len cap hu
    split at h
    · exact h.elim
    rename_i i hi'
    split at h
    · split at h
      · subst h; simp [Instr.sliceAt, Instr.slice, Instr.sliceBounds, run_underlying hu, run_sizeOf hi']
      · obtain ⟨h0, rfl⟩ := h; simp [Instr.sliceAt, Instr.slice, Instr.sliceBounds, run_underlying hu, run_sizeOf hi', bound_run h0]
      · exact h.elim
    · split at h
      · obtain ⟨h0, rfl⟩ := h; simp [Instr.sliceAt, Instr.slice, Instr.sliceBounds, run_underlying hu, run_sizeOf hi', bound_run h0]
      · obtain ⟨h0, h1, rfl⟩ := h; simp [Instr.sliceAt, Instr.slice, Instr.sliceBounds, run_underlying hu, run_sizeOf hi', bound_run h0, bound_run h1]
      · exact h.elim
    · exact h.elim
  · exact h.elim

theorem convK_run {s d : TypeId} {x v : Value} (h : convK P s d x (· = v)) (w : World) : (convert s d x).run P w = .ok v w := by
  unfold convK at h
  split at h
  · rename_i hs hd; subst h; simp [convert, run_underlying hs, run_underlying hd, Conv.intToInt]
  · rename_i hs hd; subst h; simp [convert, run_underlying hs, run_underlying hd]
  · rename_i hs hd; subst h; simp [convert, run_underlying hs, run_underlying hd, Conv.intToFloat]
  · rename_i hs hd; obtain ⟨n, h1, h2, rfl⟩ := h; simp [convert, run_underlying hs, run_underlying hd, Conv.floatToInt, h1, h2]
  · exact h.elim

theorem min2_run {x y z : Value} (h : min2 x y = some z) (w : World) : (Builtin.min2 x y).run P w = .ok z w := by
  unfold min2 at h
  split at h
  · cases h; simp [Builtin.min2]
  · cases h
theorem max2_run {x y z : Value} (h : max2 x y = some z) (w : World) : (Builtin.max2 x y).run P w = .ok z w := by
  unfold max2 at h
  split at h
  · cases h; simp [Builtin.max2]
  · cases h
theorem fold_run {f : Value → Value → Option Value} {g : Value → Value → Sem Value} (hfg : ∀ x y z, f x y = some z → ∀ w, (g x y).run P w = .ok z w) :
    ∀ {r : List Value} {x z : Value}, foldV f x r = some z → ∀ w : World, (r.foldlM g x).run P w = .ok z w
  | [], x, z, h, w => by cases h; simp
  | y :: r, x, z, h, w => by
    simp only [foldV] at h
    split at h
    · rename_i u hu
      simp only [List.foldlM_cons, Sem.run_bind, hfg _ _ _ hu, Result.andThen]
      exact fold_run hfg h w
    · cases h

theorem val_eq {o : Option Value} {v : Value} (h : val o (· = v)) : o = some v := by
  cases o with
  | none => exact h.elim
  | some u => exact congrArg some h

theorem setRow_fold : ∀ (vs : List Value) (off j : Nat) (cs : List Value),
    ((vs.zipIdx j).foldl (fun (c : Array Value) (x : Value × Nat) => c.setIfInBounds (off + x.2) x.1) cs.toArray) = (setRow cs (off + j) vs).toArray
  | [], _, _, _ => rfl
  | v :: r, off, j, cs => by
    simp only [List.zipIdx_cons, List.foldl_cons, setRow]
    have := setRow_fold r off (j + 1) (cs.set (off + j) v)
    rw [show off + (j + 1) = off + j + 1 from rfl] at this
    rw [← this]
    congr 1
    simp

theorem cells_toList (v : Value) : v.cells.toList = cellsL v := by cases v <;> simp [Value.cells, cellsL]
theorem cells_size (v : Value) : v.cells.size = (cellsL v).length := by rw [← cells_toList]; simp
theorem length_setRow : ∀ (vs : List Value) (i : Nat) (cs : List Value), (setRow cs i vs).length = cs.length
  | [], _, _ => rfl
  | v :: r, i, cs => by simp [setRow, length_setRow r]

theorem fillL_fill {place place' : Nat → Option (Nat × Nat)} (hp : ∀ i x, place i = some x → place' i = some x) :
    ∀ (ixs : List Nat) (vs : List Value) (cs r : List Value), fillL place cs ixs vs = some r → Instr.fill place' cs.toArray (ixs.zip vs) = some r.toArray
  | [], [], cs, r, h => by cases h; simp [Instr.fill]
  | [], v :: s, cs, r, h => by cases h
  | i :: ixs, [], cs, r, h => by cases h
  | i :: ixs, v :: s, cs, r, h => by
    simp only [fillL] at h
    split at h
    · rename_i off size hpl
      cases hc : (Nat.beq (cellsL v).length size && Nat.ble (off + (cellsL v).length) cs.length) with
      | false => rw [hc] at h; cases h
      | true =>
        rw [hc] at h
        simp only [Bool.and_eq_true, Nat.beq_eq, Nat.ble_eq] at hc
        simp only [List.zip_cons_cons, Instr.fill, hp _ _ hpl]
        rw [if_neg (by rw [cells_size]; simp; omega)]
        have hz : v.cells.zipIdx.foldl (fun cs (x : Value × Nat) => cs.setIfInBounds (off + x.2) x.1) cs.toArray = (setRow cs off (cellsL v)).toArray := by
          rw [← Array.foldl_toList, Array.toList_zipIdx, cells_toList]
          exact setRow_fold (cellsL v) off 0 cs
        have h2 := fillL_fill hp ixs s _ r h
        rw [← hz] at h2
        exact h2
    · cases h

theorem zip_map_fst {α β : Type} (l : List (Nat × α)) (f : α → β) : (l.map (·.1)).zip (l.map fun x => f x.2) = l.map fun x => (x.1, f x.2) := by
  induction l with
  | nil => rfl
  | cons a l ih => simp [ih]

theorem run_mapM_list {α β : Type} (f : α → Sem β) (g : α → β) (w : World) : ∀ l : List α, (∀ x ∈ l, (f x).run P w = .ok (g x) w) → (l.mapM f).run P w = .ok (l.map g) w
  | [], _ => by simp
  | a :: l, h => by
    simp [h a (by simp), run_mapM_list f g w l (fun x hx => h x (by simp [hx]))]

theorem run_mapM_array {α β : Type} (f : α → Sem β) (g : α → β) (w : World) (l : Array α) (h : ∀ x ∈ l.toList, (f x).run P w = .ok (g x) w) :
    (l.mapM f).run P w = .ok (l.map g) w := by
  rw [Array.mapM_eq_mapM_toList]
  simp [run_mapM_list f g w l.toList h]
  exact (Array.toList_inj.1 (by simp))

theorem run_zeroValue {t : TypeId} {i : TypeInfo} {z : Value} (h : P.info? t = some i) (hz : i.zero = some z) (w : World) : (zeroValue t).run P w = .ok z w := by
  simp [zeroValue, run_info h, hz]

theorem buildK_run {t : TypeId} {ps : Array (Nat × Operand)} {v : Value} (h : buildK P t (ps.toList.map (·.1)) ((ps.toList.map (·.2)).map ρ) (· = v)) (w : World) :
    (Instr.build t (ps.map fun (i, x) => (i, ρ x))).run P w = .ok v w := by
  have hz : (ps.toList.map (·.1)).zip ((ps.toList.map (·.2)).map ρ) = (ps.map fun (i, x) => (i, ρ x)).toList := by
    rw [List.map_map]
    exact (zip_map_fst ps.toList ρ).trans (by simp)
  unfold buildK at h
  split at h
  · rename_i fs d str size bytes hp al fal z cm ms hu hi
    rw [bif_and] at h
    obtain ⟨hb, h⟩ := h
    split at h
    · rename_i cs hf
      subst h
      have hm : (fs.mapM fun f => do pure (f.offset, ← sizeOf f.type) : Sem (Array (Nat × Nat))).run P w = .ok (fs.map fun f => (f.offset, P.cellsOf f.type)) w := by
        refine run_mapM_array _ _ w fs fun f hf => ?_
        have hb' := (List.all_eq_true.1 hb) f hf
        obtain ⟨i, hi⟩ := Option.isSome_iff_exists.1 hb'
        simp [run_sizeOf hi, Program.cellsOf, hi]
      have := fillL_fill (place' := fun i => (fs.map fun f => (f.offset, P.cellsOf f.type))[i]?) (fun i x hx => by
        unfold placeOf at hx
        split at hx
        · rename_i f hf
          split at hx
          · rename_i j hj
            cases hx
            simp [hf, Program.cellsOf, hj]
          · cases hx
        · cases hx) _ _ _ _ hf
      rw [hz] at this
      rw [← cells_toList z] at this
      simp only [Instr.build, Sem.run_bind, run_zeroValue hi rfl, Result.andThen, run_underlying hu, hm]
      simp only [Array.toArray_toList, Array.toList_map, Array.getElem?_map] at this
      simp [this]
    · exact h.elim
  · rename_i len e d str size bytes hp al fal z cm ms hu hi
    split at h
    · rename_i j hj
      split at h
      · rename_i cs hf
        subst h
        have := fillL_fill (place' := fun i => some (i * j.size, j.size)) (fun i x hx => hx) _ _ _ _ hf
        rw [hz] at this
        rw [← cells_toList z] at this
        simp only [Instr.build, Sem.run_bind, run_zeroValue hi rfl, Result.andThen, run_underlying hu, run_sizeOf hj]
        simp only [Array.toArray_toList, Array.toList_map] at this
        simp [this]
      · exact h.elim
    · exact h.elim
  · exact h.elim
end
end Go.Hp
