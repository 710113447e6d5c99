/-
  Texts: rows of texts out of what a row's argument reads as, with their size; the wrap of a row with a condition of its own.
-/
import Derived.Test.YtnepdopakngpfaaDoorWD
import Derived.Test.YtnepdopakngpfaaDoorRows
import Derived.Test.YtnepdopakngpfaaDoorRd
import Derived.JoinedCond
import Derived.LaidLaws
namespace Go.Proofs.YtnepdopakngpfaaDoor
set_option linter.unusedVariables false
set_option linter.unusedSimpArgs false
set_option linter.unnecessarySimpa false
open Go.Proofs Go.Shelf Go.RowKit Go.Hp Go.ChangeShapes Go.WideShapes
theorem list_of {α : Type} {Q : Nat → α → Prop} : ∀ {n : Nat}, (∀ i, i < n → ∃ r, Q i r) → ∃ ls : List α, ls.length = n ∧ ∀ i r, ls[i]? = some r → Q i r
  | 0, _ => ⟨[], rfl, fun i r h => by simp at h⟩
  | n + 1, h => by
    obtain ⟨ls, hl, hq⟩ := list_of (n := n) fun i hi => h i (by omega)
    obtain ⟨x, hx⟩ := h n (by omega)
    refine ⟨ls ++ [x], by simp [hl], fun i r hr => ?_⟩
    rcases Nat.lt_or_ge i n with hi | hi
    · rw [List.getElem?_append_left (by omega)] at hr
      exact hq i r hr
    · rw [List.getElem?_append_right (by omega)] at hr
      have : i - ls.length = 0 := by
        rcases Nat.eq_zero_or_pos (i - ls.length) with h0 | h0
        · exact h0
        · rw [List.getElem?_eq_none (by simp; omega)] at hr; cases hr
      rw [this] at hr
      obtain rfl : x = r := by simpa using hr
      obtain rfl : i = n := by omega
      exact hx
section
variable {H : Type} {enc : TypeId × Value → H} {P : Program} {w : World} {base : Nat} {sp : Nat → Bool} {held : Bool} {fuel : Nat}
theorem bulk_all : ∀ (r : List (List UInt8)) (es : List (DataW H)), r.length = es.length → (∀ (i : Nat) (b : List UInt8) (d : DataW H), r[i]? = some b → es[i]? = some d → b.length + 1 ≤ Rows.uptoBulk d) → sumL r + r.length ≤ Rows.uptoBulkAll es
  | [], _, _, _ => by simp [sumL]
  | b :: r, [], h, _ => by simp at h
  | b :: r, d :: es, h, hq => by
    have h1 := bulk_all r es (by simpa using h) fun i b d hb hd => hq (i + 1) b d (by simpa using hb) (by simpa using hd)
    have h2 := hq 0 b d rfl rfl
    rw [sumL_cons]
    show _ ≤ Rows.uptoBulk d + Rows.uptoBulkAll es
    simp; omega
theorem bulk_rows : ∀ (ls : List (List (List UInt8))) (es : List (DataW H)), ls.length = es.length → (∀ (i : Nat) (r : List (List UInt8)) (d : DataW H), ls[i]? = some r → es[i]? = some d → sumL r + r.length + 1 ≤ Rows.uptoBulk d) → bulkR ls ≤ Rows.uptoBulkAll es
  | [], _, _, _ => by simp [bulkR]
  | b :: r, [], h, _ => by simp at h
  | b :: r, d :: es, h, hq => by
    have h1 := bulk_rows r es (by simpa using h) fun i b d hb hd => hq (i + 1) b d (by simpa using hb) (by simpa using hd)
    have h2 := hq 0 b d rfl rfl
    rw [bulk_cons]
    show _ ≤ Rows.uptoBulk d + Rows.uptoBulkAll es
    omega
theorem bulk_more (a b : List (DataW H)) : Rows.uptoBulkAll a + 1 ≤ Rows.uptoBulk (.slice a b) := by
  show _ ≤ Rows.uptoBulkAll a + Rows.uptoBulkAll b + 1
  omega
theorem strs_of {t e : TypeId} {q : Option Addr} {len cap : Nat} {x : DataW H × List MemPlace} (ht : P.underlying t = some (.slice e)) (he : P.underlying e = some .string) (hs : P.cellsOf e = 1)
    (h : DataW.trod enc P w base sp held fuel t [.slice q len cap] = some x) : ∃ r : List (List UInt8), r.length = len ∧ len ≤ cap ∧ valsAt w.heap q (strV r) ∧ sumL r + r.length + 1 ≤ Rows.uptoBulk x.1 := by
  rcases DataW.trod_slice ht h with ⟨h1, rfl⟩ | ⟨a, len', cap', elems, rest, m, _, h1, rfl, _, hl, _, hel, hat, _, _⟩
  · obtain ⟨rfl, rfl, rfl⟩ : q = none ∧ len = 0 ∧ cap = 0 := by simpa using h1
    exact ⟨[], rfl, Nat.le_refl _, fun i v hi => by simp [strV] at hi, by show 0 + 0 + 1 ≤ 1; omega⟩
  · obtain ⟨rfl, rfl, rfl⟩ : q = some a ∧ len = len' ∧ cap = cap' := by simpa using h1
    obtain ⟨r, hr, hq⟩ := list_of (n := len) (Q := fun i (b : List UInt8) => cell w.heap (a.add i) = some (.string (str b)) ∧ ∀ d, (elems.map (·.1))[i]? = some d → b.length + 1 ≤ Rows.uptoBulk d) fun i hi => by
      have h2 := hat i hi
      rw [List.getElem?_eq_getElem (show i < elems.length by omega), Option.bind_eq_some_iff, hs, Nat.mul_one] at h2
      obtain ⟨cs', h3, h4⟩ := h2
      obtain ⟨s, rfl, h5, _⟩ := DataW.trod_string he h4
      obtain ⟨_, _, hc⟩ := World.cells?_some h3
      have h6 := hc 0 (by omega)
      refine ⟨bytes s, ?_, fun d hd => ?_⟩
      · have e0 : (a.add i).add 0 = a.add i := by rw [Go.Deep.add_add]; rfl
        rw [cell_eq, e0] at h6
        rw [str_bytes]; exact h6
      · rw [List.getElem?_map, List.getElem?_eq_getElem (show i < elems.length by omega), h5] at hd
        obtain rfl := Option.some.inj hd
        exact Nat.le_refl _
    refine ⟨r, hr, hl, fun i v hi => ?_, ?_⟩
    · unfold strV at hi
      rw [List.getElem?_map] at hi
      obtain ⟨b, hb, rfl⟩ := Option.map_eq_some_iff.1 hi
      exact ⟨a, rfl, (hq i b hb).1⟩
    · have h1 := bulk_all r (elems.map (·.1)) (by rw [List.length_map, hr, hel]) fun i b d hb hd => (hq i b hb).2 d hd
      have h2 := bulk_more (elems.map (·.1)) (rest.map (·.1))
      exact Nat.le_trans (Nat.succ_le_succ h1) h2
theorem rows_of {t e e2 : TypeId} {q : Option Addr} {len cap : Nat} {x : DataW H × List MemPlace} (ht : P.underlying t = some (.slice e)) (he : P.underlying e = some (.slice e2)) (he2 : P.underlying e2 = some .string) (hs : P.cellsOf e = 1) (hs2 : P.cellsOf e2 = 1)
    (h : DataW.trod enc P w base sp held fuel t [.slice q len cap] = some x) : ∃ ls : List (List (List UInt8)), ls.length = len ∧ rowsOf w.heap q ls ∧ bulkR ls ≤ Rows.uptoBulk x.1 := by
  rcases DataW.trod_slice ht h with ⟨h1, rfl⟩ | ⟨a, len', cap', elems, rest, m, _, h1, rfl, _, hl, _, hel, hat, _, _⟩
  · obtain ⟨rfl, rfl, rfl⟩ : q = none ∧ len = 0 ∧ cap = 0 := by simpa using h1
    exact ⟨[], rfl, fun i v hi => by simp at hi, by simp [bulkR]⟩
  · obtain ⟨rfl, rfl, rfl⟩ : q = some a ∧ len = len' ∧ cap = cap' := by simpa using h1
    obtain ⟨ls, hr, hq⟩ := list_of (n := len) (Q := fun i (r : List (List UInt8)) => (∃ qi ci, cell w.heap (a.add i) = some (.slice qi r.length ci) ∧ r.length ≤ ci ∧ valsAt w.heap qi (strV r)) ∧ ∀ d, (elems.map (·.1))[i]? = some d → sumL r + r.length + 1 ≤ Rows.uptoBulk d) fun i hi => by
      have h2 := hat i hi
      rw [List.getElem?_eq_getElem (show i < elems.length by omega), Option.bind_eq_some_iff, hs, Nat.mul_one] at h2
      obtain ⟨cs', h3, h4⟩ := h2
      obtain ⟨qi, li, ci, rfl⟩ : ∃ qi li ci, cs' = [.slice qi li ci] := by
        rcases DataW.trod_slice he h4 with ⟨g1, _⟩ | ⟨b, lb, cb, _, _, _, _, g1, _⟩
        · exact ⟨_, _, _, g1⟩
        · exact ⟨_, _, _, g1⟩
      obtain ⟨r, rfl, g2, g3, g4⟩ := strs_of he he2 hs2 h4
      obtain ⟨_, _, hc⟩ := World.cells?_some h3
      have h6 := hc 0 (by omega)
      refine ⟨r, ⟨qi, ci, ?_, g2, g3⟩, fun d hd => ?_⟩
      · have e0 : (a.add i).add 0 = a.add i := by rw [Go.Deep.add_add]; rfl
        rw [cell_eq, e0] at h6
        exact h6
      · rw [List.getElem?_map, List.getElem?_eq_getElem (show i < elems.length by omega)] at hd
        obtain rfl := Option.some.inj hd
        exact g4
    refine ⟨ls, hr, fun i r hi => ⟨a, rfl, (hq i r hi).1⟩, ?_⟩
    have h1 := bulk_rows ls (elems.map (·.1)) (by rw [List.length_map, hr, hel]) fun i b d hb hd => (hq i b hb).2 d hd
    have h2 := bulk_more (elems.map (·.1)) (rest.map (·.1))
    exact Nat.le_trans h1 (Nat.le_trans (Nat.le_succ _) h2)
end
theorem wrap_cond {H : Type} {enc : TypeId × Value → H} {a : Assume} {C : Checked} {os : Os} {f : FuncId} {fn : Func} {s : OpenSpec} {k : (H : Type) → List (DataW H) → Bool} (hk : s.cond = some k) {F : Stop.Interp} {conds : List PathCond} {apart fresh handsOn again : Bool} {X : World → Array Value → Prop}
    (hX : ∀ (w w' : World) (args : Array Value), w.heap = w'.heap → X w args → X w' args)
    (own : ownKnob C.prog.godebug = none) (started : os.Started) (noInit : C.prog.inits.idxOf? f = none) (hfn : C.prog.funcs[f]? = some fn)
    (witness : ∃ (w : World) (tape : Tape) (i : Input), w.os = os ∧ (w.forCall tape i).Shaped C.prog ∧ i.vars = [] ∧ Input.okWide C.prog (w.forCall tape i) .any w.heap.size f i ∧
      ((s.pre enc C.prog fn conds apart (w.forCall tape i).memory i.args ∧ X (w.forCall tape i).memory i.args) ∧ sizedMet enc C.prog fn s apart (w.forCall tape i).memory i.args) ∧ a.holds C.prog (lone (Frame.enter C.prog f i.args .normal) [] (w.forCall tape i)))
    (work : ∀ (W : World) (base : Nat) (args : Array Value) (ds gs : List (DataW H)) (before : List MemPlace),
      (∀ (j : Nat) t v, fn.params[j]? = some t → args[j]? = some v → Value.okWide C.prog W .any base t v) →
      DataW.Whole enc C.prog fn.params.toList s.vars apart W args.toList ds gs before → k H (ds ++ gs) = true → X W args → W.ShapedOpen C.prog →
      Calls C.prog f args W fun e W' => ∃ v, e = .returned v ∧ (s.at F).post enc C.prog fn apart fresh handsOn again W args v W') :
    ReturnsInHanded a C os f .any (fun w args => (s.pre enc C.prog fn conds apart w args ∧ X w args) ∧ sizedMet enc C.prog fn s apart w args) ((s.at F).post enc C.prog fn apart fresh handsOn again) := by
  refine returnsInHanded_of_calls own started noInit witness fun w tape i _ hsh _ hok hpre _ => ?_
  obtain ⟨_, _, _, fn', hfn', _, _, _, _, hval⟩ := hok
  obtain rfl : fn' = fn := Option.some.inj (hfn'.symm.trans hfn)
  obtain ⟨⟨hp, hx⟩, _⟩ := hpre
  obtain ⟨ds, gs, before, hw, _, hkk⟩ := (OpenSpec.pre_some hk conds apart _ _).1 hp
  refine (work (w.forCall tape i) w.heap.size i.args ds gs before hval (DataW.Whole.of_heap (w' := w.forCall tape i) (by rfl) hw) hkk (hX _ _ _ (by rfl) hx) hsh).mono fun e W' ⟨v, he, hp⟩ => ?_
  subst he
  exact ChangeSpec.post_blind hp
theorem witness_cond {H : Type} {enc : TypeId × Value → H} {C : Checked} {os : Os} {f : FuncId} {fn : Func} {s : OpenSpec} {k : (H : Type) → List (DataW H) → Bool} (hk : s.cond = some k) {conds : List PathCond} {apart : Bool} {X : World → Array Value → Prop} (modest : Bool) (w0 : World) (args : Array Value) (fuel : Nat) (hos : w0.os = os)
    (hsh : (w0.forCall (fun _ _ => 0) ⟨#[], args, []⟩).Shaped C.prog)
    (hok : Input.okWideB C.prog (w0.forCall (fun _ _ => 0) ⟨#[], args, []⟩) f ⟨#[], args, []⟩ = true)
    {x : List (DataW H) × List (DataW H) × List MemPlace} (hwh : DataW.whole enc C.prog (w0.forCall (fun _ _ => 0) ⟨#[], args, []⟩).memory fn.params.toList s.vars apart args.toList fuel = some x)
    (hconds : conds.all (PathCond.test C.prog ⟨fn.params.toList, x.1, s.bare.plain.varTypes C.prog, x.2.1⟩) = true) (hkk : k H (x.1 ++ x.2.1) = true)
    (hsz : s.bare.sizedB enc C.prog fn apart (w0.forCall (fun _ _ => 0) ⟨#[], args, []⟩).memory args fuel = true)
    (hx : X (w0.forCall (fun _ _ => 0) ⟨#[], args, []⟩).memory args) :
    ∃ (w : World) (tape : Tape) (i : Input), w.os = os ∧ (w.forCall tape i).Shaped C.prog ∧ i.vars = [] ∧ Input.okWide C.prog (w.forCall tape i) .any w.heap.size f i ∧
      ((s.pre enc C.prog fn conds apart (w.forCall tape i).memory i.args ∧ X (w.forCall tape i).memory i.args) ∧ sizedMet enc C.prog fn s apart (w.forCall tape i).memory i.args) ∧ ({ modest := modest } : Assume).holds C.prog (lone (Frame.enter C.prog f i.args .normal) [] (w.forCall tape i)) :=
  ⟨w0, fun _ _ => 0, ⟨#[], args, []⟩, hos, hsh, (Input.okWide_of_okWideB (base := 0) hok).1, (Input.okWide_of_okWideB hok).2, ⟨⟨(OpenSpec.pre_some hk conds apart _ _).2 ⟨x.1, x.2.1, x.2.2, DataW.Whole_of_whole hwh, hconds, hkk⟩, hx⟩, sizedMet_of_sizedB hsz⟩, by
    simp only [Assume.holds]
    exact ⟨by simp, by simp, fun _ => Modest.zero, by simp, by simp⟩⟩
end Go.Proofs.YtnepdopakngpfaaDoor
