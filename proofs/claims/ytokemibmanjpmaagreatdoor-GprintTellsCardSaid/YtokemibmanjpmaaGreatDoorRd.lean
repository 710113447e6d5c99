/-
  What a row is told of its arguments, in plain words: what lies where, by types.
-/
import Derived.Test.YtokemibmanjpmaaGreatDoorWk
import Derived.Deep.Slices
import Derived.OpenShut
import Derived.Laws.Cover2
namespace Go.Hp
set_option linter.unusedVariables false
set_option linter.unusedSimpArgs false
open Go.ChangeShapes Go.WideShapes Go.Deep

/-- These cells read as a value of this type. -/
def Rd (P : Program) (h : Heap) : Nat → TypeId → List Value → Prop
  | 0, _, _ => False
  | n + 1, t, cs => match P.underlying t with
    | some (.int k) => ∃ x, cs = [.int k x] ∧ (Lit.int k x).wf = true
    | some .bool => ∃ b, cs = [.bool b]
    | some (.float k) => ∃ x, cs = [.float k x] ∧ (Lit.float k x).wf = true
    | some .string => ∃ s, cs = [.string s] ∧ s.size ≤ maxLen
    | some (.slice e) => ∃ q len cap, cs = [.slice q len cap] ∧ len ≤ cap ∧ cap ≤ maxLen ∧ (q = none → len = 0 ∧ cap = 0) ∧
        ∀ i, i < len → ∃ a cs', q = some a ∧ cs'.length = P.cellsOf e ∧ (∀ j v, cs'[j]? = some v → cell h (a.add (i * P.cellsOf e + j)) = some v) ∧ Rd P h n e cs'
    | some (.struct fs) => cs.length = P.cellsOf t ∧ ∀ (i : Nat) (f : Field), fs[i]? = some f → Rd P h n f.type ((cs.drop f.offset).take (P.cellsOf f.type))
    | some (.array m e) => cs.length = P.cellsOf t ∧ ∀ i, i < m → Rd P h n e ((cs.drop (i * P.cellsOf e)).take (P.cellsOf e))
    | _ => True

section
variable {P : Program} {h : Heap} {n : Nat} {t : TypeId} {cs : List Value}
theorem Rd.pos (r : Rd P h n t cs) : ∃ m, n = m + 1 := by cases n with
  | zero => exact r.elim
  | succ m => exact ⟨m, rfl⟩
theorem Rd.int {k : IntKind} (r : Rd P h n t cs) (ht : P.underlying t = some (.int k)) : ∃ x, cs = [.int k x] ∧ (Lit.int k x).wf = true := by
  obtain ⟨m, rfl⟩ := r.pos; unfold Rd at r; rw [ht] at r; exact r
theorem Rd.bool (r : Rd P h n t cs) (ht : P.underlying t = some .bool) : ∃ b, cs = [.bool b] := by
  obtain ⟨m, rfl⟩ := r.pos; unfold Rd at r; rw [ht] at r; exact r
theorem Rd.float {k : FloatKind} (r : Rd P h n t cs) (ht : P.underlying t = some (.float k)) : ∃ x, cs = [.float k x] ∧ (Lit.float k x).wf = true := by
  obtain ⟨m, rfl⟩ := r.pos; unfold Rd at r; rw [ht] at r; exact r
theorem Rd.string (r : Rd P h n t cs) (ht : P.underlying t = some .string) : ∃ s, cs = [.string s] ∧ s.size ≤ maxLen := by
  obtain ⟨m, rfl⟩ := r.pos; unfold Rd at r; rw [ht] at r; exact r
theorem Rd.struct {fs : Array Field} (r : Rd P h n t cs) (ht : P.underlying t = some (.struct fs)) : cs.length = P.cellsOf t ∧ ∃ m, ∀ (i : Nat) (f : Field), fs[i]? = some f → Rd P h m f.type ((cs.drop f.offset).take (P.cellsOf f.type)) := by
  obtain ⟨m, rfl⟩ := r.pos; unfold Rd at r; rw [ht] at r; exact ⟨r.1, m, r.2⟩
theorem Rd.array {l : Nat} {e : TypeId} (r : Rd P h n t cs) (ht : P.underlying t = some (.array l e)) : cs.length = P.cellsOf t ∧ ∃ m, ∀ i, i < l → Rd P h m e ((cs.drop (i * P.cellsOf e)).take (P.cellsOf e)) := by
  obtain ⟨m, rfl⟩ := r.pos; unfold Rd at r; rw [ht] at r; exact ⟨r.1, m, r.2⟩
theorem Rd.slice {e : TypeId} (r : Rd P h n t cs) (ht : P.underlying t = some (.slice e)) : ∃ q len cap, cs = [.slice q len cap] ∧ len ≤ cap ∧ cap ≤ maxLen ∧ (q = none → len = 0 ∧ cap = 0) ∧
    ∃ m, ∀ i, i < len → ∃ a cs', q = some a ∧ cs'.length = P.cellsOf e ∧ (∀ j v, cs'[j]? = some v → cell h (a.add (i * P.cellsOf e + j)) = some v) ∧ Rd P h m e cs' := by
  obtain ⟨m, rfl⟩ := r.pos; unfold Rd at r; rw [ht] at r
  obtain ⟨q, len, cap, h1, h2, h3, h4, h5⟩ := r
  exact ⟨q, len, cap, h1, h2, h3, h4, m, h5⟩
end

theorem rd_of_trod {H : Type} {enc : TypeId × Value → H} {P : Program} {w : World} {base : Nat} {spare : Nat → Bool} {held : Bool} : ∀ {fuel : Nat} {t : TypeId} {cs : List Value} {x : DataW H × List MemPlace},
    DataW.trod enc P w base spare held fuel t cs = some x → Rd P w.heap fuel t cs
  | 0, _, _, _, h => by simp [DataW.trod] at h
  | n + 1, t, cs, x, h => by
    unfold Rd
    cases hu : P.underlying t with
    | none => trivial
    | some d =>
      cases d with
      | int k => obtain ⟨y, h1, _, h2⟩ := DataW.trod_int hu h; exact ⟨y, h1, h2⟩
      | bool => obtain ⟨y, h1, _⟩ := DataW.trod_bool hu h; exact ⟨y, h1⟩
      | string => obtain ⟨y, h1, _, h2⟩ := DataW.trod_string hu h; exact ⟨y, h1, h2⟩
      | float k =>
        unfold DataW.trod at h
        rw [hu] at h
        split at h <;> simp_all
      | slice e =>
        rcases DataW.trod_slice hu h with ⟨h1, _⟩ | ⟨a, len, cap, elems, rest, m, hm, h1, _, hb, hl, hc, he, hel, _, _⟩
        · exact ⟨none, 0, 0, h1, Nat.le_refl _, by simp [maxLen], fun _ => ⟨rfl, rfl⟩, fun i hi => absurd hi (by omega)⟩
        · have hm : n = m := by omega
          subst hm
          refine ⟨some a, len, cap, h1, hl, hc, (fun h => by cases h), fun i hi => ?_⟩
          have h2 := hel i hi
          rw [List.getElem?_eq_getElem (show i < elems.length by omega), Option.bind_eq_some_iff] at h2
          obtain ⟨cs', h3, h4⟩ := h2
          obtain ⟨_, hl', hat⟩ := World.cells?_some h3
          refine ⟨a, cs', rfl, hl', fun j v hj => ?_, rd_of_trod h4⟩
          have hjl : j < P.cellsOf e := by rw [← hl']; exact (List.getElem?_eq_some_iff.1 hj).1
          have := hat j hjl
          rw [hj, cell_eq, Go.Deep.add_add] at this
          exact this
      | struct fs =>
        obtain ⟨xs, m, hm, _, hl, hx, hf⟩ := DataW.trod_struct hu h
        have hm : n = m := by omega
        subst hm
        refine ⟨hl, fun i f hi => ?_⟩
        have h2 := hf i f hi
        rw [List.getElem?_eq_getElem (show i < xs.length by rw [hx]; exact (Array.getElem?_eq_some_iff.1 hi).1)] at h2
        exact rd_of_trod h2
      | array l e =>
        obtain ⟨xs, m, hm, _, hl, hx, hf⟩ := DataW.trod_array hu h
        have hm : n = m := by omega
        subst hm
        refine ⟨hl, fun i hi => ?_⟩
        have h2 := hf i hi
        rw [List.getElem?_eq_getElem (show i < xs.length by omega)] at h2
        exact rd_of_trod h2
      | _ => trivial

theorem okWide_array {P : Program} {w : World} {r : Reach} {base : Nat} {t : TypeId} {v : Value} {m : Nat} {e : TypeId} (ht : P.underlying t = some (.array m e)) (h : Value.okWide P w r base t v) : ∃ cs, v = .agg cs ∧ cs.size = P.cellsOf t := by
  simp only [Value.okWide, ht] at h
  obtain ⟨cs, h1, h2, _⟩ := h
  exact ⟨cs, h1, h2⟩

/-! ### Slices, as lists -/
/-- Elements of 'w' cells each. -/
def rowsAt (h : Heap) (q : Option Addr) (w : Nat) (l : List (List Value)) : Prop := ∀ i cs, l[i]? = some cs → ∃ a, q = some a ∧ ∀ o v, cs[o]? = some v → cell h (a.add (i * w + o)) = some v
theorem rowsAt.ext {h h' : Heap} {q : Option Addr} {w : Nat} {l : List (List Value)} (hv : rowsAt h q w l) (e : Ext h h') : rowsAt h' q w l := fun i cs hi => by
  obtain ⟨a, ha, hc⟩ := hv i cs hi; exact ⟨a, ha, fun o v ho => e.cell' (hc o v ho)⟩
theorem rowsAt.vals {h : Heap} {q : Option Addr} {l : List Value} (hv : rowsAt h q 1 (l.map fun v => [v])) : valsAt h q l := fun i v hi => by
  obtain ⟨a, ha, hc⟩ := hv i [v] (by simp [hi]); exact ⟨a, ha, by have := hc 0 v rfl; simpa using this⟩

theorem choose_list {α : Type} {p : Nat → α → Prop} : ∀ {n : Nat}, (∀ i, i < n → ∃ x, p i x) → ∃ l : List α, l.length = n ∧ ∀ i x, l[i]? = some x → p i x
  | 0, _ => ⟨[], rfl, fun i x h => by simp at h⟩
  | n + 1, h => by
    obtain ⟨l, hl, hp⟩ := choose_list (n := n) fun i hi => h i (by omega)
    obtain ⟨x, hx⟩ := h n (by omega)
    refine ⟨l ++ [x], by simp [hl], fun i y hi => ?_⟩
    by_cases c : i < l.length
    · rw [List.getElem?_append_left c] at hi; exact hp i y hi
    · rw [List.getElem?_append_right (by omega)] at hi
      have : i - l.length = 0 := by
        rcases Nat.eq_zero_or_pos (i - l.length) with e | e
        · exact e
        · rw [List.getElem?_eq_none (by simp; omega)] at hi; cases hi
      rw [this] at hi
      have : i = n := by omega
      subst this
      simp at hi; subst hi; exact hx

section
variable {P : Program} {h : Heap} {n : Nat} {t e : TypeId} {q : Option Addr} {len cap : Nat}
theorem Rd.rows (r : Rd P h n t [.slice q len cap]) (ht : P.underlying t = some (.slice e)) : len ≤ cap ∧ cap ≤ maxLen ∧ ∃ (l : List (List Value)) (m : Nat), l.length = len ∧ rowsAt h q (P.cellsOf e) l ∧ ∀ cs ∈ l, cs.length = P.cellsOf e ∧ Rd P h m e cs := by
  obtain ⟨q', len', cap', he, h1, h2, _, m, h5⟩ := r.slice ht
  cases he
  obtain ⟨l, hl, hp⟩ := choose_list (p := fun i cs => ∃ a, q = some a ∧ cs.length = P.cellsOf e ∧ (∀ j v, cs[j]? = some v → cell h (a.add (i * P.cellsOf e + j)) = some v) ∧ Rd P h m e cs) (fun i hi => by
    obtain ⟨a, cs', g1, g2, g3, g4⟩ := h5 i hi; exact ⟨cs', a, g1, g2, g3, g4⟩)
  refine ⟨h1, h2, l, m, hl, fun i cs hi => ?_, fun cs hcs => ?_⟩
  · obtain ⟨a, g1, g2, g3, g4⟩ := hp i cs hi; exact ⟨a, g1, g3⟩
  · obtain ⟨i, hi⟩ := List.mem_iff_getElem?.1 hcs
    obtain ⟨a, g1, g2, g3, g4⟩ := hp i cs hi; exact ⟨g2, g4⟩

theorem exists_map {α : Type} {l : List (List Value)} {f : α → List Value} {Q : α → Prop} (hl : ∀ cs ∈ l, ∃ x, cs = f x ∧ Q x) : ∃ l' : List α, l = l'.map f ∧ ∀ x ∈ l', Q x := by
  induction l with
  | nil => exact ⟨[], rfl, by simp⟩
  | cons c l ih =>
    obtain ⟨x, hx, hq⟩ := hl c (by simp)
    obtain ⟨l', h1, h2⟩ := ih fun cs hcs => hl cs (by simp [hcs])
    exact ⟨x :: l', by rw [h1, hx]; rfl, fun y hy => (List.mem_cons.1 hy).elim (fun e => e ▸ hq) (h2 y)⟩

theorem Rd.ints {k : IntKind} (r : Rd P h n t [.slice q len cap]) (ht : P.underlying t = some (.slice e)) (he : P.underlying e = some (.int k)) (hs : P.cellsOf e = 1) :
    len ≤ cap ∧ cap ≤ maxLen ∧ ∃ l : List Int, l.length = len ∧ valsAt h q (l.map (Value.int k)) ∧ ∀ x ∈ l, (Lit.int k x).wf = true := by
  obtain ⟨h1, h2, l, m, hl, hr, hcs⟩ := r.rows ht
  obtain ⟨l', rfl, hq⟩ := exists_map (f := fun x : Int => [Value.int k x]) (Q := fun x => (Lit.int k x).wf = true) fun cs hc => (hcs cs hc).2.int he
  refine ⟨h1, h2, l', by simpa using hl, rowsAt.vals ?_, hq⟩
  rw [hs] at hr
  rw [List.map_map]; exact hr
theorem Rd.strings (r : Rd P h n t [.slice q len cap]) (ht : P.underlying t = some (.slice e)) (he : P.underlying e = some .string) (hs : P.cellsOf e = 1) :
    len ≤ cap ∧ cap ≤ maxLen ∧ ∃ l : List ByteArray, l.length = len ∧ valsAt h q (l.map Value.string) ∧ ∀ x ∈ l, x.size ≤ maxLen := by
  obtain ⟨h1, h2, l, m, hl, hr, hcs⟩ := r.rows ht
  obtain ⟨l', rfl, hq⟩ := exists_map (f := fun x : ByteArray => [Value.string x]) (Q := fun x => x.size ≤ maxLen) fun cs hc => (hcs cs hc).2.string he
  refine ⟨h1, h2, l', by simpa using hl, rowsAt.vals ?_, hq⟩
  rw [hs] at hr
  rw [List.map_map]; exact hr
end

/-! ### Rows of integers alone -/
def isI64 (P : Program) (t : TypeId) : Bool := match P.underlying t with
  | some (.int .i64) => Nat.beq (P.cellsOf t) 1
  | _ => false
def allIntsB (P : Program) (fs : Array Field) : Bool := (List.range fs.size).all fun i => match fs[i]? with
  | some f => Nat.beq f.offset i && isI64 P f.type
  | none => false
theorem isI64_spec {P : Program} {t : TypeId} (h : isI64 P t = true) : P.underlying t = some (.int .i64) ∧ P.cellsOf t = 1 := by
  unfold isI64 at h
  split at h
  · rename_i hu; exact ⟨hu, Nat.eq_of_beq_eq_true h⟩
  · cases h
theorem map_of_each {cs : List Value} {n : Nat} (hl : cs.length = n) (h : ∀ i, i < n → ∃ x : Int, (cs.drop i).take 1 = [.int .i64 x] ∧ (Lit.int .i64 x).wf = true) : ∃ xs : List Int, xs.length = n ∧ cs = xs.map (Value.int .i64) ∧ ∀ x ∈ xs, (Lit.int .i64 x).wf = true := by
  obtain ⟨xs, hx, hp⟩ := choose_list h
  refine ⟨xs, hx, ?_, fun x hxm => ?_⟩
  · apply List.ext_getElem?
    intro j
    by_cases c : j < n
    · obtain ⟨x, hj⟩ := get_lt (l := xs) (i := j) (by omega)
      have := (hp j x hj).1
      rw [List.getElem?_map, hj]
      have h2 : ((cs.drop j).take 1)[0]? = some (.int .i64 x) := by rw [this]; rfl
      rw [List.getElem?_take, if_pos (by omega), List.getElem?_drop] at h2
      simpa using h2
    · rw [List.getElem?_eq_none (by omega), List.getElem?_eq_none (by simp; omega)]
  · obtain ⟨i, hi⟩ := List.mem_iff_getElem?.1 hxm
    exact (hp i x hi).2
theorem Rd.intStruct {P : Program} {h : Heap} {n : Nat} {t : TypeId} {cs : List Value} {fs : Array Field} (r : Rd P h n t cs) (ht : P.underlying t = some (.struct fs)) (hs : P.cellsOf t = fs.size) (hf : allIntsB P fs = true) :
    ∃ xs : List Int, xs.length = fs.size ∧ cs = xs.map (Value.int .i64) ∧ ∀ x ∈ xs, (Lit.int .i64 x).wf = true := by
  obtain ⟨hl, m, hm⟩ := r.struct ht
  refine map_of_each (by rw [hl, hs]) fun i hi => ?_
  have h1 := (List.all_eq_true.1 hf) i (List.mem_range.2 hi)
  rw [Array.getElem?_eq_getElem hi] at h1
  simp only [Bool.and_eq_true] at h1
  obtain ⟨h2, h3⟩ := isI64_spec h1.2
  have h4 := hm i _ (Array.getElem?_eq_getElem hi)
  rw [h3, Nat.eq_of_beq_eq_true h1.1] at h4
  exact h4.int h2
theorem Rd.intArray {P : Program} {h : Heap} {n l : Nat} {t e : TypeId} {cs : List Value} (r : Rd P h n t cs) (ht : P.underlying t = some (.array l e)) (hs : P.cellsOf t = l) (he : isI64 P e = true) :
    ∃ xs : List Int, xs.length = l ∧ cs = xs.map (Value.int .i64) ∧ ∀ x ∈ xs, (Lit.int .i64 x).wf = true := by
  obtain ⟨h2, h3⟩ := isI64_spec he
  obtain ⟨hl, m, hm⟩ := r.array ht
  refine map_of_each (by rw [hl, hs]) fun i hi => ?_
  have h4 := hm i hi
  rw [h3, Nat.mul_one] at h4
  exact h4.int h2
theorem list2 {α : Type} {xs : List α} (h : xs.length = 2) : ∃ a b, xs = [a, b] := by match xs, h with | [a, b], _ => exact ⟨a, b, rfl⟩
theorem list3 {α : Type} {xs : List α} (h : xs.length = 3) : ∃ a b c, xs = [a, b, c] := by match xs, h with | [a, b, c], _ => exact ⟨a, b, c, rfl⟩
theorem arr1 {xs : Array Value} (h : xs.size = 1) : ∃ x0 : Value, xs = #[x0] := by
  obtain ⟨l⟩ := xs
  match l, h with | [x0], _ => exact ⟨x0, rfl⟩
theorem arr2 {xs : Array Value} (h : xs.size = 2) : ∃ x0 x1 : Value, xs = #[x0, x1] := by
  obtain ⟨l⟩ := xs
  match l, h with | [x0, x1], _ => exact ⟨x0, x1, rfl⟩
theorem arr3 {xs : Array Value} (h : xs.size = 3) : ∃ x0 x1 x2 : Value, xs = #[x0, x1, x2] := by
  obtain ⟨l⟩ := xs
  match l, h with | [x0, x1, x2], _ => exact ⟨x0, x1, x2, rfl⟩
theorem arr4 {xs : Array Value} (h : xs.size = 4) : ∃ x0 x1 x2 x3 : Value, xs = #[x0, x1, x2, x3] := by
  obtain ⟨l⟩ := xs
  match l, h with | [x0, x1, x2, x3], _ => exact ⟨x0, x1, x2, x3, rfl⟩
theorem arr5 {xs : Array Value} (h : xs.size = 5) : ∃ x0 x1 x2 x3 x4 : Value, xs = #[x0, x1, x2, x3, x4] := by
  obtain ⟨l⟩ := xs
  match l, h with | [x0, x1, x2, x3, x4], _ => exact ⟨x0, x1, x2, x3, x4, rfl⟩
theorem arr6 {xs : Array Value} (h : xs.size = 6) : ∃ x0 x1 x2 x3 x4 x5 : Value, xs = #[x0, x1, x2, x3, x4, x5] := by
  obtain ⟨l⟩ := xs
  match l, h with | [x0, x1, x2, x3, x4, x5], _ => exact ⟨x0, x1, x2, x3, x4, x5, rfl⟩
theorem arr7 {xs : Array Value} (h : xs.size = 7) : ∃ x0 x1 x2 x3 x4 x5 x6 : Value, xs = #[x0, x1, x2, x3, x4, x5, x6] := by
  obtain ⟨l⟩ := xs
  match l, h with | [x0, x1, x2, x3, x4, x5, x6], _ => exact ⟨x0, x1, x2, x3, x4, x5, x6, rfl⟩
theorem arr8 {xs : Array Value} (h : xs.size = 8) : ∃ x0 x1 x2 x3 x4 x5 x6 x7 : Value, xs = #[x0, x1, x2, x3, x4, x5, x6, x7] := by
  obtain ⟨l⟩ := xs
  match l, h with | [x0, x1, x2, x3, x4, x5, x6, x7], _ => exact ⟨x0, x1, x2, x3, x4, x5, x6, x7, rfl⟩
end Go.Hp
