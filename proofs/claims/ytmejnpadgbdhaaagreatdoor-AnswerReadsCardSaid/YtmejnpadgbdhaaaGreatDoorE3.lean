/-
  Texts: joins, plainly; rows that are told their shape.
-/
import Derived.Test.YtmejnpadgbdhaaaGreatDoorE2
import Derived.Handed
import Derived.ShapedOpen
namespace Go.Proofs.YtmejnpadgbdhaaaGreatDoor
set_option linter.unusedVariables false
set_option linter.unusedSimpArgs false
set_option linter.unnecessarySimpa false
open Go.Proofs Go.Shelf Go.RowKit Go.Hp Go.ChangeShapes Go.WideShapes
theorem max_there {w : World} (h : w.ShapedOpen Tryz.prog) : MaxThere w.heap := by
  obtain ⟨m, hm⟩ := Tryz.laysM146.s1_3 w h
  exact ⟨m, by rw [← cell_eq]; exact hm⟩
/-- As the wrap of rows with tables; the contract is told the shape of its first world too. -/
theorem wrap_shaped {H : Type} {enc : TypeId × Value → H} {a : Assume} {C : Checked} {os : Os} {f : FuncId} {fn : Func} {s : ChangeSpec} {conds : List PathCond} {apart fresh handsOn again : Bool} {X : World → Array Value → Prop}
    (hX : ∀ (w w' : World) (args : Array Value), w.heap = w'.heap → X w args → X w' args)
    (own : ownKnob C.prog.godebug = none) (started : os.Started) (noInit : C.prog.inits.idxOf? f = none) (hfn : C.prog.funcs[f]? = some fn)
    (witness : ∃ (w : World) (tape : Tape) (i : Input), w.os = os ∧ (w.forCall tape i).Shaped C.prog ∧ i.vars = [] ∧ Input.okWide C.prog (w.forCall tape i) .any w.heap.size f i ∧
      ((s.pre enc C.prog fn conds apart (w.forCall tape i).memory i.args ∧ X (w.forCall tape i).memory i.args) ∧ sizedMet enc C.prog fn (OpenSpec.ofChange s) apart (w.forCall tape i).memory i.args) ∧ a.holds C.prog (lone (Frame.enter C.prog f i.args .normal) [] (w.forCall tape i)))
    (work : ∀ (W : World) (base : Nat) (args : Array Value) (ds gs : List (DataW H)) (before : List MemPlace),
      (∀ (j : Nat) t v, fn.params[j]? = some t → args[j]? = some v → Value.okWide C.prog W .any base t v) →
      DataW.Whole enc C.prog fn.params.toList s.vars apart W args.toList ds gs before → X W args → W.ShapedOpen C.prog →
      Calls C.prog f args W fun e W' => ∃ v, e = .returned v ∧ s.post enc C.prog fn apart fresh handsOn again W args v W') :
    ReturnsInHanded a C os f .any (fun w args => (s.pre enc C.prog fn conds apart w args ∧ X w args) ∧ sizedMet enc C.prog fn (OpenSpec.ofChange s) apart w args) (s.post enc C.prog fn apart fresh handsOn again) := by
  refine returnsInHanded_of_calls own started noInit witness fun w tape i _ hsh _ hok hpre _ => ?_
  obtain ⟨_, _, _, fn', hfn', _, _, _, _, hval⟩ := hok
  obtain rfl : fn' = fn := Option.some.inj (hfn'.symm.trans hfn)
  obtain ⟨⟨⟨ds, gs, before, hw, _⟩, hx⟩, _⟩ := hpre
  refine (work (w.forCall tape i) w.heap.size i.args ds gs before hval (DataW.Whole.of_heap (w' := w.forCall tape i) (by rfl) hw) (hX _ _ _ (by rfl) hx) hsh).mono fun e W' ⟨v, he, hp⟩ => ?_
  subst he
  exact ChangeSpec.post_blind hp
/-- Put together with blanks between. -/
def tailJ (acc : List UInt8) : List (List UInt8) → List UInt8
  | [] => acc
  | x :: r => tailJ (acc ++ [32] ++ x) r
def joinB : List (List UInt8) → List UInt8
  | [] => []
  | x :: r => tailJ x r
def sumL (ls : List (List UInt8)) : Nat := (ls.map List.length).sum
theorem sumL_cons (x : List UInt8) (r : List (List UInt8)) : sumL (x :: r) = x.length + sumL r := by simp [sumL]
theorem sumL_mem {ls : List (List UInt8)} {x : List UInt8} (h : x ∈ ls) : x.length ≤ sumL ls := by
  induction ls with
  | nil => cases h
  | cons y r ih =>
    rw [sumL_cons]
    rcases List.mem_cons.1 h with rfl | h
    · omega
    · have := ih h; omega
theorem tailJ_app : ∀ (r : List (List UInt8)) (a b : List UInt8), tailJ (a ++ b) r = a ++ tailJ b r
  | [], a, b => rfl
  | x :: r, a, b => by
    show tailJ (a ++ b ++ [32] ++ x) r = a ++ tailJ (b ++ [32] ++ x) r
    rw [← tailJ_app r]; simp
theorem joinB_two (x y : List UInt8) (r : List (List UInt8)) : joinB (x :: y :: r) = x ++ 32 :: joinB (y :: r) := by
  show tailJ (x ++ [32] ++ y) r = x ++ 32 :: tailJ y r
  rw [tailJ_app]; simp
theorem segA_word {c : UInt8} : ∀ {x a l : List UInt8}, c ∉ x → segA c a (x ++ c :: l) = (a ++ x) :: segA c [] l
  | [], a, l, h => by simp [segA_cons]
  | b :: x, a, l, h => by
    simp at h
    rw [List.cons_append, segA_cons, if_neg (fun e => h.1 e.symm), segA_word h.2]; simp
theorem segA_last {c : UInt8} : ∀ {x a : List UInt8}, c ∉ x → segA c a x = [a ++ x]
  | [], a, h => by simp [segA]
  | b :: x, a, h => by
    simp at h
    rw [segA_cons, if_neg (fun e => h.1 e.symm), segA_last h.2]; simp
theorem segA_some (c : UInt8) : ∀ (l a : List UInt8), ∃ y r, segA c a l = y :: r
  | [], a => ⟨a, [], rfl⟩
  | b :: l, a => by
    rw [segA_cons]
    split
    · exact ⟨_, _, rfl⟩
    · exact segA_some c l _
theorem segs_join : ∀ {ls : List (List UInt8)}, ls ≠ [] → (∀ x ∈ ls, (32 : UInt8) ∉ x) → segA 32 [] (joinB ls) = ls
  | [], h, _ => absurd rfl h
  | [x], _, h => by
    show segA 32 [] (tailJ x []) = [x]
    exact segA_last (h x (by simp))
  | x :: y :: r, _, h => by
    rw [joinB_two, segA_word (h x (by simp)), segs_join (by simp) (fun z hz => h z (by simp at hz ⊢; exact .inr hz))]; rfl
theorem join_segs : ∀ (l a : List UInt8), joinB (segA 32 a l) = a ++ l
  | [], a => by simp [segA, joinB, tailJ]
  | b :: l, a => by
    rw [segA_cons]
    split
    · rename_i e
      subst e
      obtain ⟨y, r, hy⟩ := segA_some 32 l []
      rw [hy, joinB_two, ← hy, join_segs l []]; rfl
    · rw [join_segs l]; simp
theorem join_mem {b : UInt8} : ∀ {ls : List (List UInt8)}, b ∈ joinB ls → b = 32 ∨ ∃ x ∈ ls, b ∈ x
  | [], h => by cases h
  | [x], h => .inr ⟨x, by simp, h⟩
  | x :: y :: r, h => by
    rw [joinB_two] at h
    rcases List.mem_append.1 h with h | h
    · exact .inr ⟨x, by simp, h⟩
    · rcases List.mem_cons.1 h with h | h
      · exact .inl h
      · rcases join_mem h with h | ⟨z, hz, h⟩
        · exact .inl h
        · exact .inr ⟨z, by simp at hz ⊢; exact .inr hz, h⟩
theorem sumL_join : ∀ (ls : List (List UInt8)), (joinB ls).length ≤ sumL ls + ls.length
  | [] => by simp [joinB]
  | [x] => by rw [sumL_cons]; show x.length ≤ _; omega
  | x :: y :: r => by
    have := sumL_join (y :: r)
    rw [joinB_two, sumL_cons]
    simp at this ⊢
    omega
theorem str_app (a b : List UInt8) : str a ++ str b = str (a ++ b) := by
  apply ByteArray.ext
  show (str a ++ str b).data = _
  rw [ByteArray.data_append]
  simp [str]
end Go.Proofs.YtmejnpadgbdhaaaGreatDoor
