/-
  Texts: strings.IndexRune of a blank and a newline, at any rune.
-/
import Derived.Test.YtnepdopakngpfaaDoorShelf
import Derived.Laws.RangeAny
import Derived.Laws.Runes
import Derived.Scope
import Derived.Lib.OthersKept
import Derived.Lib.QuoteLoop
import Derived.Lib.RuneCountTail
import Derived.Lib.DecodeN
namespace Go.Proofs.YtnepdopakngpfaaDoor
set_option linter.unusedVariables false
set_option linter.unusedSimpArgs false
open Go.Proofs Go.Shelf Go.RowKit Go.Lib
theorem below_drew2 (n : Nat) (w : World) : Below n w w.drew.drew := by
  constructor <;> first | rfl | exact Nat.le_refl _ | (intros; rfl)
set_option maxHeartbeats 2000000 in
set_option maxRecDepth 1000000 in
theorem irune_def (r : Int) (h0 : 128 ≤ r) (h1 : r ≤ 1114111) (hne : r ≠ 65533) (hvr : Lib.validRune r = true) (w : World) :
    Calls Tryd.prog 89 #[.string ⟨#[32, 10]⟩, .int .i32 r] w fun e w' => e = .returned (.int .i64 (-1)) ∧ Below w.heap.size w w' := by
  have hvv : Utf8.valid r = true := by
    unfold Lib.validRune at hvr
    have := of_decide_eq_true hvr
    unfold Utf8.valid
    simp only [Bool.or_eq_true, Bool.and_eq_true, decide_eq_true_eq]
    omega
  obtain ⟨f1, f2, f3⟩ := encode_facts r hvv h0
  obtain ⟨E, hE⟩ : ∃ E, Utf8.encode r = E := ⟨_, rfl⟩
  rw [hE] at f1 f2 f3
  have hwr : wrap64 ((E.size : Int) - 1) = ((E.size - 1 : Nat) : Int) := by unfold wrap64; omega
  have eF108 : ∀ args w, (callFunc 108 args).run Tryd.prog w = .ok (.enter 108 args) w := enters_of Tryd.func108 (by kernel_rfl) rfl
  have eF109 : ∀ args w, (callFunc 109 args).run Tryd.prog w = .ok (.enter 109 args) w := enters_of Tryd.func109 (by kernel_rfl) rfl
  have u21 : (Tryd.prog.underlying 21).isSome = true := by kernel_rfl
  have u9 := Tryd.underlying9
  have hcv : ∀ w : World, (convert 21 9 (.int .i32 r)).run Tryd.prog w = .ok (.string E) w := fun w => by rw [run_convert_int_string w 21 9 .i32 r u21 u9, hE]
  go_enter Tryd.func89, Tryd.ntmps89
  go_wp2_with (go_at_call 109; refine (Tryd.utf8_ValidRune _ _).mono ?_; rintro e w' ⟨rfl, rfl⟩; rw [hvr])
  refine wp_scope_straight ?_
  go_wp2_with (go_at_call 109; refine (Tryd.utf8_ValidRune _ _).mono ?_; rintro e w' ⟨rfl, rfl⟩; rw [hvr])
  go_loopg [9] 1 (fun _ v9 wx => v9 = Value.int .i64 ((E.size : Int) - 1) ∧ wx = w')
  case atStart => exact ⟨rfl, rfl⟩
  case round =>
    obtain ⟨rfl, rfl⟩ := hrel
    by_cases c : E.size = 2
    · have e1 : ((E.size : Int) - 1) = 1 := by omega
      have e2 : E.size - 1 = 1 := by omega
      obtain ⟨x, hx⟩ : ∃ x : UInt8, E[1]'(by omega) = x := ⟨_, rfl⟩
      have hx1 : 128 ≤ x.toNat := by
        have := f3 (by omega)
        simp only [e2, hx] at this
        exact this
      have hix : E[(1 : Int).toNat]? = some x := by rw [← hx]; exact getElem?_pos ..
      rw [e1]
      have hne2 : ((10 : Int) != (x.toNat : Int)) = true := by simp; omega
      go_wp2_with (go_at_call 108; refine (Tryd.strings_IndexByte _ _ _).mono ?_; rintro e w' ⟨rfl, rfl⟩)
      refine wp_scope_straight ?_
      go_wp2_with (go_at_call 108; refine (Tryd.strings_IndexByte _ _ _).mono ?_; rintro e w' ⟨rfl, rfl⟩)
      go_region
      go_wp2_with fail
      · go_region_with (go_at_call 108; refine (Tryd.strings_IndexByte _ _ _).mono ?_; rintro e w' ⟨rfl, rfl⟩)
        all_goals go_wp2
        all_goals (simp only [Exit.noGoto, Exit.inBlock, Exit.then]; go_ret; exact ⟨rfl, below_drew2 _ _⟩)
      · exfalso
        have hb : ((10 : Int) != (x.toNat : Int)) = false := by assumption
        rw [hne2] at hb
        cases hb
    · have c2 : ¬ ((E.size : Int) - 1 < 2) := by omega
      go_wp2
      change bodyPost _ _ _ Exit.ret _ _
      go_ret
      exact ⟨rfl, Below.refl _ _⟩

set_option maxHeartbeats 2000000 in
set_option maxRecDepth 1000000 in
theorem irune_err (w : World) :
    Calls Tryd.prog 89 #[.string ⟨#[32, 10]⟩, .int .i32 65533] w fun e w' => e = .returned (.int .i64 (-1)) ∧ Below w.heap.size w w' := by
  have eF109 : ∀ args w, (callFunc 109 args).run Tryd.prog w = .ok (.enter 109 args) w := enters_of Tryd.func109 (by kernel_rfl) rfl
  obtain ⟨s, hs⟩ : ∃ s : ByteArray, (⟨#[32, 10]⟩ : ByteArray) = s := ⟨_, rfl⟩
  have hsz : s.size = 2 := by rw [← hs]; rfl
  have hb : ∀ (i : Nat) (h : i < s.size), (s[i]'h).toNat < 128 := by
    subst hs
    intro i h
    have h : i < 2 := h
    have : i = 0 ∨ i = 1 := by omega
    rcases this with rfl | rfl
    · exact (by decide : (32 : UInt8).toNat < 128)
    · exact (by decide : (10 : UInt8).toNat < 128)
  rw [hs]
  clear hs
  go_enter Tryd.func89, Tryd.ntmps89
  go_wp2
  go_loopg [] 2 (fun gf wx => ∃ pos : Nat, pos + gf = 2 ∧ wx.heap[w.heap.size]? = some (.stringIter s pos) ∧ Below w.heap.size w wx)
  case atStart => exact ⟨0, by omega, World.iter_heap w s 0, (Below.refl _ w).alloc (Nat.le_refl _) _⟩
  case round =>
    obtain ⟨pos, hpg, hit, hbw⟩ := hrel
    cases gk with
    | zero =>
      have hnx : ∀ ty, (Instr.next (.pointer (some ⟨w.heap.size, 0, none⟩)) true ty).run Tryd.prog wr = _ := fun ty => Lib.run_next_end_at wr w.heap.size s pos ty hit (by omega)
      go_wp2
      go_ret
      exact ⟨rfl, hbw⟩
    | succ g =>
      have hps : pos < s.size := by omega
      have hx128 := hb pos hps
      have hnx : ∀ ty, (Instr.next (.pointer (some ⟨w.heap.size, 0, none⟩)) true ty).run Tryd.prog wr = _ := fun ty => Lib.run_next_ascii_at wr w.heap.size s pos ty hit hps hx128
      obtain ⟨x, hx⟩ : ∃ x : UInt8, s[pos]'hps = x := ⟨_, rfl⟩
      rw [hx] at hnx hx128
      have hit2 := Lib.iterAt_heap wr w.heap.size s pos (pos + 1) hit
      have hbw2 := Lib.below_iterAt hbw (k := w.heap.size) (Nat.le_refl _) s (pos + 1)
      obtain ⟨W, hWd⟩ : ∃ W, wr.iterAt w.heap.size s (pos + 1) = W := ⟨_, rfl⟩
      rw [hWd] at hnx hit2 hbw2
      have hxe : ((x.toNat : Int) == 65533) = false := by simp; omega
      clear hb hx
      go_wp2
      go_roundg g
      case measure => omega
      case rel => exact ⟨pos + 1, by omega, hit2, hbw2⟩
end Go.Proofs.YtnepdopakngpfaaDoor
