/-
  Texts: strings.IndexAny of a blank and a newline, over short strings of any bytes.
-/
import Derived.Test.YtnepdopakngpfaaDoorZ1
import Derived.Shelf.GgClosure.StringsRunes
namespace Go.Proofs.YtnepdopakngpfaaDoor
set_option linter.unusedVariables false
set_option linter.unusedSimpArgs false
open Go.Proofs Go.Shelf Go.RowKit Go.Lib
def spP (r : Nat) : Bool := r == 32 || r == 10
theorem irune_all (r : Nat) (hv : Lib.validRune (r : Int) = true) (w : World) :
    Calls Tryd.prog 89 #[.string ⟨#[32, 10]⟩, .int .i32 (r : Int)] w fun e w' => ∃ n : Int, e = .returned (.int .i64 n) ∧ decide (0 ≤ n) = spP r ∧ Below w.heap.size w w' := by
  have hv' : ((0 : Int) ≤ r ∧ (r : Int) < 55296) ∨ ((57343 : Int) < r ∧ (r : Int) ≤ 1114111) := of_decide_eq_true hv
  by_cases h : r < 128
  · refine (Tryd.strings_IndexRune_ascii ⟨#[32, 10]⟩ (r : Int) w (by omega) (by omega)).mono ?_
    rintro e w' ⟨rfl, rfl⟩
    refine ⟨_, rfl, ?_, Below.refl _ _⟩
    have := Lib.contains_iff_indexByte [32, 10] ((r : Int).toNat.toUInt8)
    show decide (0 ≤ Lib.indexByte [32, 10] ((r : Int).toNat.toUInt8)) = spP r
    rw [← this, Int.toNat_natCast]
    have all : ∀ r : Fin 128, ([32, 10] : List UInt8).contains (r.val.toUInt8) = spP r.val := by decide +kernel
    exact all ⟨r, h⟩
  · have hsp : spP r = false := by unfold spP; simp; omega
    rw [hsp]
    by_cases he : r = 65533
    · subst he
      refine (irune_err w).mono ?_
      rintro e w' ⟨rfl, hb⟩
      exact ⟨_, rfl, rfl, hb⟩
    · refine (irune_def (r : Int) (by omega) (by omega) (by omega) hv w).mono ?_
      rintro e w' ⟨rfl, hb⟩
      exact ⟨_, rfl, rfl, hb⟩
theorem rune_ok (s : ByteArray) (pos : Nat) : Lib.validRune ((Utf8.decode s pos).1 : Int) = true := by
  have := Lib.rune_valid (s.extract pos s.size)
  rw [Lib.tail_decode, Nat.add_zero] at this
  exact this
set_option maxHeartbeats 4000000 in
set_option maxRecDepth 1000000 in
theorem iany_short (s : ByteArray) (h8 : s.size ≤ 8) (w : World) :
    Calls Tryd.prog 71 #[.string s, .string ⟨#[32, 10]⟩] w fun e w' => e = .returned (.int .i64 (Lib.idxFunc spP true s)) ∧ Below w.heap.size w w' := by
  obtain ⟨chars, hch⟩ : ∃ c : ByteArray, (⟨#[32, 10]⟩ : ByteArray) = c := ⟨_, rfl⟩
  have hc2 : chars.size = 2 := by rw [← hch]; rfl
  have hemp : chars.toList.isEmpty = false := by rw [← hch, Lib.toList_data]; rfl
  have hn1 : ((chars.size : Int) == 1) = false := beq_eq_false_iff_ne.2 (by omega)
  have h8z : decide ((8 : Int) < (s.size : Int)) = false := decide_eq_false (by omega)
  have eF89 : ∀ args w, (callFunc 89 args).run Tryd.prog w = .ok (.enter 89 args) w := enters_of Tryd.func89 (by kernel_rfl) rfl
  have eF90 : ∀ args w, (callFunc 90 args).run Tryd.prog w = .ok (.enter 90 args) w := enters_of Tryd.func90 (by kernel_rfl) rfl
  have IR : ∀ (r : Nat) (hv : Lib.validRune (r : Int) = true) (w : World), Calls Tryd.prog 89 #[.string chars, .int .i32 (r : Int)] w fun e w' => ∃ n : Int, e = .returned (.int .i64 n) ∧ decide (0 ≤ n) = spP r ∧ Below w.heap.size w w' := by
    rw [← hch]; exact irune_all
  rw [hch]
  clear hch
  go_enter Tryd.func71, Tryd.ntmps71
  go_wp2_with (go_at_call 90; refine (Tryd.strings_shouldUseASCIISet _ _).mono ?_; rintro e w' ⟨rfl, hw⟩; rw [hw, h8z])
  go_loopg [] s.size (fun gf wx => ∃ pos : Nat, wx.heap[w.heap.size]? = some (.stringIter s pos) ∧ Below w.heap.size w wx ∧ Lib.idxFuncFrom spP true s gf pos = Lib.idxFunc spP true s ∧ s.size ≤ pos + gf)
  case atStart => exact ⟨0, World.iter_heap w s 0, (Below.refl _ w).alloc (Nat.le_refl _) _, rfl, by omega⟩
  case round =>
    obtain ⟨pos, hit, hbw, hleft, hfu⟩ := hrel
    by_cases hps : pos < s.size
    · obtain ⟨g', rfl⟩ : ∃ g', gk = g' + 1 := ⟨gk - 1, by omega⟩
      have hnx : ∀ ty, (Instr.next (.pointer (some ⟨w.heap.size, 0, none⟩)) true ty).run Tryd.prog wr = _ := fun ty => Lib.run_next_any_at wr w.heap.size s pos ty hit hps
      have hwd := Lib.width_pos s pos
      have hval := rune_ok s pos
      obtain ⟨R, hR⟩ : ∃ R, (Utf8.decode s pos).1 = R := ⟨_, rfl⟩
      obtain ⟨K, hK⟩ : ∃ K, (Utf8.decode s pos).2 = K := ⟨_, rfl⟩
      simp only [Lib.idxFuncFrom, hps, if_true, hR, hK] at hleft
      rw [hR, hK] at hnx
      rw [hK] at hwd
      rw [hR] at hval
      have hit2 := Lib.iterAt_heap wr w.heap.size s pos (pos + K) hit
      have hbw2 := Lib.below_iterAt hbw (k := w.heap.size) (Nat.le_refl _) s (pos + K)
      obtain ⟨W, hWd⟩ : ∃ W, wr.iterAt w.heap.size s (pos + K) = W := ⟨_, rfl⟩
      rw [hWd] at hnx hit2 hbw2
      have cS := IR R hval W
      clear IR
      cases hsp : spP R <;> rw [hsp] at cS <;> simp only [hsp, if_true, Bool.false_eq_true, if_false] at hleft
      · go_wp2_with (go_at_call 89; refine cS.mono ?_; rintro e W' ⟨n, rfl, hn, hb3⟩; have hnn : ¬ ((0 : Int) ≤ n) := of_decide_eq_false hn)
        go_roundg g'
        case measure => omega
        case rel => exact ⟨pos + K, (hb3.block _ (by rw [← hWd, Lib.iterAt_size]; exact (Array.getElem?_eq_some_iff.1 hit).1)).trans hit2, hbw2.trans (hb3.mono hbw2.size), hleft, by omega⟩
      · go_wp2_with (go_at_call 89; refine cS.mono ?_; rintro e W' ⟨n, rfl, hn, hb3⟩; have hnn : ((0 : Int) ≤ n) := of_decide_eq_true hn)
        go_ret
        exact ⟨by rw [← hleft] <;> rfl, hbw2.trans (hb3.mono hbw2.size)⟩
    · have hnx : ∀ ty, (Instr.next (.pointer (some ⟨w.heap.size, 0, none⟩)) true ty).run Tryd.prog wr = _ := fun ty => Lib.run_next_end_at wr w.heap.size s pos ty hit hps
      rw [Lib.idxFuncFrom_end spP true s gk pos hps] at hleft
      go_wp2
      go_ret
      exact ⟨by rw [← hleft] <;> rfl, hbw⟩
end Go.Proofs.YtnepdopakngpfaaDoor
