/-
  Texts: what the library's functions on texts do to memory.
-/
import Derived.Test.YtnepdopakngpfaaDoorZ4
import Derived.Test.YtnepdopakngpfaaDoorSt
import Derived.Test.YtnepdopakngpfaaDoorG1
namespace Go.Proofs.YtnepdopakngpfaaDoor
set_option linter.unusedVariables false
set_option linter.unusedSimpArgs false
open Go.Proofs Go.Shelf Go.RowKit Go.Lib Go.Hp
/-- The bytes of a text. -/
abbrev bytes (s : ByteArray) : List UInt8 := s.data.toList
theorem out_below {w w' : World} (h : Below w.heap.size w w') : Hp.Out w w' := ⟨h.tape, h.os, h.output, fun d => d.elim⟩
theorem ext_below {w w' : World} (h : Below w.heap.size w w') : Hp.Ext w.heap w'.heap := ⟨h.size, h.block⟩
theorem Count_of {s : ByteArray} {h : Heap} {K : Int → Heap → Prop} (hk : K (Lib.countByte (bytes s) 10) h) : strings_Count s ⟨#[10]⟩ h K := by
  intro w hw
  subst hw
  refine ⟨enters_of Tryd.func36 (by kernel_rfl) rfl _ _, (Tryd.strings_Count_one s 10 w).mono ?_⟩
  rintro e w' ⟨rfl, rfl⟩
  exact ⟨_, rfl, Out.refl _, hk⟩
theorem IndexAny_of {s : ByteArray} {h : Heap} {K : Int → Heap → Prop} (hs : s.size < 4294967281) (hk : ∀ n h', decide (0 ≤ n) = (bytes s).any spB → Ext h h' → K n h') : strings_IndexAny s ⟨#[32, 10]⟩ h K := by
  intro w hw
  subst hw
  refine ⟨enters_of Tryd.func71 (by kernel_rfl) rfl _ _, (iany_all s hs w).mono ?_⟩
  rintro e w' ⟨n, rfl, hn, hb⟩
  exact ⟨_, rfl, out_below hb, hk n _ hn (ext_below hb)⟩
/-- The variable of package bytealg is there. -/
def MaxThere (h : Heap) : Prop := ∃ m, cell h ⟨0, 0, none⟩ = some (.int .i64 m)
theorem MaxThere.ext {h h' : Heap} (m : MaxThere h) (e : Ext h h') : MaxThere h' := by
  obtain ⟨m, hm⟩ := m; exact ⟨m, e.cell' hm⟩
theorem Cut_of {s sep : ByteArray} {h : Heap} {K : ByteArray → ByteArray → Bool → Heap → Prop} (hs : s.size < 4294967281) (hm : MaxThere h)
    (hk : K ⟨(Lib.cut (bytes s) (bytes sep)).1.toArray⟩ ⟨(Lib.cut (bytes s) (bytes sep)).2.1.toArray⟩ (Lib.cut (bytes s) (bytes sep)).2.2 h) : strings_Cut s sep h K := by
  intro w hw
  subst hw
  obtain ⟨m, hm⟩ := hm
  have hm' : w.cell? ⟨0, 0, none⟩ = some (.int .i64 m) := by rw [cell_eq]; exact hm
  refine ⟨enters_of Tryd.func37 (by kernel_rfl) rfl _ _, (Tryd.strings_Cut s sep m w hs hm').mono ?_⟩
  rintro e w' ⟨rfl, n, rfl⟩
  exact ⟨_, rfl, ⟨rfl, rfl, rfl, fun d => d.elim⟩, hk⟩
theorem Split_of {s sep : ByteArray} {h : Heap} {K : Option Addr → Nat → Nat → Heap → Prop} (hs : s.size < 4294967281) (hm : MaxThere h) (h1 : 1 ≤ sep.size)
    (hk : newP h (.cells ((Lib.splitB sep 0 (Lib.countB s sep) s).map Value.string).toArray 9) fun a h' => K (some a) (Lib.countB s sep + 1) (Lib.countB s sep + 1) h') : strings_Split s sep h K := by
  intro w hw
  subst hw
  obtain ⟨m, hm⟩ := hm
  have hm' : w.cell? ⟨0, 0, none⟩ = some (.int .i64 m) := by rw [cell_eq]; exact hm
  refine ⟨enters_of Tryd.func38 (by kernel_rfl) rfl _ _, (Tryd.strings_Split s sep m w hs hm' h1).mono ?_⟩
  rintro e w' ⟨rfl, rfl⟩
  exact ⟨_, rfl, ⟨rfl, rfl, rfl, fun d => d.elim⟩, hk⟩
end Go.Proofs.YtnepdopakngpfaaDoor
