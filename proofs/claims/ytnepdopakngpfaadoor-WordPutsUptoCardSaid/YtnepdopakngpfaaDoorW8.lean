/-
  Texts: strings.Builder and strings.Join, in memory.
-/
import Derived.Test.YtnepdopakngpfaaDoorZ6
import Derived.Test.YtnepdopakngpfaaDoorW7
namespace Go.Proofs.YtnepdopakngpfaaDoor
set_option linter.unusedVariables false
set_option linter.unusedSimpArgs false
set_option linter.unnecessarySimpa false
open Go.Proofs Go.Shelf Go.RowKit Go.Hp
theorem new_fresh {h : Heap} {o : Obj} {K : Addr → Heap → Prop} (hk : K ⟨h.size, 0, none⟩ (h.push o)) : newP h o K := hk
theorem bldr_heap {B b : Nat} {bs : List Value} {w w' : World} (e : w'.heap = w.heap) (h : Bldr B b bs w) : Bldr B b bs w' := by
  simpa only [Bldr, Lib.IsBuilder, Lib.BuilderAt, World.ownsRow, e] using h
/-- A builder in memory, in a block of its own. -/
def BH (B b : Nat) (l : List UInt8) (h : Heap) : Prop := ∀ w : World, w.heap = h → Bldr B b (Lib.byteCells l) w
theorem BH.of {B b : Nat} {l : List UInt8} {w : World} (h : Bldr B b (Lib.byteCells l) w) : BH B b l w.heap := fun w' e => bldr_heap e h
theorem at_ext {T e B b : Nat} {p : Value} {bs : List Value} {w w' : World} (x : Ext w.heap w'.heap) (h : Lib.BuilderAt T e B b p bs w) : Lib.BuilderAt T e B b p bs w' := by
  obtain ⟨h1, v, h2, h3, h4⟩ := h
  refine ⟨h1, v, x.blk h2, ⟨h3.1, ?_⟩, h4⟩
  rcases h3.2 with h | ⟨g, cap, cur, a1, a2, a3, a4⟩
  · exact .inl h
  · exact .inr ⟨g, cap, cur, a1, a2, x.blk a3, a4⟩
theorem BH.ext {B b : Nat} {l : List UInt8} {h h' : Heap} (k : BH B b l h) (e : Ext h h') : BH B b l h' := fun w hw => by
  subst hw
  have := k { w with heap := h } rfl
  rcases this with g | g
  · exact .inl (at_ext (w := { w with heap := h }) (w' := w) e g)
  · exact .inr (at_ext (w := { w with heap := h }) (w' := w) e g)
theorem ext_low {g0 : Heap} {w w' : World} (e : Ext g0 w.heap) (b : Below g0.size w w') : Ext g0 w'.heap := ⟨Nat.le_trans e.size b.size, fun k hk => (b.block k hk).trans (e.at_ k hk)⟩
section
variable {g0 h : Heap} {b : Nat} {l : List UInt8}
theorem WriteString_of {s : List UInt8} {K : Int → Value → Heap → Prop} (e : Ext g0 h) (k : BH g0.size b l h) (hl : l.length + s.length ≤ 2 ^ 40) (hk : ∀ n v h', Ext g0 h' → BH g0.size b (l ++ s) h' → K n v h') : strings_Builder_WriteString (some ⟨b, 0, none⟩) (str s) h K := by
  intro w hw
  subst hw
  refine ⟨enters_of Tryd.func47 (by kernel_rfl) rfl _ _, (write_string g0.size b (Lib.byteCells l) (str s) w (k w rfl) (by rw [Lib.byteCells_length, str_size]; exact hl) e.size).mono ?_⟩
  rintro x w' ⟨rfl, hu, hb⟩
  refine ⟨_, rfl, ⟨hb.tape, hb.os, hb.output, fun d => d.elim⟩, hk _ _ _ (ext_low e hb) (BH.of (.inr ?_))⟩
  have : Lib.byteCells l ++ Lib.strCells (str s) = Lib.byteCells (l ++ s) := by rw [Lib.byteCells_append]; rfl
  rw [← this]; exact hu
theorem WriteByte_of {K : Value → Heap → Prop} (e : Ext g0 h) (k : BH g0.size b l h) (hl : l.length ≤ 2 ^ 40) (hk : ∀ v h', Ext g0 h' → BH g0.size b (l ++ [10]) h' → K v h') : strings_Builder_WriteByte (some ⟨b, 0, none⟩) 10 h K := by
  intro w hw
  subst hw
  refine ⟨enters_of Tryd.func48 (by kernel_rfl) rfl _ _, (write_byte g0.size b (Lib.byteCells l) 10 w (k w rfl) (by rw [Lib.byteCells_length]; exact hl) e.size).mono ?_⟩
  rintro x w' ⟨rfl, hu, hb⟩
  refine ⟨_, rfl, ⟨hb.tape, hb.os, hb.output, fun d => d.elim⟩, hk _ _ (ext_low e hb) (BH.of (.inr ?_))⟩
  have : Lib.byteCells l ++ [.int .u8 10] = Lib.byteCells (l ++ [10]) := by rw [Lib.byteCells_append]; rfl
  rw [← this]; exact hu
theorem Grow_of {n : Nat} {K : Heap → Prop} (e : Ext g0 h) (hb0 : g0.size ≤ b) (hbk : h[b]? = some (.cells #[.pointer none, .slice none 0 0] 75)) (hn : n ≤ 2 ^ 40) (hk : ∀ h', Ext g0 h' → BH g0.size b [] h' → K h') : strings_Builder_Grow (some ⟨b, 0, none⟩) (n : Int) h K := by
  intro w hw
  subst hw
  refine ⟨enters_of Tryd.func63 (by kernel_rfl) rfl _ _, (Tryd.Builder_Grow_fresh g0.size b n w hb0 hbk e.size (by omega)).mono ?_⟩
  rintro x w' ⟨rfl, hu, hb⟩
  exact ⟨_, rfl, ⟨hb.tape, hb.os, hb.output, fun d => d.elim⟩, hk _ (ext_low e hb) (BH.of (.inr hu))⟩
theorem String_of {K : ByteArray → Heap → Prop} (e : Ext g0 h) (k : BH g0.size b l h) (hk : ∀ h', Ext g0 h' → K (str l) h') : strings_Builder_String (some ⟨b, 0, none⟩) h K := by
  intro w hw
  subst hw
  refine ⟨enters_of Tryd.func49 (by kernel_rfl) rfl _ _, (Tryd.Builder_String_any g0.size b l w (k w rfl) e.size).mono ?_⟩
  rintro x w' ⟨rfl, hb⟩
  exact ⟨_, rfl, ⟨hb.tape, hb.os, hb.output, fun d => d.elim⟩, hk _ (ext_low e hb)⟩
end
end Go.Proofs.YtnepdopakngpfaaDoor
