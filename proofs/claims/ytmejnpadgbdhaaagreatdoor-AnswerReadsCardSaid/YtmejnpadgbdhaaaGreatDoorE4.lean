/-
  Numbers in digits: CutPrefix, ParseInt, FormatInt.
-/
import Derived.Test.YtmejnpadgbdhaaaGreatDoorE3
import Derived.Test.YtmejnpadgbdhaaaGreatDoorShP
import Derived.Test.YtmejnpadgbdhaaaGreatDoorShO
import Derived.Test.YtmejnpadgbdhaaaGreatDoorShX
namespace Go.Proofs.YtmejnpadgbdhaaaGreatDoor
set_option linter.unusedVariables false
set_option linter.unusedSimpArgs false
open Go.Proofs Go.Shelf Go.RowKit Go.Hp
/-- The table of the powers of ten is there. -/
def TabP (h : Heap) : Prop := ∀ w : World, w.heap = h → Lib.TabIs Tryz.prog w "internal/strconv.uint64pow10" .u64 Lib.pow10Tab
/-- The variable ErrRange is there. -/
def ErrR (h : Heap) : Prop := ∃ ev, cell h ⟨Tryz.parseI_ren.g 16, 0, none⟩ = some ev ∧ (ev = .nilIface ∨ ∃ te pe, ev = .iface te pe)
theorem ErrR.ext {h h' : Heap} (m : ErrR h) (e : Ext h h') : ErrR h' := by
  obtain ⟨ev, hm, hv⟩ := m; exact ⟨ev, e.cell' hm, hv⟩
theorem CutPrefix_of {s p : ByteArray} {h : Heap} {K : ByteArray → Bool → Heap → Prop} (hk : K (str (Lib.trimPrefix (bytes s) (bytes p))) (Lib.hasPrefix (bytes s) (bytes p)) h) : strings_CutPrefix s p h K := by
  intro w hw
  subst hw
  refine ⟨enters_of Tryz.func60 (by kernel_rfl) rfl _ _, (Any.strings_CutPrefix Tryz.cutPf s p w).mono ?_⟩
  rintro e w' ⟨rfl, rfl⟩
  exact ⟨_, rfl, Out.refl _, hk⟩
theorem ParseInt_ok {s : ByteArray} {v : Int} {h : Heap} {K : Int → Value → Heap → Prop} (hs : s.size ≤ 2 ^ 40) (hv : Lib.parseIntB 64 (bytes s) = .ok v) (hk : ∀ h', Ext h h' → K v .nilIface h') : strconv_ParseInt s 10 64 h K := by
  intro w hw
  subst hw
  refine ⟨enters_of Tryz.func50 (by kernel_rfl) rfl _ _, (Any.strconv_ParseInt_10_at64_ok Tryz.parseI s (by omega) v hv w).mono ?_⟩
  rintro e w' ⟨rfl, hw⟩
  have hb : Below w.heap.size w w' := by
    rcases hw with rfl | ⟨t, rfl⟩
    · exact Below.refl _ _
    · exact Lib.bytesWorld_below _ _ _
  exact ⟨_, rfl, out_below hb, hk _ (ext_below hb)⟩
theorem ParseInt_range {s : ByteArray} {h : Heap} {K : Int → Value → Heap → Prop} (hs : s.size ≤ 2 ^ 40) (he : ErrR h) (hv : Lib.parseIntB 64 (bytes s) = .range) (hk : ∀ n t v h', Ext h h' → K n (.iface t v) h') : strconv_ParseInt s 10 64 h K := by
  intro w hw
  subst hw
  obtain ⟨ev, hm, hev⟩ := he
  refine ⟨enters_of Tryz.func50 (by kernel_rfl) rfl _ _, (Any.strconv_ParseInt_10_at64_range Tryz.parseI s (by omega) hv ev w (by rw [cell_eq]; exact hm) hev).mono ?_⟩
  rintro e w' ⟨N, rfl, _, _, hb⟩
  exact ⟨_, rfl, out_below hb, hk _ _ _ _ (ext_below hb)⟩
theorem FormatInt_of {n : Int} {h : Heap} {K : ByteArray → Heap → Prop} (ht : TabP h) (h0 : -9223372036854775808 ≤ n) (h1 : n ≤ 9223372036854775807) (hk : ∀ h', Ext h h' → K (str (Lib.itoa n)) h') : strconv_FormatInt n 10 h K := by
  intro w hw
  subst hw
  refine ⟨enters_of Tryz.func42 (by kernel_rfl) rfl _ _, (Any.strconv_FormatInt_10 Tryz.fmtI n h0 h1 w (ht w rfl)).mono ?_⟩
  rintro e w' ⟨rfl, k, os, rfl⟩
  have hb : Below w.heap.size w (Go.Sort.grow (w.drewN k) os) := ⟨rfl, rfl, rfl, by simp [Go.Sort.grow, World.drewN], fun i hi => by simp [Go.Sort.grow, World.drewN, Array.getElem?_append_left hi]⟩
  exact ⟨_, rfl, out_below hb, hk _ (ext_below hb)⟩
end Go.Proofs.YtmejnpadgbdhaaaGreatDoor
