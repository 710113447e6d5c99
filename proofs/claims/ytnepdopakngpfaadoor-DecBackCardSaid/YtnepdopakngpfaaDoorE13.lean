/-
  Numbers in digits: the variables, out of the world that the rows speak of.
-/
import Derived.Test.YtnepdopakngpfaaDoorE12
import Derived.Test.YtnepdopakngpfaaDoorRows
import Derived.ProofKit
import Derived.OpenShut
import Derived.LaidMore
import Derived.Lay
import Derived.Stop.Joined
import Derived.Stop.LaidErr
import Derived.Lib.LaidTab
namespace Go.Proofs.YtnepdopakngpfaaDoor
set_option linter.unusedVariables false
set_option linter.unusedSimpArgs false
open Go.Proofs Go.Hp Go.RowKit Go.ChangeShapes Go.WideShapes Go.ChangeAt
def tabsL : List (String × DataW Unit) := [("math/bits.deBruijn32tab", Rows.laid_math_bits_deBruijn32tab), ("math/bits.deBruijn64tab", Rows.laid_math_bits_deBruijn64tab), ("internal/strconv.uint64pow10", Rows.laid_internal_strconv_uint64pow10), ("unicode/utf8.acceptRanges", Rows.laid_unicode_utf8_acceptRanges), ("strconv.ErrRange", Rows.laid_strconv_ErrRange), ("strconv.ErrSyntax", Rows.laid_strconv_ErrSyntax), ("unicode/utf8.first", Rows.laid_unicode_utf8_first)]
theorem info_parts2 {P : Program} {g : Nat} {x : Nat} (h : (P.globals[g]?).map (·.type) = some x) : (P.globals[g]?).map (·.type) = some x := h
theorem pow_of_laid {W : World} (h : laidMet Tryd.prog tabsL W) : TabP W.heap := by
  have h2 : laidMet Tryd.prog (("internal/strconv.uint64pow10", Lib.tabData .u64 Lib.pow10Tab) :: tabsL.drop 3) W := (laidMet.tail (laidMet.tail h))
  obtain ⟨g, hg⟩ := pow_named
  intro w hw
  have h3 : Lib.TabIs Tryd.prog W "internal/strconv.uint64pow10" .u64 Lib.pow10Tab := by
    obtain ⟨ps, ⟨g', t', cs, fuel, p, q, hg', ht', hvar, hd, _, _⟩, _⟩ := h2
    obtain rfl := Option.some.inj ((show Tryd.prog.globalNamed "internal/strconv.uint64pow10" = some 3 by kernel_rfl).symm.trans hg')
    obtain rfl := Option.some.inj ((show (Tryd.prog.globals[3]?).map (·.type) = some 130 by kernel_rfl).symm.trans ht')
    unfold Lib.TabIs
    rw [hvar, ← Lib.cells_of_tab Tryd.underlying130 Tryd.underlying86 (by kernel_rfl) (by kernel_rfl) hd]
  unfold Lib.TabIs at h3 ⊢
  rw [World.var?_heap hw]; exact h3
theorem err_of_laid {W : World} (h : laidMet Tryd.prog tabsL W) : ErrR W.heap := by
  have h2 := laidMet.tail (laidMet.tail (laidMet.tail (laidMet.tail h)))
  obtain ⟨ps, ⟨g', t', cs, fuel, p, q, hg', ht', hvar, hd, _, _⟩, _⟩ := h2
  obtain rfl := Option.some.inj ((show Tryd.prog.globalNamed "strconv.ErrRange" = some 2 by kernel_rfl).symm.trans hg')
  obtain rfl := Option.some.inj ((show (Tryd.prog.globals[2]?).map (·.type) = some 77 by kernel_rfl).symm.trans ht')
  obtain ⟨u, v, hu⟩ : ∃ u v, cs.toList = [.iface u v] := by
    obtain ⟨_, u, v, hu, _⟩ := iface_of_trod Tryd.underlying77 hd
    exact ⟨u, v, hu⟩
  have hr : Tryd.parseI_ren.g 16 = 2 := by kernel_rfl
  refine ⟨.iface u v, ?_, .inr ⟨u, v, rfl⟩⟩
  rw [hr, ← cell_eq]
  rw [World.var?_cell hg' hvar 0]
  have : cs.toList[0]? = some (.iface u v) := by rw [hu]; rfl
  simpa using this
theorem facts_of {W : World} (h : laidMetH Tryd.prog tabsL W) (hS : W.ShapedOpen Tryd.prog) : Facts W.heap := by
  rw [MakeChecks.laidMetH_plain _ _ _ (by kernel_rfl)] at h
  exact ⟨pow_of_laid h, err_of_laid h, max_there hS⟩
end Go.Proofs.YtnepdopakngpfaaDoor
