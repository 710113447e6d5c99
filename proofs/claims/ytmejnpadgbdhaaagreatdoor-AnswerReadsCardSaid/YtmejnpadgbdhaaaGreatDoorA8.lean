/-
  Answers: the variables, and answers, out of the world that the rows speak of.
-/
import Derived.Test.YtmejnpadgbdhaaaGreatDoorA7
import Derived.Test.YtmejnpadgbdhaaaGreatDoorRd
import Derived.Test.YtmejnpadgbdhaaaGreatDoorRows
import Derived.ProofKit
import Derived.OpenShut
import Derived.LaidMore
import Derived.Lay
import Derived.Stop.Joined
import Derived.Stop.LaidErr
import Derived.Lib.LaidTab
namespace Go.Proofs.YtmejnpadgbdhaaaGreatDoor
set_option linter.unusedVariables false
set_option linter.unusedSimpArgs false
open Go.Proofs Go.Hp Go.RowKit Go.ChangeShapes Go.WideShapes Go.ChangeAt
def tabsL : List (String × DataW Unit) := [("math/bits.deBruijn32tab", Rows.laid_math_bits_deBruijn32tab), ("math/bits.deBruijn64tab", Rows.laid_math_bits_deBruijn64tab), ("internal/strconv.uint64pow10", Rows.laid_internal_strconv_uint64pow10), ("unicode/utf8.acceptRanges", Rows.laid_unicode_utf8_acceptRanges), ("strconv.ErrRange", Rows.laid_strconv_ErrRange), ("strconv.ErrSyntax", Rows.laid_strconv_ErrSyntax), ("unicode/utf8.first", Rows.laid_unicode_utf8_first)]
theorem info_parts2 {P : Program} {g : Nat} {x : Nat} (h : (P.globals[g]?).map (·.type) = some x) : (P.globals[g]?).map (·.type) = some x := h
theorem pow_of_laid {W : World} (h : laidMet Tryz.prog tabsL W) : TabP W.heap := by
  have h2 : laidMet Tryz.prog (("internal/strconv.uint64pow10", Lib.tabData .u64 Lib.pow10Tab) :: tabsL.drop 3) W := (laidMet.tail (laidMet.tail h))
  obtain ⟨g, hg⟩ := pow_named
  intro w hw
  have h3 : Lib.TabIs Tryz.prog W "internal/strconv.uint64pow10" .u64 Lib.pow10Tab := by
    obtain ⟨ps, ⟨g', t', cs, fuel, p, q, hg', ht', hvar, hd, _, _⟩, _⟩ := h2
    obtain rfl := Option.some.inj ((show Tryz.prog.globalNamed "internal/strconv.uint64pow10" = some 1 by kernel_rfl).symm.trans hg')
    obtain rfl := Option.some.inj ((show (Tryz.prog.globals[1]?).map (·.type) = some 127 by kernel_rfl).symm.trans ht')
    unfold Lib.TabIs
    rw [hvar, ← Lib.cells_of_tab Tryz.underlying127 Tryz.underlying93 (by kernel_rfl) (by kernel_rfl) hd]
  unfold Lib.TabIs at h3 ⊢
  rw [World.var?_heap hw]; exact h3
theorem err_of_laid {W : World} (h : laidMet Tryz.prog tabsL W) : ErrR W.heap := by
  have h2 := laidMet.tail (laidMet.tail (laidMet.tail (laidMet.tail h)))
  obtain ⟨ps, ⟨g', t', cs, fuel, p, q, hg', ht', hvar, hd, _, _⟩, _⟩ := h2
  obtain rfl := Option.some.inj ((show Tryz.prog.globalNamed "strconv.ErrRange" = some 3 by kernel_rfl).symm.trans hg')
  obtain rfl := Option.some.inj ((show (Tryz.prog.globals[3]?).map (·.type) = some 83 by kernel_rfl).symm.trans ht')
  obtain ⟨u, v, hu⟩ : ∃ u v, cs.toList = [.iface u v] := by
    obtain ⟨_, u, v, hu, _⟩ := iface_of_trod Tryz.underlying83 hd
    exact ⟨u, v, hu⟩
  have hr : Tryz.parseI_ren.g 16 = 3 := by kernel_rfl
  refine ⟨.iface u v, ?_, .inr ⟨u, v, rfl⟩⟩
  rw [hr, ← cell_eq]
  rw [World.var?_cell hg' hvar 0]
  have : cs.toList[0]? = some (.iface u v) := by rw [hu]; rfl
  simpa using this
theorem facts_of {W : World} (h : laidMetH Tryz.prog tabsL W) (hS : W.ShapedOpen Tryz.prog) : Facts W.heap := by
  rw [MakeChecks.laidMetH_plain _ _ _ (by kernel_rfl)] at h
  exact ⟨pow_of_laid h, err_of_laid h, max_there hS⟩
theorem bytes_of {l : List Int} (h : ∀ x ∈ l, (Lit.int .u8 x).wf = true) : ∃ b : List UInt8, l.map (Value.int .u8) = byV b ∧ b.length = l.length := by
  refine ⟨l.map fun x => UInt8.ofNat x.toNat, ?_, by simp⟩
  unfold byV
  rw [List.map_map]
  refine List.map_congr_left fun x hx => ?_
  have : 0 ≤ x ∧ x ≤ 255 := by simpa [Lit.wf, IntKind.min, IntKind.max, IntKind.bits, IntKind.signed] using h x hx
  show Value.int .u8 x = Value.int .u8 ((UInt8.ofNat x.toNat).toNat : Int)
  rw [UInt8.toNat_ofNat']
  congr 1
  omega
theorem in_wf {x : Int} (h : (Lit.int .i64 x).wf = true) : inR x = true := inR_iff.2 (by simpa [Lit.wf, IntKind.min, IntKind.max, IntKind.bits, IntKind.signed] using h)
theorem ans_of {h : Heap} {e : Int} {q1 q2 q3 : Option Addr} {l1 l2 l3 c1 c2 c3 n0 n1 n2 n3 : Nat} (r0 : Rd Tryz.prog h n0 22 [.int .i64 e]) (r1 : Rd Tryz.prog h n1 23 [.slice q1 l1 c1]) (r2 : Rd Tryz.prog h n2 24 [.slice q2 l2 c2]) (r3 : Rd Tryz.prog h n3 25 [.slice q3 l3 c3]) :
    ∃ a : Ans, a.Valid ∧ a.e = e ∧ a.n.length = l1 ∧ a.sd.length = l2 ∧ a.b.length = l3 ∧ valsAt h q1 (numV a.n) ∧ valsAt h q2 (numV a.sd) ∧ valsAt h q3 (byV a.b) := by
  obtain ⟨x, hx, hwf⟩ := r0.int Tryz.underlying22
  obtain rfl : e = x := by simpa using hx
  obtain ⟨_, _, n, hn, hv1, hw1⟩ := r1.ints Tryz.underlying23 Tryz.underlying2 (by kernel_rfl)
  obtain ⟨_, _, sd, hs, hv2, hw2⟩ := r2.ints Tryz.underlying24 Tryz.underlying3 (by kernel_rfl)
  obtain ⟨_, _, bl, hb, hv3, hw3⟩ := r3.ints Tryz.underlying25 Tryz.underlying5 (by kernel_rfl)
  obtain ⟨b, eb, lb⟩ := bytes_of hw3
  rw [eb] at hv3
  exact ⟨⟨e, n, sd, b⟩, ⟨in_wf hwf, fun x hx => in_wf (hw1 x hx), fun x hx => in_wf (hw2 x hx)⟩, rfl, hn, hs, by rw [← hb, ← lb], hv1, hv2, hv3⟩
end Go.Proofs.YtmejnpadgbdhaaaGreatDoor
