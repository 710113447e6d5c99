/- PROVED HERE: the statement 'WordPutsUptoCardSaid' of the seat: the Go function strait/straitlaw07.WordPuts returns true and leaves memory that was there as it was. Condition: what it reads is of bulk at most 1048576 (the statement's own second form). -/
import Derived.Test.YtnepdopakngpfaaDoorTie
import Derived.Test.YtnepdopakngpfaaDoorCards
import Derived.LaidMore
import Derived.Lay
import Derived.SevenTiedAt
import Derived.Stop.Joined
import Derived.Test.YtnepdopakngpfaaDoorWE
import Derived.Test.YtnepdopakngpfaaDoorRd
import Derived.WalkKit
import Derived.ProofKit
import Derived.OpenShut
import Derived.ShutString
import Derived.ChangeOld
import Derived.Below
namespace Go.Proofs.YtnepdopakngpfaaDoor.wordPutsUpto
open Go.Hp
set_option linter.unusedSimpArgs false
set_option linter.unusedVariables false
open Go.ChangeShapes Go.WideShapes Go.ChangeAt Go.RowKit

theorem own : ownKnob Tryd.prog.godebug = none := by kernel_rfl
theorem laidOut : laidOutB Tryd.prog = true := by kernel_rfl

theorem walk (ls : List (List (List UInt8))) (a0 : Option Addr) (a0c : Nat) (w : World) (v : rowsOf w.heap a0 ls) (hB : bulkR ls ≤ 2 ^ 20) (hl : MaxThere w.heap) :
    Calls Tryd.prog 5 #[.slice a0 ls.length a0c] w fun e w' => e = .returned (.bool true) ∧ Below w.heap.size w w' :=
  law_calls straitlaw07_WordPuts.ret_elim (straitlaw07_WordPuts.calls (WordPuts_of hl v hB fun h' e => ⟨rfl, e⟩) w rfl).2

set_option maxRecDepth 100000 in
theorem lifted (os : Os) (started : os.Started) (H : Type) (enc : TypeId × Value → H) (F : Stop.Interp) :
    ReturnsInHanded {} Tryd.checked os 5 .any (fun w args => ((Rows.OpenSpec.upto Rows.wordPutsSpec).pre enc Tryd.prog Tryd.f5 Rows.wordPutsUptoRow.domain false w args ∧ laidMetH Tryd.prog Rows.wordPutsUptoRow.laid w) ∧ sizedMet enc Tryd.prog Tryd.f5 (Rows.OpenSpec.upto Rows.wordPutsSpec) false w args) (((Rows.OpenSpec.upto Rows.wordPutsSpec).at F).post enc Tryd.prog Tryd.f5 false true false false) := by
  refine wrap_cond (s := Rows.OpenSpec.upto Rows.wordPutsSpec) (k := Rows.uptoSmall) rfl (F := F) (C := Tryd.checked) (X := fun w _ => laidMetH Tryd.prog Rows.wordPutsUptoRow.laid w) (fun _ _ _ hh h => h.of_heap hh) own started (by kernel_rfl) Tryd.func5
    (witness_cond (s := Rows.OpenSpec.upto Rows.wordPutsSpec) (k := Rows.uptoSmall) rfl (x := ([.nil], [], [])) (enc := enc) (C := Tryd.checked) (os := os) (X := fun w _ => laidMetH Tryd.prog Rows.wordPutsUptoRow.laid w) false (World.laidAll Tryd.prog os Rows.wordPutsUptoRow.laid) #[.slice none 0 0] 8 (World.laidAll_os _ _ _)
      (World.shaped_of_ZipB (by kernel_rfl) (by kernel_rfl)) (by kernel_rfl) (by kernel_rfl) (by kernel_rfl) (by kernel_rfl) (by kernel_rfl)
      (by rw [MakeChecks.laidMetH_plain _ _ _ (by kernel_rfl)]; exact laidMet_laidAll _ (by kernel_rfl) (by kernel_rfl))) ?_
  intro W base args ds gs before hval0 hW hkk hL hS
  have hval : ∀ (j : Nat) t v, Tryd.f5.params[j]? = some t → args[j]? = some v → Value.okWide Tryd.prog W .any base t v := hval0
  have hW' := hW
  obtain ⟨p, q, hA0, hV, rfl, hfz, hnd⟩ := hW
  have hA : DataW.TrodAll enc Tryd.prog W 0 (fun _ => true) true Tryd.f5.params.toList args.toList ds p := hA0
  rw [Tryd.params5] at hA hval
  obtain ⟨v0, vs0, d0, ds0, p0, q0, hargs0, rfl, rfl, h0, r0_⟩ := trodAll_cons hA
  obtain ⟨he_, rfl, rfl⟩ := trodAll_nil r0_
  obtain rfl : args = #[v0] := by cases args; simp_all
  obtain ⟨rfl, rfl⟩ := trodVars_none hV
  have k0 := h0
  have lt0 : ∀ x ∈ p0, x.block < W.heap.size := by obtain ⟨m, hm⟩ := k0; exact DataW.trod_lt m _ _ _ hm
  obtain ⟨a0, a0l, a0c, rfl⟩ := okWide_slice Tryd.underlying37 (hval 0 37 v0 rfl rfl)
  obtain ⟨ls, hlen, hrow, hbk⟩ : ∃ ls : List (List (List UInt8)), ls.length = a0l ∧ rowsOf W.heap a0 ls ∧ bulkR ls ≤ Rows.uptoBulk d0 := by
    obtain ⟨m, hm⟩ := h0
    exact rows_of Tryd.underlying37 Tryd.underlying22 Tryd.underlying9 (by kernel_rfl) (by kernel_rfl) hm
  subst hlen
  have hb : Rows.uptoBulk d0 + 0 ≤ 1048576 := of_decide_eq_true hkk
  clear hA0 hval0
  refine (walk ls a0 a0c W hrow (Nat.le_trans hbk hb) (max_there hS)).mono fun e W' ⟨he, bel⟩ => ?_
  subst he
  exact ⟨_, rfl, _, _, _, [], _, [], hW', trodAll_mk1 (shut_bool Tryd.underlying4 _), (trodAll_cons_mk (Below.trod laidOut (by kernel_rfl) (of_decide_eq_true (by kernel_rfl)) k0 bel lt0) trodAll_mk0), rfl, bel.frame _, fun h => by cases h⟩

theorem over : Rows.wordPutsUptoRow.holds Tryd.pinned (Rows.OpenSpec.upto Rows.wordPutsSpec) :=
  OpenClaim.holds_of_cond 5 Tryd.f5 rfl rfl rfl rfl rfl rfl rfl ⟨rfl, rfl, rfl, rfl, rfl⟩ rfl rfl rfl rfl rfl (by kernel_rfl) Tryd.func5 (by kernel_rfl)
    (of_decide_eq_true (by kernel_rfl)) (by unfold Func.isWrapper; first | (rw [if_pos (by decide +kernel)]; kernel_rfl) | (rw [if_neg (by decide +kernel)]; exact ⟨rfl, rfl⟩))
    (fun os started H enc _ F => lifted os started H enc F)

/-- The statement. -/
theorem proved : Rows.WordPutsUptoCardSaid :=
  Claim7.holds_tied_plain_at .later [] [.data, .pinned] true (true, "c393a3418e382f199858983a81dee36eab484f1736a2b4eccf939277599dcae2") true over (fun _ h => by cases h) (by kernel_rfl) (fun _ h => by cases h) wordPutsUpto_row_tie rfl ⟨rfl, rfl⟩ (by kernel_rfl) rfl
    (fun f fn hf hfn => by
      obtain rfl : f = 5 := Option.some.inj ((show Tryd.prog.funcNamed "strait/straitlaw07.WordPuts" = some 5 by kernel_rfl).symm.trans hf) |>.symm
      obtain rfl : fn = Tryd.f5 := (Option.some.inj (Tryd.func5.symm.trans hfn)).symm
      exact ⟨by kernel_rfl, fun j t ht => by
        rw [Tryd.params5] at ht
        have hall : (([37] : List TypeId).all fun u => !Tryd.prog.wantsStandIn u) = true := by kernel_rfl
        have hm : t ∈ ([37] : List TypeId) := by simpa using Array.mem_of_getElem? ht
        exact (show Tryd.prog.wantsStandIn t = false by simpa using List.all_eq_true.1 hall t hm)⟩)
    (by kernel_rfl)
end Go.Proofs.YtnepdopakngpfaaDoor.wordPutsUpto
#print axioms Go.Proofs.YtnepdopakngpfaaDoor.wordPutsUpto.proved
