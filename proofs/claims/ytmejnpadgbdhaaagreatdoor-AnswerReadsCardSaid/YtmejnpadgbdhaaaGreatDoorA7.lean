/-
  Answers: the program reads and prints at all; the law of what is printed and what is the same.
-/
import Derived.Test.YtmejnpadgbdhaaaGreatDoorA6
namespace Go.Proofs.YtmejnpadgbdhaaaGreatDoor
set_option linter.unusedVariables false
set_option linter.unusedSimpArgs false
set_option linter.unnecessarySimpa false
open Go.Proofs Go.Shelf Go.RowKit Go.Hp
attribute [local irreducible] Go.Hp.iteB Go.Hp.stC Go.Hp.newP
theorem vals_none {h : Heap} {q : Option Addr} : valsAt h q [] := fun i v hi => by simp at hi
theorem awake_of {h : Heap} {K : Bool → Heap → Prop} (f : Facts h) (hk : ∀ h', Ext h h' → K true h') : straitlaw49_awake h K := by
  unfold straitlaw49_awake
  have i1 : Lib.itoa 1 = [49] := itoa_val (l := [49]) (by decide)
  have i2 : Lib.itoa 2 = [50] := itoa_val (l := [50]) (by decide)
  have i3 : Lib.itoa 3 = [51] := itoa_val (l := [51]) (by decide)
  have i4 : Lib.itoa 4 = [52] := itoa_val (l := [52]) (by decide)
  have hT : ansT ⟨0, [2], [1, 3], []⟩ = [111, 107, 32, 50, 32, 115, 105, 100, 101, 32, 49, 32, 51] := by
    show joinB [okW, Lib.itoa 2, sideW, Lib.itoa 1, Lib.itoa 3] = _
    rw [i1, i2, i3]; rfl
  have hT2 : ansT ⟨4, [2], [], []⟩ = [101, 114, 114, 111, 114, 32, 52, 32, 50] := by
    show joinB [errW, Lib.itoa 4, Lib.itoa 2] = _
    rw [i4, i2]; rfl
  obtain ⟨b1, b2⟩ := ans_back (a := ⟨0, [2], [1, 3], []⟩) ⟨by decide, by decide, by decide⟩
  rw [hT] at b1 b2
  refine ⟨_, AParse_of (h0 := (h : Base)) (R := []) (L := [111, 107, 32, 50, 32, 115, 105, 100, 101, 32, 49, 32, 51]) f (by decide) (St.refl h) (fun h2 q1 c1 q2 c2 q3 c3 X k1 k2 k3 s2 => ?_), fun _ _ _ _ _ _ _ _ _ _ _ _ hh => hh⟩
  rw [b2] at k1 k2 k3
  rw [b1, b2]
  refine s2.new_ (cs := recA Ans.none none none none 0 0 0) fun t h3 s3 => ?_
  simp -zeta only [add_mk, Nat.zero_add]
  refine s3.st0 (by simp [recA]) fun h4 s4 => s4.st0 (by simp [recA]) fun h5 s5 => s5.st0 (by simp [recA]) fun h6 s6 => s6.st0 (by simp [recA]) fun h7 s7 => ?_
  have s7 : St (h : Base) h7 ((t, recA ⟨0, [2], [1, 3], []⟩ q1 q2 q3 c1 c2 c3) :: (X ++ [])) := s7
  refine iteB_pos rfl ⟨_, _, _, s7.rd0 1, iteB_pos rfl ⟨_, _, _, s7.rd0 2, iteB_pos rfl (s7.new_ (cs := numV [2]) fun g h8 s8 => ?_)⟩⟩
  refine ⟨_, AFail_of (l := [2]) (Keeps.row (by simp)) (by decide) s8 (fun h9 q c X2 k9 s9 => ?_), fun _ _ _ _ _ _ _ _ _ _ _ hh => hh⟩
  refine callP1.self (APrint_of (a := ⟨4, [2], [], []⟩) (f.ext s9.ext) ⟨by decide, by decide, by decide⟩ (k9.at0 s9) vals_none vals_none (by decide) (by decide) (by decide) fun h10 e10 => ?_)
  rw [hT2]
  have : ((str [101, 114, 114, 111, 114, 32, 52, 32, 50]).toList == (⟨#[101, 114, 114, 111, 114, 32, 52, 32, 50]⟩ : ByteArray).toList) = true := by
    have e : (⟨#[101, 114, 114, 111, 114, 32, 52, 32, 50]⟩ : ByteArray).toList = [101, 114, 114, 111, 114, 32, 52, 32, 50] := toList_str _
    rw [toList_str, e]; rfl
  rw [this]
  exact hk h10 (s9.ext.trans e10)
end Go.Proofs.YtmejnpadgbdhaaaGreatDoor
