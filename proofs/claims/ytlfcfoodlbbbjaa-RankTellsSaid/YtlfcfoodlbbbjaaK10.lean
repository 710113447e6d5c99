/-
  Ranks: a list in an order, both.
-/
import Derived.Test.YtlfcfoodlbbbjaaK9
namespace Go.Proofs.Ytlfcfoodlbbbjaa
set_option linter.unusedVariables false
set_option linter.unusedSimpArgs false
set_option linter.unnecessarySimpa false
open Go.Hp Go.RowKit
attribute [local irreducible] Go.Hp.iteB Go.Hp.stC Go.Hp.newP

section
variable {h0 : Heap} {R : Rws}
theorem Apply_of {h : Heap} {n c m c2 : Nat} {qp ql : Option Addr} {p l : List Int} {K : Option Addr → Nat → Nat → Bool → Heap → Prop} (hl : p.length = n) (hll : l.length = m) (hn : n ≤ 2 ^ 20) (kp : Keeps h0 R qp (p.map (Value.int .i64))) (kl : Keeps h0 R ql (l.map (Value.int .i64))) (s : St h0 h R)
    (hk0 : ¬ (IsOrd p ∧ m = n) → ∀ h', St h0 h' R → K none 0 0 false h') (hk : IsOrd p → m = n → ∀ b h', St h0 h' ((b, ints n (appF p l)) :: R) → K (some ⟨b, 0, none⟩) n n true h') : rank_Apply qp n c ql m c2 h K := by
  unfold rank_Apply
  intro j
  refine callP4.self (Inverse_of hl hn kp s (fun hno h1 s1 => ?_) fun ho b0 h1 s1 => ?_)
  · exact iteB_pos rfl (hk0 (fun h => hno h.1) h1 s1)
  refine iteB_neg rfl ?_
  refine iteB_intro (fun e => hk0 (fun h => ?_) h1 s1.tail) (fun e => ?_)
  · rw [h.2] at e; simp at e
  have hmn : m = n := by
    have : (m : Int) = n := by simpa using e
    omega
  subst hmn
  simp -zeta only [j]
  clear j
  refine ⟨⟨by omega, by omega, by omega, by omega⟩, ?_⟩
  rw [Int.toNat_natCast]
  refine s1.tail.new_ fun b h2 s2 => ?_
  rw [ints_zero] at s2
  exact ⟨m + 1, app_l0 ho hl hll hn kp kl (fun h3 s3 => hk ho rfl b h3 s3) m 0 h2 (by omega) (by simpa using s2)⟩
end
end Go.Proofs.Ytlfcfoodlbbbjaa
