/-
  Ranks: where each stands in the order.
-/
import Derived.Test.YtlfcfoodlbbbjaaK7
namespace Go.Proofs.Ytlfcfoodlbbbjaa
set_option linter.unusedVariables false
set_option linter.unusedSimpArgs false
set_option linter.unnecessarySimpa false
open Go.Hp Go.RowKit
attribute [local irreducible] Go.Hp.iteB Go.Hp.stC Go.Hp.newP

/-- The order, as numbers. -/
def byI (l : List Int) : List Int := (byL l).map fun v : Nat => (v : Int)
theorem byI_len (l : List Int) : (byI l).length = l.length := by simp [byI, byL_len]
theorem byI_ord (l : List Int) : IsOrd (byI l) := by
  refine ⟨fun x hx => ?_, ?_⟩
  · obtain ⟨v, hv, rfl⟩ := List.mem_map.1 hx
    have := (byL_mem l v).1 hv
    rw [byI_len]; omega
  · refine List.pairwise_map.2 ((byL_nodup l).imp fun h e => h (by omega))
theorem byI_row (l : List Int) : natV (byL l) = (byI l).map (Value.int .i64) := natV_ints _

section
variable {h0 : Heap} {R : Rws}
theorem Of_of {h : Heap} {n c : Nat} {q : Option Addr} {l : List Int} {K : Option Addr → Nat → Nat → Heap → Prop} (hl : l.length = n) (hn : n ≤ 2 ^ 20) (kq : Keeps h0 R q (l.map (Value.int .i64))) (s : St h0 h R)
    (hk : ∀ b h', St h0 h' ((b, ints n (invF (byI l) n)) :: R) → K (some ⟨b, 0, none⟩) n n h') : rank_Of q n c h K := by
  unfold rank_Of
  refine callP3.self (By_of hl hn kq s fun b1 h1 s1 => ?_)
  have o := Own.made b1 (natV (byL l))
  have k1 : Keeps h0 ((b1, natV (byL l)) :: R) (some ⟨b1, 0, none⟩) ((byI l).map (Value.int .i64)) := by
    rw [← byI_row]; exact o.keeps (fun z hz => by simp at hz ⊢; simp [hz])
  exact callP4.self (Inverse_of (R := (b1, natV (byL l)) :: R) (by rw [byI_len, hl]) hn k1 s1 (fun hno => absurd (byI_ord l) hno) fun _ b h2 s2 => hk b h2 ((St.re s2 (by intro a; simp only [cntR_append, cntR_cons, cntR_nil, List.cons_append, List.nil_append, List.set_cons_zero, List.set_cons_succ]; omega))))
theorem ROf_of {h : Heap} {n c : Nat} {q : Option Addr} {l : List Int} {K : Option Addr → Nat → Nat → Heap → Prop} (hl : l.length = n) (hn : n ≤ 2 ^ 20) (kq : Keeps h0 R q (l.map (Value.int .i64))) (s : St h0 h R)
    (hk : ∀ b h', St h0 h' ((b, ints n (invF (byI l) n)) :: R) → K (some ⟨b, 0, none⟩) n n h') : straitref14_Of q n c h K := by
  unfold straitref14_Of
  refine callP3.self (RBy_of hl hn kq s fun q1 c1 X1 h1 o s1 => ?_)
  rw [byI_row] at o
  exact callP3.self (RInverse_of (R := X1 ++ R) (byI_ord l) (by rw [byI_len, hl]) hn (o.keeps (fun z hz => by simp [hz])) s1 fun b h2 s2 => hk b h2 ((St.re s2 (by intro a; simp only [cntR_append, cntR_cons, cntR_nil, List.cons_append, List.nil_append, List.set_cons_zero, List.set_cons_succ]; omega))))
end
end Go.Proofs.Ytlfcfoodlbbbjaa
