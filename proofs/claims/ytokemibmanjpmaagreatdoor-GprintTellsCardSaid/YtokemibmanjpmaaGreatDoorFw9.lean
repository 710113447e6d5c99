/-
  The frame of my own, part 9: how one reasons about heaps.
-/
import Derived.Test.YtokemibmanjpmaaGreatDoorFw8
import Derived.RowKit
namespace Go.Hp
set_option linter.unusedVariables false
set_option linter.unusedSimpArgs false
open Go.RowKit

theorem callP1.self {α : Type} {F : (α → Heap → Prop) → Prop} {K : α → Heap → Prop} (h : F K) : callP1 F K := ⟨K, h, fun _ _ h => h⟩
theorem callP0.self {F : (Heap → Prop) → Prop} {K : Heap → Prop} (h : F K) : callP0 F K := ⟨K, h, fun _ h => h⟩
theorem callP2.self {α β : Type} {F : (α → β → Heap → Prop) → Prop} {K : α → β → Heap → Prop} (h : F K) : callP2 F K := ⟨K, h, fun _ _ _ h => h⟩
theorem callP3.self {α β γ : Type} {F : (α → β → γ → Heap → Prop) → Prop} {K : α → β → γ → Heap → Prop} (h : F K) : callP3 F K := ⟨K, h, fun _ _ _ _ h => h⟩
theorem callP4.self {α β γ δ : Type} {F : (α → β → γ → δ → Heap → Prop) → Prop} {K : α → β → γ → δ → Heap → Prop} (h : F K) : callP4 F K := ⟨K, h, fun _ _ _ _ _ h => h⟩
theorem callP5.self {α β γ δ ε : Type} {F : (α → β → γ → δ → ε → Heap → Prop) → Prop} {K : α → β → γ → δ → ε → Heap → Prop} (h : F K) : callP5 F K := ⟨K, h, fun _ _ _ _ _ _ h => h⟩
theorem callP6.self {α β γ δ ε ζ : Type} {F : (α → β → γ → δ → ε → ζ → Heap → Prop) → Prop} {K : α → β → γ → δ → ε → ζ → Heap → Prop} (h : F K) : callP6 F K := ⟨K, h, fun _ _ _ _ _ _ _ h => h⟩
theorem callP7.self {α β γ δ ε ζ η : Type} {F : (α → β → γ → δ → ε → ζ → η → Heap → Prop) → Prop} {K : α → β → γ → δ → ε → ζ → η → Heap → Prop} (h : F K) : callP7 F K := ⟨K, h, fun _ _ _ _ _ _ _ _ h => h⟩

theorem qcallP1.of {α : Type} {h : Heap} {F : (α → Heap → Prop) → Prop} {K : α → Prop} (x : α) (hF : ∀ R, R x h → F R) (hk : K x) : qcallP1 h F K := ⟨x, hF _ ⟨rfl, rfl⟩, hk⟩
theorem qcallP2.of {α β : Type} {h : Heap} {F : (α → β → Heap → Prop) → Prop} {K : α → β → Prop} (x : α) (y : β) (hF : ∀ R, R x y h → F R) (hk : K x y) : qcallP2 h F K := ⟨x, y, hF _ ⟨rfl, rfl, rfl⟩, hk⟩
theorem qcallP3.of {α β γ : Type} {h : Heap} {F : (α → β → γ → Heap → Prop) → Prop} {K : α → β → γ → Prop} (x : α) (y : β) (z : γ) (hF : ∀ R, R x y z h → F R) (hk : K x y z) : qcallP3 h F K :=
  ⟨x, y, z, hF _ ⟨rfl, rfl, rfl, rfl⟩, hk⟩
theorem qcallP4.of {α β γ δ : Type} {h : Heap} {F : (α → β → γ → δ → Heap → Prop) → Prop} {K : α → β → γ → δ → Prop} (x : α) (y : β) (z : γ) (u : δ) (hF : ∀ R, R x y z u h → F R) (hk : K x y z u) : qcallP4 h F K :=
  ⟨x, y, z, u, hF _ ⟨rfl, rfl, rfl, rfl, rfl⟩, hk⟩

theorem iteB_intro {b : Bool} {p q : Prop} (h1 : b = true → p) (h2 : b = false → q) : iteB b p q := by
  cases b
  · exact h2 rfl
  · exact h1 rfl
theorem iteB_pos {b : Bool} {p q : Prop} (h : b = true) (hp : p) : iteB b p q := by rw [h]; exact hp
theorem iteB_neg {b : Bool} {p q : Prop} (h : b = false) (hq : q) : iteB b p q := by rw [h]; exact hq

/-- All that was there is there still. -/
structure Ext (h h' : Heap) : Prop where
  size : h.size ≤ h'.size
  at_ : ∀ b, b < h.size → h'[b]? = h[b]?
theorem Ext.refl (h : Heap) : Ext h h := ⟨Nat.le_refl _, fun _ _ => rfl⟩
theorem Ext.trans {a b c : Heap} (h : Ext a b) (k : Ext b c) : Ext a c := ⟨Nat.le_trans h.size k.size, fun i hi => (k.at_ i (Nat.lt_of_lt_of_le hi h.size)).trans (h.at_ i hi)⟩
theorem Ext.push {a h : Heap} (e : Ext a h) (o : Obj) : Ext a (h.push o) :=
  e.trans ⟨by simp, fun b hb => by rw [Array.getElem?_push, if_neg (by omega)]⟩
theorem Ext.setC {a h : Heap} (e : Ext a h) {p : Addr} (hp : a.size ≤ p.block) (v : Value) : Ext a (setC h p v) :=
  ⟨by simpa [Hp.setC] using e.size, fun b hb => by simp only [Hp.setC, Array.getElem?_modify]; rw [if_neg (by omega)]; exact e.at_ b hb⟩
theorem Ext.cell {h h' : Heap} (e : Ext h h') {p : Addr} (hp : p.block < h.size) : Hp.cell h' p = Hp.cell h p := by unfold Hp.cell; rw [e.at_ _ hp]
theorem Ext.frz {h h' : Heap} (e : Ext h h') {p : Addr} (hp : p.block < h.size) : Hp.frz h' p = Hp.frz h p := by unfold Hp.frz; rw [e.at_ _ hp]
theorem cell_lt {h : Heap} {p : Addr} {v : Value} (hc : cell h p = some v) : p.block < h.size := by
  unfold cell at hc
  split at hc
  · rename_i hb; exact (Array.getElem?_eq_some_iff.1 hb).1
  · cases hc
theorem Ext.cell' {h h' : Heap} (e : Ext h h') {p : Addr} {v : Value} (hp : Hp.cell h p = some v) : Hp.cell h' p = some v := by rw [e.cell (cell_lt hp)]; exact hp
/-- A block that was there. -/
theorem Ext.blk {h h' : Heap} (e : Ext h h') {b : Nat} {o : Obj} (hb : h[b]? = some o) : h'[b]? = some o := by rw [e.at_ b (Array.getElem?_eq_some_iff.1 hb).1]; exact hb

theorem ext_below [DKc] {w w' : World} (e : Ext w.heap w'.heap) (o : Out w w') : Below w.heap.size w w' := ⟨o.os, o.tape, o.output, e.size, e.at_⟩

@[simp] theorem add_mk (b o n : Nat) : (⟨b, o, none⟩ : Addr).add n = ⟨b, o + n, none⟩ := by
  unfold Addr.add; split
  · subst_vars; rfl
  · rfl
@[simp] theorem add_block (a : Addr) (n : Nat) : (a.add n).block = a.block := by unfold Addr.add; split <;> rfl

/-- A block of cells that may be written: what it holds. -/
def row (h : Heap) (b : Nat) (cs : List Value) : Prop := ∃ t, h[b]? = some (.cells cs.toArray t)

theorem row.lt {h : Heap} {b : Nat} {cs : List Value} (hr : row h b cs) : b < h.size := (Array.getElem?_eq_some_iff.1 hr.choose_spec).1
theorem row.cell {h : Heap} {b : Nat} {cs : List Value} (hr : row h b cs) (j : Nat) : Hp.cell h ⟨b, j, none⟩ = cs[j]? := by
  obtain ⟨t, ht⟩ := hr; unfold Hp.cell; simp [ht]
theorem row.frz {h : Heap} {b : Nat} {cs : List Value} (hr : row h b cs) (j : Nat) : Hp.frz h ⟨b, j, none⟩ = false := by
  obtain ⟨t, ht⟩ := hr; unfold Hp.frz; simp [ht]
theorem row.ext {h h' : Heap} {b : Nat} {cs : List Value} (hr : row h b cs) (e : Ext h h') : row h' b cs := ⟨hr.choose, e.blk hr.choose_spec⟩
theorem row.set {h : Heap} {b : Nat} {cs : List Value} (hr : row h b cs) (j : Nat) (v : Value) : row (setC h ⟨b, j, none⟩ v) b (cs.set j v) := by
  obtain ⟨t, ht⟩ := hr; refine ⟨t, ?_⟩; simp [setC, Array.getElem?_modify, ht]
theorem row.other {h : Heap} {b : Nat} {cs : List Value} (hr : row h b cs) {p : Addr} (hp : p.block ≠ b) (v : Value) : row (setC h p v) b cs := by
  obtain ⟨t, ht⟩ := hr; refine ⟨t, ?_⟩; simp only [setC, Array.getElem?_modify]; rw [if_neg hp]; exact ht
theorem row.push {h : Heap} {b : Nat} {cs : List Value} (hr : row h b cs) (o : Obj) : row (h.push o) b cs := hr.ext ((Ext.refl h).push o)
theorem row.new (h : Heap) (cs : List Value) (t : TypeId) : row (h.push (.cells cs.toArray t)) h.size cs := ⟨t, by simp⟩
@[simp] theorem size_setC (h : Heap) (p : Addr) (v : Value) : (setC h p v).size = h.size := by simp [setC]

theorem newP_intro {h : Heap} {cs : List Value} {t : TypeId} {K : Addr → Heap → Prop} (hk : ∀ b h', b = h.size → h'.size = h.size + 1 → Ext h h' → row h' b cs → K ⟨b, 0, none⟩ h') : newP h (.cells cs.toArray t) K :=
  hk h.size _ rfl (by simp) ((Ext.refl h).push _) (row.new h cs t)

theorem stC_row {h : Heap} {b j : Nat} {cs : List Value} {v : Value} {K : Heap → Prop} (hr : row h b cs) (hj : j < cs.length) (hk : K (setC h ⟨b, j, none⟩ v)) : stC h ⟨b, j, none⟩ v K :=
  ⟨⟨by rw [hr.cell]; simp [hj], hr.frz j⟩, hk⟩

theorem wrap_id {x : Int} (h1 : -9223372036854775808 ≤ x) (h2 : x < 9223372036854775808) : IntKind.i64.wrap x = x := by rw [IntKind.wrap_i64]; omega
theorem wrap_u64 (x : Int) : IntKind.u64.wrap x = x % 18446744073709551616 := by simp [IntKind.wrap, IntKind.bits, IntKind.signed]
theorem wrap_i64_eq (x : Int) : IntKind.i64.wrap x = (x + 9223372036854775808) % 18446744073709551616 - 9223372036854775808 := IntKind.wrap_i64 x

/-- Of what was there, only blocks in S have turned. -/
structure Chg (S : Nat → Prop) (h h' : Heap) : Prop where
  size : h.size ≤ h'.size
  at_ : ∀ b, b < h.size → ¬ S b → h'[b]? = h[b]?
theorem Chg.refl (S : Nat → Prop) (h : Heap) : Chg S h h := ⟨Nat.le_refl _, fun _ _ _ => rfl⟩
theorem Chg.trans {S : Nat → Prop} {a b c : Heap} (h : Chg S a b) (k : Chg S b c) : Chg S a c :=
  ⟨Nat.le_trans h.size k.size, fun i hi hs => (k.at_ i (Nat.lt_of_lt_of_le hi h.size) hs).trans (h.at_ i hi hs)⟩
theorem Chg.mono {S T : Nat → Prop} {h h' : Heap} (c : Chg S h h') (hs : ∀ b, b < h.size → S b → T b) : Chg T h h' := ⟨c.size, fun b hb hn => c.at_ b hb fun hS => hn (hs b hb hS)⟩
theorem Ext.chg {S : Nat → Prop} {h h' : Heap} (e : Ext h h') : Chg S h h' := ⟨e.size, fun b hb _ => e.at_ b hb⟩
theorem Chg.ext {S : Nat → Prop} {h h' : Heap} (c : Chg S h h') (hs : ∀ b, b < h.size → ¬ S b) : Ext h h' := ⟨c.size, fun b hb => c.at_ b hb (hs b hb)⟩
/-- What was there ahead of the blocks that turned is there still. -/
theorem Ext.chg_trans {S : Nat → Prop} {a b c : Heap} (h : Ext a b) (k : Chg S b c) (hs : ∀ i, i < a.size → ¬ S i) : Ext a c :=
  ⟨Nat.le_trans h.size k.size, fun i hi => (k.at_ i (Nat.lt_of_lt_of_le hi h.size) (hs i hi)).trans (h.at_ i hi)⟩
theorem Chg.setC (S : Nat → Prop) (h : Heap) {p : Addr} (hp : S p.block) (v : Value) : Chg S h (setC h p v) :=
  ⟨by simp, fun b hb hn => by simp only [Hp.setC, Array.getElem?_modify]; rw [if_neg (fun e => hn (by rw [← e]; exact hp))]⟩
theorem Chg.cell {S : Nat → Prop} {h h' : Heap} (c : Chg S h h') {p : Addr} {v : Value} (hp : Hp.cell h p = some v) (hn : ¬ S p.block) : Hp.cell h' p = some v := by
  have := c.at_ p.block (cell_lt hp) hn
  unfold Hp.cell at hp ⊢; rw [this]; exact hp
theorem row.chg {S : Nat → Prop} {h h' : Heap} {b : Nat} {cs : List Value} (hr : row h b cs) (c : Chg S h h') (hn : ¬ S b) : row h' b cs := by
  obtain ⟨t, ht⟩ := hr; exact ⟨t, by rw [c.at_ b (Array.getElem?_eq_some_iff.1 ht).1 hn]; exact ht⟩

/-- A slice's elements, each of one cell: 'n' values from 'q' on. -/
def valsAt (h : Heap) (q : Option Addr) (l : List Value) : Prop := ∀ i v, l[i]? = some v → ∃ a, q = some a ∧ cell h (a.add i) = some v
theorem valsAt.ext {h h' : Heap} {q : Option Addr} {l : List Value} (hv : valsAt h q l) (e : Ext h h') : valsAt h' q l := fun i v hi => by
  obtain ⟨a, ha, hc⟩ := hv i v hi; exact ⟨a, ha, e.cell' hc⟩
theorem valsAt.take {h : Heap} {q : Option Addr} {l : List Value} (hv : valsAt h q l) (n : Nat) : valsAt h q (l.take n) := fun i v hi => hv i v (by
  rw [List.getElem?_take] at hi; split at hi <;> simp_all)
theorem valsAt.row {h : Heap} {b o : Nat} {cs l : List Value} (hr : row h b cs) (hl : ∀ i v, l[i]? = some v → cs[o + i]? = some v) : valsAt h (some ⟨b, o, none⟩) l := fun i v hi =>
  ⟨_, rfl, by rw [add_mk, hr.cell]; exact hl i v hi⟩
theorem valsAt.lt {h : Heap} {q : Option Addr} {l : List Value} (hv : valsAt h q l) (hl : l ≠ []) : ∃ a, q = some a ∧ a.block < h.size := by
  cases l with
  | nil => exact absurd rfl hl
  | cons v r => obtain ⟨a, ha, hc⟩ := hv 0 v rfl; exact ⟨a, ha, by have := cell_lt hc; simpa using this⟩

/-- A law's own contract, as the row wants it. -/
theorem law_calls [DKc] {P : Program} {f : FuncId} {args : Array Value} {w : World} {ret : (Bool → Heap → Prop) → Value → Heap → Prop}
    (hret : ∀ {K : Bool → Heap → Prop} {K' : Value → Heap → Prop} {v : Value} {h : Heap}, (∀ b h, K b h → K' (.bool b) h) → ret K v h → K' v h)
    (hc : Calls P f args w fun e w' => ∃ v, e = .returned v ∧ Out w w' ∧ ret (fun b h' => b = true ∧ Ext w.heap h') v w'.heap) :
    Calls P f args w fun e w' => e = .returned (.bool true) ∧ Below w.heap.size w w' :=
  hc.mono fun e w' ⟨v, he, ho, hr⟩ => by
    have := hret (K' := fun v h' => v = .bool true ∧ Ext w.heap h') (fun b h' ⟨hb, e⟩ => ⟨by rw [hb], e⟩) hr
    exact ⟨by rw [he, this.1], ext_below this.2 ho⟩

/-- A slice of integers that came in. -/
theorem row_ints {k : IntKind} {w : World} {a : Option Addr} {len cap : Nat} {zs : List Int}
    (h : (a = none ∧ len = 0 ∧ cap = 0 ∧ zs = []) ∨
      ∃ x, a = some x ∧ len ≤ cap ∧ cap ≤ maxLen ∧ zs.length = cap ∧ (∀ i, i < zs.length → w.cell? (x.add i) = some (.int k (zs.getD i 0))) ∧ ∀ n ∈ zs, (Lit.int k n).wf = true) :
    ∃ l : List Int, l.length = len ∧ len ≤ cap ∧ valsAt w.heap a (l.map (Value.int k)) ∧ (∀ n ∈ l, (Lit.int k n).wf = true) ∧ (len ≠ 0 → ∃ x, a = some x) ∧ cap ≤ maxLen := by
  rcases h with ⟨rfl, rfl, rfl, rfl⟩ | ⟨x, rfl, h1, h2, h3, h4, h5⟩
  · exact ⟨[], rfl, Nat.le_refl _, fun i v hi => by simp at hi, fun n hn => by simp at hn, fun h => absurd rfl h, by simp [maxLen]⟩
  · refine ⟨zs.take len, by rw [List.length_take]; omega, h1, fun i v hi => ?_, fun n hn => h5 n (List.mem_of_mem_take hn), fun _ => ⟨x, rfl⟩, h2⟩
    rw [List.getElem?_map, List.getElem?_take] at hi
    split at hi
    · cases hz : zs[i]? with
      | none => rw [hz] at hi; cases hi
      | some n =>
        rw [hz] at hi
        simp only [Option.map_some, Option.some.injEq] at hi
        have hlt := (List.getElem?_eq_some_iff.1 hz).1
        refine ⟨x, rfl, ?_⟩
        rw [← hi, ← cell_eq, h4 i hlt]; simp [List.getD, hz]
    · cases hi

theorem wf_i64 {n : Int} (h : (Lit.int .i64 n).wf = true) : -9223372036854775808 ≤ n ∧ n ≤ 9223372036854775807 := by
  simp only [Lit.wf, IntKind.min, IntKind.max, IntKind.signed, IntKind.bits, Bool.and_eq_true, decide_eq_true_eq, if_true] at h; omega
theorem wf_u64 {n : Int} (h : (Lit.int .u64 n).wf = true) : 0 ≤ n ∧ n < 18446744073709551616 := by
  simp only [Lit.wf, IntKind.min, IntKind.max, IntKind.signed, IntKind.bits, Bool.and_eq_true, decide_eq_true_eq, Bool.false_eq_true, if_false] at h; omega
/-- Do draws grow? (seatfw.sh: DK=False where a leaf's contract doesn't tell.) The frame itself is told for both. -/
instance dkI : DKc := ⟨False⟩
end Go.Hp
