/-
  Texts of this claim, put together.
-/
import Derived.Test.YtokemibmanjpmaaGreatDoorDM
import Derived.Test.YtokemibmanjpmaaGreatDoorYM
import Derived.Test.YtokemibmanjpmaaGreatDoorB1
import Derived.Test.YtokemibmanjpmaaGreatDoorHM
import Derived.Test.YtokemibmanjpmaaGreatDoorRd
import Derived.Test.YtokemibmanjpmaaGreatDoorRows
import Derived.ProofKit
import Derived.OpenShut
import Derived.LaidMore
import Derived.Lay
import Derived.Stop.Joined
import Derived.Stop.LaidErr
import Derived.Lib.LaidTab
namespace Go.Proofs.YtokemibmanjpmaaGreatDoor
set_option linter.unusedVariables false
set_option linter.unusedSimpArgs false
open Go.Proofs Go.Shelf Go.RowKit Go.Lib
/-- This may be a builder's own buffer. -/
def U8at (bs : List Value) (o : Obj) : Prop := ∃ cs, o = .cells cs 5 (0, 0) ∧ (bs ≠ [] → cs[0]? = bs[0]?)
/-- All but the builder and its buffer stays. -/
def SkipO (b : Nat) (bs : List Value) (g g' : Go.Hp.Heap) : Prop := ∀ k o, g[k]? = some o → k ≠ b → ¬ U8at bs o → g'[k]? = some o
theorem check_skip (B b : Nat) (bs : List Value) (w : World) (h : Bldr B b bs w) :
    Calls Tryz.prog 130 #[.pointer (some ⟨b, 0, none⟩)] w fun e w' => e = .returned (.tuple #[]) ∧ Used B b bs w' ∧ Below B w w' ∧ ∀ k o, w.heap[k]? = some o → k ≠ b → w'.heap[k]? = some o := by
  rcases h with h | h
  · refine (check_fresh b w h.cell0 h.shape h.frozen0).mono ?_
    rintro e w' ⟨rfl, rfl⟩
    refine ⟨rfl, h.used _, (Below.refl B w).setCell (p := ⟨b, 0, none⟩) h.1 _, fun k o hk hb => ?_⟩
    simpa [World.setCell, Array.getElem?_modify, Ne.symm hb] using hk
  · refine (check_used b w h.cell0).mono ?_
    rintro e w' ⟨rfl, rfl⟩
    exact ⟨rfl, h, Below.refl B _, fun k o hk _ => hk⟩
theorem own_u8 {w : World} {B n : Nat} {v : Value} {xs : List Value} (h : w.ownsRow B 5 1 v n xs) {k : Nat} {o : Obj} (hk : w.heap[k]? = some o) (ho : some k = v.ownBlock) : U8at xs o := by
  have hxl := h.1
  rcases h.2 with ⟨rfl, _⟩ | ⟨g, cap, cur, rfl, _, hg, hnc, _, hcs, ht⟩
  · cases ho
  · simp only [Value.ownBlock, Option.some.injEq] at ho
    subst ho
    rw [hk] at hg
    obtain rfl := Option.some.inj hg
    refine ⟨cur, rfl, fun hx => ?_⟩
    rw [← ht, List.getElem?_take, if_pos (by have := List.length_pos_iff.2 hx; omega)]
    simp
theorem skip_set {b k : Nat} {o : Obj} {w : World} {v : Value} (h : w.heap[k]? = some o) (hb : k ≠ b) : (w.setCell ⟨b, 1, none⟩ v).heap[k]? = some o := by
  simpa [World.setCell, Array.getElem?_modify, Ne.symm hb] using h
set_option maxHeartbeats 1000000 in
set_option maxRecDepth 100000 in
theorem write_stringS (B b : Nat) (bs : List Value) (s : ByteArray) (w : World) (h : Bldr B b bs w) (hl : bs.length + s.size ≤ 2 ^ 40) (hB0 : B ≤ w.heap.size) :
    Calls Tryz.prog 96 #[.pointer (some ⟨b, 0, none⟩), .string s] w fun e w' => e = .returned (.tuple #[.int .i64 s.size, .nilIface]) ∧ Used B b (bs ++ strCells s) w' ∧ Below B w w' ∧ SkipO b bs w.heap w'.heap := by
  obtain ⟨i0, hi, z0, z1, z2⟩ := info_parts (show (Tryz.prog.info? 5).map (fun i => (i.zero, i.size, i.bytes)) = some (some (.int .u8 0), 1, 1) by kernel_rfl)
  have e64 : ∀ args w, (callFunc 130 args).run Tryz.prog w = .ok (.enter 130 args) w := enters_of Tryz.func130 (by kernel_rfl) rfl
  go_enter Tryz.func96, Tryz.ntmps96
  go_wp2_with (go_at_call 130; refine (check_skip B b bs _ h).mono ?_)
  rintro e w1 ⟨rfl, h1, u1, k1s⟩
  obtain ⟨hB, v, hk, own1, ne1⟩ := h1
  have k0 : w1.cell? ⟨b, 0, none⟩ = some (.pointer (some ⟨b, 0, none⟩)) := by rw [cell_of_heap hk]; rfl
  have k1 : w1.cell? ⟨b, 1, none⟩ = some v := by rw [cell_of_heap hk]; rfl
  have hB1 : B ≤ w1.heap.size := Nat.le_trans hB0 u1.size
  go_wp2_with (at_builtin; refine wpList_append_own_string _ rfl _ _ 157 9 rfl B 5 i0 Tryz.underlying157 Tryz.underlying9 hi z0 z1 z2 _ _ _ rfl own1 s rfl (by unfold maxLen; omega) (by omega) hB1 ?_)
  intro v' w2 own2 grew _
  have hk2 : w2.heap[b]? = some (.cells #[.pointer (some ⟨b, 0, none⟩), v] 159 (0, 0)) := by rw [grew.block b (lt_of_some hk) (fun e => ne1 e.symm)]; exact hk
  have q0 : w2.cell? ⟨b, 0, none⟩ = some (.pointer (some ⟨b, 0, none⟩)) := by rw [cell_of_heap hk2]; rfl
  have q1 : w2.cell? ⟨b, 1, none⟩ = some v := by rw [cell_of_heap hk2]; rfl
  have q2 : w2.frozen? ⟨b, 1, none⟩ = false := frozen_of_heap hk2 1
  obtain ⟨a', m', c', rfl⟩ := own_slice own2
  go_wp2
  go_ret2
  refine ⟨rfl, BuilderAt.put (T := 159) (e := 5) hB hk2 (bs' := bs ++ strCells s) (by simpa [strCells_length] using own2) (by decide), ?_⟩
  refine ⟨(u1.grown grew hB1 (fun k hk => (own1.lt k hk).1)).setCell (p := ⟨b, 1, none⟩) hB _, fun k o hk hb hu => ?_⟩
  have hk1 := k1s k o hk hb
  refine skip_set ?_ hb
  rw [grew.block k (lt_of_some hk1) (fun e => hu (own_u8 own1 hk1 e))]
  exact hk1
set_option maxHeartbeats 1000000 in
set_option maxRecDepth 100000 in
theorem write_byteS (B b : Nat) (bs : List Value) (c : Int) (w : World) (h : Bldr B b bs w) (hl : bs.length ≤ 2 ^ 40) (hB0 : B ≤ w.heap.size) :
    Calls Tryz.prog 97 #[.pointer (some ⟨b, 0, none⟩), .int .u8 c] w fun e w' => e = .returned .nilIface ∧ Used B b (bs ++ [.int .u8 c]) w' ∧ Below B w w' ∧ SkipO b bs w.heap w'.heap := by
  obtain ⟨i0, hi, z0, z1, z2⟩ := info_parts (show (Tryz.prog.info? 5).map (fun i => (i.zero, i.size, i.bytes)) = some (some (.int .u8 0), 1, 1) by kernel_rfl)
  have e64 : ∀ args w, (callFunc 130 args).run Tryz.prog w = .ok (.enter 130 args) w := enters_of Tryz.func130 (by kernel_rfl) rfl
  go_enter Tryz.func97, Tryz.ntmps97
  go_wp2_with (go_at_call 130; refine (check_skip B b bs _ h).mono ?_)
  rintro e w1 ⟨rfl, h1, u1, k1s⟩
  obtain ⟨hB, v, hk, own1, ne1⟩ := h1
  have k0 : w1.cell? ⟨b, 0, none⟩ = some (.pointer (some ⟨b, 0, none⟩)) := by rw [cell_of_heap hk]; rfl
  have k1 : w1.cell? ⟨b, 1, none⟩ = some v := by rw [cell_of_heap hk]; rfl
  have hB1 : B ≤ w1.heap.size := Nat.le_trans hB0 u1.size
  have hlt := lt_of_some hk
  go_wp2_with (at_builtin; refine wpList_append_own _ rfl _ _ 157 rfl B 5 i0 (.int .u8 0) 1 1 Tryz.underlying157 hi z0 z1 z2 rfl (by decide) _ _ _ rfl (own1.alloc _) ⟨w1.heap.size, 0, none⟩ 1 1 [.int .u8 c] rfl rfl ?r1 ?r2 ?r3 ?r4 ?r5 ?_)
  case r1 =>
    intro j u hj
    match j, hj with
    | 0, hj => simp at hj; subst hj; simp [Addr.add]
  case r2 => intro u hu; simp at hu; subst hu; rfl
  case r3 => unfold maxLen; omega
  case r4 => omega
  case r5 => simp; omega
  intro v' w2 own2 grew _
  have hk2 : w2.heap[b]? = some (.cells #[.pointer (some ⟨b, 0, none⟩), v] 159 (0, 0)) := by
    rw [grew.block b (by simp; omega) (fun e => ne1 e.symm), alloc_old w1 _ b hlt]
    exact hk
  have q0 : w2.cell? ⟨b, 0, none⟩ = some (.pointer (some ⟨b, 0, none⟩)) := by rw [cell_of_heap hk2]; rfl
  have q1 : w2.cell? ⟨b, 1, none⟩ = some v := by rw [cell_of_heap hk2]; rfl
  have q2 : w2.frozen? ⟨b, 1, none⟩ = false := frozen_of_heap hk2 1
  obtain ⟨a', m', c', rfl⟩ := own_slice own2
  go_wp2
  go_ret
  refine ⟨rfl, BuilderAt.put (T := 159) (e := 5) hB hk2 (bs' := bs ++ [.int .u8 c]) (by simpa using own2) (by decide), ?_⟩
  refine ⟨((u1.alloc hB1 _).grown grew (by simp; omega) (fun k hk => (own1.lt k hk).1)).setCell (p := ⟨b, 1, none⟩) hB _, fun k o hk hb hu => ?_⟩
  have hk1 := k1s k o hk hb
  refine skip_set ?_ hb
  have hlt1 := lt_of_some hk1
  rw [grew.block k (by simp; omega) (fun e => hu (own_u8 own1 hk1 e)), alloc_old w1 _ k hlt1]
  exact hk1
open Go.Hp
section
variable {g0 h : Heap} {b : Nat} {l : List UInt8}
/-- All but the builder that holds l, and its buffer, stays. -/
def Skip (b : Nat) (l : List UInt8) (h h' : Heap) : Prop := SkipO b (byteCells l) h h'
theorem Skip.refl (h : Heap) : Skip b l h h := fun _ _ hk _ _ => hk
theorem Skip.ofExt {h h' : Heap} (e : Ext h h') : Skip b l h h' := fun _ _ hk _ _ => e.blk hk
theorem u8_more {l s : List UInt8} {o : Obj} (h : U8at (byteCells (l ++ s)) o) : U8at (byteCells l) o := by
  obtain ⟨cs, h1, h2⟩ := h
  refine ⟨cs, h1, fun hx => ?_⟩
  have hl : l ≠ [] := fun h => hx (by rw [h]; rfl)
  obtain ⟨c, r, rfl⟩ := List.exists_cons_of_ne_nil hl
  rw [h2 (by simp [byteCells])]; simp [byteCells]
theorem Skip.trans {l s : List UInt8} {h h' h'' : Heap} (a : Skip b l h h') (c : Skip b (l ++ s) h' h'') : Skip b l h h'' := fun k o hk hb hu => c k o (a k o hk hb hu) hb fun hx => hu (u8_more hx)
theorem Skip.then {l : List UInt8} {h h' h'' : Heap} (a : Skip b l h h') (e : Ext h' h'') : Skip b l h h'' := fun k o hk hb hu => e.blk (a k o hk hb hu)
theorem Skip.after {l : List UInt8} {h h' h'' : Heap} (e : Ext h h') (a : Skip b l h' h'') : Skip b l h h'' := fun k o hk hb hu => a k o (e.blk hk) hb hu
theorem WriteString_ofS {s : List UInt8} {K : Int → Value → Heap → Prop} (e : Ext g0 h) (k : BH g0.size b l h) (hl : l.length + s.length ≤ 2 ^ 40) (hk : ∀ n v h', Ext g0 h' → BH g0.size b (l ++ s) h' → Skip b l h h' → K n v h') : strings_Builder_WriteString (some ⟨b, 0, none⟩) (str s) h K := by
  intro w hw
  subst hw
  refine ⟨enters_of Tryz.func96 (by kernel_rfl) rfl _ _, (write_stringS g0.size b (Lib.byteCells l) (str s) w (k w rfl) (by rw [Lib.byteCells_length, str_size]; exact hl) e.size).mono ?_⟩
  rintro x w' ⟨rfl, hu, hb, hs⟩
  refine ⟨_, rfl, ⟨hb.tape, hb.os, hb.output, fun d => d.elim⟩, hk _ _ _ (ext_low e hb) (BH.of (.inr ?_)) hs⟩
  have : Lib.byteCells l ++ Lib.strCells (str s) = Lib.byteCells (l ++ s) := by rw [Lib.byteCells_append]; rfl
  rw [← this]; exact hu
theorem WriteByte_ofS {c : UInt8} {K : Value → Heap → Prop} (e : Ext g0 h) (k : BH g0.size b l h) (hl : l.length ≤ 2 ^ 40) (hk : ∀ v h', Ext g0 h' → BH g0.size b (l ++ [c]) h' → Skip b l h h' → K v h') : strings_Builder_WriteByte (some ⟨b, 0, none⟩) (c.toNat : Int) h K := by
  intro w hw
  subst hw
  refine ⟨enters_of Tryz.func97 (by kernel_rfl) rfl _ _, (write_byteS g0.size b (Lib.byteCells l) (c.toNat : Int) w (k w rfl) (by rw [Lib.byteCells_length]; exact hl) e.size).mono ?_⟩
  rintro x w' ⟨rfl, hu, hb, hs⟩
  refine ⟨_, rfl, ⟨hb.tape, hb.os, hb.output, fun d => d.elim⟩, hk _ _ (ext_low e hb) (BH.of (.inr ?_)) hs⟩
  have : Lib.byteCells l ++ [.int .u8 (c.toNat : Int)] = Lib.byteCells (l ++ [c]) := by rw [Lib.byteCells_append]; rfl
  rw [← this]; exact hu
end
end Go.Proofs.YtokemibmanjpmaaGreatDoor

namespace Go.Proofs.YtokemibmanjpmaaGreatDoor
set_option linter.unusedVariables false
set_option linter.unusedSimpArgs false
set_option linter.unnecessarySimpa false
open Go.Proofs Go.Shelf Go.RowKit Go.Hp
attribute [local irreducible] Go.Hp.iteB Go.Hp.stC
theorem BH.lt {B b : Nat} {l : List UInt8} {h : Heap} (k : BH B b l h) : b < h.size := by
  have w : World := { heap := h, os := default, tape := fun _ _ => 0, drawn := 0, output := default }
  rcases k { w with heap := h } rfl with g | g
  · exact g.lt
  · exact g.lt
def strV (ps : List (List UInt8)) : List Value := ps.map fun s => .string (str s)
theorem strV_get {ps : List (List UInt8)} {i : Nat} {s : List UInt8} (h : ps[i]? = some s) : (strV ps)[i]? = some (.string (str s)) := by unfold strV; rw [List.getElem?_map, h]; rfl
theorem not_u8 {cs : Array Value} {f : Nat × Nat} {bs : List Value} : ¬ U8at bs (.cells cs 9 f) := by
  rintro ⟨cs', h1, _⟩
  have := congrArg (fun o : Obj => match o with | .cells _ t _ => t | _ => 0) h1
  simp at this
theorem flat_take {ps : List (List UInt8)} (i : Nat) : ((ps.take i).flatten).length ≤ ps.flatten.length := by
  have h : ps.flatten = (ps.take i).flatten ++ (ps.drop i).flatten := by rw [← List.flatten_append, List.take_append_drop]
  rw [h, List.length_append]; omega
section
variable {g0 : Heap} {b : Nat} {l : List UInt8}
theorem put_l0 {K2 : Heap → Prop} {g1 : Heap} {p n : Nat} {ps : List (List UInt8)} (hn : ps.length = n) (hn2 : n < 2 ^ 20) (hpb : p ≠ b) (hl : l.length + ps.flatten.length + 1 ≤ 2 ^ 40)
    (hk : ∀ h', Ext g0 h' → BH g0.size b (l ++ ps.flatten) h' → Skip b l g1 h' → K2 h') :
    ∀ (d i : Nat) (h : Heap), i + d = n → Ext g0 h → BH g0.size b (l ++ (ps.take i).flatten) h → h[p]? = some (.cells (strV ps).toArray 9 (0, 0)) → Skip b l g1 h →
      gprint_lines_c1.l0 K2 (d + 1) ⟨b, 0, none⟩ (some ⟨p, 0, none⟩) n n (n : Int) (i : Int) h
  | 0, i, h, hi, e, k, hp, sk => by
    unfold gprint_lines_c1.l0 gprint_lines_c1.b0
    rw [List.take_of_length_le (by omega)] at k
    exact iteB_neg (decide_eq_false (by omega)) (hk h e k sk)
  | d + 1, i, h, hi, e, k, hp, sk => by
    unfold gprint_lines_c1.l0 gprint_lines_c1.b0
    obtain ⟨s, hs⟩ := get_lt (l := ps) (i := i) (by omega)
    have ht : (ps.take (i + 1)).flatten = (ps.take i).flatten ++ s := by rw [take_snoc hs, List.flatten_append]; simp
    have hlen := flat_take (ps := ps) (i + 1)
    rw [ht, List.length_append] at hlen
    have hc : cell h ⟨p, i, none⟩ = some (.string (str s)) := by
      unfold cell; rw [hp]; simp [strV_get hs]
    refine iteB_pos (decide_eq_true (by omega)) ?_
    simp -zeta only [chkP_some, Int.toNat_natCast, Nat.mul_one, add_mk, Nat.zero_add]
    refine ⟨by omega, _, hc, callP2.self (WriteString_ofS e k (by rw [List.length_append]; omega) fun _ _ h2 e2 k2 s2 => ?_)⟩
    rw [wrap64 (by omega) (by omega)]
    refine put_l0 hn hn2 hpb hl hk d (i + 1) h2 (by omega) e2 ?_ (s2 p _ hp hpb not_u8) (sk.trans s2)
    rw [ht, ← List.append_assoc]; exact k2
theorem put_of {K : Heap → Prop} {h : Heap} {p n : Nat} {ps : List (List UInt8)} (hn : ps.length = n) (hn2 : n < 2 ^ 20) (hpb : p ≠ b) (hl : l.length + ps.flatten.length + 1 ≤ 2 ^ 40) (e : Ext g0 h) (k : BH g0.size b l h)
    (hp : h[p]? = some (.cells (strV ps).toArray 9 (0, 0))) (hk : ∀ h', Ext g0 h' → BH g0.size b (l ++ (ps.flatten ++ [10])) h' → Skip b l h h' → K h') : gprint_lines_c1 (some ⟨p, 0, none⟩) n n ⟨b, 0, none⟩ h K := by
  unfold gprint_lines_c1
  refine ⟨n + 1, put_l0 (g1 := h) hn hn2 hpb hl (fun h1 e1 k1 s1 => ?_) n 0 h (by omega) e (by simpa using k) hp (Skip.refl h)⟩
  refine callP1.self (WriteByte_ofS (c := 10) e1 k1 (by rw [List.length_append]; omega) fun _ h2 e2 k2 s2 => hk h2 e2 ?_ (s1.trans s2))
  rw [← List.append_assoc]; exact k2
/-- A line of parts. -/
theorem line_of {K : Heap → Prop} {h : Heap} {n : Nat} {cs : Array Value} (ps : List (List UInt8)) (hcs : cs = (strV ps).toArray) (hn : ps.length = n) (hn2 : n < 2 ^ 20) (hl : l.length + ps.flatten.length + 1 ≤ 2 ^ 40) (e : Ext g0 h) (k : BH g0.size b l h)
    (hk : ∀ h', Ext g0 h' → BH g0.size b (l ++ (ps.flatten ++ [10])) h' → Skip b l h h' → K h') : newP h (.cells cs 9) fun a h' => callP0 (gprint_lines_c1 (some a) n n ⟨b, 0, none⟩ h') K := by
  subst hcs
  have hlt := k.lt
  have x : Ext h (h.push (.cells (strV ps).toArray 9)) := (Ext.refl h).push _
  exact new_fresh (callP0.self (put_of hn hn2 (by omega) hl (e.trans x) (k.ext x) (by simp) fun h' e' k' s' => hk h' e' k' (Skip.after x s')))
end
/-- An edge, in digits. -/
def edB (e : Ed) : List UInt8 := joinB ([e.1, e.2.1, e.2.2].map Lib.itoa)
def edgesB (l : List Ed) : List UInt8 := l.flatMap fun e => edB e ++ [10]
def headB (n : Int) (k : Nat) : List UInt8 := [103, 114, 97, 112, 104, 32] ++ joinB ([n, (k : Int)].map Lib.itoa) ++ [10]
def gtext (n : Int) (l : List Ed) : List UInt8 := headB n l.length ++ edgesB l
theorem edgesB_snoc (l : List Ed) (e : Ed) : edgesB (l ++ [e]) = edgesB l ++ (edB e ++ [10]) := by simp [edgesB]
def inE (e : Ed) : Prop := inR e.1 = true ∧ inR e.2.1 = true ∧ inR e.2.2 = true
theorem inE_all {e : Ed} (h : inE e) : ∀ n ∈ [e.1, e.2.1, e.2.2], inR n = true := by
  intro n hn
  simp only [List.mem_cons, List.not_mem_nil, or_false] at hn
  rcases hn with rfl | rfl | rfl
  · exact h.1
  · exact h.2.1
  · exact h.2.2
theorem edB_len {e : Ed} (h : inE e) : (edB e).length ≤ 63 := list_len (inE_all h) 3
theorem edgesB_len : ∀ {l : List Ed}, (∀ e ∈ l, inE e) → (edgesB l).length ≤ 64 * l.length
  | [], _ => by simp [edgesB]
  | e :: l, h => by
    have h1 := edgesB_len (l := l) fun x hx => h x (by simp [hx])
    have h2 := edB_len (h e (by simp))
    unfold edgesB at h1 ⊢
    simp only [List.flatMap_cons, List.length_append, List.length_cons, List.length_nil]
    omega
theorem head_len {n : Int} {k : Nat} (hn : inR n = true) (hk : k < 2 ^ 40) : (headB n k).length ≤ 60 := by
  have h : ∀ x ∈ [n, (k : Int)], inR x = true := by
    intro x hx
    simp only [List.mem_cons, List.not_mem_nil, or_false] at hx
    rcases hx with rfl | rfl
    · exact hn
    · exact inR_iff.2 ⟨by omega, by omega⟩
  have := list_len h 2
  unfold headB
  simp only [List.length_append, List.length_cons, List.length_nil] at this ⊢
  simp only [List.take_succ_cons, List.take_zero] at this
  omega
end Go.Proofs.YtokemibmanjpmaaGreatDoor

namespace Go.Proofs.YtokemibmanjpmaaGreatDoor
set_option linter.unusedVariables false
set_option linter.unusedSimpArgs false
set_option linter.unnecessarySimpa false
open Go.Proofs Go.Shelf Go.RowKit Go.Hp
attribute [local irreducible] Go.Hp.iteB Go.Hp.stC
section
variable {g0 : Heap} {b : Nat} {q : Option Addr} {c : Nat}
theorem text_l0 {K2 : Heap → Prop} {n : Int} {k : Nat} {l : List Ed} {x3 : Option Addr} (hl : l.length = k) (hb : k ≤ 2 ^ 22) (v : valsAt g0 q (eV l)) (f : TabP g0) (hin : ∀ e ∈ l, inE e) (hn : inR n = true)
    (hk : ∀ h', Ext g0 h' → BH g0.size b (gtext n l) h' → K2 h') :
    ∀ (d i : Nat) (h : Heap), i + d = k → Ext g0 h → BH g0.size b (headB n k ++ edgesB (l.take i)) h → gprint_text.l0 K2 (d + 1) x3 ⟨b, 0, none⟩ q k c (k : Int) (i : Int) h
  | 0, i, h, hi, e, kb => by
    unfold gprint_text.l0 gprint_text.b0
    rw [List.take_of_length_le (by omega)] at kb
    refine iteB_neg (decide_eq_false (by omega)) (hk h e ?_)
    unfold gtext; rw [hl]; exact kb
  | d + 1, i, h, hi, e, kb => by
    unfold gprint_text.l0 gprint_text.b0
    obtain ⟨⟨x, y, w⟩, hx⟩ := get_lt (l := l) (i := i) (by omega)
    have hE := hin _ (List.mem_of_getElem? hx)
    have vl := v.ext e
    have hh := head_len (k := k) hn (by omega)
    have hle := edgesB_len (l := l.take i) fun e he => hin e (List.mem_of_mem_take he)
    rw [List.length_take, Nat.min_eq_left (by omega)] at hle
    have hed := edB_len hE
    refine iteB_pos (decide_eq_true (by omega)) ?_
    simp -zeta (disch := omega) only [chkP_some, iteB_true, iteB_false, add_mk, Nat.zero_add, Nat.add_zero, Nat.mul_one, Nat.reduceAdd, Int.toNat_natCast, ex_int, ex_slice, ex_ptr, ex_bool, ex_str, ex_flt, ex_any, bnd_in, List.getElem?_cons_zero, List.getElem?_cons_succ, List.set_cons_zero, List.set_cons_succ, List.cons_append, List.nil_append, bne_self_eq_false, beq_self_eq_true, Bool.not_true, Bool.not_false, Option.isNone_some, Option.isNone_none, eq_self, true_and, and_true, and_self, vals_edge vl hx]
    refine (St.refl h).new_ fun b1 h1 s1 => s1.st0 (by simp) fun h2 s2 => s2.st0 (by simp) fun h3 s3 => s3.st0 (by simp) fun h4 s4 => ?_
    try simp -zeta (disch := omega) only [chkP_some, iteB_true, iteB_false, add_mk, Nat.zero_add, Nat.add_zero, Nat.mul_one, Nat.reduceAdd, Int.toNat_natCast, ex_int, ex_slice, ex_ptr, ex_bool, ex_str, ex_flt, ex_any, bnd_in, List.getElem?_cons_zero, List.getElem?_cons_succ, List.set_cons_zero, List.set_cons_succ, List.cons_append, List.nil_append, bne_self_eq_false, beq_self_eq_true, Bool.not_true, Bool.not_false, Option.isNone_some, Option.isNone_none, eq_self, true_and, and_true, and_self, s4.rd0]
    refine s4.new_ (cs := [.int .i64 x, .int .i64 y, .int .i64 w]) fun b5 h5 s5 => ?_
    have v5 : valsAt h5 (some ⟨b5, 0, none⟩) (numV [x, y, w]) := valsAt.row (s5.rows _ (List.mem_cons_self ..)) (fun j v hj => by simpa [numV] using hj)
    have e5 : Ext h h5 := s5.ext
    refine callP1.self (List_of (ls := [x, y, w]) v5 (f.ext (e.trans e5)) (inE_all hE) (by simp) fun h6 e6 => ?_)
    refine line_of (l := headB n k ++ edgesB (l.take i)) [edB (x, y, w)] rfl rfl (by omega) (by simp only [List.length_append, List.flatten_cons, List.flatten_nil, List.append_nil]; omega) (e.trans (e5.trans e6)) (kb.ext (e5.trans e6)) fun h7 e7 k7 _ => ?_
    rw [wrap64 (by omega) (by omega)]
    refine text_l0 hl hb v f hin hn hk d (i + 1) h7 (by omega) e7 ?_
    rw [take_snoc hx, edgesB_snoc, ← List.append_assoc]
    simpa using k7
theorem Text_of {h : Heap} {n : Int} {k : Nat} {l : List Ed} {K : ByteArray → Heap → Prop} (hl : l.length = k) (hb : k ≤ 2 ^ 22) (v : valsAt h q (eV l)) (f : TabP h) (hin : ∀ e ∈ l, inE e) (hn : inR n = true)
    (hk : ∀ h', Ext h h' → K (str (gtext n l)) h') : gprint_text n q k c h K := by
  unfold gprint_text gprint_lines
  refine callP2.self (new_fresh ?_)
  have hh := head_len (k := k) hn (by omega)
  have e1 : Ext h (h.push (.cells #[(.pointer none), (.slice none 0 0)] 159)) := (Ext.refl h).push _
  refine (St.refl _).new_ (cs := [.int .i64 n, .int .i64 (k : Int)]) fun b2 h2 s2 => ?_
  have v2 : valsAt h2 (some ⟨b2, 0, none⟩) (numV [n, (k : Int)]) := valsAt.row (s2.rows _ (List.mem_cons_self ..)) (fun j v hj => by simpa [numV] using hj)
  have e2 : Ext h h2 := e1.trans s2.ext
  have hin2 : ∀ x ∈ [n, (k : Int)], inR x = true := by
    intro x hx
    simp only [List.mem_cons, List.not_mem_nil, or_false] at hx
    rcases hx with rfl | rfl
    · exact hn
    · exact inR_iff.2 ⟨by omega, by omega⟩
  refine callP1.self (List_of (ls := [n, (k : Int)]) v2 (f.ext e2) hin2 (by simp) fun h3 e3 => ?_)
  have hle := list_len hin2 2
  simp only [List.take_succ_cons, List.take_zero, List.length_cons, List.length_nil] at hle
  refine line_of (l := []) [[103, 114, 97, 112, 104, 32], joinB ([n, (k : Int)].map Lib.itoa)] rfl rfl (by omega) (by simp only [List.length_append, List.flatten_cons, List.flatten_nil, List.append_nil, List.length_cons, List.length_nil]; omega) (e2.trans e3) ((bldr_new h).ext (s2.ext.trans e3)) fun h4 e4 k4 _ => ?_
  refine ⟨k + 1, text_l0 hl hb v f hin hn (fun h5 e5 k5 => ?_) k 0 h4 (by omega) e4 ?_⟩
  · exact callP1.self (String_of e5 k5 fun h6 e6 => hk h6 e6)
  · simpa [headB, edgesB] using k4
end
end Go.Proofs.YtokemibmanjpmaaGreatDoor

namespace Go.Proofs.YtokemibmanjpmaaGreatDoor
set_option linter.unusedVariables false
set_option linter.unusedSimpArgs false
set_option linter.unnecessarySimpa false
open Go.Hp Go.RowKit
attribute [local irreducible] Go.Hp.iteB Go.Hp.stC Go.Hp.newP
section
variable {h0 : Base} {R : Rws}
def stepR (p : Int × Bool) (n : Int) : Int × Bool := if p.2 then addR p.1 n else p
def sumR (l : List Int) : Int × Bool := l.foldl stepR (0, true)
theorem sumR_snoc (l : List Int) (n : Int) : sumR (l ++ [n]) = stepR (sumR l) n := by simp [sumR]
theorem addR_fits (a b : Int) : fits (addR a b).1 := by
  unfold addR; split
  · assumption
  · simp [fits]
theorem stepR_fits {p : Int × Bool} {n : Int} (h : fits p.1) : fits (stepR p n).1 := by
  unfold stepR; split
  · exact addR_fits _ _
  · exact h
theorem stepR_no {p : Int × Bool} {n : Int} (h : p.2 = false) : stepR p n = p := by unfold stepR; rw [h]; rfl
theorem stepR_yes {p : Int × Bool} {n : Int} (h : p.2 = true) : stepR p n = addR p.1 n := by unfold stepR; rw [h]; rfl
theorem sum_stuck {p : Int × Bool} (h : p.2 = false) : ∀ l : List Int, l.foldl stepR p = p
  | [] => rfl
  | n :: l => by rw [List.foldl_cons, stepR_no h]; exact sum_stuck h l
theorem sumR_fits (l : List Int) : fits (sumR l).1 := by
  suffices ∀ (l : List Int) (p : Int × Bool), fits p.1 → fits (l.foldl stepR p).1 from this l _ (by simp [fits])
  intro l
  induction l with
  | nil => intro p h; exact h
  | cons n l ih => intro p h; exact ih _ (stepR_fits h)
theorem sumR_stop {l : List Int} {i : Nat} (h : (sumR (l.take i)).2 = false) : sumR l = sumR (l.take i) := by
  have : sumR l = (l.drop i).foldl stepR (sumR (l.take i)) := by unfold sumR; rw [← List.foldl_append, List.take_append_drop]
  rw [this]; exact sum_stuck h _
theorem sumR_exact : ∀ {l : List Int} {p : Int}, 0 ≤ p → (∀ x ∈ l, 0 ≤ x) → p + l.sum ≤ 9223372036854775807 → l.foldl stepR (p, true) = (p + l.sum, true)
  | [], p, _, _, _ => by simp
  | x :: l, p, hp, h, hs => by
    have hx := h x (by simp)
    have hl : ∀ (l : List Int), (∀ x ∈ l, 0 ≤ x) → 0 ≤ l.sum := fun l => by
      induction l with
      | nil => simp
      | cons y l ih => intro h; have := ih (fun z hz => h z (by simp [hz])); have := h y (by simp); rw [List.sum_cons]; omega
    have h2 := hl l fun y hy => h y (by simp [hy])
    rw [List.sum_cons] at hs ⊢
    rw [List.foldl_cons, stepR_yes rfl]
    have hf : fits (p + x) := by unfold fits; omega
    unfold addR; rw [if_pos hf]
    rw [sumR_exact (by omega) (fun y hy => h y (by simp [hy])) (by omega)]
    congr 1; omega
theorem sum_nonneg : ∀ (l : List Int), (∀ x ∈ l, 0 ≤ x) → 0 ≤ l.sum
  | [], _ => by simp
  | y :: l, h => by have := sum_nonneg l (fun z hz => h z (by simp [hz])); have := h y (by simp); rw [List.sum_cons]; omega
def accV (p : Int × Bool) : List Value := [.int .i64 p.1, .bool (!p.2)]
theorem Put_of {h : Heap} {b : Nat} {p : Int × Bool} {n : Int} {K : Bool → Heap → Prop} (hp : fits p.1) (hn : fits n) (s : St h0 h ((b, accV p) :: R))
    (hk : ∀ r h', St h0 h' ((b, accV (stepR p n)) :: R) → K r h') : num_Acc_Put (some ⟨b, 0, none⟩) n h K := by
  unfold num_Acc_Put
  refine iteB_neg rfl ?_
  have r0 := s.rd0
  simp only [accV] at r0
  simp -zeta (disch := omega) only [chkP_some, iteB_true, iteB_false, add_mk, Nat.zero_add, Nat.add_zero, Nat.mul_one, Nat.reduceAdd, Int.toNat_natCast, ex_int, ex_slice, ex_ptr, ex_bool, ex_str, ex_flt, ex_any, bnd_in, List.getElem?_cons_zero, List.getElem?_cons_succ, List.set_cons_zero, List.set_cons_succ, List.cons_append, List.nil_append, bne_self_eq_false, beq_self_eq_true, Bool.not_true, Bool.not_false, Option.isNone_some, Option.isNone_none, eq_self, true_and, and_true, and_self, r0]
  refine iteB_intro (fun e => ?_) (fun e => ?_)
  · have e : p.2 = false := by simpa using e
    rw [stepR_no e] at hk
    exact hk _ _ s
  · have e : p.2 = true := by simpa using e
    rw [stepR_yes e] at hk
    refine qcallP2.of _ _ (fun Q hQ => num_Add_of hp hn hQ) (s.st0 (by simp [accV]) fun h2 s2 => s2.st0 (by simp [accV]) fun h3 s3 => hk _ _ ?_)
    exact s3
theorem Value_of {h : Heap} {b : Nat} {p : Int × Bool} {K : Int → Bool → Heap → Prop} (hr : ∀ j, cell h ⟨b, j, none⟩ = (accV p)[j]?) (hk : K (if p.2 then p.1 else 0) p.2 h) : num_Acc_Value (some ⟨b, 0, none⟩) h K := by
  unfold num_Acc_Value
  refine iteB_neg rfl ?_
  simp only [accV] at hr
  simp -zeta (disch := omega) only [chkP_some, iteB_true, iteB_false, add_mk, Nat.zero_add, Nat.add_zero, Nat.mul_one, Nat.reduceAdd, Int.toNat_natCast, ex_int, ex_slice, ex_ptr, ex_bool, ex_str, ex_flt, ex_any, bnd_in, List.getElem?_cons_zero, List.getElem?_cons_succ, List.set_cons_zero, List.set_cons_succ, List.cons_append, List.nil_append, bne_self_eq_false, beq_self_eq_true, Bool.not_true, Bool.not_false, Option.isNone_some, Option.isNone_none, eq_self, true_and, and_true, and_self, hr]
  refine iteB_intro (fun e => ?_) (fun e => ?_)
  · have e : p.2 = false := by simpa using e
    rw [e] at hk; exact hk
  · have e : p.2 = true := by simpa using e
    rw [e] at hk; exact hk
/-- How many pieces a weight comes to. -/
def pcs (w : Int) : Int := if w ≤ 2147483648 then 1 else (w - 1) / 2147483648 + 1
theorem pcs_pos (w : Int) : 1 ≤ pcs w := by unfold pcs; split <;> omega
theorem pcs_le {w : Int} (h : w ≤ 9223372036854775807) : pcs w ≤ 4294967296 := by unfold pcs; split <;> omega
theorem pcs_one {w : Int} (h : w ≤ 2147483648) : pcs w = 1 := if_pos h
theorem pcs_more {w : Int} (h : ¬ w ≤ 2147483648) : pcs w = pcs (w - 2147483648) + 1 := by
  unfold pcs; rw [if_neg h]; split <;> omega
def big : Int := 2147483648
/-- What is cut off, and what is left. -/
def splE (e : Ed) : List Ed := List.replicate (pcs e.2.2 - 1).toNat (e.1, e.2.1, big) ++ [(e.1, e.2.1, e.2.2 - (pcs e.2.2 - 1) * big)]
theorem splE_len (e : Ed) : ((splE e).length : Int) = pcs e.2.2 := by
  have := pcs_pos e.2.2
  simp only [splE, List.length_append, List.length_replicate, List.length_cons, List.length_nil]; omega
theorem splE_one {e : Ed} (h : e.2.2 ≤ 2147483648) : splE e = [e] := by unfold splE; rw [pcs_one h]; simp
theorem splE_more {u v w : Int} (h : ¬ w ≤ 2147483648) : splE (u, v, w) = (u, v, big) :: splE (u, v, w - 2147483648) := by
  have h1 := pcs_pos (w - 2147483648)
  unfold splE
  simp only
  rw [pcs_more h, show (pcs (w - 2147483648) + 1 - 1).toNat = (pcs (w - 2147483648) - 1).toNat + 1 by omega, List.replicate_succ, List.cons_append]
  have e : w - (pcs (w - 2147483648) + 1 - 1) * big = w - 2147483648 - (pcs (w - 2147483648) - 1) * big := by unfold big; omega
  rw [e]
def splL (l : List Ed) : List Ed := l.flatMap splE
def pcsL (l : List Ed) : List Int := l.map fun e => pcs e.2.2
theorem splL_len : ∀ l : List Ed, ((splL l).length : Int) = (pcsL l).sum
  | [] => rfl
  | e :: l => by
    have := splL_len l
    have h := splE_len e
    simp only [splL, pcsL, List.flatMap_cons, List.length_append, List.map_cons, List.sum_cons] at *
    omega
theorem splL_app (l m : List Ed) : splL (l ++ m) = splL l ++ splL m := by simp [splL]
theorem splL_one (e : Ed) : splL [e] = splE e := by simp [splL]
/-- Can they be split at all? -/
def splOk (l : List Ed) : Prop := (∀ e ∈ l, 0 ≤ e.2.2) ∧ (pcsL l).sum ≤ 1048576
theorem pcsL_nonneg (l : List Ed) : ∀ x ∈ pcsL l, 0 ≤ x := fun x hx => by
  obtain ⟨e, _, rfl⟩ := List.mem_map.1 hx
  have := pcs_pos e.2.2; omega
theorem pcsL_sum (l : List Ed) : 0 ≤ (pcsL l).sum := sum_nonneg _ (pcsL_nonneg l)
theorem pcsL_app (l m : List Ed) : (pcsL (l ++ m)).sum = (pcsL l).sum + (pcsL m).sum := by simp [pcsL]
theorem pcsL_take (l : List Ed) (i : Nat) : (pcsL (l.take i)).sum ≤ (pcsL l).sum := by
  have h := pcsL_app (l.take i) (l.drop i)
  rw [List.take_append_drop] at h
  have := pcsL_sum (l.drop i); omega
theorem splL_take_len {l : List Ed} (h : (pcsL l).sum ≤ 1048576) (i : Nat) : (splL (l.take i)).length ≤ 1048576 := by
  have h1 := splL_len (l.take i)
  have h2 := pcsL_take l i
  omega
theorem pcsL_bound : ∀ (l : List Ed), fitsL l → (pcsL l).sum ≤ 4294967296 * (l.length : Int)
  | [], _ => by simp [pcsL]
  | e :: l, h => by
    have h1 := pcsL_bound l fun x hx => h x (by simp [hx])
    have h2 := h e (by simp)
    unfold fits at h2
    have h3 := pcs_le h2.2
    simp only [pcsL, List.map_cons, List.sum_cons, List.length_cons] at *
    omega
theorem pcsL_exact {l : List Ed} (hf : fitsL l) (hl : l.length < 2 ^ 30) : sumR (pcsL l) = ((pcsL l).sum, true) := by
  have := pcsL_bound l hf
  unfold sumR
  rw [sumR_exact (by omega) (pcsL_nonneg l) (by omega)]
  congr 1; omega
theorem pieces_of {h : Heap} {e : Ed} {K : Int → Heap → Prop} (hf : fits e.2.2) (hn : 0 ≤ e.2.2) (s : St h0 h R) (hk : ∀ h', St h0 h' R → K (pcs e.2.2) h') : edge_pieces e.1 e.2.1 e.2.2 h K := by
  obtain ⟨u, v, w⟩ := e
  unfold edge_pieces
  refine s.new_ fun b h1 s1 => ?_
  try simp -zeta (disch := omega) only [chkP_some, iteB_true, iteB_false, add_mk, Nat.zero_add, Nat.add_zero, Nat.mul_one, Nat.reduceAdd, Int.toNat_natCast, ex_int, ex_slice, ex_ptr, ex_bool, ex_str, ex_flt, ex_any, bnd_in, List.getElem?_cons_zero, List.getElem?_cons_succ, List.set_cons_zero, List.set_cons_succ, List.cons_append, List.nil_append, bne_self_eq_false, beq_self_eq_true, Bool.not_true, Bool.not_false, Option.isNone_some, Option.isNone_none, eq_self, true_and, and_true, and_self, s1.rd0]
  refine ⟨by decide, ?_⟩
  have hk := hk h1 s1.tail
  simp only at hf hn hk
  unfold fits at hf
  rw [wrap64 (x := w - 1) (by omega) (by omega)]
  have e1 : pcs w = max ((w - 1).tdiv 2147483648 + 1) 1 := by
    unfold pcs
    by_cases c : w = 0
    · subst c; rfl
    · rw [Int.tdiv_eq_ediv_of_nonneg (by omega)]; split <;> omega
  have e2 : (w - 1).tdiv 2147483648 ≤ 4294967296 ∧ -1 ≤ (w - 1).tdiv 2147483648 := by
    by_cases c : w = 0
    · subst c; decide
    · rw [Int.tdiv_eq_ediv_of_nonneg (by omega)]; omega
  refine bindV_intro fun n hn' => ?_
  rw [wrap64 (by omega) (by omega)] at hn'
  subst hn'
  rw [wrap64 (by omega) (by omega)]
  refine bindV_intro fun m hm => ?_
  rw [hm]
  have e3 : (if (w - 1).tdiv 2147483648 + 1 > 1 then (w - 1).tdiv 2147483648 + 1 else 1) = pcs w := by rw [e1]; split <;> omega
  rw [e3]; exact hk
theorem split_l0 {K0 : Option Addr → Nat → Nat → Bool → Heap → Prop} {K2 : Heap → Prop} {b k cl c0 : Nat} {q q0 : Option Addr} {k0 : Nat} {l : List Ed} (hl : l.length = k) (hb : k < 2 ^ 30) (hw : fitsL l) (kl : Keeps h0 R q (eV l))
    (hk0 : ¬ splOk l → ∀ h', St h0 h' R → K0 none 0 0 false h') (hk2 : ∀ h', (∀ e ∈ l, 0 ≤ e.2.2) → St h0 h' ((b, accV ((pcsL l).sum, true)) :: R) → K2 h') :
    ∀ (d i : Nat) (h : Heap), i + d = k → (∀ e ∈ l.take i, 0 ≤ e.2.2) → St h0 h ((b, accV (sumR (pcsL (l.take i)))) :: R) → edge_Split.l0 K0 K2 (d + 1) q0 k0 c0 ⟨b, 0, none⟩ q k cl (k : Int) (i : Int) h
  | 0, i, h, hi, hnn, s => by
    unfold edge_Split.l0 edge_Split.b0
    rw [List.take_of_length_le (by omega)] at s hnn
    rw [pcsL_exact hw (by omega)] at s
    exact iteB_neg (decide_eq_false (by omega)) (hk2 h hnn s)
  | d + 1, i, h, hi, hnn, s => by
    unfold edge_Split.l0 edge_Split.b0
    obtain ⟨⟨u, v, w⟩, hx⟩ := get_lt (l := l) (i := i) (by omega)
    have hwx : fits w := hw _ (List.mem_of_getElem? hx)
    have vl := kl.atC s
    refine iteB_pos (decide_eq_true (by omega)) ?_
    simp -zeta (disch := omega) only [chkP_some, iteB_true, iteB_false, add_mk, Nat.zero_add, Nat.add_zero, Nat.mul_one, Nat.reduceAdd, Int.toNat_natCast, ex_int, ex_slice, ex_ptr, ex_bool, ex_str, ex_flt, ex_any, bnd_in, List.getElem?_cons_zero, List.getElem?_cons_succ, List.set_cons_zero, List.set_cons_succ, List.cons_append, List.nil_append, bne_self_eq_false, beq_self_eq_true, Bool.not_true, Bool.not_false, Option.isNone_some, Option.isNone_none, eq_self, true_and, and_true, and_self, vals_edge vl hx]
    refine s.new_ fun b1 h1 s1 => s1.st0 (by simp) fun h2 s2 => s2.st0 (by simp) fun h3 s3 => s3.st0 (by simp) fun h4 s4 => ?_
    try simp -zeta (disch := omega) only [chkP_some, iteB_true, iteB_false, add_mk, Nat.zero_add, Nat.add_zero, Nat.mul_one, Nat.reduceAdd, Int.toNat_natCast, ex_int, ex_slice, ex_ptr, ex_bool, ex_str, ex_flt, ex_any, bnd_in, List.getElem?_cons_zero, List.getElem?_cons_succ, List.set_cons_zero, List.set_cons_succ, List.cons_append, List.nil_append, bne_self_eq_false, beq_self_eq_true, Bool.not_true, Bool.not_false, Option.isNone_some, Option.isNone_none, eq_self, true_and, and_true, and_self, s4.rd0]
    refine iteB_intro (fun c => hk0 (fun ok => ?_) h4 s4.tail.tail) (fun c => ?_)
    · have c := of_decide_eq_true c
      have := ok.1 _ (List.mem_of_getElem? hx)
      simp only at this; omega
    have c := of_decide_eq_false c
    refine callP1.self (pieces_of (e := (u, v, w)) hwx (by simp only; omega) s4 fun h5 s5 => ?_)
    have hp : fits (pcs w) := by
      have h1 := pcs_pos w
      unfold fits at hwx ⊢
      have h2 := pcs_le hwx.2
      omega
    refine callP1.self (Put_of (sumR_fits _) hp s5.pull1 fun r h6 s6 => ?_)
    rw [wrap64 (by omega) (by omega)]
    refine split_l0 hl hb hw kl hk0 hk2 d (i + 1) h6 (by omega) (fun e he => ?_) ?_
    · rw [take_snoc hx] at he
      rcases List.mem_append.1 he with he | he
      · exact hnn e he
      · simp only [List.mem_singleton] at he; subst he; simp only; omega
    · rw [take_snoc hx, show pcsL (l.take i ++ [(u, v, w)]) = pcsL (l.take i) ++ [pcs w] by simp [pcsL], sumR_snoc]
      exact s6.pull1.tail
/-- Pieces cut off. -/
theorem split_l2 {K6 : Option Addr → Nat → Nat → Heap → Prop} {b cl k : Nat} {q : Option Addr} {x y : Int} {u v : Int} {B : List Ed} :
    ∀ (d i : Nat) (w : Int) (h : Heap) (A : List Ed) (q' : Option Addr) (c' : Nat) (X : Rws), 0 ≤ w → w ≤ 9223372036854775807 → (pcs w - 1).toNat = d → A ++ splE (u, v, w) = B → B.length < 2 ^ 30 → i + d < 2 ^ 40 → Own3 q' c' A X → St h0 h (X ++ (b, [.int .i64 u, .int .i64 v, .int .i64 w]) :: R) →
    (∀ h' A' q2 c2 X2 w2, Own3 q2 c2 A' X2 → A' ++ [(u, v, w2)] = B → St h0 h' (X2 ++ (b, [.int .i64 u, .int .i64 v, .int .i64 w2]) :: R) → K6 q2 A'.length c2 h') →
      edge_Split.l2 K6 (d + 1) q' A.length c' ⟨b, 0, none⟩ q k cl x y ((i + d : Nat) : Int) (i : Int) h
  | 0, i, w, h, A, q', c', X, h1, h2, hd, hB, hlen, hi, o, s, hk => by
    unfold edge_Split.l2 edge_Split.b2
    refine iteB_neg (decide_eq_false (by omega)) (hk h A q' c' X w o ?_ s)
    rw [← hB]
    have : ¬ ¬ w ≤ 2147483648 := fun hc => by
      have h3 := pcs_more hc
      have := pcs_pos (w - 2147483648)
      omega
    rw [splE_one (by simp only; omega)]
  | d + 1, i, w, h, A, q', c', X, h1, h2, hd, hB, hlen, hi, o, s, hk => by
    unfold edge_Split.l2 edge_Split.b2
    refine iteB_pos (decide_eq_true (by omega)) ?_
    have hw : ¬ w ≤ 2147483648 := fun hc => by rw [pcs_one hc] at hd; omega
    have hmore := pcs_more hw
    rw [splE_more hw] at hB
    have r0 : ∀ j, cell h ⟨b, j, none⟩ = [Value.int .i64 u, .int .i64 v, .int .i64 w][j]? := s.rd (by simp)
    simp -zeta (disch := omega) only [chkP_some, iteB_true, iteB_false, add_mk, Nat.zero_add, Nat.add_zero, Nat.mul_one, Nat.reduceAdd, Int.toNat_natCast, ex_int, ex_slice, ex_ptr, ex_bool, ex_str, ex_flt, ex_any, bnd_in, List.getElem?_cons_zero, List.getElem?_cons_succ, List.set_cons_zero, List.set_cons_succ, List.cons_append, List.nil_append, bne_self_eq_false, beq_self_eq_true, Bool.not_true, Bool.not_false, Option.isNone_some, Option.isNone_none, eq_self, true_and, and_true, and_self, r0]
    have hlA : A.length < 2 ^ 30 := by rw [← hB] at hlen; simp only [List.length_append, List.length_cons] at hlen; omega
    refine Own3.push1 o s rfl (by omega) fun q2 c2 X2 h3 o2 s3 => ?_
    have r1 : ∀ j, cell h3 ⟨b, j, none⟩ = [Value.int .i64 u, .int .i64 v, .int .i64 w][j]? := s3.rd (by simp)
    simp -zeta (disch := omega) only [chkP_some, iteB_true, iteB_false, add_mk, Nat.zero_add, Nat.add_zero, Nat.mul_one, Nat.reduceAdd, Int.toNat_natCast, ex_int, ex_slice, ex_ptr, ex_bool, ex_str, ex_flt, ex_any, bnd_in, List.getElem?_cons_zero, List.getElem?_cons_succ, List.set_cons_zero, List.set_cons_succ, List.cons_append, List.nil_append, bne_self_eq_false, beq_self_eq_true, Bool.not_true, Bool.not_false, Option.isNone_some, Option.isNone_none, eq_self, true_and, and_true, and_self, r1]
    refine s3.st (by simp) fun h4 s4 => ?_
    rw [wrap64 (by omega) (by omega)] at s4 ⊢
    have := split_l2 (K6 := K6) (B := B) (q := q) (k := k) (cl := cl) (x := x) (y := y) d (i + 1) (w - 2147483648) h4 (A ++ [(u, v, big)]) q2 c2 X2 (by omega) (by omega) (by omega) (by rw [← hB]; simp) hlen (by omega) o2 s4 hk
    simpa [Nat.add_assoc, Nat.add_comm 1 d] using this
theorem split_l1 {K4 : Option Addr → Nat → Nat → Heap → Prop} {k cl : Nat} {q : Option Addr} {l : List Ed} (hl : l.length = k) (hb : k < 2 ^ 30) (hw : fitsL l) (hok : splOk l) (kl : Keeps h0 R q (eV l))
    (hk : ∀ h' q' c' X', Own3 q' c' (splL l) X' → St h0 h' (X' ++ R) → K4 q' (splL l).length c' h') :
    ∀ (d i : Nat) (h : Heap) (q' : Option Addr) (c' : Nat) (X : Rws), i + d = k → Own3 q' c' (splL (l.take i)) X → St h0 h (X ++ R) → edge_Split.l1 K4 (d + 1) q' (splL (l.take i)).length c' q k cl (k : Int) (i : Int) h
  | 0, i, h, q', c', X, hi, o, s => by
    unfold edge_Split.l1 edge_Split.b1
    rw [List.take_of_length_le (by omega)] at o ⊢
    exact iteB_neg (decide_eq_false (by omega)) (hk h q' c' X o s)
  | d + 1, i, h, q', c', X, hi, o, s => by
    unfold edge_Split.l1 edge_Split.b1
    obtain ⟨⟨u, v, w⟩, hx⟩ := get_lt (l := l) (i := i) (by omega)
    have hwx : fits w := hw _ (List.mem_of_getElem? hx)
    have hw0 : 0 ≤ w := hok.1 _ (List.mem_of_getElem? hx)
    have vl := kl.at1 s
    refine iteB_pos (decide_eq_true (by omega)) ?_
    simp -zeta (disch := omega) only [chkP_some, iteB_true, iteB_false, add_mk, Nat.zero_add, Nat.add_zero, Nat.mul_one, Nat.reduceAdd, Int.toNat_natCast, ex_int, ex_slice, ex_ptr, ex_bool, ex_str, ex_flt, ex_any, bnd_in, List.getElem?_cons_zero, List.getElem?_cons_succ, List.set_cons_zero, List.set_cons_succ, List.cons_append, List.nil_append, bne_self_eq_false, beq_self_eq_true, Bool.not_true, Bool.not_false, Option.isNone_some, Option.isNone_none, eq_self, true_and, and_true, and_self, vals_edge vl hx]
    refine s.new_ fun b1 h1 s1 => s1.st0 (by simp) fun h2 s2 => s2.st0 (by simp) fun h3 s3 => s3.st0 (by simp) fun h4 s4 => ?_
    try simp -zeta (disch := omega) only [chkP_some, iteB_true, iteB_false, add_mk, Nat.zero_add, Nat.add_zero, Nat.mul_one, Nat.reduceAdd, Int.toNat_natCast, ex_int, ex_slice, ex_ptr, ex_bool, ex_str, ex_flt, ex_any, bnd_in, List.getElem?_cons_zero, List.getElem?_cons_succ, List.set_cons_zero, List.set_cons_succ, List.cons_append, List.nil_append, bne_self_eq_false, beq_self_eq_true, Bool.not_true, Bool.not_false, Option.isNone_some, Option.isNone_none, eq_self, true_and, and_true, and_self, s4.rd0]
    refine callP1.self (pieces_of (e := (u, v, w)) hwx hw0 s4 fun h5 s5 => ?_)
    simp only
    have hpp := pcs_pos w
    have hpl := pcs_le hwx.2
    have hB : splL (l.take (i + 1)) = splL (l.take i) ++ splE (u, v, w) := by rw [take_snoc hx, splL_app, splL_one]
    have hlen := splL_take_len hok.2 (i + 1)
    refine ⟨(pcs w - 1).toNat + 1, ?_⟩
    have st5 : St h0 h5 (X ++ (b1, [.int .i64 u, .int .i64 v, .int .i64 w]) :: R) := s5.perm List.perm_middle.symm
    have := split_l2 (K6 := fun z2022 z2022l z2022c h2023 => ((∃ (x2025 : Int), cell h2023 ⟨b1, 0, none⟩ = some (.int .i64 x2025) ∧ ∃ (x2026 : Int), cell h2023 ((⟨b1, 0, none⟩ : Addr).add 1) = some (.int .i64 x2026) ∧ ∃ (x2027 : Int), cell h2023 ((⟨b1, 0, none⟩ : Addr).add 2) = some (.int .i64 x2027) ∧ newP h2023 (.cells #[(.int .i64 x2025), (.int .i64 x2026), (.int .i64 x2027)] 27) fun a2028 h2029 => ∃ n2034, cellsAt h2029 (some a2028) (1 * 3) n2034 ∧ appP 27 3 24 [(.int .i64 0), (.int .i64 0), (.int .i64 0)] z2022 z2022l z2022c 1 n2034 h2029 fun q2030 l2031 c2032 h2033 => ((edge_Split.l1 K4 (d + 1) q2030 l2031 c2032 q k cl (k : Int) (IntKind.i64.wrap ((i : Int) + 1)) h2033)))))
      (B := splL (l.take (i + 1))) (q := q) (k := k) (cl := cl) (x := (k : Int)) (y := (i : Int)) (u := u) (v := v) (pcs w - 1).toNat 0 w h5 (splL (l.take i)) q' c' X hw0 hwx.2 rfl hB.symm (by omega) (by omega) o st5 (fun h6 A' q2 c2 X2 w2 o2 hA s6 => ?_)
    · rw [show ((0 + (pcs w - 1).toNat : Nat) : Int) = IntKind.i64.wrap (pcs w - 1) by rw [wrap64 (by omega) (by omega)]; omega] at this
      simp only [add_mk, Nat.zero_add] at this ⊢
      exact this
    · have r1 : ∀ j, cell h6 ⟨b1, j, none⟩ = [Value.int .i64 u, .int .i64 v, .int .i64 w2][j]? := s6.rd (by simp)
      simp -zeta (disch := omega) only [chkP_some, iteB_true, iteB_false, add_mk, Nat.zero_add, Nat.add_zero, Nat.mul_one, Nat.reduceAdd, Int.toNat_natCast, ex_int, ex_slice, ex_ptr, ex_bool, ex_str, ex_flt, ex_any, bnd_in, List.getElem?_cons_zero, List.getElem?_cons_succ, List.set_cons_zero, List.set_cons_succ, List.cons_append, List.nil_append, bne_self_eq_false, beq_self_eq_true, Bool.not_true, Bool.not_false, Option.isNone_some, Option.isNone_none, eq_self, true_and, and_true, and_self, r1]
      have hlA : A'.length < 2 ^ 30 := by rw [← hA] at hlen; simp only [List.length_append, List.length_cons] at hlen; omega
      refine Own3.push1 o2 s6 rfl (by omega) fun q3 c3 X3 h7 o3 s7 => ?_
      rw [wrap64 (by omega) (by omega)]
      rw [hA] at o3
      have hl3 : A'.length + 1 = (splL (l.take (i + 1))).length := by rw [← hA]; simp
      rw [hl3]
      exact split_l1 hl hb hw hok kl hk d (i + 1) h7 q3 c3 X3 (by omega) o3 ((St.re s7 (by intro a; simp only [cntR_append, cntR_cons, cntR_nil, List.cons_append, List.nil_append, List.set_cons_zero, List.set_cons_succ]; omega)))
theorem Split_of {h : Heap} {k cl : Nat} {q : Option Addr} {l : List Ed} {K : Option Addr → Nat → Nat → Bool → Heap → Prop} (hl : l.length = k) (hb : k < 2 ^ 30) (hw : fitsL l) (kl : Keeps h0 R q (eV l)) (s : St h0 h R)
    (hk0 : ¬ splOk l → ∀ h', St h0 h' R → K none 0 0 false h')
    (hk : splOk l → ∀ h' q c X, Own3 q c (splL l) X → St h0 h' (X ++ R) → K q (splL l).length c true h') : edge_Split q k cl h K := by
  unfold edge_Split
  refine s.new_ fun b h1 s1 => ⟨k + 1, split_l0 hl hb hw kl hk0 (fun h2 hnn s2 => ?_) k 0 h1 (by omega) (fun e he => by cases he) s1⟩
  refine qcallP2.of _ _ (fun Q hQ => Value_of s2.rd0 hQ) (iteB_neg rfl ?_)
  refine iteB_intro (fun c => hk0 (fun ok => ?_) h2 s2.tail) (fun c => ?_)
  · have c := of_decide_eq_true c
    have := ok.2; simp only [if_true] at c; omega
  · have c := of_decide_eq_false c
    have hok : splOk l := ⟨hnn, by simp only [if_true] at c; omega⟩
    exact ⟨k + 1, split_l1 hl hb hw hok kl (fun h3 q' c' X' o3 s3 => hk hok h3 q' c' X' o3 s3) k 0 h2 none 0 [] (by omega) Own3.nil s2.tail⟩
theorem pcs_alt {w : Int} (h : 0 ≤ w) : pcs w = w / 2147483648 + (if w = 0 ∨ w % 2147483648 ≠ 0 then 1 else 0) := by
  unfold pcs; split <;> split <;> omega
theorem not_ok_neg {l : List Ed} {i : Nat} {u v w : Int} (hx : l[i]? = some (u, v, w)) (h : w < 0) : ¬ splOk l := fun ok => by
  have := ok.1 _ (List.mem_of_getElem? hx); simp only at this; omega
theorem not_ok_big {l : List Ed} {i : Nat} (h : 1048576 < (pcsL (l.take i)).sum) : ¬ splOk l := fun ok => by
  have := pcsL_take l i; have := ok.2; omega
theorem pcsL_snoc {l : List Ed} {i : Nat} {u v w : Int} (hx : l[i]? = some (u, v, w)) : (pcsL (l.take (i + 1))).sum = (pcsL (l.take i)).sum + pcs w := by
  rw [take_snoc hx, pcsL_app]; simp [pcsL]
theorem rsplit_l0 {K0 K2 : Heap → Prop} {b k cl : Nat} {q : Option Addr} {l : List Ed} (hl : l.length = k) (hb : k < 2 ^ 30) (hw : fitsL l) (kl : Keeps h0 R q (eV l))
    (hk0 : ¬ splOk l → ∀ h', St h0 h' ((b, [.slice none 0 0, .bool false]) :: R) → K0 h') (hk2 : ∀ h', splOk l → St h0 h' ((b, [.slice none 0 0, .bool false]) :: R) → K2 h') :
    ∀ (d i : Nat) (n : Int) (h : Heap), i + d = k → (∀ e ∈ l.take i, 0 ≤ e.2.2) → n = (pcsL (l.take i)).sum → n ≤ 1048576 → St h0 h ((b, [.slice none 0 0, .bool false]) :: R) → straitref15_Split.l0 K0 K2 (d + 1) q k cl ⟨b, 0, none⟩ n (i : Int) h
  | 0, i, n, h, hi, hnn, hn, hn2, s => by
    unfold straitref15_Split.l0 straitref15_Split.b0
    rw [List.take_of_length_le (by omega)] at hnn hn
    exact iteB_neg (decide_eq_false (by omega)) (hk2 h ⟨hnn, by omega⟩ s)
  | d + 1, i, n, h, hi, hnn, hn, hn2, s => by
    unfold straitref15_Split.l0 straitref15_Split.b0
    obtain ⟨⟨u, v, w⟩, hx⟩ := get_lt (l := l) (i := i) (by omega)
    have hwx : fits w := hw _ (List.mem_of_getElem? hx)
    have hn0 := pcsL_sum (l.take i)
    have vl := kl.atC s
    have e31 : (2 : Int) ^ 31 = 2147483648 := by decide
    refine iteB_pos (decide_eq_true (by omega)) ?_
    have bad : ¬ splOk l → stC h ⟨b, 0, none⟩ (.slice none 0 0) fun h1015 => stC h1015 ((⟨b, 0, none⟩ : Addr).add 1) (.bool false) fun h1016 => K0 h1016 := fun no => by
      refine s.st0 (by simp) fun h2 s2 => ?_
      try simp -zeta only [chkP_some, iteB_true, iteB_false, add_mk, Nat.zero_add, Nat.add_zero, Nat.mul_one, Nat.reduceAdd, Int.toNat_natCast, ex_int, ex_slice, ex_ptr, ex_bool, ex_str, ex_flt, ex_any, bnd_in, List.getElem?_cons_zero, List.getElem?_cons_succ, List.set_cons_zero, List.set_cons_succ, List.cons_append, List.nil_append, bne_self_eq_false, beq_self_eq_true, Bool.not_true, Bool.not_false, Option.isNone_some, Option.isNone_none, eq_self, true_and, and_true, and_self]
      exact s2.st0 (by simp) fun h3 s3 => hk0 no h3 s3
    intro j
    have J : 0 ≤ w → w / 2147483648 ≤ 1048576 → j := fun w0 w1 => by
      simp -zeta only [j]
      simp -zeta (disch := omega) only [chkP_some, iteB_true, iteB_false, add_mk, Nat.zero_add, Nat.add_zero, Nat.mul_one, Nat.reduceAdd, Int.toNat_natCast, ex_int, ex_slice, ex_ptr, ex_bool, ex_str, ex_flt, ex_any, bnd_in, List.getElem?_cons_zero, List.getElem?_cons_succ, List.set_cons_zero, List.set_cons_succ, List.cons_append, List.nil_append, bne_self_eq_false, beq_self_eq_true, Bool.not_true, Bool.not_false, Option.isNone_some, Option.isNone_none, eq_self, true_and, and_true, and_self, vals_edge2 vl hx, e31]
      refine ⟨by omega, ?_⟩
      rw [Int.fdiv_eq_ediv_of_nonneg _ (by omega), wrap64 (by omega) (by omega)]
      refine bindV_intro fun m hm => ?_
      subst hm
      intro j2
      have J2 : ∀ y : Int, y = (pcsL (l.take (i + 1))).sum → j2 y := fun y hy => by
        simp -zeta only [j2]
        refine iteB_intro (fun c => bad (not_ok_big (i := i + 1) ?_)) (fun c => ?_)
        · have c := of_decide_eq_true c; omega
        · have c := of_decide_eq_false c
          rw [wrap64 (by omega) (by omega)]
          refine rsplit_l0 hl hb hw kl hk0 hk2 d (i + 1) y h (by omega) (fun e he => ?_) hy (by omega) s
          rw [take_snoc hx] at he
          rcases List.mem_append.1 he with he | he
          · exact hnn e he
          · simp only [List.mem_singleton] at he; subst he; exact w0
      clear_value j2
      have hs := pcsL_snoc hx
      rw [pcs_alt w0] at hs
      rw [wrap64 (by omega) (by omega)]
      refine iteB_intro (fun c => J2 _ ?_) (fun c => ?_)
      · have c : w = 0 := by simpa using c
        rw [hs, if_pos (.inl c)]; omega
      · have c : ¬ w = 0 := by simpa using c
        refine ⟨by decide, iteB_intro (fun c2 => J2 _ ?_) (fun c2 => J2 _ ?_)⟩
        · have c2 : ¬ w.tmod 2147483648 = 0 := by simpa using c2
          rw [Int.tmod_eq_emod_of_nonneg w0] at c2
          rw [hs, if_pos (.inr c2)]; omega
        · have c2 : w.tmod 2147483648 = 0 := by simpa using c2
          rw [Int.tmod_eq_emod_of_nonneg w0] at c2
          rw [hs, if_neg (by omega)]; omega
    clear_value j
    simp -zeta (disch := omega) only [chkP_some, iteB_true, iteB_false, Int.toNat_natCast, ex_int, bnd_in, vals_edge2 vl hx, e31]
    refine iteB_intro (fun c => bad (not_ok_neg hx (of_decide_eq_true c))) (fun c => ?_)
    have c := of_decide_eq_false c
    refine ⟨by omega, ?_⟩
    rw [Int.fdiv_eq_ediv_of_nonneg _ (by omega)]
    refine iteB_intro (fun c2 => bad (not_ok_big (i := i + 1) ?_)) (fun c2 => J (by omega) ?_)
    · have c2 := of_decide_eq_true c2
      rw [pcsL_snoc hx, pcs_alt (by omega)]; split <;> omega
    · have c2 := of_decide_eq_false c2; omega
theorem rsplit_l2 {K6 : Option Addr → Nat → Nat → Int → Heap → Prop} {b cl k i : Nat} {q : Option Addr} {l : List Ed} {u v w0 : Int} {B : List Ed} {c0 : List Value} (hl : l.length = k) (hx : l[i]? = some (u, v, w0)) (kl : Keeps h0 R q (eV l)) :
    ∀ (d : Nat) (w : Int) (h : Heap) (A : List Ed) (q' : Option Addr) (c' : Nat) (X : Rws), 0 ≤ w → w ≤ 9223372036854775807 → (pcs w - 1).toNat = d → A ++ splE (u, v, w) = B → B.length < 2 ^ 30 → Own3 q' c' A X → St h0 h (X ++ (b, c0) :: R) →
    (∀ h' A' q2 c2 X2 w2, Own3 q2 c2 A' X2 → A' ++ [(u, v, w2)] = B → St h0 h' (X2 ++ (b, c0) :: R) → K6 q2 A'.length c2 w2 h') →
      straitref15_Split.l2 K6 (d + 1) q k cl ⟨b, 0, none⟩ q' A.length c' (i : Int) w h
  | 0, w, h, A, q', c', X, h1, h2, hd, hB, hlen, o, s, hk => by
    unfold straitref15_Split.l2 straitref15_Split.b2
    have hw : w ≤ 2147483648 := Int.not_lt.1 fun hc => by
      have h3 := pcs_more (w := w) (by omega)
      have := pcs_pos (w - 2147483648)
      omega
    refine iteB_neg (decide_eq_false (by omega)) (hk h A q' c' X w o ?_ s)
    rw [← hB, splE_one hw]
  | d + 1, w, h, A, q', c', X, h1, h2, hd, hB, hlen, o, s, hk => by
    unfold straitref15_Split.l2 straitref15_Split.b2
    have hw : ¬ w ≤ 2147483648 := fun hc => by rw [pcs_one hc] at hd; omega
    have hik := lt_get hx
    refine iteB_pos (decide_eq_true (by omega)) ?_
    have hmore := pcs_more hw
    rw [splE_more hw] at hB
    have vl : valsAt h q (eV l) := (kl.cons (y := (b, c0))).at1 s
    have v1 : ∀ {G : Int → Prop}, (chkP q fun a' => ∃ y : Int, cell h ((a'.add (i * 3)).add 1) = some (.int .i64 y) ∧ G y) = G v := by
      intro G; simp only [addr_add]; exact vals_int vl (eV_get1 hx)
    simp -zeta (disch := omega) only [chkP_some, iteB_true, iteB_false, add_mk, Nat.zero_add, Nat.add_zero, Nat.mul_one, Nat.reduceAdd, Int.toNat_natCast, ex_int, ex_slice, ex_ptr, ex_bool, ex_str, ex_flt, ex_any, bnd_in, List.getElem?_cons_zero, List.getElem?_cons_succ, List.set_cons_zero, List.set_cons_succ, List.cons_append, List.nil_append, bne_self_eq_false, beq_self_eq_true, Bool.not_true, Bool.not_false, Option.isNone_some, Option.isNone_none, eq_self, true_and, and_true, and_self, vals_int vl (eV_get0 hx), v1]
    have hlA : A.length < 2 ^ 30 := by rw [← hB] at hlen; simp only [List.length_append, List.length_cons] at hlen; omega
    refine Own3.push1 o s rfl (by omega) fun q2 c2 X2 h3 o2 s3 => ?_
    rw [wrap64 (by omega) (by omega)]
    have := rsplit_l2 (K6 := K6) (B := B) (cl := cl) hl hx kl d (w - 2147483648) h3 (A ++ [(u, v, big)]) q2 c2 X2 (by omega) (by omega) (by omega) (by rw [← hB]; simp) hlen o2 s3 hk
    simpa using this
theorem rsplit_l1 {K4 : Option Addr → Nat → Nat → Heap → Prop} {b k cl : Nat} {q : Option Addr} {l : List Ed} {c0 : List Value} (hl : l.length = k) (hb : k < 2 ^ 30) (hw : fitsL l) (hok : splOk l) (kl : Keeps h0 R q (eV l))
    (hk : ∀ h' q' c' X', Own3 q' c' (splL l) X' → St h0 h' (X' ++ (b, c0) :: R) → K4 q' (splL l).length c' h') :
    ∀ (d i : Nat) (h : Heap) (q' : Option Addr) (c' : Nat) (X : Rws), i + d = k → Own3 q' c' (splL (l.take i)) X → St h0 h (X ++ (b, c0) :: R) → straitref15_Split.l1 K4 (d + 1) q k cl ⟨b, 0, none⟩ q' (splL (l.take i)).length c' (i : Int) h
  | 0, i, h, q', c', X, hi, o, s => by
    unfold straitref15_Split.l1 straitref15_Split.b1
    rw [List.take_of_length_le (by omega)] at o ⊢
    exact iteB_neg (decide_eq_false (by omega)) (hk h q' c' X o s)
  | d + 1, i, h, q', c', X, hi, o, s => by
    unfold straitref15_Split.l1 straitref15_Split.b1
    obtain ⟨⟨u, v, w⟩, hx⟩ := get_lt (l := l) (i := i) (by omega)
    have hwx : fits w := hw _ (List.mem_of_getElem? hx)
    have hw0 : 0 ≤ w := hok.1 _ (List.mem_of_getElem? hx)
    have kl2 := kl.cons (y := (b, c0))
    have vl : valsAt h q (eV l) := kl2.at1 s
    refine iteB_pos (decide_eq_true (by omega)) ?_
    simp -zeta (disch := omega) only [chkP_some, iteB_true, iteB_false, add_mk, Nat.zero_add, Nat.add_zero, Nat.mul_one, Nat.reduceAdd, Int.toNat_natCast, ex_int, ex_slice, ex_ptr, ex_bool, ex_str, ex_flt, ex_any, bnd_in, List.getElem?_cons_zero, List.getElem?_cons_succ, List.set_cons_zero, List.set_cons_succ, List.cons_append, List.nil_append, bne_self_eq_false, beq_self_eq_true, Bool.not_true, Bool.not_false, Option.isNone_some, Option.isNone_none, eq_self, true_and, and_true, and_self, vals_edge2 vl hx]
    have hB : splL (l.take (i + 1)) = splL (l.take i) ++ splE (u, v, w) := by rw [take_snoc hx, splL_app, splL_one]
    have hlen := splL_take_len hok.2 (i + 1)
    refine ⟨(pcs w - 1).toNat + 1, rsplit_l2 (B := splL (l.take (i + 1))) (cl := cl) (c0 := c0) hl hx kl (pcs w - 1).toNat w h (splL (l.take i)) q' c' X hw0 hwx.2 rfl hB.symm (by omega) o s (fun h6 A' q2 c2 X2 w2 o2 hA s6 => ?_)⟩
    have vl : valsAt h6 q (eV l) := kl2.at1 s6
    have v1 : ∀ {G : Int → Prop}, (chkP q fun a' => ∃ y : Int, cell h6 ((a'.add (i * 3)).add 1) = some (.int .i64 y) ∧ G y) = G v := by
      intro G; simp only [addr_add]; exact vals_int vl (eV_get1 hx)
    simp -zeta (disch := omega) only [chkP_some, iteB_true, iteB_false, add_mk, Nat.zero_add, Nat.add_zero, Nat.mul_one, Nat.reduceAdd, Int.toNat_natCast, ex_int, ex_slice, ex_ptr, ex_bool, ex_str, ex_flt, ex_any, bnd_in, List.getElem?_cons_zero, List.getElem?_cons_succ, List.set_cons_zero, List.set_cons_succ, List.cons_append, List.nil_append, bne_self_eq_false, beq_self_eq_true, Bool.not_true, Bool.not_false, Option.isNone_some, Option.isNone_none, eq_self, true_and, and_true, and_self, vals_int vl (eV_get0 hx), v1]
    have hlA : A'.length < 2 ^ 30 := by rw [← hA] at hlen; simp only [List.length_append, List.length_cons] at hlen; omega
    refine Own3.push1 o2 s6 rfl (by omega) fun q3 c3 X3 h7 o3 s7 => ?_
    rw [wrap64 (by omega) (by omega)]
    rw [hA] at o3
    have hl3 : A'.length + 1 = (splL (l.take (i + 1))).length := by rw [← hA]; simp
    rw [hl3]
    exact rsplit_l1 hl hb hw hok kl hk d (i + 1) h7 q3 c3 X3 (by omega) o3 s7
theorem RSplit_of {h : Heap} {k cl : Nat} {q : Option Addr} {l : List Ed} {K : Option Addr → Nat → Nat → Bool → Heap → Prop} (hl : l.length = k) (hb : k < 2 ^ 30) (hw : fitsL l) (kl : Keeps h0 R q (eV l)) (s : St h0 h R)
    (hk0 : ¬ splOk l → ∀ h', St h0 h' R → K none 0 0 false h')
    (hk : splOk l → ∀ h' q c X, Own3 q c (splL l) X → St h0 h' (X ++ R) → K q (splL l).length c true h') : straitref15_Split q k cl h K := by
  unfold straitref15_Split
  refine s.new_ fun b h1 s1 => ⟨k + 1, rsplit_l0 hl hb hw kl (fun no h2 s2 => ?_) (fun h2 ok s2 => ?_) k 0 0 h1 (by omega) (fun e he => by cases he) rfl (by omega) s1⟩
  · try simp -zeta (disch := omega) only [chkP_some, iteB_true, iteB_false, add_mk, Nat.zero_add, Nat.add_zero, Nat.mul_one, Nat.reduceAdd, Int.toNat_natCast, ex_int, ex_slice, ex_ptr, ex_bool, ex_str, ex_flt, ex_any, bnd_in, List.getElem?_cons_zero, List.getElem?_cons_succ, List.set_cons_zero, List.set_cons_succ, List.cons_append, List.nil_append, bne_self_eq_false, beq_self_eq_true, Bool.not_true, Bool.not_false, Option.isNone_some, Option.isNone_none, eq_self, true_and, and_true, and_self, s2.rd0]
    exact hk0 no h2 s2.tail
  · refine ⟨k + 1, rsplit_l1 hl hb hw ok kl (fun h3 q' c' X' o3 s3 => ?_) k 0 h2 none 0 [] (by omega) Own3.nil s2⟩
    refine St.st s3 (by simp) fun h4 s4 => ?_
    try simp -zeta only [chkP_some, iteB_true, iteB_false, add_mk, Nat.zero_add, Nat.add_zero, Nat.mul_one, Nat.reduceAdd, Int.toNat_natCast, ex_int, ex_slice, ex_ptr, ex_bool, ex_str, ex_flt, ex_any, bnd_in, List.getElem?_cons_zero, List.getElem?_cons_succ, List.set_cons_zero, List.set_cons_succ, List.cons_append, List.nil_append, bne_self_eq_false, beq_self_eq_true, Bool.not_true, Bool.not_false, Option.isNone_some, Option.isNone_none, eq_self, true_and, and_true, and_self]
    refine St.st s4 (by simp) fun h5 s5 => ?_
    simp only [List.set_cons_zero, List.set_cons_succ, Nat.zero_add] at s5
    have r0 : ∀ j, cell h5 ⟨b, j, none⟩ = [Value.slice q' (splL l).length c', .bool true][j]? := s5.rd (by simp)
    simp -zeta (disch := omega) only [chkP_some, iteB_true, iteB_false, add_mk, Nat.zero_add, Nat.add_zero, Nat.mul_one, Nat.reduceAdd, Int.toNat_natCast, ex_int, ex_slice, ex_ptr, ex_bool, ex_str, ex_flt, ex_any, bnd_in, List.getElem?_cons_zero, List.getElem?_cons_succ, List.set_cons_zero, List.set_cons_succ, List.cons_append, List.nil_append, bne_self_eq_false, beq_self_eq_true, Bool.not_true, Bool.not_false, Option.isNone_some, Option.isNone_none, eq_self, true_and, and_true, and_self, r0]
    exact hk ok h5 q' c' X' o3 ((St.re s5 (by intro a; simp only [cntR_append, cntR_cons, cntR_nil, List.cons_append, List.nil_append, List.set_cons_zero, List.set_cons_succ]; omega)))
end
end Go.Proofs.YtokemibmanjpmaaGreatDoor

namespace Go.Proofs.YtokemibmanjpmaaGreatDoor
set_option linter.unusedVariables false
set_option linter.unusedSimpArgs false
set_option linter.unnecessarySimpa false
open Go.Proofs Go.Shelf Go.RowKit Go.Hp
attribute [local irreducible] Go.Hp.iteB Go.Hp.stC
section
variable {g0 : Heap} {q : Option Addr} {c : Nat}
theorem redges_l0 {K2 : ByteArray → Heap → Prop} {k : Nat} {l : List Ed} (hl : l.length = k) (hb : k ≤ 2 ^ 22) (v : valsAt g0 q (eV l)) (hin : ∀ e ∈ l, inE e)
    (hk : ∀ h', Ext g0 h' → K2 (str (edgesB l)) h') :
    ∀ (d i : Nat) (h : Heap), i + d = k → Ext g0 h → straitref18_edges.l0 K2 (d + 1) q k c (str (edgesB (l.take i))) (i : Int) h := by
  intro d
  induction d with
  | zero =>
    intro i h hi e
    unfold straitref18_edges.l0 straitref18_edges.b0
    rw [List.take_of_length_le (by omega)]
    exact iteB_neg (decide_eq_false (by omega)) (hk h e)
  | succ d ih =>
    intro i h hi e
    unfold straitref18_edges.l0 straitref18_edges.b0
    obtain ⟨⟨x, y, w⟩, hx⟩ := get_lt (l := l) (i := i) (by omega)
    have hE := hin _ (List.mem_of_getElem? hx)
    have hle := edgesB_len (l := l.take i) fun e he => hin e (List.mem_of_mem_take he)
    rw [List.length_take, Nat.min_eq_left (by omega)] at hle
    have hed : (joinB ([x, y, w].map Lib.itoa)).length ≤ 63 := by
      have := edB_len hE
      simpa only [edB] using this
    obtain ⟨a, ha, c0⟩ := v _ _ (eV_get0 hx)
    obtain ⟨a1, ha1, c1⟩ := v _ _ (eV_get1 hx)
    obtain ⟨a2, ha2, c2⟩ := v _ _ (eV_get2 hx)
    rw [ha] at ha1 ha2
    obtain rfl := Option.some.inj ha1
    obtain rfl := Option.some.inj ha2
    rw [ha]
    refine iteB_pos (decide_eq_true (by omega)) ?_
    simp -zeta only [chkP_some, Int.toNat_natCast, addr_add]
    rw [← ha]
    refine ⟨by omega, x, e.cell' c0, by omega, y, e.cell' c1, by omega, w, e.cell' c2, ?_⟩
    refine (St.refl h).new_ (cs := [.int .i64 x, .int .i64 y, .int .i64 w]) fun b5 h5 s5 => ?_
    have v5 : valsAt h5 (some ⟨b5, 0, none⟩) (numV [x, y, w]) := valsAt.row (s5.rows _ (List.mem_cons_self ..)) (fun j v hj => by simpa [numV] using hj)
    have e5 : Ext h h5 := s5.ext
    refine callP1.self (RList_of (ls := [x, y, w]) v5 (inE_all hE) (by simp) fun h6 e6 => ?_)
    have e10 : (⟨#[10]⟩ : ByteArray) = str [10] := rfl
    rw [e10, str_app, str_size, str_size, str_size, str_size]
    refine ⟨by omega, by rw [List.length_append]; simp only [List.length_cons, List.length_nil]; omega, ?_⟩
    rw [wrap64 (by omega) (by omega), str_app]
    have := ih (i + 1) h6 (by omega) (e.trans (e5.trans e6))
    have e11 : edgesB (l.take (i + 1)) = edgesB (l.take i) ++ joinB ([x, y, w].map Lib.itoa) ++ [10] := by rw [take_snoc hx, edgesB_snoc, ← List.append_assoc]; simp only [edB]
    rw [e11] at this
    exact this
theorem REdges_of {h : Heap} {k : Nat} {l : List Ed} {K : ByteArray → Heap → Prop} (hl : l.length = k) (hb : k ≤ 2 ^ 22) (v : valsAt h q (eV l)) (hin : ∀ e ∈ l, inE e) (hk : ∀ h', Ext h h' → K (str (edgesB l)) h') : straitref18_edges q k c h K := by
  unfold straitref18_edges
  exact ⟨k + 1, redges_l0 hl hb v hin hk k 0 h (by omega) (Ext.refl h)⟩
theorem RText_of {h : Heap} {n : Int} {k : Nat} {l : List Ed} {K : ByteArray → Heap → Prop} (hl : l.length = k) (hb : k ≤ 2 ^ 22) (v : valsAt h q (eV l)) (hin : ∀ e ∈ l, inE e) (hn : inR n = true)
    (hk : ∀ h', Ext h h' → K (str (gtext n l)) h') : straitref18_Text n q k c h K := by
  unfold straitref18_Text
  refine (St.refl h).new_ (cs := [.int .i64 n, .int .i64 (k : Int)]) fun b2 h2 s2 => ?_
  have v2 : valsAt h2 (some ⟨b2, 0, none⟩) (numV [n, (k : Int)]) := valsAt.row (s2.rows _ (List.mem_cons_self ..)) (fun j v hj => by simpa [numV] using hj)
  have e2 : Ext h h2 := s2.ext
  have hin2 : ∀ x ∈ [n, (k : Int)], inR x = true := by
    intro x hx
    simp only [List.mem_cons, List.not_mem_nil, or_false] at hx
    rcases hx with rfl | rfl
    · exact hn
    · exact inR_iff.2 ⟨by omega, by omega⟩
  have hle := list_len hin2 2
  simp only [List.take_succ_cons, List.take_zero, List.length_cons, List.length_nil] at hle
  have hel := edgesB_len hin
  have e10 : (⟨#[10]⟩ : ByteArray) = str [10] := rfl
  have eg : (⟨#[103, 114, 97, 112, 104, 32]⟩ : ByteArray) = str [103, 114, 97, 112, 104, 32] := rfl
  refine callP1.self (RList_of (ls := [n, (k : Int)]) v2 hin2 (by simp) fun h3 e3 => ?_)
  rw [e10, eg, str_app, str_app, str_size, str_size, str_size, str_size]
  refine ⟨by simp only [List.length_cons, List.length_nil]; omega, by rw [List.length_append]; simp only [List.length_cons, List.length_nil]; omega, callP1.self (REdges_of hl hb (v.ext (e2.trans e3)) hin fun h4 e4 => ⟨?_, ?_⟩)⟩
  · rw [str_size, str_size]; simp only [List.length_append, List.length_cons, List.length_nil]; omega
  · rw [str_app]
    have := hk h4 (e2.trans (e3.trans e4))
    unfold gtext headB at this
    rw [hl] at this
    exact this
end
/-! ### Split, and printed -/
instance (l : List Ed) : Decidable (splOk l) := by unfold splOk; exact inferInstance
def splT (l : List Ed) : List Ed := if splOk l then splL l else []
def edgP (e : Ed) : Prop := inR e.1 = true ∧ inR e.2.1 = true ∧ 0 ≤ e.2.2 ∧ e.2.2 ≤ 9223372036854775807
theorem edgP.inE {e : Ed} (h : edgP e) : inE e := ⟨h.1, h.2.1, inR_iff.2 ⟨by have := h.2.2.1; omega, h.2.2.2⟩⟩
theorem splE_in {e : Ed} (h : edgP e) : ∀ x ∈ splE e, inE x := by
  intro x hx
  unfold splE at hx
  rcases List.mem_append.1 hx with hx | hx
  · obtain rfl := (List.mem_replicate.1 hx).2
    exact ⟨h.1, h.2.1, inR_iff.2 (by show _ ≤ big ∧ big ≤ _; unfold big; omega)⟩
  · simp only [List.mem_singleton] at hx
    subst hx
    refine ⟨h.1, h.2.1, inR_iff.2 ?_⟩
    have h1 := h.2.2
    simp only
    unfold pcs big
    split <;> omega
theorem splT_in {l : List Ed} (h : ∀ e ∈ l, edgP e) : ∀ x ∈ splT l, inE x := by
  intro x hx
  unfold splT at hx
  split at hx
  · obtain ⟨e, he, hx⟩ := List.mem_flatMap.1 hx
    exact splE_in (h e he) x hx
  · cases hx
theorem splT_len (l : List Ed) : (splT l).length ≤ 2 ^ 22 := by
  unfold splT
  split
  · rename_i ok
    have := splL_take_len ok.2 l.length
    rw [List.take_length] at this; omega
  · simp
theorem Gr.edgP {n : Nat} {L : List Ed} (g : Gr n L) (hn : n ≤ 4096) : ∀ e ∈ L, edgP e := by
  intro e he
  obtain ⟨h1, h2, h3, h4⟩ := g.range e he
  have h5 : good L := fun x hx => by have := (g.range x hx).2.2.2; omega
  have h6 := good_le h5 e he
  have h7 := g.sum
  exact ⟨inR_iff.2 ⟨by omega, by omega⟩, inR_iff.2 ⟨by omega, by omega⟩, by omega, by omega⟩
theorem edgP_fits {L : List Ed} (h : ∀ e ∈ L, edgP e) : fitsL L := fun e he => by
  have h1 := (h e he).2.2
  show -9223372036854775808 ≤ e.2.2 ∧ e.2.2 ≤ 9223372036854775807
  omega
def printB (n : Int) (L : List Ed) : List UInt8 := gtext n (splT L)
theorem Print_of' {h : Heap} {g n : Nat} {L : List Ed} {N : List (List Nat)} {K : ByteArray → Heap → Prop} (nh : NetG h g n L N) (f : TabP h) (hk : ∀ h', Ext h h' → K (str (printB n L)) h') : gprint_Print (some ⟨g, 0, none⟩) h K := by
  unfold gprint_Print
  have hP := nh.gr.edgP nh.hn
  have hlen := nh.gr.len
  refine iteB_neg rfl (callP3.self (GEdges_of (h0 := (h : Base)) (R := []) nh (St.refl h) fun q c X h1 o s1 => ?_))
  rw [List.append_nil] at s1
  have e1 : Ext h h1 := s1.ext
  refine callP4.self (Split_of (h0 := (h : Base)) (R := X) rfl (by omega) (edgP_fits hP) (o.keeps fun x hx => hx) s1 (fun no h2 s2 => ?_) (fun ok h2 q2 c2 X2 o2 s2 => ?_))
  · have e2 : Ext h h2 := s2.ext
    refine qcallP1.of (n : Int) (fun R' hR => GN_of (h0 := (h : Base)) nh s2 hR) ?_
    refine callP1.self (Text_of (l := []) rfl (by omega) (fun i v hv => by simp [eV] at hv) (f.ext e2) (by simp) (inR_iff.2 ⟨by omega, by have := nh.hn; omega⟩) fun h3 e3 => ?_)
    have := hk h3 (e2.trans e3)
    unfold printB splT at this
    rw [if_neg no] at this
    exact this
  · have e2 : Ext h h2 := s2.ext
    have hs : splT L = splL L := if_pos ok
    refine qcallP1.of (n : Int) (fun R' hR => GN_of (h0 := (h : Base)) nh s2 hR) ?_
    refine callP1.self (Text_of (l := splL L) rfl (by have := splT_len L; rw [hs] at this; exact this) (o2.vals s2) (f.ext e2) (by have := splT_in hP; rw [hs] at this; exact this) (inR_iff.2 ⟨by omega, by have := nh.hn; omega⟩) fun h3 e3 => ?_)
    have := hk h3 (e2.trans e3)
    unfold printB at this
    rw [hs] at this
    exact this
theorem RPrint_of' {h : Heap} {n k c : Nat} {q : Option Addr} {L : List Ed} {K : ByteArray → Heap → Prop} (gr : Gr n L) (hn : n ≤ 4096) (hl : L.length = k) (v : valsAt h q (eV L)) (hk : ∀ h', Ext h h' → K (str (printB n L)) h') : straitref18_Print (n : Int) q k c h K := by
  unfold straitref18_Print
  have hP := gr.edgP hn
  have hlen := gr.len
  refine (St.refl h).new_ (cs := [.int .i64 (n : Int), .slice q k c]) fun b1 h1 s1 => ?_
  have e1 : Ext h h1 := s1.ext
  try simp -zeta (disch := omega) only [chkP_some, iteB_true, iteB_false, add_mk, Nat.zero_add, Nat.add_zero, Nat.mul_one, Nat.reduceAdd, Int.toNat_natCast, ex_int, ex_slice, ex_ptr, ex_bool, ex_str, ex_flt, ex_any, bnd_in, List.getElem?_cons_zero, List.getElem?_cons_succ, List.set_cons_zero, List.set_cons_succ, List.cons_append, List.nil_append, bne_self_eq_false, beq_self_eq_true, Bool.not_true, Bool.not_false, Option.isNone_some, Option.isNone_none, eq_self, true_and, and_true, and_self, s1.rd0]
  have kl : Keeps (h : Base) [(b1, [.int .i64 (n : Int), .slice q k c])] q (eV L) := Keeps.old (h0 := (h : Base)) v
  refine callP4.self (RSplit_of (h0 := (h : Base)) hl (by omega) (edgP_fits hP) kl s1 (fun no h2 s2 => ?_) (fun ok h2 q2 c2 X2 o2 s2 => ?_))
  · have e2 : Ext h h2 := s2.ext
    try simp -zeta (disch := omega) only [chkP_some, iteB_true, iteB_false, add_mk, Nat.zero_add, Nat.add_zero, Nat.mul_one, Nat.reduceAdd, Int.toNat_natCast, ex_int, ex_slice, ex_ptr, ex_bool, ex_str, ex_flt, ex_any, bnd_in, List.getElem?_cons_zero, List.getElem?_cons_succ, List.set_cons_zero, List.set_cons_succ, List.cons_append, List.nil_append, bne_self_eq_false, beq_self_eq_true, Bool.not_true, Bool.not_false, Option.isNone_some, Option.isNone_none, eq_self, true_and, and_true, and_self, s2.rd0]
    refine callP1.self (RText_of (l := []) rfl (by omega) (fun i v hv => by simp [eV] at hv) (by simp) (inR_iff.2 ⟨by omega, by omega⟩) fun h3 e3 => ?_)
    have := hk h3 (e2.trans e3)
    unfold printB splT at this
    rw [if_neg no] at this
    exact this
  · have e2 : Ext h h2 := s2.ext
    have hs : splT L = splL L := if_pos ok
    have v2 := o2.vals s2
    have r0 : ∀ j, cell h2 ⟨b1, j, none⟩ = [Value.int .i64 (n : Int), .slice q k c][j]? := s2.rd (by simp)
    simp -zeta (disch := omega) only [chkP_some, iteB_true, iteB_false, add_mk, Nat.zero_add, Nat.add_zero, Nat.mul_one, Nat.reduceAdd, Int.toNat_natCast, ex_int, ex_slice, ex_ptr, ex_bool, ex_str, ex_flt, ex_any, bnd_in, List.getElem?_cons_zero, List.getElem?_cons_succ, List.set_cons_zero, List.set_cons_succ, List.cons_append, List.nil_append, bne_self_eq_false, beq_self_eq_true, Bool.not_true, Bool.not_false, Option.isNone_some, Option.isNone_none, eq_self, true_and, and_true, and_self, r0]
    refine callP1.self (RText_of (l := splL L) rfl (by have := splT_len L; rw [hs] at this; exact this) v2 (by have := splT_in hP; rw [hs] at this; exact this) (inR_iff.2 ⟨by omega, by omega⟩) fun h3 e3 => ?_)
    have := hk h3 (e2.trans e3)
    unfold printB at this
    rw [hs] at this
    exact this
end Go.Proofs.YtokemibmanjpmaaGreatDoor

namespace Go.Proofs.YtokemibmanjpmaaGreatDoor
set_option linter.unusedVariables false
set_option linter.unusedSimpArgs false
set_option linter.unnecessarySimpa false
open Go.Proofs Go.Shelf Go.RowKit Go.Hp
attribute [local irreducible] Go.Hp.iteB Go.Hp.stC
/-- An edge between two of n vertices. -/
def outIn (n : Int) (e : Ed) : Prop := 0 ≤ e.1 ∧ e.1 < n ∧ 0 ≤ e.2.1 ∧ e.2.1 < n
instance (n : Int) (e : Ed) : Decidable (outIn n e) := by unfold outIn; exact inferInstance
/-- The first edge that is none. -/
def badV (n : Int) : List Ed → Nat → Option Nat
  | [], _ => none
  | e :: r, i => if outIn n e then badV n r (i + 1) else some i
theorem badV_cons (n : Int) (e : Ed) (r : List Ed) (i : Nat) : badV n (e :: r) i = if outIn n e then badV n r (i + 1) else some i := rfl
def wgt (e : Ed) (b : Nat) : Ed := (e.1, e.2.1, (weightR b).1)
def outL (l : List Ed) (bs : List Nat) : List Ed := List.zipWith wgt l bs
theorem outL_len {l : List Ed} {bs : List Nat} (h : l.length = bs.length) : (outL l bs).length = l.length := by unfold outL; rw [List.length_zipWith, h, Nat.min_self]
theorem outL_get {l : List Ed} {bs : List Nat} {i : Nat} {e : Ed} {b : Nat} (h1 : l[i]? = some e) (h2 : bs[i]? = some b) : (outL l bs)[i]? = some (wgt e b) := by
  unfold outL; rw [List.getElem?_zipWith, h1, h2]
/-- What edges with floats come to. -/
def flT (n : Int) (l : List Ed) (bs : List Nat) : List UInt8 × Int × Int :=
  if l.length ≠ bs.length then ([], 1, 0) else
    match firstErr bs 0 with
    | some (i, e) => ([], e, (i : Int))
    | none => if n < 0 then ([], 1, 0) else if n > 4096 then ([], 3, 0) else
      match badV n l 0 with
      | some i => ([], 4, (i : Int))
      | none => (gtext n (outL l bs), 0, 0)
theorem weight_ok {b : Nat} (h : (weightR b).2 = 0) : 0 ≤ (weightR b).1 ∧ (weightR b).1 ≤ 2147483648 := by
  unfold weightR at h ⊢
  split at h
  · rename_i c; rw [if_pos c]; exact ⟨Int.le_refl _, by show (0 : Int) ≤ 2147483648; decide⟩
  · rename_i c
    rw [if_neg c]
    split at h
    · cases h
    · rename_i c2; rw [if_neg c2]; simp only; omega
theorem firstErr_none : ∀ {bs : List Nat} {i : Nat}, firstErr bs i = none → ∀ b ∈ bs, (weightR b).2 = 0
  | [], _, _, b, hb => by cases hb
  | x :: r, i, h, b, hb => by
    unfold firstErr at h
    split at h
    · cases h
    · rename_i c
      rcases List.mem_cons.1 hb with rfl | hb
      · simpa using c
      · exact firstErr_none h b hb
theorem badV_none {n : Int} : ∀ {l : List Ed} {i : Nat}, badV n l i = none → ∀ e ∈ l, outIn n e
  | [], _, _, e, he => by cases he
  | x :: r, i, h, e, he => by
    rw [badV_cons] at h
    split at h
    · rename_i c
      rcases List.mem_cons.1 he with rfl | he
      · exact c
      · exact badV_none h e he
    · cases h
theorem outL_in {n : Int} {l : List Ed} {bs : List Nat} (hl : l.length = bs.length) (hn : n ≤ 4096) (h1 : firstErr bs 0 = none) (h2 : badV n l 0 = none) : ∀ e ∈ outL l bs, inE e := by
  intro e he
  obtain ⟨i, hi, hg⟩ := List.mem_iff_getElem.1 he
  have hi' : i < l.length := by rw [outL_len hl] at hi; exact hi
  obtain ⟨x, hx⟩ := get_lt (l := l) (i := i) hi'
  obtain ⟨b, hb⟩ := get_lt (l := bs) (i := i) (by omega)
  have hg2 := outL_get hx hb
  rw [List.getElem?_eq_getElem hi, hg] at hg2
  obtain rfl := Option.some.inj hg2
  obtain ⟨o1, o2, o3, o4⟩ := badV_none h2 x (List.mem_of_getElem? hx)
  obtain ⟨w1, w2⟩ := weight_ok (firstErr_none h1 b (List.mem_of_getElem? hb))
  exact ⟨inR_iff.2 ⟨by show _ ≤ x.1; omega, by show x.1 ≤ _; omega⟩, inR_iff.2 ⟨by show _ ≤ x.2.1; omega, by show x.2.1 ≤ _; omega⟩, inR_iff.2 ⟨by show _ ≤ (weightR b).1; omega, by show (weightR b).1 ≤ _; omega⟩⟩
theorem zero3 : ∀ k, zeroRow [.int .i64 0, .int .i64 0, .int .i64 0] k = eV (List.replicate k (0, 0, 0))
  | 0 => rfl
  | k + 1 => by rw [zeroRow, zero3 k]; simp [eV, List.replicate_succ, Ed.vs]
section
variable {h0 : Base}
theorem fl_l0 {K0 : ByteArray → Int → Int → Heap → Prop} {K3 : Heap → Prop} {n : Int} {a k c cw : Nat} {q qw : Option Addr} {l : List Ed} {bs : List Nat} (hl : l.length = k) (hlb : bs.length = k) (hk : k ≤ 100)
    (v : valsAt h0.heap q (eV l)) (vw : valsAt h0.heap qw (bs.map fun b => Value.int .i64 (weightR b).1))
    (hk0 : ∀ (i : Nat) h', badV n l 0 = some i → Ext h0.heap h' → K0 (str []) 4 (i : Int) h') (hk3 : ∀ h', badV n l 0 = none → St h0 h' [(a, eV (outL l bs))] → K3 h') :
    ∀ (d i : Nat) (h : Heap), i + d = k → badV n l 0 = badV n (l.drop i) i → St h0 h [(a, eV ((outL l bs).take i ++ List.replicate d (0, 0, 0)))] →
      gprint_Floats.l0 K0 K3 (d + 1) n qw k cw ⟨a, 0, none⟩ k k q k c (k : Int) (i : Int) h := by
  intro d
  induction d with
  | zero =>
    intro i h hi hb s
    unfold gprint_Floats.l0 gprint_Floats.b0
    rw [List.drop_of_length_le (by omega)] at hb
    rw [List.take_of_length_le (by rw [outL_len (by omega)]; omega), List.replicate_zero, List.append_nil] at s
    exact iteB_neg (decide_eq_false (by omega)) (hk3 h hb s)
  | succ d ih =>
    intro i h hi hb s
    unfold gprint_Floats.l0 gprint_Floats.b0
    obtain ⟨⟨x, y, w⟩, hx⟩ := get_lt (l := l) (i := i) (by omega)
    obtain ⟨b, hbx⟩ := get_lt (l := bs) (i := i) (by omega)
    have hdrop : l.drop i = (x, y, w) :: l.drop (i + 1) := drop_cons hx
    rw [hdrop, badV_cons] at hb
    have vl := v.ext s.ext
    have vwl := vw.ext s.ext
    refine iteB_pos (decide_eq_true (by omega)) ?_
    simp -zeta (disch := omega) only [chkP_some, iteB_true, iteB_false, add_mk, Nat.zero_add, Nat.add_zero, Nat.mul_one, Nat.reduceAdd, Int.toNat_natCast, ex_int, ex_slice, ex_ptr, ex_bool, ex_str, ex_flt, ex_any, bnd_in, List.getElem?_cons_zero, List.getElem?_cons_succ, List.set_cons_zero, List.set_cons_succ, List.cons_append, List.nil_append, bne_self_eq_false, beq_self_eq_true, Bool.not_true, Bool.not_false, Option.isNone_some, Option.isNone_none, eq_self, true_and, and_true, and_self, vals_edge vl hx]
    refine s.new_ fun b1 h1 s1 => s1.st0 (by simp) fun h2 s2 => s2.st0 (by simp) fun h3 s3 => s3.st0 (by simp) fun h4 s4 => ?_
    intro j35
    have J : outIn n (x, y, w) → j35 := by
      intro hin
      rw [if_pos hin] at hb
      have hc : (bs.map fun b => Value.int .i64 (weightR b).1)[i]? = some (.int .i64 (weightR b).1) := by rw [List.getElem?_map, hbx]; rfl
      obtain ⟨p, hp, hcell⟩ := (vw.ext s4.ext) i _ hc
      simp -zeta only [j35]
      try simp -zeta (disch := omega) only [chkP_some, iteB_true, iteB_false, add_mk, Nat.zero_add, Nat.add_zero, Nat.mul_one, Nat.reduceAdd, Int.toNat_natCast, ex_int, ex_slice, ex_ptr, ex_bool, ex_str, ex_flt, ex_any, bnd_in, List.getElem?_cons_zero, List.getElem?_cons_succ, List.set_cons_zero, List.set_cons_succ, List.cons_append, List.nil_append, bne_self_eq_false, beq_self_eq_true, Bool.not_true, Bool.not_false, Option.isNone_some, Option.isNone_none, eq_self, true_and, and_true, and_self, s4.rd0, s4.rd1]
      rw [hp]
      simp -zeta (disch := omega) only [chkP_some, iteB_true, iteB_false, add_mk, Nat.zero_add, Nat.add_zero, Nat.mul_one, Nat.reduceAdd, Int.toNat_natCast, ex_int, ex_slice, ex_ptr, ex_bool, ex_str, ex_flt, ex_any, bnd_in, List.getElem?_cons_zero, List.getElem?_cons_succ, List.set_cons_zero, List.set_cons_succ, List.cons_append, List.nil_append, bne_self_eq_false, beq_self_eq_true, Bool.not_true, Bool.not_false, Option.isNone_some, Option.isNone_none, eq_self, true_and, and_true, and_self]
      refine ⟨_, hcell, ?_⟩
      have hlen : (outL l bs).length = k := by rw [outL_len (by omega)]; exact hl
      have htl : ((outL l bs).take i).length = i := by rw [List.length_take]; omega
      have hel : (eV ((outL l bs).take i ++ List.replicate (d + 1) (0, 0, 0))).length = k * 3 := by rw [eV_len, List.length_append, htl, List.length_replicate]; omega
      refine s4.st1 (by omega) fun h5 s5 => s5.st1 (by rw [List.length_set]; omega) fun h6 s6 => s6.st1 (by rw [List.length_set, List.length_set]; omega) fun h7 s7 => ?_
      rw [wrap64 (by omega) (by omega)]
      rw [← hp]
      refine ih (i + 1) h7 (by omega) hb ?_
      have e3 := eV_set3 (A := (outL l bs).take i) (B := List.replicate d (0, 0, 0)) (e := (0, 0, 0)) (e' := wgt (x, y, w) b) htl []
      simp only [List.append_nil] at e3
      rw [take_snoc (outL_get hx hbx), List.append_assoc, List.singleton_append, ← e3]
      exact s7.tail
    clear_value j35
    try simp -zeta (disch := omega) only [chkP_some, iteB_true, iteB_false, add_mk, Nat.zero_add, Nat.add_zero, Nat.mul_one, Nat.reduceAdd, Int.toNat_natCast, ex_int, ex_slice, ex_ptr, ex_bool, ex_str, ex_flt, ex_any, bnd_in, List.getElem?_cons_zero, List.getElem?_cons_succ, List.set_cons_zero, List.set_cons_succ, List.cons_append, List.nil_append, bne_self_eq_false, beq_self_eq_true, Bool.not_true, Bool.not_false, Option.isNone_some, Option.isNone_none, eq_self, true_and, and_true, and_self, s4.rd0, s4.rd1]
    have bad : ¬ outIn n (x, y, w) → K0 (str []) 4 (i : Int) h4 := fun hn => by
      rw [if_neg hn] at hb
      exact hk0 i h4 hb s4.ext
    refine iteB_intro (fun c1 => bad fun ho => ?_) fun c1 => iteB_intro (fun c2 => bad fun ho => ?_) fun c2 => iteB_intro (fun c3 => bad fun ho => ?_) fun c3 => iteB_intro (fun c4 => bad fun ho => ?_) fun c4 => J ?_
    · have := of_decide_eq_true c1; unfold outIn at ho; simp only at ho; omega
    · have := of_decide_eq_true c2; unfold outIn at ho; simp only at ho; omega
    · have := of_decide_eq_true c3; unfold outIn at ho; simp only at ho; omega
    · have := of_decide_eq_true c4; unfold outIn at ho; simp only at ho; omega
    · have c1 := of_decide_eq_false c1
      have c2 := of_decide_eq_false c2
      have c3 := of_decide_eq_false c3
      have c4 := of_decide_eq_false c4
      unfold outIn; simp only; omega
end
theorem Floats_of {h : Heap} {n : Int} {k c cb : Nat} {q qb : Option Addr} {l : List Ed} {bs : List Nat} {K : ByteArray → Int → Int → Heap → Prop} (hl : l.length = k) (hk : k ≤ 100) (hlb : bs.length ≤ 100) (hbs : ∀ b ∈ bs, b < 18446744073709551616)
    (v : valsAt h q (eV l)) (vb : valsAt h qb (bs.map (Value.float .f64))) (f : TabP h) (hn : inR n = true) (hK : ∀ h', Ext h h' → K (str (flT n l bs).1) (flT n l bs).2.1 (flT n l bs).2.2 h') : gprint_Floats n q k c qb bs.length cb h K := by
  unfold gprint_Floats
  have e0 : (⟨#[]⟩ : ByteArray) = str [] := rfl
  rw [e0]
  refine iteB_intro (fun c1 => ?_) fun c1 => ?_
  · have hne : l.length ≠ bs.length := by intro e; rw [bne_iff_ne] at c1; omega
    have := hK h (Ext.refl h)
    unfold flT at this
    rw [if_pos hne] at this
    exact this
  have heq : ¬ l.length ≠ bs.length := by intro e; rw [bne_eq_false_iff_eq] at c1; omega
  unfold flT at hK
  rw [if_neg heq] at hK
  have hlb2 : bs.length = k := by omega
  refine callP5.self (fint_Weights_of hlb hbs vb (fun i e h' he x => ?_) (fun a h' he x r => ?_))
  · intro j19
    clear_value j19
    rw [he] at hK
    have hne : e ≠ 0 := by
      have : ∀ (bs : List Nat) (i0 : Nat), firstErr bs i0 = some (i, e) → e ≠ 0 := by
        intro bs
        induction bs with
        | nil => intro i0 h; cases h
        | cons b r ih =>
          intro i0 h
          unfold firstErr at h
          split at h
          · rename_i c; cases h; exact c
          · exact ih _ h
      exact this bs 0 he
    exact iteB_pos (by simpa using hne) (hK h' x)
  · rw [he] at hK
    have vw : valsAt h' (some ⟨a, 0, none⟩) (bs.map fun b => Value.int .i64 (weightR b).1) := valsAt.row r (fun i v hv => by simpa using hv)
    intro j19
    have J : 0 ≤ n → n ≤ 4096 → j19 := by
      intro n0 n1
      simp only at hK
      rw [if_neg (by omega), if_neg (by omega)] at hK
      simp -zeta only [j19]
      refine ⟨⟨by omega, by omega, by omega, by omega⟩, ?_⟩
      rw [Int.toNat_natCast, zero3]
      refine (St.refl h').new_ fun a9 h10 s10 => ?_
      rw [hlb2]
      refine ⟨k + 1, fl_l0 (h0 := (h' : Base)) (bs := bs) hl hlb2 hk (v.ext x) vw (fun i h2 hb e2 => ?_) (fun h2 hb s2 => ?_) k 0 h10 (by omega) (by rw [List.drop_zero]) (by simpa using s10)⟩
      · rw [hb] at hK
        exact hK h2 (x.trans e2)
      · rw [hb] at hK
        have v2 : valsAt h2 (some ⟨a9, 0, none⟩) (eV (outL l bs)) := valsAt.row (s2.rows _ (List.mem_cons_self ..)) (fun i v hv => by simpa using hv)
        have e2 : Ext h' h2 := s2.ext
        refine callP1.self (Text_of (l := outL l bs) (by rw [outL_len (by omega)]; exact hl) (by omega) v2 (f.ext (x.trans e2)) (outL_in (by omega) n1 he hb) hn fun h3 e3 => ?_)
        exact hK h3 (x.trans (e2.trans e3))
    clear_value j19
    simp only at hK
    refine iteB_neg rfl (iteB_intro (fun c2 => ?_) fun c2 => ?_)
    · rw [if_pos (of_decide_eq_true c2)] at hK
      exact hK h' x
    · have c2 := of_decide_eq_false c2
      refine iteB_intro (fun c3 => iteB_pos c3 ?_) fun c3 => ?_
      · rw [if_neg c2, if_pos (of_decide_eq_true c3)] at hK
        exact hK h' x
      · exact iteB_neg (decide_eq_false (by omega)) (J (by omega) (by have := of_decide_eq_false c3; omega))
end Go.Proofs.YtokemibmanjpmaaGreatDoor

namespace Go.Proofs.YtokemibmanjpmaaGreatDoor
set_option linter.unusedVariables false
set_option linter.unusedSimpArgs false
set_option linter.unnecessarySimpa false
open Go.Proofs Go.Shelf Go.RowKit Go.Hp
attribute [local irreducible] Go.Hp.iteB Go.Hp.stC
/-- A text and two numbers, set down and read. -/
theorem resS {g0 h : Heap} {b : Nat} {v0 v1 v2 : Value} {x : ByteArray} {y z : Int} {K : ByteArray → Int → Int → Heap → Prop} (r : row h b [v0, v1, v2]) (e : Ext g0 h) (hb : g0.size ≤ b) (hk : ∀ h', Ext g0 h' → K x y z h') :
    stC h ⟨b, 0, none⟩ (.string x) fun h25 => stC h25 ((⟨b, 0, none⟩ : Addr).add 1) (.int .i64 y) fun h26 => stC h26 ((⟨b, 0, none⟩ : Addr).add 2) (.int .i64 z) fun h27 =>
      (∃ (x28 : ByteArray), cell h27 ⟨b, 0, none⟩ = some (.string x28) ∧ ∃ (x29 : Int), cell h27 ((⟨b, 0, none⟩ : Addr).add 1) = some (.int .i64 x29) ∧ ∃ (x30 : Int), cell h27 ((⟨b, 0, none⟩ : Addr).add 2) = some (.int .i64 x30) ∧ K x28 x29 x30 h27) := by
  simp only [add_mk, Nat.zero_add]
  refine stC_row r (by simp) ?_
  have r1 := r.set 0 (.string x)
  refine stC_row r1 (by simp) ?_
  have r2 := r1.set 1 (.int .i64 y)
  refine stC_row r2 (by simp) ?_
  have r3 := r2.set 2 (.int .i64 z)
  exact ⟨x, by rw [r3.cell]; rfl, y, by rw [r3.cell]; rfl, z, by rw [r3.cell]; rfl, hk _ (((e.setC hb _).setC hb _).setC hb _)⟩
theorem chk_in {n x y : Int} {b : Nat} (hw : (weightR b).2 = 0) : chkE n (x, y, (weightR b).1) = if outIn n (x, y, (0 : Int)) then 0 else 4 := by
  obtain ⟨w1, w2⟩ := weight_ok hw
  by_cases c : outIn n (x, y, (0 : Int))
  · rw [if_pos c]
    unfold outIn at c; simp only at c
    exact chkE_0 (by simp only; omega) (by simp only; omega)
  · rw [if_neg c]
    unfold outIn at c; simp only at c
    exact chkE_4 (by simp only; omega)
section
variable {h0 : Base}
theorem rfl_l0 {K0 : Heap → Prop} {K2 : Option Addr → Nat → Nat → Heap → Prop} {n : Int} {b4 b7 k c cw : Nat} {q qw : Option Addr} {l : List Ed} {bs : List Nat} (hl : l.length = k) (hlb : bs.length = k) (hk : k ≤ 100) (hfe : firstErr bs 0 = none)
    (v : valsAt h0.heap q (eV l)) (vw : valsAt h0.heap qw (bs.map fun b => Value.int .i64 (weightR b).1))
    (hk0 : ∀ (i : Nat) h', badV n l 0 = some i → Ext h0.heap h' → stC h' ⟨b4, 0, none⟩ (.string (str [])) fun h1 => stC h1 ((⟨b4, 0, none⟩ : Addr).add 1) (.int .i64 4) fun h2 => stC h2 ((⟨b4, 0, none⟩ : Addr).add 2) (.int .i64 (i : Int)) fun h3 => K0 h3)
    (hk2 : ∀ q' c' X h', badV n l 0 = none → Own3 q' c' (outL l bs) X → St h0 h' (X ++ [(b7, [.slice qw k cw, .int .i64 0, .int .i64 0])]) → K2 q' k c' h') :
    ∀ (d i : Nat) (h : Heap) (q' : Option Addr) (c' : Nat) (X : Rws), i + d = k → badV n l 0 = badV n (l.drop i) i → Own3 q' c' ((outL l bs).take i) X → St h0 h (X ++ [(b7, [.slice qw k cw, .int .i64 0, .int .i64 0])]) →
      straitref18_Floats.l0 K0 K2 (d + 1) n q k c ⟨b4, 0, none⟩ ⟨b7, 0, none⟩ q' i c' (i : Int) h := by
  intro d
  have hlen : (outL l bs).length = k := by rw [outL_len (by omega)]; exact hl
  have e0 : (⟨#[]⟩ : ByteArray) = str [] := rfl
  induction d with
  | zero =>
    intro i h q' c' X hi hb o s
    unfold straitref18_Floats.l0 straitref18_Floats.b0
    rw [List.drop_of_length_le (by omega)] at hb
    rw [List.take_of_length_le (by omega)] at o
    obtain rfl : i = k := by omega
    exact iteB_neg (decide_eq_false (by omega)) (hk2 q' c' X h hb o s)
  | succ d ih =>
    intro i h q' c' X hi hb o s
    unfold straitref18_Floats.l0 straitref18_Floats.b0
    obtain ⟨⟨x, y, w⟩, hx⟩ := get_lt (l := l) (i := i) (by omega)
    obtain ⟨b, hbx⟩ := get_lt (l := bs) (i := i) (by omega)
    have hdrop : l.drop i = (x, y, w) :: l.drop (i + 1) := drop_cons hx
    rw [hdrop, badV_cons] at hb
    have hwb := firstErr_none hfe b (List.mem_of_getElem? hbx)
    have hc : (bs.map fun b => Value.int .i64 (weightR b).1)[i]? = some (.int .i64 (weightR b).1) := by rw [List.getElem?_map, hbx]; rfl
    have vl := v.ext s.ext
    obtain ⟨a, ha, c0⟩ := vl _ _ (eV_get0 hx)
    obtain ⟨a1, ha1, c1⟩ := vl _ _ (eV_get1 hx)
    rw [ha] at ha1
    obtain rfl := Option.some.inj ha1
    obtain ⟨p, hp, cp⟩ := (vw.ext s.ext) i _ hc
    have r7 : ∀ j, cell h ⟨b7, j, none⟩ = [Value.slice qw k cw, .int .i64 0, .int .i64 0][j]? := s.rd (by simp)
    refine iteB_pos (decide_eq_true (by omega)) ?_
    rw [ha]
    simp -zeta (disch := omega) only [chkP_some, iteB_true, iteB_false, add_mk, Nat.zero_add, Nat.add_zero, Nat.mul_one, Nat.reduceAdd, Int.toNat_natCast, ex_int, ex_slice, ex_ptr, ex_bool, ex_str, ex_flt, ex_any, bnd_in, List.getElem?_cons_zero, List.getElem?_cons_succ, List.set_cons_zero, List.set_cons_succ, List.cons_append, List.nil_append, bne_self_eq_false, beq_self_eq_true, Bool.not_true, Bool.not_false, Option.isNone_some, Option.isNone_none, eq_self, true_and, and_true, and_self, addr_add]
    rw [← ha]
    refine ⟨x, c0, y, c1, qw, k, cw, by rw [r7]; rfl, ?_⟩
    rw [hp]
    simp -zeta (disch := omega) only [chkP_some, iteB_true, iteB_false, add_mk, Nat.zero_add, Nat.add_zero, Nat.mul_one, Nat.reduceAdd, Int.toNat_natCast, ex_int, ex_slice, ex_ptr, ex_bool, ex_str, ex_flt, ex_any, bnd_in, List.getElem?_cons_zero, List.getElem?_cons_succ, List.set_cons_zero, List.set_cons_succ, List.cons_append, List.nil_append, bne_self_eq_false, beq_self_eq_true, Bool.not_true, Bool.not_false, Option.isNone_some, Option.isNone_none, eq_self, true_and, and_true, and_self, addr_add]
    refine ⟨_, cp, s.new_ fun b1 h1 s1 => ?_⟩
    have vl1 := v.ext s1.ext
    obtain ⟨a', ha', c0'⟩ := vl1 _ _ (eV_get0 hx)
    obtain ⟨a1', ha1', c1'⟩ := vl1 _ _ (eV_get1 hx)
    rw [ha] at ha' ha1'
    obtain rfl := Option.some.inj ha'
    obtain rfl := Option.some.inj ha1'
    obtain ⟨p', hp', cp'⟩ := (vw.ext s1.ext) i _ hc
    rw [hp] at hp'
    obtain rfl := Option.some.inj hp'
    have r71 : ∀ j, cell h1 ⟨b7, j, none⟩ = [Value.slice qw k cw, .int .i64 0, .int .i64 0][j]? := s1.rd (by simp)
    refine ⟨⟨_, cp', rfl⟩, ⟨qw, k, cw, by rw [r71]; rfl, by rw [hp]⟩, ⟨_, c1', rfl⟩, ⟨_, c0', rfl⟩, ?_⟩
    refine s1.st0 (by simp) fun h2 s2 => s2.st0 (by simp) fun h3 s3 => s3.st0 (by simp) fun h4 s4 => ?_
    try simp -zeta (disch := omega) only [chkP_some, iteB_true, iteB_false, add_mk, Nat.zero_add, Nat.add_zero, Nat.mul_one, Nat.reduceAdd, Int.toNat_natCast, ex_int, ex_slice, ex_ptr, ex_bool, ex_str, ex_flt, ex_any, bnd_in, List.getElem?_cons_zero, List.getElem?_cons_succ, List.set_cons_zero, List.set_cons_succ, List.cons_append, List.nil_append, bne_self_eq_false, beq_self_eq_true, Bool.not_true, Bool.not_false, Option.isNone_some, Option.isNone_none, eq_self, true_and, and_true, and_self, s4.rd0]
    refine callP1.self (RCheck_of (e := (x, y, (weightR b).1)) s4 fun h5 s5 => ?_)
    rw [chk_in hwb]
    by_cases hin : outIn n (x, y, w)
    · rw [if_pos (show outIn n (x, y, (0 : Int)) from hin)]
      rw [if_pos hin] at hb
      refine iteB_neg rfl ?_
      try simp -zeta (disch := omega) only [chkP_some, iteB_true, iteB_false, add_mk, Nat.zero_add, Nat.add_zero, Nat.mul_one, Nat.reduceAdd, Int.toNat_natCast, ex_int, ex_slice, ex_ptr, ex_bool, ex_str, ex_flt, ex_any, bnd_in, List.getElem?_cons_zero, List.getElem?_cons_succ, List.set_cons_zero, List.set_cons_succ, List.cons_append, List.nil_append, bne_self_eq_false, beq_self_eq_true, Bool.not_true, Bool.not_false, Option.isNone_some, Option.isNone_none, eq_self, true_and, and_true, and_self, s5.rd0]
      refine Own3.push1 (R := (b1, [.int .i64 x, .int .i64 y, .int .i64 (weightR b).1]) :: [(b7, [.slice qw k cw, .int .i64 0, .int .i64 0])]) o (s5.perm List.perm_middle.symm) (by rw [List.length_take]; omega) (by omega) fun q2 c2 X2 h6 o2 s6 => ?_
      rw [wrap64 (by omega) (by omega)]
      refine ih (i + 1) h6 q2 c2 X2 (by omega) hb ?_ (s6.perm List.perm_middle).tail
      rw [take_snoc (outL_get hx hbx)]
      exact o2
    · rw [if_neg (show ¬ outIn n (x, y, (0 : Int)) from hin)]
      rw [if_neg hin] at hb
      exact iteB_pos rfl (hk0 i h5 hb s5.ext)
end
theorem RFloats_of {h : Heap} {n : Int} {k c cb : Nat} {q qb : Option Addr} {l : List Ed} {bs : List Nat} {K : ByteArray → Int → Int → Heap → Prop} (hl : l.length = k) (hk : k ≤ 100) (hlb : bs.length ≤ 100) (hbs : ∀ b ∈ bs, b < 18446744073709551616)
    (v : valsAt h q (eV l)) (vb : valsAt h qb (bs.map fun (b : Nat) => Value.int .u64 (b : Int))) (hn : inR n = true) (hK : ∀ h', Ext h h' → K (str (flT n l bs).1) (flT n l bs).2.1 (flT n l bs).2.2 h') : straitref18_Floats n q k c qb bs.length cb h K := by
  unfold straitref18_Floats
  have e0 : (⟨#[]⟩ : ByteArray) = str [] := rfl
  rw [e0]
  refine newP_intro (cs := [.string (str []), .int .i64 0, .int .i64 0]) fun b4 h5 hb4 hs5 x5 r5 => ?_
  have hb : h.size ≤ b4 := by omega
  refine iteB_intro (fun c1 => ?_) fun c1 => ?_
  · have hne : l.length ≠ bs.length := by intro e; rw [bne_iff_ne] at c1; omega
    unfold flT at hK
    rw [if_pos hne] at hK
    exact resS r5 x5 hb hK
  have heq : ¬ l.length ≠ bs.length := by intro e; rw [bne_eq_false_iff_eq] at c1; omega
  unfold flT at hK
  rw [if_neg heq] at hK
  have hlb2 : bs.length = k := by omega
  refine callP5.self (straitref04_Weights_of hlb hbs (vb.ext x5) (fun i e h' he x => ?_) (fun q' c' h' he x vw => ?_))
  · rw [he] at hK
    have hne : e ≠ 0 := by
      have : ∀ (bs : List Nat) (i0 : Nat), firstErr bs i0 = some (i, e) → e ≠ 0 := by
        intro bs
        induction bs with
        | nil => intro i0 h; cases h
        | cons b r ih =>
          intro i0 h
          unfold firstErr at h
          split at h
          · rename_i c; cases h; exact c
          · exact ih _ h
      exact this bs 0 he
    refine (St.refl h').new_ (cs := [.slice none 0 0, .int .i64 0, .int .i64 0]) fun b7 h1 s1 => s1.st0 (by simp) fun h2 s2 => s2.st0 (by simp) fun h3 s3 => s3.st0 (by simp) fun h4 s4 => ?_
    have e4 : Ext h' h4 := s4.ext
    try simp -zeta (disch := omega) only [chkP_some, iteB_true, iteB_false, add_mk, Nat.zero_add, Nat.add_zero, Nat.mul_one, Nat.reduceAdd, Int.toNat_natCast, ex_int, ex_slice, ex_ptr, ex_bool, ex_str, ex_flt, ex_any, bnd_in, List.getElem?_cons_zero, List.getElem?_cons_succ, List.set_cons_zero, List.set_cons_succ, List.cons_append, List.nil_append, bne_self_eq_false, beq_self_eq_true, Bool.not_true, Bool.not_false, Option.isNone_some, Option.isNone_none, eq_self, true_and, and_true, and_self, s4.rd0]
    exact iteB_pos (by simpa using hne) (resS (r5.ext (x.trans e4)) (x5.trans (x.trans e4)) hb hK)
  · rw [he] at hK
    refine (St.refl h').new_ (cs := [.slice none 0 0, .int .i64 0, .int .i64 0]) fun b7 h1 s1 => s1.st0 (by simp) fun h2 s2 => s2.st0 (by simp) fun h3 s3 => s3.st0 (by simp) fun h4 s4 => ?_
    have e4 : Ext h' h4 := s4.ext
    have x4 : Ext h5 h4 := x.trans e4
    try simp -zeta (disch := omega) only [chkP_some, iteB_true, iteB_false, add_mk, Nat.zero_add, Nat.add_zero, Nat.mul_one, Nat.reduceAdd, Int.toNat_natCast, ex_int, ex_slice, ex_ptr, ex_bool, ex_str, ex_flt, ex_any, bnd_in, List.getElem?_cons_zero, List.getElem?_cons_succ, List.set_cons_zero, List.set_cons_succ, List.cons_append, List.nil_append, bne_self_eq_false, beq_self_eq_true, Bool.not_true, Bool.not_false, Option.isNone_some, Option.isNone_none, eq_self, true_and, and_true, and_self, s4.rd0]
    simp only at hK
    refine (iteB_intro (fun c2 => ?_) fun c2 => ?_)
    · rw [if_pos (of_decide_eq_true c2)] at hK
      exact resS (r5.ext x4) (x5.trans x4) hb hK
    · have c2 := of_decide_eq_false c2
      rw [if_neg c2] at hK
      intro j43
      have J1 : 4096 < n → j43 true := by
        intro c3
        rw [if_pos c3] at hK
        simp -zeta only [j43]
        exact iteB_pos rfl (resS (r5.ext x4) (x5.trans x4) hb hK)
      have J2 : n ≤ 4096 → j43 false := by
        intro n1
        rw [if_neg (by omega)] at hK
        simp -zeta only [j43]
        refine iteB_neg rfl ?_
        rw [hlb2] at s4
        refine ⟨k + 1, rfl_l0 (h0 := (h' : Base)) (bs := bs) hl hlb2 hk he (v.ext (x5.trans x)) vw (fun i h2 hbv e2 => ?_) (fun q2 c2 X h2 hbv o2 s2 => ?_) k 0 h4 none 0 [] (by omega) (by rw [List.drop_zero]) Own3.nil (by simpa using s4)⟩
        · rw [hbv] at hK
          exact resS (r5.ext (x.trans e2)) (x5.trans (x.trans e2)) hb hK
        · rw [hbv] at hK
          have e2 : Ext h' h2 := s2.ext
          refine callP1.self (RText_of (l := outL l bs) (by rw [outL_len (by omega)]; exact hl) (by omega) (o2.vals s2) (outL_in (by omega) n1 he hbv) hn fun h3 e3 => ?_)
          have xx := x.trans (e2.trans e3)
          exact resS (r5.ext xx) (x5.trans xx) hb hK
      clear_value j43
      refine iteB_intro (fun c3 => J1 (of_decide_eq_true c3)) fun c3 => ?_
      rw [decide_eq_false (show ¬ (k : Int) > 1048576 by omega)]
      exact J2 (by have := of_decide_eq_false c3; omega)
end Go.Proofs.YtokemibmanjpmaaGreatDoor

namespace Go.Proofs.YtokemibmanjpmaaGreatDoor
set_option linter.unusedVariables false
set_option linter.unusedSimpArgs false
set_option linter.unnecessarySimpa false
open Go.Proofs Go.Shelf Go.RowKit Go.Hp
attribute [local irreducible] Go.Hp.iteB Go.Hp.stC
theorem itoa_dig (d : Nat) (h : d < 10) : Lib.itoa (d : Int) = [UInt8.ofNat (48 + d)] := by rw [Lib.itoa_nonneg, Lib.decDigits, dif_pos h]
theorem it0 : Lib.itoa 0 = [48] := itoa_dig 0 (by decide)
theorem it1 : Lib.itoa 1 = [49] := itoa_dig 1 (by decide)
theorem it2 : Lib.itoa 2 = [50] := itoa_dig 2 (by decide)
theorem it3 : Lib.itoa 3 = [51] := itoa_dig 3 (by decide)
theorem it5 : Lib.itoa 5 = [53] := itoa_dig 5 (by decide)
theorem int_3 : intR 4613937818241073152 = (3, 0) := by
  have h1 : magR 4613937818241073152 = 3 * 2 ^ 51 := by decide
  have hx : ex 4613937818241073152 = 1024 := by decide
  have hw : wholeR 4613937818241073152 := by unfold wholeR; rw [h1, (tz_mul (o := 3) (k := 51) (by decide)).1, hx]; decide
  have hb : ¬ badR 4613937818241073152 := by decide
  unfold intR; rw [if_neg (by decide), if_neg (by decide), if_neg (by decide), if_neg (by decide), if_neg (by simpa using hw), if_neg hb]; decide
theorem wgt_3 : weightR 4613937818241073152 = (3, 0) := by unfold weightR; rw [int_3]; rfl
theorem awakeP : printB 2 [(0, 1, 5)] = [103, 114, 97, 112, 104, 32, 50, 32, 49, 10, 48, 32, 49, 32, 53, 10] := by
  have ok : splOk [(0, 1, 5)] := ⟨by decide, by decide⟩
  have e1 : splT [(0, 1, 5)] = [(0, 1, 5)] := by unfold splT; rw [if_pos ok]; rfl
  unfold printB gtext headB edgesB edB
  rw [e1]
  simp [joinB, tailJ, it0, it1, it2, it5]
theorem awakeF : flT 2 [(1, 0, 0)] [4613937818241073152] = ([103, 114, 97, 112, 104, 32, 50, 32, 49, 10, 49, 32, 48, 32, 51, 10], 0, 0) := by
  have f1 : firstErr [4613937818241073152] 0 = none := by unfold firstErr; rw [wgt_3]; rfl
  have b1 : badV 2 [(1, 0, 0)] 0 = none := by decide
  have o1 : outL [(1, 0, 0)] [4613937818241073152] = [(1, 0, 3)] := by show [wgt (1, 0, 0) 4613937818241073152] = _; unfold wgt; rw [wgt_3]
  unfold flT
  rw [if_neg (by simp), f1]
  simp only
  rw [if_neg (by decide), if_neg (by decide), b1, o1]
  unfold gtext headB edgesB edB
  simp [joinB, tailJ, it0, it1, it2, it3]
theorem awake_of {h : Heap} {K : Bool → Heap → Prop} (f : TabP h) (hk : ∀ h', Ext h h' → K true h') : straitlaw18_awake h K := by
  unfold straitlaw18_awake
  refine (St.refl h).new_ (cs := [.int .i64 0, .int .i64 1, .int .i64 5]) fun b1 h1 s1 => ?_
  have kl : Keeps (h : Base) [(b1, [Value.int .i64 0, .int .i64 1, .int .i64 5])] (some ⟨b1, 0, none⟩) (eV [(0, 1, 5)]) := Keeps.row (List.mem_cons_self ..)
  refine callP3.self (New_of (h0 := (h : Base)) (l := [(0, 1, 5)]) rfl (by decide) kl s1 (fun bad => absurd (show (newE 2 [(0, 1, 5)]).1 = 0 by decide) bad) (fun ok n g X h2 hn nk s2 => ?_))
  obtain rfl : n = 2 := by omega
  have nh : NetG h2 g 2 (netL [(0, 1, 5)]) (nearL 2 (netL [(0, 1, 5)])) := nk.atG s2 (fun x hx => by simp [hx])
  have hL : netL [(0, 1, 5)] = [(0, 1, 5)] := by decide
  rw [hL] at nh
  have x2 : Ext h h2 := s2.ext
  refine (St.refl h2).new_ (cs := [.int .i64 1, .int .i64 0, .int .i64 0]) fun b3 h3 s3 => s3.new_ (cs := [.float .f64 4613937818241073152]) fun b4 h4 s4 => ?_
  have x4 : Ext h2 h4 := s4.ext
  have v1 : valsAt h4 (some ⟨b3, 0, none⟩) (eV [(1, 0, 0)]) := valsAt.row (s4.rows (b3, [.int .i64 1, .int .i64 0, .int .i64 0]) (by simp)) (fun i v hv => by simpa [eV, Ed.vs] using hv)
  have v2 : valsAt h4 (some ⟨b4, 0, none⟩) ([4613937818241073152].map (Value.float .f64)) := valsAt.row (s4.rows (b4, [.float .f64 4613937818241073152]) (by simp)) (fun i v hv => by simpa using hv)
  refine callP3.self (Floats_of (l := [(1, 0, 0)]) (bs := [4613937818241073152]) rfl (by omega) (by simp) (by simp) v1 v2 (f.ext (x2.trans x4)) (by decide) fun h5 x5 => ?_)
  rw [awakeF]
  refine iteB_pos rfl (callP1.self (Print_of' (nh.ext (x4.trans x5)) (f.ext (x2.trans (x4.trans x5))) fun h6 x6 => ?_))
  have e1 : str (printB ((2 : Nat) : Int) [(0, 1, 5)]) = (⟨#[103, 114, 97, 112, 104, 32, 50, 32, 49, 10, 48, 32, 49, 32, 53, 10]⟩ : ByteArray) := congrArg str awakeP
  rw [e1]
  refine iteB_pos (beq_self_eq_true _) (iteB_pos rfl ?_)
  have e2 : ((str ([103, 114, 97, 112, 104, 32, 50, 32, 49, 10, 49, 32, 48, 32, 51, 10] : List UInt8)).toList == (⟨#[103, 114, 97, 112, 104, 32, 50, 32, 49, 10, 49, 32, 48, 32, 51, 10]⟩ : ByteArray).toList) = true := beq_self_eq_true _
  simp only
  rw [e2]
  exact hk h6 (x2.trans (x4.trans (x5.trans x6)))
section
variable {h0 : Base}
theorem floats_l0 {K2 : Option Addr → Nat → Nat → Heap → Prop} {n : Int} {k c cb m : Nat} {q qb : Option Addr} {bs : List Nat} (hlb : bs.length = m) (hm : m ≤ 100)
    (vb : valsAt h0.heap qb (bs.map fun (b : Nat) => Value.int .u64 (b : Int)))
    (hk : ∀ q' c' X h', Hp.Own q' c' (bs.map (Value.float .f64)) X → St h0 h' (X ++ []) → K2 q' m c' h') :
    ∀ (d i : Nat) (h : Heap) (q' : Option Addr) (c' : Nat) (X : Rws), i + d = m → Hp.Own q' c' ((bs.take i).map (Value.float .f64)) X → St h0 h (X ++ []) → straitlaw18_GprintFloats.l0 K2 (d + 1) n q k c qb m cb q' i c' (i : Int) h := by
  intro d
  induction d with
  | zero =>
    intro i h q' c' X hi o s
    unfold straitlaw18_GprintFloats.l0 straitlaw18_GprintFloats.b0
    rw [List.take_of_length_le (by omega)] at o
    obtain rfl : i = m := by omega
    exact iteB_neg (decide_eq_false (by omega)) (hk q' c' X h o s)
  | succ d ih =>
    intro i h q' c' X hi o s
    unfold straitlaw18_GprintFloats.l0 straitlaw18_GprintFloats.b0
    obtain ⟨b, hbx⟩ := get_lt (l := bs) (i := i) (by omega)
    obtain ⟨p, hp, cp⟩ := (vb.ext s.ext) i (.int .u64 (b : Int)) (by rw [List.getElem?_map, hbx]; rfl)
    refine iteB_pos (decide_eq_true (by omega)) ?_
    rw [hp]
    simp -zeta (disch := omega) only [chkP_some, iteB_true, iteB_false, add_mk, Nat.zero_add, Nat.add_zero, Nat.mul_one, Nat.reduceAdd, Int.toNat_natCast, ex_int, ex_slice, ex_ptr, ex_bool, ex_str, ex_flt, ex_any, bnd_in, List.getElem?_cons_zero, List.getElem?_cons_succ, List.set_cons_zero, List.set_cons_succ, List.cons_append, List.nil_append, bne_self_eq_false, beq_self_eq_true, Bool.not_true, Bool.not_false, Option.isNone_some, Option.isNone_none, eq_self, true_and, and_true, and_self]
    rw [← hp]
    have hl : i = ((bs.take i).map (Value.float .f64)).length := by rw [List.length_map, List.length_take]; omega
    refine ⟨_, cp, qcallP1.of b (fun R hR => fbit_Of_of hR) (Hp.Own.push1 o s hl rfl (by rw [← hl]; omega) fun q2 c2 X2 h2 o2 s2 => ?_)⟩
    rw [← hl, wrap64 (by omega) (by omega)]
    refine ih (i + 1) h2 q2 c2 X2 (by omega) ?_ s2
    rw [take_snoc hbx, List.map_append]; exact o2
end
/-- GprintFloats. -/
theorem floats_law {h : Heap} {n : Int} {k c m cb : Nat} {q qb : Option Addr} {l : List Ed} {bs : List Nat} {K : Bool → Heap → Prop} (hl : l.length = k) (hlb : bs.length = m) (hbs : ∀ b ∈ bs, b < 18446744073709551616)
    (v : valsAt h q (eV l)) (vb : valsAt h qb (bs.map fun (b : Nat) => Value.int .u64 (b : Int))) (f : TabP h) (hn : inR n = true) (hk : ∀ h', Ext h h' → K true h') : straitlaw18_GprintFloats n q k c qb m cb h K := by
  unfold straitlaw18_GprintFloats
  have aw : ∀ h', Ext h h' → callP1 (straitlaw18_awake h') fun x h'' => K x h'' := fun h' e => callP1.self (awake_of (f.ext e) fun h'' e' => hk h'' (e.trans e'))
  intro j26
  refine iteB_intro (fun _ => aw h (Ext.refl h)) fun c1 => iteB_intro (fun _ => aw h (Ext.refl h)) fun c2 => ?_
  have c1 := of_decide_eq_false c1
  have c2 := of_decide_eq_false c2
  simp -zeta only [j26]
  refine ⟨m + 1, floats_l0 (h0 := (h : Base)) hlb (by omega) vb (fun q' c' X h1 o s1 => ?_) m 0 h none 0 [] (by omega) Hp.Own.nil (St.refl h)⟩
  have x1 : Ext h h1 := s1.ext
  subst hlb
  refine callP3.self (Floats_of hl (by omega) (by omega) hbs (v.ext x1) (o.vals s1) (f.ext x1) hn fun h2 x2 => ?_)
  refine callP3.self (RFloats_of hl (by omega) (by omega) hbs (v.ext (x1.trans x2)) (vb.ext (x1.trans x2)) hn fun h3 x3 => ?_)
  refine iteB_pos (by rw [eqAll3]; simp) (aw h3 (x1.trans (x2.trans x3)))
end Go.Proofs.YtokemibmanjpmaaGreatDoor

namespace Go.Proofs.YtokemibmanjpmaaGreatDoor
set_option linter.unusedVariables false
set_option linter.unusedSimpArgs false
open Go.Proofs Go.Hp Go.RowKit Go.ChangeShapes Go.WideShapes Go.ChangeAt
def tabsL : List (String × DataW Unit) := [("math/bits.deBruijn32tab", Rows.laid_math_bits_deBruijn32tab), ("math/bits.deBruijn64tab", Rows.laid_math_bits_deBruijn64tab), ("internal/strconv.uint64pow10", Rows.laid_internal_strconv_uint64pow10)]
theorem pow_of_laid {W : World} (h : laidMet Tryz.prog tabsL W) : TabP W.heap := by
  have h2 : laidMet Tryz.prog [("internal/strconv.uint64pow10", Lib.tabData .u64 Lib.pow10Tab)] W := (laidMet.tail (laidMet.tail h))
  obtain ⟨g, hg⟩ := pow_named
  intro w hw
  have h3 : Lib.TabIs Tryz.prog W "internal/strconv.uint64pow10" .u64 Lib.pow10Tab := by
    obtain ⟨ps, ⟨g', t', cs, fuel, p, q, hg', ht', hvar, hd, _, _⟩, _⟩ := h2
    obtain rfl := Option.some.inj ((show Tryz.prog.globalNamed "internal/strconv.uint64pow10" = some 1 by kernel_rfl).symm.trans hg')
    obtain rfl := Option.some.inj ((show (Tryz.prog.globals[1]?).map (·.type) = some 252 by kernel_rfl).symm.trans ht')
    unfold Lib.TabIs
    rw [hvar, ← Lib.cells_of_tab Tryz.underlying252 Tryz.underlying55 (by kernel_rfl) (by kernel_rfl) hd]
  unfold Lib.TabIs at h3 ⊢
  rw [World.var?_heap hw]; exact h3
theorem tab_of {W : World} (h : laidMetH Tryz.prog tabsL W) : TabP W.heap := by
  rw [MakeChecks.laidMetH_plain _ _ _ (by kernel_rfl)] at h
  exact pow_of_laid h
theorem in_wf {x : Int} (h : (Lit.int .i64 x).wf = true) : inR x = true := inR_iff.2 (by simpa [Lit.wf, IntKind.min, IntKind.max, IntKind.bits, IntKind.signed] using h)
theorem nats_of {l : List Int} (h : ∀ x ∈ l, (Lit.int .u64 x).wf = true) : ∃ bs : List Nat, l = bs.map (fun b : Nat => (b : Int)) ∧ ∀ b ∈ bs, b < 18446744073709551616 := by
  refine ⟨l.map Int.toNat, ?_, fun b hb => ?_⟩
  · rw [List.map_map]
    conv => lhs; rw [← List.map_id l]
    refine List.map_congr_left fun x hx => ?_
    have := wf_u64 (h x hx)
    show x = ((x.toNat : Nat) : Int); omega
  · obtain ⟨x, hx, rfl⟩ := List.mem_map.1 hb
    have := wf_u64 (h x hx); omega
theorem wf_u8 {n : Int} (h : (Lit.int .u8 n).wf = true) : 0 ≤ n ∧ n ≤ 255 := by
  simp only [Lit.wf, IntKind.min, IntKind.max, IntKind.signed, IntKind.bits, Bool.and_eq_true, decide_eq_true_eq, Bool.false_eq_true, if_false] at h; omega
theorem eV_rows {h : Heap} {q : Option Addr} {l : List Ed} (hr : rowsAt h q 3 (l.map Ed.vs)) : valsAt h q (eV l) := fun t v hv => by
  have ht := lt_get hv
  rw [eV_len] at ht
  obtain ⟨e, he⟩ := get_lt (l := l) (i := t / 3) (by omega)
  have e1 := eV_get (o := t % 3) he (by omega)
  rw [show t / 3 * 3 + t % 3 = t by omega, hv] at e1
  obtain ⟨a, ha, hc⟩ := hr (t / 3) (Ed.vs e) (by simp [he])
  have := hc (t % 3) v e1.symm
  rw [show t / 3 * 3 + t % 3 = t by omega] at this
  exact ⟨a, ha, this⟩
end Go.Proofs.YtokemibmanjpmaaGreatDoor

namespace Go.Proofs.YtokemibmanjpmaaGreatDoor
set_option linter.unusedVariables false
set_option linter.unusedSimpArgs false
set_option linter.unnecessarySimpa false
open Go.Proofs Go.Shelf Go.RowKit Go.Hp
attribute [local irreducible] Go.Hp.iteB Go.Hp.stC
def isoB (n : Nat) (L : List Ed) (v : Nat) : List UInt8 := if nearW n L (v : Int) = [] then Lib.itoa (v : Int) ++ [59, 10] else []
def edD (e : Ed) : List UInt8 := Lib.itoa e.1 ++ [32, 45, 45, 32] ++ Lib.itoa e.2.1 ++ [32, 91] ++ Lib.itoa e.2.2 ++ [93, 59, 10]
def dotH : List UInt8 := [103, 114, 97, 112, 104, 32, 123, 10]
def dotP (n : Nat) (L : List Ed) (i : Nat) : List UInt8 := dotH ++ (List.range i).flatMap (isoB n L)
def dotE (n : Nat) (L : List Ed) (i : Nat) : List UInt8 := dotP n L n ++ (L.take i).flatMap edD
def dotB (n : Nat) (L : List Ed) : List UInt8 := dotE n L L.length ++ [125, 10]
theorem dotP_succ (n : Nat) (L : List Ed) (i : Nat) : dotP n L (i + 1) = dotP n L i ++ isoB n L i := by unfold dotP; rw [List.range_succ, List.flatMap_append]; simp
theorem dotE_succ {n : Nat} {L : List Ed} {i : Nat} {e : Ed} (h : L[i]? = some e) : dotE n L (i + 1) = dotE n L i ++ edD e := by unfold dotE; rw [take_snoc h, List.flatMap_append]; simp
theorem isoB_len (n : Nat) (L : List Ed) {v : Nat} (hv : v ≤ 4096) : (isoB n L v).length ≤ 22 := by
  unfold isoB
  split
  · have := itoa_len (n := (v : Int)) (by omega) (by omega)
    rw [List.length_append]; simp only [List.length_cons, List.length_nil]; omega
  · simp
theorem edD_len {e : Ed} (h : inE e) : (edD e).length ≤ 70 := by
  obtain ⟨a, b⟩ := inR_iff.1 h.1
  obtain ⟨c, d⟩ := inR_iff.1 h.2.1
  obtain ⟨f, g⟩ := inR_iff.1 h.2.2
  have h1 := itoa_len a b
  have h2 := itoa_len c d
  have h3 := itoa_len f g
  unfold edD; simp only [List.length_append, List.length_cons, List.length_nil]; omega
theorem dotP_len (n : Nat) (L : List Ed) : ∀ {i : Nat}, i ≤ 4096 → (dotP n L i).length ≤ 8 + 22 * i
  | 0, _ => by simp [dotP, dotH]
  | i + 1, h => by
    have h1 := dotP_len n L (i := i) (by omega)
    have h2 := isoB_len n L (v := i) (by omega)
    rw [dotP_succ, List.length_append]; omega
theorem dotE_len {n : Nat} {L : List Ed} (hn : n ≤ 4096) (hL : ∀ e ∈ L, inE e) : ∀ {i : Nat}, (dotE n L i).length ≤ 8 + 22 * n + 70 * i
  | 0 => by have := dotP_len n L hn; simp [dotE]; omega
  | i + 1 => by
    have h1 := dotE_len hn hL (i := i)
    cases hx : L[i]? with
    | none =>
      have hl : L.length ≤ i := List.getElem?_eq_none_iff.1 hx
      have : dotE n L (i + 1) = dotE n L i := by unfold dotE; rw [List.take_of_length_le (by omega), List.take_of_length_le hl]
      rw [this]; omega
    | some e =>
      have h2 := edD_len (hL e (List.mem_of_getElem? hx))
      rw [dotE_succ hx, List.length_append]; omega
theorem dotP_ne (n : Nat) (L : List Ed) (i : Nat) : dotP n L i ≠ [] := by unfold dotP dotH; simp
theorem dotE_ne (n : Nat) (L : List Ed) (i : Nat) : dotE n L i ≠ [] := by unfold dotE dotP dotH; simp
/-- A row of numbers stays while a builder writes. -/
theorem row_skip {b k : Nat} {l : List UInt8} {h h' : Heap} {x : Int} {cs : List Value} (r : row h k (.int .i64 x :: cs)) (s : Skip b l h h') (hb : k ≠ b) (hl : l ≠ []) : row h' k (.int .i64 x :: cs) := by
  obtain ⟨t, ht⟩ := r
  refine ⟨t, s k _ ht hb ?_⟩
  rintro ⟨cs', h1, h2⟩
  have h3 := h2 (by intro e; apply hl; exact List.length_eq_zero_iff.1 (by have := congrArg List.length e; rwa [Lib.byteCells_length, List.length_nil] at this))
  obtain ⟨c, r, rfl⟩ := List.exists_cons_of_ne_nil hl
  cases h1
  simp [Lib.byteCells] at h3
section
variable {g0 : Heap} {b g n : Nat} {L : List Ed} {N : List (List Nat)} {x3 : Option Addr}
theorem dot_l0 {K2 : Heap → Prop} (nh : NetG g0 g n L (nearL n L)) (f : TabP g0)
    (hk : ∀ h', Ext g0 h' → BH g0.size b (dotP n L n) h' → K2 h') :
    ∀ (d i : Nat) (h : Heap), i + d = n → Ext g0 h → BH g0.size b (dotP n L i) h → gprint_Dot.l0 K2 (d + 1) (some ⟨g, 0, none⟩) x3 ⟨b, 0, none⟩ (n : Int) (i : Int) h := by
  intro d
  have hn := nh.hn
  induction d with
  | zero =>
    intro i h hi e k
    unfold gprint_Dot.l0 gprint_Dot.b0
    obtain rfl : i = n := by omega
    exact iteB_neg (decide_eq_false (by omega)) (hk h e k)
  | succ d ih =>
    intro i h hi e k
    unfold gprint_Dot.l0 gprint_Dot.b0
    obtain ⟨l, h1, h2, h3, h4, h5⟩ := near_iff nh.gr (v := i) (by omega)
    have hlen := dotP_len n L (i := i) (by omega)
    refine iteB_pos (decide_eq_true (by omega)) (callP3.self (GNear_of (h0 := (h : Base)) (R := []) (nh.ext e) (St.refl h) (by omega) h1 h2 fun q c X hh o s => ?_))
    have x1 : Ext h hh := s.ext
    refine iteB_intro (fun c1 => ?_) (fun c1 => ?_)
    · have hl : l = [] := List.length_eq_zero_iff.1 (by have := eq_of_beq c1; omega)
      have hiso : isoB n L i = Lib.itoa (i : Int) ++ [59, 10] := if_pos (h5.1 hl)
      unfold gprint_Dot_c1
      have hi := itoa_len (n := (i : Int)) (by omega) (by omega)
      refine callP1.self (callP1.self (Print_of (f.ext (e.trans x1)) (inR_iff.2 ⟨by omega, by omega⟩) fun h6 e6 => ?_))
      refine line_of (l := dotP n L i) [Lib.itoa (i : Int), [59]] rfl rfl (by omega) (by simp only [List.flatten_cons, List.flatten_nil, List.append_nil, List.length_append, List.length_cons, List.length_nil]; omega) (e.trans (x1.trans e6)) (k.ext (x1.trans e6)) fun h7 e7 k7 _ => ?_
      rw [wrap64 (by omega) (by omega)]
      refine ih (i + 1) h7 (by omega) e7 ?_
      rw [dotP_succ, hiso]
      simpa using k7
    · have hl : l ≠ [] := fun hl => by rw [hl] at c1; cases c1
      have hiso : isoB n L i = [] := if_neg fun hh => hl (h5.2 hh)
      rw [wrap64 (by omega) (by omega)]
      refine ih (i + 1) hh (by omega) (e.trans x1) ?_
      rw [dotP_succ, hiso, List.append_nil]
      exact k.ext x1
theorem dot_l1 {K2 : Heap → Prop} {q : Option Addr} {k c : Nat} (hn : n ≤ 4096) (hL : L.length = k) (hk40 : k ≤ 1048576) (hin : ∀ e ∈ L, inE e) (f : TabP g0)
    (hk : ∀ h', Ext g0 h' → BH g0.size b (dotE n L k) h' → K2 h') :
    ∀ (d i : Nat) (h : Heap), i + d = k → Ext g0 h → BH g0.size b (dotE n L i) h → (L ≠ [] → ∃ bx z, q = some ⟨bx, 0, none⟩ ∧ bx ≠ b ∧ row h bx (eV L ++ z)) → gprint_Dot.l1 K2 (d + 1) x3 ⟨b, 0, none⟩ q k c (k : Int) (i : Int) h := by
  intro d
  induction d with
  | zero =>
    intro i h hi e kb _
    unfold gprint_Dot.l1 gprint_Dot.b1
    obtain rfl : i = k := by omega
    exact iteB_neg (decide_eq_false (by omega)) (hk h e kb)
  | succ d ih =>
    intro i h hi e kb hrow
    unfold gprint_Dot.l1 gprint_Dot.b1
    obtain ⟨⟨x, y, w⟩, hx⟩ := get_lt (l := L) (i := i) (by omega)
    have hE := hin _ (List.mem_of_getElem? hx)
    have hed := edD_len hE
    have hlen := dotE_len hn hin (i := i)
    obtain ⟨r1, r2, r3⟩ := hE
    obtain ⟨bx, z, hq, hbx, hr⟩ := hrow (by intro h; rw [h] at hx; cases hx)
    have vl : valsAt h q (eV L) := by
      rw [hq]; exact valsAt.row hr fun j v hj => by rw [Nat.zero_add, List.getElem?_append_left (List.getElem?_eq_some_iff.1 hj).1]; exact hj
    refine iteB_pos (decide_eq_true (by omega)) ?_
    simp -zeta (disch := omega) only [chkP_some, iteB_true, iteB_false, add_mk, Nat.zero_add, Nat.add_zero, Nat.mul_one, Nat.reduceAdd, Int.toNat_natCast, ex_int, ex_slice, ex_ptr, ex_bool, ex_str, ex_flt, ex_any, bnd_in, List.getElem?_cons_zero, List.getElem?_cons_succ, List.set_cons_zero, List.set_cons_succ, List.cons_append, List.nil_append, bne_self_eq_false, beq_self_eq_true, Bool.not_true, Bool.not_false, Option.isNone_some, Option.isNone_none, eq_self, true_and, and_true, and_self, vals_edge vl hx]
    refine (St.refl h).new_ fun b1 h1 s1 => s1.st0 (by simp) fun h2 s2 => s2.st0 (by simp) fun h3 s3 => s3.st0 (by simp) fun h4 s4 => ?_
    try simp -zeta (disch := omega) only [chkP_some, iteB_true, iteB_false, add_mk, Nat.zero_add, Nat.add_zero, Nat.mul_one, Nat.reduceAdd, Int.toNat_natCast, ex_int, ex_slice, ex_ptr, ex_bool, ex_str, ex_flt, ex_any, bnd_in, List.getElem?_cons_zero, List.getElem?_cons_succ, List.set_cons_zero, List.set_cons_succ, List.cons_append, List.nil_append, bne_self_eq_false, beq_self_eq_true, Bool.not_true, Bool.not_false, Option.isNone_some, Option.isNone_none, eq_self, true_and, and_true, and_self, s4.rd0]
    unfold gprint_Dot_c1
    have x4 : Ext h h4 := s4.ext
    refine callP1.self (callP1.self (Print_of (f.ext (e.trans x4)) r1 fun h5 e5 => ?_))
    have s5 := s4.ofExt e5
    try simp -zeta (disch := omega) only [chkP_some, iteB_true, iteB_false, add_mk, Nat.zero_add, Nat.add_zero, Nat.mul_one, Nat.reduceAdd, Int.toNat_natCast, ex_int, ex_slice, ex_ptr, ex_bool, ex_str, ex_flt, ex_any, bnd_in, List.getElem?_cons_zero, List.getElem?_cons_succ, List.set_cons_zero, List.set_cons_succ, List.cons_append, List.nil_append, bne_self_eq_false, beq_self_eq_true, Bool.not_true, Bool.not_false, Option.isNone_some, Option.isNone_none, eq_self, true_and, and_true, and_self, s5.rd0]
    refine callP1.self (callP1.self (Print_of (f.ext (e.trans (x4.trans e5))) r2 fun h6 e6 => ?_))
    have s6 := s5.ofExt e6
    try simp -zeta (disch := omega) only [chkP_some, iteB_true, iteB_false, add_mk, Nat.zero_add, Nat.add_zero, Nat.mul_one, Nat.reduceAdd, Int.toNat_natCast, ex_int, ex_slice, ex_ptr, ex_bool, ex_str, ex_flt, ex_any, bnd_in, List.getElem?_cons_zero, List.getElem?_cons_succ, List.set_cons_zero, List.set_cons_succ, List.cons_append, List.nil_append, bne_self_eq_false, beq_self_eq_true, Bool.not_true, Bool.not_false, Option.isNone_some, Option.isNone_none, eq_self, true_and, and_true, and_self, s6.rd0]
    refine callP1.self (Print_of (f.ext (e.trans (x4.trans (e5.trans e6)))) r3 fun h7 e7 => ?_)
    have x7 : Ext h h7 := x4.trans (e5.trans (e6.trans e7))
    unfold edD at hed
    simp only [List.length_append, List.length_cons, List.length_nil] at hed
    refine line_of (l := dotE n L i) [Lib.itoa x, [32, 45, 45, 32], Lib.itoa y, [32, 91], Lib.itoa w, [93, 59]] rfl rfl (by omega) (by simp only [List.flatten_cons, List.flatten_nil, List.append_nil, List.length_append, List.length_cons, List.length_nil]; omega) (e.trans x7) (kb.ext x7) fun h8 e8 k8 sk => ?_
    rw [wrap64 (by omega) (by omega)]
    refine ih (i + 1) h8 (by omega) e8 ?_ fun hne => ⟨bx, z, hq, hbx, ?_⟩
    · rw [dotE_succ hx]
      simpa [edD] using k8
    · obtain ⟨e0, L', rfl⟩ := List.exists_cons_of_ne_nil hne
      have hr7 : row h7 bx (eV (e0 :: L') ++ z) := hr.ext x7
      exact row_skip (x := e0.1) (cs := .int .i64 e0.2.1 :: .int .i64 e0.2.2 :: (eV L' ++ z)) hr7 sk hbx (dotE_ne _ _ _)
end
theorem Dot_of {h : Heap} {g n : Nat} {L : List Ed} {K : ByteArray → Heap → Prop} (nh : NetG h g n L (nearL n L)) (f : TabP h) (hk : ∀ h', Ext h h' → K (str (dotB n L)) h') : gprint_Dot (some ⟨g, 0, none⟩) h K := by
  unfold gprint_Dot gprint_lines
  have hP := nh.gr.edgP nh.hn
  have hn := nh.hn
  have hlen := nh.gr.len
  have hin : ∀ e ∈ L, inE e := fun e he => (hP e he).inE
  refine iteB_neg rfl (callP2.self (new_fresh ?_))
  have e1 : Ext h (h.push (.cells #[(.pointer none), (.slice none 0 0)] 159)) := (Ext.refl h).push _
  refine line_of (l := []) [[103, 114, 97, 112, 104, 32, 123]] rfl rfl (by omega) (by simp) e1 (bldr_new h) fun h2 e2 k2 _ => ?_
  refine qcallP1.of (n : Int) (fun R' hR => GN_of (h0 := (h2 : Base)) (R := []) (nh.ext e2) (St.refl h2) hR) ?_
  refine ⟨n + 1, dot_l0 nh f (fun h3 e3 k3 => ?_) n 0 h2 (by omega) e2 (by simpa [dotP, dotH] using k2)⟩
  refine callP3.self (GEdges_of (h0 := (h3 : Base)) (R := []) (nh.ext e3) (St.refl h3) fun q c X h4 o s4 => ?_)
  have e4 : Ext h3 h4 := s4.ext
  have hb3 := k3.lt
  refine ⟨L.length + 1, dot_l1 (q := q) (c := c) hn rfl hlen hin f (fun h5 e5 k5 => ?_) L.length 0 h4 (by omega) (e3.trans e4) (by have := k3.ext e4; simpa [dotE] using this) fun hne => ?_⟩
  · have hl5 := dotE_len hn hin (i := L.length)
    refine line_of (l := dotE n L L.length) [[125]] rfl rfl (by omega) (by simp only [List.flatten_cons, List.flatten_nil, List.append_nil, List.length_cons, List.length_nil]; omega) e5 k5 fun h6 e6 k6 _ => ?_
    refine callP1.self (String_of e6 k6 fun h7 e7 => ?_)
    have := hk h7 e7
    simpa [dotB] using this
  · rcases o with ⟨_, _, h0, _⟩ | ⟨bx, z, hq, _, rfl⟩
    · exact absurd h0 hne
    · refine ⟨bx, z, hq, ?_, s4.rows (bx, eV L ++ z) (by simp)⟩
      have := s4.new (bx, eV L ++ z) (by simp)
      have hsz : ((h3 : Base)).heap.size = h3.size := rfl
      rw [hsz] at this
      simp only at this
      omega
end Go.Proofs.YtokemibmanjpmaaGreatDoor

namespace Go.Proofs.YtokemibmanjpmaaGreatDoor
set_option linter.unusedVariables false
set_option linter.unusedSimpArgs false
set_option linter.unnecessarySimpa false
open Go.Proofs Go.Shelf Go.RowKit Go.Hp
attribute [local irreducible] Go.Hp.iteB Go.Hp.stC
section
variable {h0 : Base}
theorem rdot_l0 {K2 : ByteArray → Heap → Prop} {n : Nat} {L : List Ed} {q : Option Addr} {k c b4 : Nat} (hn : n ≤ 4096) (hL : L.length = k) (hk40 : k ≤ 1048576) (vl0 : valsAt h0.heap q (eV L))
    (hk : ∀ h', St h0 h' [(b4, [.int .i64 (n : Int), .slice q k c])] → K2 (str (dotP n L n)) h') :
    ∀ (d i : Nat) (h : Heap), i + d = n → St h0 h [(b4, [.int .i64 (n : Int), .slice q k c])] → straitref18_Dot.l0 K2 (d + 1) ⟨b4, 0, none⟩ (str (dotP n L i)) (i : Int) h := by
  intro d
  induction d with
  | zero =>
    intro i h hi s
    unfold straitref18_Dot.l0 straitref18_Dot.b0
    obtain rfl : i = n := by omega
    try simp -zeta (disch := omega) only [chkP_some, iteB_true, iteB_false, add_mk, Nat.zero_add, Nat.add_zero, Nat.mul_one, Nat.reduceAdd, Int.toNat_natCast, ex_int, ex_slice, ex_ptr, ex_bool, ex_str, ex_flt, ex_any, bnd_in, List.getElem?_cons_zero, List.getElem?_cons_succ, List.set_cons_zero, List.set_cons_succ, List.cons_append, List.nil_append, bne_self_eq_false, beq_self_eq_true, Bool.not_true, Bool.not_false, Option.isNone_some, Option.isNone_none, eq_self, true_and, and_true, and_self, s.rd0]
    exact iteB_neg (decide_eq_false (by omega)) (hk h s)
  | succ d ih =>
    intro i h hi s
    unfold straitref18_Dot.l0 straitref18_Dot.b0
    have r0 : cell h ⟨b4, 0, none⟩ = some (.int .i64 (n : Int)) := by rw [s.rd0]; rfl
    have r1 : cell h ((⟨b4, 0, none⟩ : Addr).add 1) = some (.slice q k c) := by rw [add_mk, s.rd0]; rfl
    have hlen := dotP_len n L (i := i) (by omega)
    refine ⟨_, r0, iteB_pos (decide_eq_true (by omega)) ⟨_, r0, q, k, c, r1, callP3.self (RNear_of hn hL hk40 (vl0.ext s.ext) fun h2 q' l' c' hz x2 => ?_)⟩⟩
    have s2 := s.ofExt x2
    refine iteB_intro (fun c1 => ?_) (fun c1 => ?_)
    · have hiso : isoB n L i = Lib.itoa (i : Int) ++ [59, 10] := if_pos (hz.1 (by have := eq_of_beq c1; omega))
      have hi2 := itoa_len (n := (i : Int)) (by omega) (by omega)
      refine callP1.self (RPrint_of (by omega) (by omega) fun h3 x3 => ?_)
      have e59 : (⟨#[59, 10]⟩ : ByteArray) = str [59, 10] := rfl
      rw [e59, str_app, str_app, str_size, str_size, str_size, str_size]
      refine ⟨by omega, by simp only [List.length_append, List.length_cons, List.length_nil]; omega, ?_⟩
      rw [wrap64 (by omega) (by omega)]
      have := ih (i + 1) h3 (by omega) (s2.ofExt x3)
      rw [dotP_succ, hiso, ← List.append_assoc] at this
      exact this
    · have hiso : isoB n L i = [] := if_neg fun hh => by
        have := hz.2 hh
        subst this; cases c1
      rw [wrap64 (by omega) (by omega)]
      have := ih (i + 1) h2 (by omega) s2
      rw [dotP_succ, hiso, List.append_nil] at this
      exact this
theorem rdot_l1 {K2 : ByteArray → Heap → Prop} {n : Nat} {L : List Ed} {q : Option Addr} {k c b4 : Nat} (hn : n ≤ 4096) (hL : L.length = k) (hk40 : k ≤ 1048576) (hin : ∀ e ∈ L, inE e) (vl0 : valsAt h0.heap q (eV L))
    (hk : ∀ h', Ext h0.heap h' → K2 (str (dotE n L k)) h') :
    ∀ (d i : Nat) (h : Heap), i + d = k → St h0 h [(b4, [.int .i64 (n : Int), .slice q k c])] → straitref18_Dot.l1 K2 (d + 1) ⟨b4, 0, none⟩ (str (dotE n L i)) (i : Int) h := by
  intro d
  induction d with
  | zero =>
    intro i h hi s
    unfold straitref18_Dot.l1 straitref18_Dot.b1
    have r1 : cell h ((⟨b4, 0, none⟩ : Addr).add 1) = some (.slice q k c) := by rw [add_mk, s.rd0]; rfl
    obtain rfl : i = k := by omega
    exact ⟨q, i, c, r1, iteB_neg (decide_eq_false (by omega)) (hk h s.ext)⟩
  | succ d ih =>
    intro i h hi s
    unfold straitref18_Dot.l1 straitref18_Dot.b1
    have r1 : cell h ((⟨b4, 0, none⟩ : Addr).add 1) = some (.slice q k c) := by rw [add_mk, s.rd0]; rfl
    obtain ⟨⟨x, y, w⟩, hx⟩ := get_lt (l := L) (i := i) (by omega)
    have hE := hin _ (List.mem_of_getElem? hx)
    have hed := edD_len hE
    have hlen := dotE_len hn hin (i := i)
    obtain ⟨a1, a2, a3⟩ := hE
    have vl := vl0.ext s.ext
    refine ⟨q, k, c, r1, iteB_pos (decide_eq_true (by omega)) ⟨q, k, c, r1, ?_⟩⟩
    simp -zeta (disch := omega) only [chkP_some, iteB_true, iteB_false, add_mk, Nat.zero_add, Nat.add_zero, Nat.mul_one, Nat.reduceAdd, Int.toNat_natCast, ex_int, ex_slice, ex_ptr, ex_bool, ex_str, ex_flt, ex_any, bnd_in, List.getElem?_cons_zero, List.getElem?_cons_succ, List.set_cons_zero, List.set_cons_succ, List.cons_append, List.nil_append, bne_self_eq_false, beq_self_eq_true, Bool.not_true, Bool.not_false, Option.isNone_some, Option.isNone_none, eq_self, true_and, and_true, and_self, vals_edge vl hx]
    refine s.new_ fun b1 h1 s1 => s1.st0 (by simp) fun h2 s2 => s2.st0 (by simp) fun h3 s3 => s3.st0 (by simp) fun h4 s4 => ?_
    try simp -zeta (disch := omega) only [chkP_some, iteB_true, iteB_false, add_mk, Nat.zero_add, Nat.add_zero, Nat.mul_one, Nat.reduceAdd, Int.toNat_natCast, ex_int, ex_slice, ex_ptr, ex_bool, ex_str, ex_flt, ex_any, bnd_in, List.getElem?_cons_zero, List.getElem?_cons_succ, List.set_cons_zero, List.set_cons_succ, List.cons_append, List.nil_append, bne_self_eq_false, beq_self_eq_true, Bool.not_true, Bool.not_false, Option.isNone_some, Option.isNone_none, eq_self, true_and, and_true, and_self, s4.rd0]
    have b1 := inR_iff.1 a1
    have b2 := inR_iff.1 a2
    have b3 := inR_iff.1 a3
    simp only at b1 b2 b3
    unfold edD at hed
    simp only [List.length_append, List.length_cons, List.length_nil] at hed
    have e1 : (⟨#[32, 45, 45, 32]⟩ : ByteArray) = str [32, 45, 45, 32] := rfl
    have e2 : (⟨#[32, 91]⟩ : ByteArray) = str [32, 91] := rfl
    have e3 : (⟨#[93, 59, 10]⟩ : ByteArray) = str [93, 59, 10] := rfl
    rw [e1, e2, e3]
    refine callP1.self (RPrint_of b1.1 b1.2 fun h5 x5 => ?_)
    have s5 := s4.ofExt x5
    try simp -zeta (disch := omega) only [chkP_some, iteB_true, iteB_false, add_mk, Nat.zero_add, Nat.add_zero, Nat.mul_one, Nat.reduceAdd, Int.toNat_natCast, ex_int, ex_slice, ex_ptr, ex_bool, ex_str, ex_flt, ex_any, bnd_in, List.getElem?_cons_zero, List.getElem?_cons_succ, List.set_cons_zero, List.set_cons_succ, List.cons_append, List.nil_append, bne_self_eq_false, beq_self_eq_true, Bool.not_true, Bool.not_false, Option.isNone_some, Option.isNone_none, eq_self, true_and, and_true, and_self, s5.rd0]
    rw [str_app, str_app, str_size, str_size, str_size, str_size]
    refine ⟨by omega, by simp only [List.length_append, List.length_cons, List.length_nil]; omega, callP1.self (RPrint_of b2.1 b2.2 fun h6 x6 => ?_)⟩
    have s6 := s5.ofExt x6
    try simp -zeta (disch := omega) only [chkP_some, iteB_true, iteB_false, add_mk, Nat.zero_add, Nat.add_zero, Nat.mul_one, Nat.reduceAdd, Int.toNat_natCast, ex_int, ex_slice, ex_ptr, ex_bool, ex_str, ex_flt, ex_any, bnd_in, List.getElem?_cons_zero, List.getElem?_cons_succ, List.set_cons_zero, List.set_cons_succ, List.cons_append, List.nil_append, bne_self_eq_false, beq_self_eq_true, Bool.not_true, Bool.not_false, Option.isNone_some, Option.isNone_none, eq_self, true_and, and_true, and_self, s6.rd0]
    rw [str_app, str_app, str_size, str_size, str_size, str_size]
    refine ⟨by simp only [List.length_append, List.length_cons, List.length_nil]; omega, by simp only [List.length_append, List.length_cons, List.length_nil]; omega, callP1.self (RPrint_of b3.1 b3.2 fun h7 x7 => ?_)⟩
    rw [str_app, str_app, str_size, str_size, str_size, str_size]
    refine ⟨by simp only [List.length_append, List.length_cons, List.length_nil]; omega, by simp only [List.length_append, List.length_cons, List.length_nil]; omega, ?_⟩
    rw [wrap64 (by omega) (by omega)]
    have := ih (i + 1) h7 (by omega) (s6.ofExt x7).tail
    have e11 : dotE n L (i + 1) = dotE n L i ++ Lib.itoa x ++ [32, 45, 45, 32] ++ Lib.itoa y ++ [32, 91] ++ Lib.itoa w ++ [93, 59, 10] := by rw [dotE_succ hx]; simp [edD]
    rw [e11] at this
    exact this
end
theorem RDot_of {h : Heap} {n : Nat} {L : List Ed} {q : Option Addr} {k c : Nat} {K : ByteArray → Heap → Prop} (gr : Gr n L) (hn : n ≤ 4096) (hL : L.length = k) (vl : valsAt h q (eV L)) (hk : ∀ h', Ext h h' → K (str (dotB n L)) h') : straitref18_Dot (n : Int) q k c h K := by
  unfold straitref18_Dot
  have hP := gr.edgP hn
  have hlen := gr.len
  have hin : ∀ e ∈ L, inE e := fun e he => (hP e he).inE
  refine (St.refl h).new_ (cs := [.int .i64 (n : Int), .slice q k c]) fun b4 h1 s1 => ?_
  have eH : (⟨#[103, 114, 97, 112, 104, 32, 123, 10]⟩ : ByteArray) = str (dotP n L 0) := by unfold dotP dotH; rfl
  rw [eH]
  refine ⟨n + 1, rdot_l0 (h0 := (h : Base)) hn hL (by omega) vl (fun h2 s2 => ?_) n 0 h1 (by omega) s1⟩
  have eE : dotP n L n = dotE n L 0 := by unfold dotE; simp
  rw [eE]
  refine ⟨k + 1, rdot_l1 (h0 := (h : Base)) hn hL (by omega) hin vl (fun h3 x3 => ?_) k 0 h2 (by omega) s2⟩
  have hl := dotE_len hn hin (i := k)
  have e9 : (⟨#[125, 10]⟩ : ByteArray) = str [125, 10] := rfl
  rw [e9, str_app, str_size, str_size]
  have := hk h3 x3
  unfold dotB at this
  rw [hL] at this
  exact ⟨by simp only [List.length_cons, List.length_nil]; omega, this⟩
end Go.Proofs.YtokemibmanjpmaaGreatDoor

namespace Go.Proofs.YtokemibmanjpmaaGreatDoor
set_option linter.unusedVariables false
set_option linter.unusedSimpArgs false
set_option linter.unnecessarySimpa false
open Go.Proofs Go.Shelf Go.RowKit Go.Hp
attribute [local irreducible] Go.Hp.iteB Go.Hp.stC
def rowW (n : Nat) (L : List Ed) (u : Nat) : List Int := (List.range n).map fun v : Nat => wL L (u : Int) (v : Int)
def lineW (n : Nat) (L : List Ed) (u : Nat) : List UInt8 := joinB ((rowW n L u).map Lib.itoa) ++ [10]
def rowsB (n : Nat) (L : List Ed) (i : Nat) : List UInt8 := (List.range i).flatMap (lineW n L)
theorem rowsB_succ (n : Nat) (L : List Ed) (i : Nat) : rowsB n L (i + 1) = rowsB n L i ++ lineW n L i := by unfold rowsB; rw [List.range_succ, List.flatMap_append]; simp
theorem rowW_len (n : Nat) (L : List Ed) (u : Nat) : (rowW n L u).length = n := by simp [rowW]
theorem rowW_in {n : Nat} {L : List Ed} (G : Gr n L) (u : Nat) : ∀ x ∈ rowW n L u, inR x = true := by
  intro x hx
  obtain ⟨v, _, rfl⟩ := List.mem_map.1 hx
  exact inR_iff.2 (GWeight_in G _ _).1
theorem lineW_len {n : Nat} {L : List Ed} (G : Gr n L) (u : Nat) : (lineW n L u).length ≤ 21 * n + 1 := by
  have := list_len (rowW_in G u) n
  rw [List.take_of_length_le (by rw [rowW_len]; exact Nat.le_refl _), rowW_len] at this
  unfold lineW; rw [List.length_append]; simp only [List.length_cons, List.length_nil]; omega
theorem rowsB_len {n : Nat} {L : List Ed} (G : Gr n L) : ∀ i, (rowsB n L i).length ≤ (21 * n + 1) * i
  | 0 => by simp [rowsB]
  | i + 1 => by
    have h1 := rowsB_len G i
    have h2 := lineW_len G i
    rw [rowsB_succ, List.length_append, Nat.mul_succ]; omega
theorem rowsB_le {n : Nat} {L : List Ed} (G : Gr n L) (hn : n ≤ 4096) {i : Nat} (hi : i ≤ n) : (rowsB n L i).length ≤ 2 ^ 30 := by
  have h1 := rowsB_len G i
  have h2 : (21 * n + 1) * i ≤ (21 * 4096 + 1) * 4096 := Nat.mul_le_mul (by omega) (by omega)
  omega
/-! ### The program's -/
/-- A row as far as these neighbours have been set down. -/
def partW (n : Nat) (L : List Ed) (u : Nat) (D : List Nat) : List Int := (List.range n).map fun v : Nat => if v ∈ D then wL L (u : Int) (v : Int) else 0
theorem partW_nil (n : Nat) (L : List Ed) (u : Nat) : zeroRow [.int .i64 0] n = numV (partW n L u []) := by
  have : ∀ n, zeroRow [Value.int .i64 0] n = List.replicate n (.int .i64 0) := by
    intro n
    induction n with
    | zero => rfl
    | succ n ih => rw [zeroRow, ih]; simp [List.replicate_succ]
  rw [this]
  simp [partW, numV, List.map_const']
theorem partW_set {n : Nat} {L : List Ed} {u v : Nat} {D : List Nat} (hv : v < n) : (numV (partW n L u D)).set v (.int .i64 (wL L (u : Int) (v : Int))) = numV (partW n L u (D ++ [v])) := by
  apply List.ext_getElem?
  intro j
  rw [List.getElem?_set]
  have hl : (numV (partW n L u D)).length = n := by simp [numV, partW]
  by_cases c : v = j
  · subst c
    rw [if_pos rfl, hl, if_pos hv]
    simp [numV, partW, hv]
  · rw [if_neg c]
    simp only [numV, partW, List.getElem?_map]
    by_cases c2 : j < n
    · simp [c2, Ne.symm c]
    · simp [c2]
theorem partW_all {n : Nat} {L : List Ed} {u : Nat} {D : List Nat} (G : Gr n L) (h : ∀ v, v ∈ D ↔ 0 < wL L (u : Int) (v : Int)) : partW n L u D = rowW n L u := by
  unfold partW rowW
  refine List.map_congr_left fun v _ => ?_
  have := (GWeight_in G (u : Int) (v : Int)).2
  by_cases c : v ∈ D
  · rw [if_pos c]
  · rw [if_neg c]
    have := mt (h v).2 c
    omega
section
variable {g n : Nat} {L : List Ed} {N : List (List Nat)}
theorem rows_l1 {K4 : Heap → Prop} {h0 : Base} {x3 : Option Addr} {c4 : Addr} {c14 c15 : Int} {u br m c : Nat} {q : Option Addr} {l : List Nat} {X : Rws} (nh : NetG h0.heap g n L N) (hn : n ≤ 4096) (hl : l.length = m) (hm : m < 2 ^ 40) (hln : ∀ v ∈ l, v < n) (kl : Keeps h0 X q (natV l))
    (hk : ∀ h', St h0 h' ((br, numV (partW n L u l)) :: X) → K4 h') :
    ∀ (d i : Nat) (h : Heap), i + d = m → St h0 h ((br, numV (partW n L u (l.take i))) :: X) →
      gprint_Rows.l1 K4 (d + 1) (some ⟨g, 0, none⟩) x3 c4 (u : Int) ⟨br, 0, none⟩ n n c14 c15 q m c (m : Int) (i : Int) h := by
  intro d
  induction d with
  | zero =>
    intro i h hi s
    unfold gprint_Rows.l1 gprint_Rows.b1
    rw [List.take_of_length_le (by omega)] at s
    exact iteB_neg (decide_eq_false (by omega)) (hk h s)
  | succ d ih =>
    intro i h hi s
    unfold gprint_Rows.l1 gprint_Rows.b1
    obtain ⟨v, hv⟩ := get_lt (l := l) (i := i) (by omega)
    have hvn := hln v (List.mem_of_getElem? hv)
    obtain ⟨a, ha, hc⟩ := kl.atC s i (.int .i64 (v : Int)) (by unfold natV; rw [List.getElem?_map, hv]; rfl)
    refine iteB_pos (decide_eq_true (by omega)) ?_
    rw [ha]
    simp -zeta (disch := omega) only [chkP_some, iteB_true, iteB_false, add_mk, Nat.zero_add, Nat.add_zero, Nat.mul_one, Nat.reduceAdd, Int.toNat_natCast, ex_int, ex_slice, ex_ptr, ex_bool, ex_str, ex_flt, ex_any, bnd_in, List.getElem?_cons_zero, List.getElem?_cons_succ, List.set_cons_zero, List.set_cons_succ, List.cons_append, List.nil_append, bne_self_eq_false, beq_self_eq_true, Bool.not_true, Bool.not_false, Option.isNone_some, Option.isNone_none, eq_self, true_and, and_true, and_self]
    rw [← ha]
    refine ⟨_, hc, callP1.self (GWeight_of (nh.ext s.ext) fun h2 x2 => ?_)⟩
    have s2 := s.ofExt x2
    simp -zeta (disch := omega) only [chkP_some, iteB_true, iteB_false, add_mk, Nat.zero_add, Nat.add_zero, Nat.mul_one, Nat.reduceAdd, Int.toNat_natCast, ex_int, ex_slice, ex_ptr, ex_bool, ex_str, ex_flt, ex_any, bnd_in, List.getElem?_cons_zero, List.getElem?_cons_succ, List.set_cons_zero, List.set_cons_succ, List.cons_append, List.nil_append, bne_self_eq_false, beq_self_eq_true, Bool.not_true, Bool.not_false, Option.isNone_some, Option.isNone_none, eq_self, true_and, and_true, and_self]
    refine s2.st0 (by simp [numV, partW]; omega) fun h3 s3 => ?_
    rw [wrap64 (by omega) (by omega)]
    refine ih (i + 1) h3 (by omega) ?_
    rw [take_snoc hv, ← partW_set hvn]
    exact s3
theorem rows_l0 {K2 : Heap → Prop} {g0 : Heap} {b : Nat} {x3 : Option Addr} (nh : NetG g0 g n L (nearL n L)) (f : TabP g0)
    (hk : ∀ h', Ext g0 h' → BH g0.size b (rowsB n L n) h' → K2 h') :
    ∀ (d i : Nat) (h : Heap), i + d = n → Ext g0 h → BH g0.size b (rowsB n L i) h → gprint_Rows.l0 K2 (d + 1) (some ⟨g, 0, none⟩) x3 ⟨b, 0, none⟩ (n : Int) (i : Int) h := by
  intro d
  have hn := nh.hn
  have G := nh.gr
  induction d with
  | zero =>
    intro i h hi e k
    unfold gprint_Rows.l0 gprint_Rows.b0
    obtain rfl : i = n := by omega
    exact iteB_neg (decide_eq_false (by omega)) (hk h e k)
  | succ d ih =>
    intro i h hi e k
    unfold gprint_Rows.l0 gprint_Rows.b0
    obtain ⟨l, h1, h2, h3, h4, h5⟩ := near_iff G (v := i) (by omega)
    have hlen := rowsB_le G hn (i := i) (by omega)
    refine iteB_pos (decide_eq_true (by omega)) (qcallP1.of (n : Int) (fun R' hR => GN_of (h0 := (h : Base)) (R := []) (nh.ext e) (St.refl h) hR) ⟨⟨by omega, by omega, by omega, by omega⟩, ?_⟩)
    rw [Int.toNat_natCast, partW_nil n L i]
    refine (St.refl h).new_ fun br h6 s6 => ?_
    refine callP3.self (GNear_of (h0 := (h : Base)) (nh.ext e) s6 (by omega) h1 h2 fun q c X h7 o s7 => ?_)
    refine ⟨l.length + 1, rows_l1 (h0 := (h : Base)) (X := X) (nh.ext e) hn rfl h2 h4 (o.keeps fun x hx => hx) (fun h8 s8 => ?_) l.length 0 h7 (by omega) (s7.perm (List.perm_append_comm (l₁ := X) (l₂ := [_])))⟩
    rw [partW_all G h3] at s8
    have x8 : Ext h h8 := s8.ext
    have v8 : valsAt h8 (some ⟨br, 0, none⟩) (numV (rowW n L i)) := valsAt.row (s8.rows _ (List.mem_cons_self ..)) (fun j v hj => by simpa using hj)
    have hl := rowW_len n L i
    have lo := List_of (ls := rowW n L i) (c := n) (h := h8) (q := some ⟨br, 0, none⟩) (K := fun x1014 h1015 => newP h1015 (.cells #[(.string x1014)] 9) fun a1016 h1017 => callP0 (gprint_lines_c1 (some a1016) 1 1 ⟨b, 0, none⟩ h1017) fun h1018 => gprint_Rows.l0 K2 (d + 1) (some ⟨g, 0, none⟩) x3 ⟨b, 0, none⟩ (n : Int) (IntKind.i64.wrap ((i : Int) + 1)) h1018) v8 (f.ext (e.trans x8)) (rowW_in G i) (by omega) (fun h9 x9 => ?_)
    · rw [hl] at lo
      exact callP1.self lo
    · have hll := lineW_len G i
      unfold lineW at hll
      simp only [List.length_append, List.length_cons, List.length_nil] at hll
      refine line_of (l := rowsB n L i) [joinB ((rowW n L i).map Lib.itoa)] rfl rfl (by omega) (by simp only [List.flatten_cons, List.flatten_nil, List.append_nil]; omega) (e.trans (x8.trans x9)) (k.ext (x8.trans x9)) fun h10 e10 k10 _ => ?_
      rw [wrap64 (by omega) (by omega)]
      refine ih (i + 1) h10 (by omega) e10 ?_
      rw [rowsB_succ]
      simpa [lineW] using k10
end
theorem Rows_of {h : Heap} {g n : Nat} {L : List Ed} {K : ByteArray → Heap → Prop} (nh : NetG h g n L (nearL n L)) (f : TabP h) (hk : ∀ h', Ext h h' → K (str (rowsB n L n)) h') : gprint_Rows (some ⟨g, 0, none⟩) h K := by
  unfold gprint_Rows gprint_lines
  refine callP2.self (new_fresh ?_)
  have e1 : Ext h (h.push (.cells #[(.pointer none), (.slice none 0 0)] 159)) := (Ext.refl h).push _
  refine qcallP1.of (n : Int) (fun R' hR => GN_of (h0 := ((h.push (.cells #[(.pointer none), (.slice none 0 0)] 159) : Heap) : Base)) (R := []) (nh.ext e1) (St.refl _) hR) ?_
  exact ⟨n + 1, rows_l0 nh f (fun h3 e3 k3 => callP1.self (String_of e3 k3 fun h7 e7 => hk h7 e7)) n 0 _ (by omega) e1 (by simpa [rowsB] using bldr_new h)⟩
theorem Rows_nil {h : Heap} {K : ByteArray → Heap → Prop} (hk : ∀ h', Ext h h' → K (str []) h') : gprint_Rows none h K := by
  unfold gprint_Rows gprint_lines
  refine callP2.self (new_fresh ?_)
  have e1 : Ext h (h.push (.cells #[(.pointer none), (.slice none 0 0)] 159)) := (Ext.refl h).push _
  refine qcallP1.of 0 (fun R' hR => GN_nil hR) ⟨1, ?_⟩
  unfold gprint_Rows.l0 gprint_Rows.b0
  exact iteB_neg rfl (callP1.self (String_of e1 (bldr_new h) fun h7 e7 => hk h7 e7))
end Go.Proofs.YtokemibmanjpmaaGreatDoor

namespace Go.Proofs.YtokemibmanjpmaaGreatDoor
set_option linter.unusedVariables false
set_option linter.unusedSimpArgs false
set_option linter.unnecessarySimpa false
open Go.Proofs Go.Shelf Go.RowKit Go.Hp
attribute [local irreducible] Go.Hp.iteB Go.Hp.stC
section
variable {h0 : Base}
theorem rrows_l1 {K4 : Option Addr → Nat → Nat → Heap → Prop} {n u : Nat} {L : List Ed} {q : Option Addr} {k c b4 : Nat} {acc : ByteArray} (hn : n ≤ 4096) (hL : L.length = k) (hk40 : k ≤ 1048576) (vl0 : valsAt h0.heap q (eV L))
    (hk : ∀ h' q' c' X, Hp.Own q' c' (numV (rowW n L u)) X → St h0 h' (X ++ [(b4, [.int .i64 (n : Int), .slice q k c])]) → K4 q' n c' h') :
    ∀ (d i : Nat) (h : Heap) (q' : Option Addr) (c' : Nat) (X : Rws), i + d = n → Hp.Own q' c' (numV ((rowW n L u).take i)) X → St h0 h (X ++ [(b4, [.int .i64 (n : Int), .slice q k c])]) →
      straitref18_Rows.l1 K4 (d + 1) ⟨b4, 0, none⟩ acc (u : Int) q' i c' (i : Int) h := by
  intro d
  induction d with
  | zero =>
    intro i h q' c' X hi o s
    unfold straitref18_Rows.l1 straitref18_Rows.b1
    have r0 : cell h ⟨b4, 0, none⟩ = some (.int .i64 (n : Int)) := by rw [s.rd (b := b4) (cs := [.int .i64 (n : Int), .slice q k c]) (by simp)]; rfl
    rw [List.take_of_length_le (by rw [rowW_len]; omega)] at o
    obtain rfl : i = n := by omega
    exact ⟨_, r0, iteB_neg (decide_eq_false (by omega)) (hk h q' c' X o s)⟩
  | succ d ih =>
    intro i h q' c' X hi o s
    unfold straitref18_Rows.l1 straitref18_Rows.b1
    have r0 : cell h ⟨b4, 0, none⟩ = some (.int .i64 (n : Int)) := by rw [s.rd (b := b4) (cs := [.int .i64 (n : Int), .slice q k c]) (by simp)]; rfl
    have r1 : cell h ((⟨b4, 0, none⟩ : Addr).add 1) = some (.slice q k c) := by rw [add_mk, s.rd (b := b4) (cs := [.int .i64 (n : Int), .slice q k c]) (by simp)]; rfl
    have hx : (rowW n L u)[i]? = some (wL L (u : Int) (i : Int)) := by unfold rowW; rw [List.getElem?_map, List.getElem?_range (by omega)]; rfl
    have hlen : (numV ((rowW n L u).take i)).length = i := by rw [numV_len, List.length_take, rowW_len]; omega
    refine ⟨_, r0, iteB_pos (decide_eq_true (by omega)) ⟨_, r0, q, k, c, r1, callP1.self (RWeight_of hL hk40 (vl0.ext s.ext) fun h2 x2 => ?_)⟩⟩
    refine Hp.Own.push1 o (s.ofExt x2) hlen.symm rfl (by rw [hlen]; omega) fun q2 c2 X2 h3 o2 s3 => ?_
    rw [hlen, wrap64 (by omega) (by omega)]
    refine ih (i + 1) h3 q2 c2 X2 (by omega) ?_ s3
    have e1 : numV ((rowW n L u).take (i + 1)) = numV ((rowW n L u).take i) ++ [.int .i64 (wL L (u : Int) (i : Int))] := by rw [take_snoc hx]; simp [numV]
    rw [e1]; exact o2
theorem rrows_l0 {K2 : ByteArray → Heap → Prop} {n : Nat} {L : List Ed} {q : Option Addr} {k c b4 : Nat} (G : Gr n L) (hn : n ≤ 4096) (hL : L.length = k) (hk40 : k ≤ 1048576) (vl0 : valsAt h0.heap q (eV L))
    (hk : ∀ h', Ext h0.heap h' → K2 (str (rowsB n L n)) h') :
    ∀ (d i : Nat) (h : Heap), i + d = n → St h0 h [(b4, [.int .i64 (n : Int), .slice q k c])] → straitref18_Rows.l0 K2 (d + 1) ⟨b4, 0, none⟩ (str (rowsB n L i)) (i : Int) h := by
  intro d
  induction d with
  | zero =>
    intro i h hi s
    unfold straitref18_Rows.l0 straitref18_Rows.b0
    have r0 : cell h ⟨b4, 0, none⟩ = some (.int .i64 (n : Int)) := by rw [s.rd0]; rfl
    obtain rfl : i = n := by omega
    exact ⟨_, r0, iteB_neg (decide_eq_false (by omega)) (hk h s.ext)⟩
  | succ d ih =>
    intro i h hi s
    unfold straitref18_Rows.l0 straitref18_Rows.b0
    have r0 : cell h ⟨b4, 0, none⟩ = some (.int .i64 (n : Int)) := by rw [s.rd0]; rfl
    have hlen := rowsB_le G hn (i := i) (by omega)
    have hll := lineW_len G i
    unfold lineW at hll
    simp only [List.length_append, List.length_cons, List.length_nil] at hll
    refine ⟨_, r0, iteB_pos (decide_eq_true (by omega)) ⟨n + 1, rrows_l1 (h0 := h0) (u := i) hn hL hk40 vl0 (fun h2 q2 c2 X o s2 => ?_) n 0 h none 0 [] (by omega) (by simpa [numV] using Hp.Own.nil) s⟩⟩
    have v2 : valsAt h2 q2 (numV (rowW n L i)) := o.vals s2
    have hl := rowW_len n L i
    have ro := RList_of (ls := rowW n L i) (c := c2) (h := h2) (q := q2) (K := fun x1009 h1010 => ((((str (rowsB n L i)).size + x1009.size : Nat) : Int) ≤ 9223372036854775807) ∧ (((((str (rowsB n L i)) ++ x1009).size + (⟨#[10]⟩ : ByteArray).size : Nat) : Int) ≤ 9223372036854775807) ∧ straitref18_Rows.l0 K2 (d + 1) ⟨b4, 0, none⟩ (((str (rowsB n L i)) ++ x1009) ++ (⟨#[10]⟩ : ByteArray)) (IntKind.i64.wrap ((i : Int) + 1)) h1010) v2 (rowW_in G i) (by omega) (fun h3 x3 => ?_)
    · rw [hl] at ro
      exact callP1.self ro
    · have e10 : (⟨#[10]⟩ : ByteArray) = str [10] := rfl
      rw [e10, str_app, str_app, str_size, str_size, str_size, str_size]
      refine ⟨by omega, by simp only [List.length_append, List.length_cons, List.length_nil]; omega, ?_⟩
      rw [wrap64 (by omega) (by omega)]
      have s3 : St h0 h3 [(b4, [.int .i64 (n : Int), .slice q k c])] := (s2.ofExt x3).drop
      have := ih (i + 1) h3 (by omega) s3
      have e11 : rowsB n L (i + 1) = rowsB n L i ++ joinB ((rowW n L i).map Lib.itoa) ++ [10] := by rw [rowsB_succ]; unfold lineW; rw [List.append_assoc]
      rw [e11] at this
      exact this
end
theorem RRows_of {h : Heap} {n : Nat} {L : List Ed} {q : Option Addr} {k c : Nat} {K : ByteArray → Heap → Prop} (gr : Gr n L) (hn : n ≤ 4096) (hL : L.length = k) (vl : valsAt h q (eV L)) (hk : ∀ h', Ext h h' → K (str (rowsB n L n)) h') : straitref18_Rows (n : Int) q k c h K := by
  unfold straitref18_Rows
  have hlen := gr.len
  refine (St.refl h).new_ (cs := [.int .i64 (n : Int), .slice q k c]) fun b4 h1 s1 => ?_
  have e0 : (⟨#[]⟩ : ByteArray) = str (rowsB n L 0) := rfl
  rw [e0]
  exact ⟨n + 1, rrows_l0 (h0 := (h : Base)) gr hn hL (by omega) vl hk n 0 h1 (by omega) s1⟩
/-- GprintTells. -/
theorem tells_law {h : Heap} {n8 k c : Nat} {q : Option Addr} {l : List Ed} {K : Bool → Heap → Prop} (h8 : n8 ≤ 255) (hl : l.length = k) (v : valsAt h q (eV l)) (f : TabP h) (hk : ∀ h', Ext h h' → K true h') : straitlaw18_GprintTells (n8 : Int) q k c h K := by
  unfold straitlaw18_GprintTells
  have aw : ∀ h', Ext h h' → callP1 (straitlaw18_awake h') fun x h'' => K x h'' := fun h' e => callP1.self (awake_of (f.ext e) fun h'' e' => hk h'' (e.trans e'))
  refine iteB_intro (fun _ => aw h (Ext.refl h)) fun c1 => ?_
  have c1 := of_decide_eq_false c1
  have wn : IntKind.i64.wrap (n8 : Int) = n8 := wrap64 (by omega) (by omega)
  rw [wn]
  have e0 : (⟨#[]⟩ : ByteArray) = str [] := rfl
  refine callP3.self (New_of (h0 := (h : Base)) (R := []) hl (by omega) (Keeps.old v) (St.refl h) (fun bad h2 s2 => ?_) (fun ok m g X h2 em nk s2 => ?_))
  · have x2 : Ext h h2 := s2.ext
    refine iteB_pos (by simpa using bad) ?_
    unfold gprint_Print gprint_Dot
    refine callP1.self (iteB_pos rfl (iteB_pos (beq_self_eq_true _) (callP1.self (iteB_pos rfl (iteB_pos (beq_self_eq_true _) (callP1.self (Rows_nil fun h3 x3 => ?_)))))))
    rw [e0]
    exact iteB_pos (beq_self_eq_true _) (aw h3 (x2.trans x3))
  · obtain rfl : m = n8 := by omega
    have x2 : Ext h h2 := s2.ext
    have nh : NetG h2 g m (netL l) (nearL m (netL l)) := nk.atG s2 (fun x hx => by simp [hx])
    refine iteB_neg rfl (callP6.self (RNew_of (h0 := (h2 : Base)) (R := []) hl (Keeps.old (v.ext x2)) (St.refl h2) ok fun q3 c3 X3 h3 o3 s3 => ?_))
    have x3 : Ext h2 h3 := s3.ext
    have v3 : valsAt h3 q3 (eV (netL l)) := o3.vals s3
    have gr := nh.gr
    have hn := nh.hn
    have nh3 := nh.ext x3
    have f3 := f.ext (x2.trans x3)
    refine (St.refl h3).new_ (cs := [.int .i64 0, .slice none 0 0]) fun b4 h4 s4 => s4.st0 (by simp) fun h5 s5 => s5.st0 (by simp) fun h6 s6 => ?_
    have x6 : Ext h3 h6 := s6.ext
    try simp -zeta (disch := omega) only [chkP_some, iteB_true, iteB_false, add_mk, Nat.zero_add, Nat.add_zero, Nat.mul_one, Nat.reduceAdd, Int.toNat_natCast, ex_int, ex_slice, ex_ptr, ex_bool, ex_str, ex_flt, ex_any, bnd_in, List.getElem?_cons_zero, List.getElem?_cons_succ, List.set_cons_zero, List.set_cons_succ, List.cons_append, List.nil_append, bne_self_eq_false, beq_self_eq_true, Bool.not_true, Bool.not_false, Option.isNone_some, Option.isNone_none, eq_self, true_and, and_true, and_self, s6.rd0]
    refine callP1.self (Print_of' (nh3.ext x6) (f3.ext x6) fun h7 x7 => ?_)
    have s7 := s6.ofExt x7
    have y7 : Ext h3 h7 := s7.ext
    try simp -zeta (disch := omega) only [chkP_some, iteB_true, iteB_false, add_mk, Nat.zero_add, Nat.add_zero, Nat.mul_one, Nat.reduceAdd, Int.toNat_natCast, ex_int, ex_slice, ex_ptr, ex_bool, ex_str, ex_flt, ex_any, bnd_in, List.getElem?_cons_zero, List.getElem?_cons_succ, List.set_cons_zero, List.set_cons_succ, List.cons_append, List.nil_append, bne_self_eq_false, beq_self_eq_true, Bool.not_true, Bool.not_false, Option.isNone_some, Option.isNone_none, eq_self, true_and, and_true, and_self, s7.rd0]
    refine callP1.self (RPrint_of' gr hn rfl (v3.ext y7) fun h8 x8 => iteB_pos (beq_self_eq_true _) ?_)
    have s8 := s7.ofExt x8
    have y8 : Ext h3 h8 := s8.ext
    try simp -zeta (disch := omega) only [chkP_some, iteB_true, iteB_false, add_mk, Nat.zero_add, Nat.add_zero, Nat.mul_one, Nat.reduceAdd, Int.toNat_natCast, ex_int, ex_slice, ex_ptr, ex_bool, ex_str, ex_flt, ex_any, bnd_in, List.getElem?_cons_zero, List.getElem?_cons_succ, List.set_cons_zero, List.set_cons_succ, List.cons_append, List.nil_append, bne_self_eq_false, beq_self_eq_true, Bool.not_true, Bool.not_false, Option.isNone_some, Option.isNone_none, eq_self, true_and, and_true, and_self, s8.rd0]
    refine callP1.self (Dot_of (nh3.ext y8) (f3.ext y8) fun h9 x9 => ?_)
    have s9 := s8.ofExt x9
    have y9 : Ext h3 h9 := s9.ext
    try simp -zeta (disch := omega) only [chkP_some, iteB_true, iteB_false, add_mk, Nat.zero_add, Nat.add_zero, Nat.mul_one, Nat.reduceAdd, Int.toNat_natCast, ex_int, ex_slice, ex_ptr, ex_bool, ex_str, ex_flt, ex_any, bnd_in, List.getElem?_cons_zero, List.getElem?_cons_succ, List.set_cons_zero, List.set_cons_succ, List.cons_append, List.nil_append, bne_self_eq_false, beq_self_eq_true, Bool.not_true, Bool.not_false, Option.isNone_some, Option.isNone_none, eq_self, true_and, and_true, and_self, s9.rd0]
    refine callP1.self (RDot_of gr hn rfl (v3.ext y9) fun h10 x10 => iteB_pos (beq_self_eq_true _) ?_)
    have s10 := s9.ofExt x10
    have y10 : Ext h3 h10 := s10.ext
    try simp -zeta (disch := omega) only [chkP_some, iteB_true, iteB_false, add_mk, Nat.zero_add, Nat.add_zero, Nat.mul_one, Nat.reduceAdd, Int.toNat_natCast, ex_int, ex_slice, ex_ptr, ex_bool, ex_str, ex_flt, ex_any, bnd_in, List.getElem?_cons_zero, List.getElem?_cons_succ, List.set_cons_zero, List.set_cons_succ, List.cons_append, List.nil_append, bne_self_eq_false, beq_self_eq_true, Bool.not_true, Bool.not_false, Option.isNone_some, Option.isNone_none, eq_self, true_and, and_true, and_self, s10.rd0]
    refine callP1.self (Rows_of (nh3.ext y10) (f3.ext y10) fun h11 x11 => ?_)
    have s11 := s10.ofExt x11
    have y11 : Ext h3 h11 := s11.ext
    try simp -zeta (disch := omega) only [chkP_some, iteB_true, iteB_false, add_mk, Nat.zero_add, Nat.add_zero, Nat.mul_one, Nat.reduceAdd, Int.toNat_natCast, ex_int, ex_slice, ex_ptr, ex_bool, ex_str, ex_flt, ex_any, bnd_in, List.getElem?_cons_zero, List.getElem?_cons_succ, List.set_cons_zero, List.set_cons_succ, List.cons_append, List.nil_append, bne_self_eq_false, beq_self_eq_true, Bool.not_true, Bool.not_false, Option.isNone_some, Option.isNone_none, eq_self, true_and, and_true, and_self, s11.rd0]
    refine callP1.self (RRows_of gr hn rfl (v3.ext y11) fun h12 x12 => iteB_pos (beq_self_eq_true _) ?_)
    exact aw h12 (x2.trans (x3.trans (y11.trans x12)))
end Go.Proofs.YtokemibmanjpmaaGreatDoor
