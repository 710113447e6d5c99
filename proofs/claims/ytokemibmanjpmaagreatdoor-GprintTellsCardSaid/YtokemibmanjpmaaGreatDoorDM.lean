/-
  Texts of this claim, put together.
-/
import Derived.Test.YtokemibmanjpmaaGreatDoorShB
import Derived.Lib.Builder
import Derived.Test.YtokemibmanjpmaaGreatDoorSt
import Derived.Test.YtokemibmanjpmaaGreatDoorWk
import Derived.Test.YtokemibmanjpmaaGreatDoorG5
import Derived.Test.YtokemibmanjpmaaGreatDoorShO
import Derived.Lib.ParseIntBCases
import Derived.Lib.ItoaMem
namespace Go.Proofs.YtokemibmanjpmaaGreatDoor
set_option linter.unusedVariables false
set_option linter.unusedSimpArgs false
open Go.Proofs Go.Shelf Go.RowKit Go.Lib
set_option maxHeartbeats 1000000 in
set_option maxRecDepth 100000 in
theorem check_used (b : Nat) (w : World) (h0 : w.cell? ⟨b, 0, none⟩ = some (.pointer (some ⟨b, 0, none⟩))) :
    Calls Tryz.prog 130 #[.pointer (some ⟨b, 0, none⟩)] w fun e w' => e = .returned (.tuple #[]) ∧ w' = w := by
  obtain ⟨j, hj, _⟩ := Option.map_eq_some_iff.1 (show (Tryz.prog.info? 159).map (·.size) = some 2 by kernel_rfl)
  go_enter Tryz.func130, Tryz.ntmps130
  go_wp2
  rw [Lib.run_neq_ptr_same w _ Tryz.underlying112 hj]
  go_wp2
  go_end0
  exact ⟨rfl, rfl⟩
set_option maxHeartbeats 1000000 in
set_option maxRecDepth 100000 in
theorem check_fresh (b : Nat) (w : World) (h0 : w.cell? ⟨b, 0, none⟩ = some (.pointer none)) (hsh : w.shape? b = some (159, 2)) (hfz : w.frozen? ⟨b, 0, none⟩ = false) :
    Calls Tryz.prog 130 #[.pointer (some ⟨b, 0, none⟩)] w fun e w' => e = .returned (.tuple #[]) ∧ w' = w.setCell ⟨b, 0, none⟩ (.pointer (some ⟨b, 0, none⟩)) := by
  obtain ⟨j, hj, hjs⟩ := Option.map_eq_some_iff.1 (show (Tryz.prog.info? 159).map (·.size) = some 2 by kernel_rfl)
  go_enter Tryz.func130, Tryz.ntmps130
  go_wp2
  rw [Lib.run_to_unsafe w ⟨b, 0, none⟩ Tryz.underlying112 Tryz.underlying220 hj (by rw [hjs]; decide) hsh (Nat.zero_lt_succ 1)]
  simp only [Result.andThen]
  rw [Oper.upon_value]
  go_wp2
  rw [run_callFunc_extern Tryz.func160 (by kernel_rfl) (by kernel_rfl) (by kernel_rfl) (e := Extern.AbiNoEscape.same) (by kernel_rfl)]
  rw [Lib.run_noEscape]
  simp only [Result.andThen]
  rw [Oper.upon_value]
  go_wp2
  rw [Lib.run_from_unsafe w ⟨b, 0, none⟩ Tryz.underlying220 Tryz.underlying112 hj hsh (by kernel_rfl)]
  simp only [Result.andThen]
  rw [Oper.upon_value]
  go_wp2
  go_end0
  exact ⟨rfl, rfl⟩
end Go.Proofs.YtokemibmanjpmaaGreatDoor

namespace Go.Proofs.YtokemibmanjpmaaGreatDoor
set_option linter.unusedVariables false
set_option linter.unusedSimpArgs false
open Go.Proofs Go.Shelf Go.RowKit Go.Lib
/-- A builder that has written. -/
abbrev Used (B b : Nat) (bs : List Value) (w : World) : Prop := BuilderAt 159 5 B b (.pointer (some ⟨b, 0, none⟩)) bs w
abbrev Bldr (B b : Nat) (bs : List Value) (w : World) : Prop := IsBuilder 159 5 B b bs w
theorem check_any (B b : Nat) (bs : List Value) (w : World) (h : Bldr B b bs w) :
    Calls Tryz.prog 130 #[.pointer (some ⟨b, 0, none⟩)] w fun e w' => e = .returned (.tuple #[]) ∧ Used B b bs w' ∧ Below B w w' := by
  rcases h with h | h
  · refine (check_fresh b w h.cell0 h.shape h.frozen0).mono ?_
    rintro e w' ⟨rfl, rfl⟩
    exact ⟨rfl, h.used _, (Below.refl B w).setCell (p := ⟨b, 0, none⟩) h.1 _⟩
  · refine (check_used b w h.cell0).mono ?_
    rintro e w' ⟨rfl, rfl⟩
    exact ⟨rfl, h, Below.refl B _⟩
theorem lt_of_some {w : World} {b : Nat} {o : Obj} (h : w.heap[b]? = some o) : b < w.heap.size := (Array.getElem?_eq_some_iff.1 h).1
theorem own_slice {w : World} {B e n : Nat} {v : Value} {xs : List Value} (h : w.ownsRow B e 1 v n xs) : ∃ a m c, v = .slice a m c := by
  rcases h.2 with ⟨h, _⟩ | ⟨g, cap, cur, h, _⟩ <;> exact ⟨_, _, _, h⟩
set_option maxHeartbeats 1000000 in
set_option maxRecDepth 100000 in
theorem write_string (B b : Nat) (bs : List Value) (s : ByteArray) (w : World) (h : Bldr B b bs w) (hl : bs.length + s.size ≤ 2 ^ 40) (hB0 : B ≤ w.heap.size) :
    Calls Tryz.prog 96 #[.pointer (some ⟨b, 0, none⟩), .string s] w fun e w' => e = .returned (.tuple #[.int .i64 s.size, .nilIface]) ∧ Used B b (bs ++ strCells s) w' ∧ Below B w w' := by
  obtain ⟨i0, hi, z0, z1, z2⟩ := info_parts (show (Tryz.prog.info? 5).map (fun i => (i.zero, i.size, i.bytes)) = some (some (.int .u8 0), 1, 1) by kernel_rfl)
  have e64 : ∀ args w, (callFunc 130 args).run Tryz.prog w = .ok (.enter 130 args) w := enters_of Tryz.func130 (by kernel_rfl) rfl
  go_enter Tryz.func96, Tryz.ntmps96
  go_wp2_with (go_at_call 130; refine (check_any B b bs _ h).mono ?_)
  rintro e w1 ⟨rfl, h1, u1⟩
  obtain ⟨hB, v, hk, own1, ne1⟩ := h1
  have k0 : w1.cell? ⟨b, 0, none⟩ = some (.pointer (some ⟨b, 0, none⟩)) := by rw [cell_of_heap hk]; rfl
  have k1 : w1.cell? ⟨b, 1, none⟩ = some v := by rw [cell_of_heap hk]; rfl
  have hB1 : B ≤ w1.heap.size := Nat.le_trans hB0 u1.size
  go_wp2_with (at_builtin; refine wpList_append_own_string _ rfl _ _ 157 9 rfl B 5 i0 Tryz.underlying157 Tryz.underlying9 hi z0 z1 z2 _ _ _ rfl own1 s rfl (by unfold maxLen; omega) (by omega) hB1 ?_)
  intro v' w2 own2 grew _
  have hk2 : w2.heap[b]? = some (.cells #[.pointer (some ⟨b, 0, none⟩), v] 159 (0, 0)) := by rw [grew.block b (lt_of_some hk) (fun e => ne1 e.symm)]; exact hk
  have q0 : w2.cell? ⟨b, 0, none⟩ = some (.pointer (some ⟨b, 0, none⟩)) := by rw [cell_of_heap hk2]; rfl
  have q1 : w2.cell? ⟨b, 1, none⟩ = some v := by rw [cell_of_heap hk2]; rfl
  have q2 : w2.frozen? ⟨b, 1, none⟩ = false := frozen_of_heap hk2 1
  obtain ⟨a', m', c', rfl⟩ := own_slice own2
  go_wp2
  go_ret2
  refine ⟨rfl, BuilderAt.put (T := 159) (e := 5) hB hk2 (bs' := bs ++ strCells s) (by simpa [strCells_length] using own2) (by decide), ?_⟩
  exact (u1.grown grew hB1 (fun k hk => (own1.lt k hk).1)).setCell (p := ⟨b, 1, none⟩) hB _
set_option maxHeartbeats 1000000 in
set_option maxRecDepth 100000 in
theorem write_byte (B b : Nat) (bs : List Value) (c : Int) (w : World) (h : Bldr B b bs w) (hl : bs.length ≤ 2 ^ 40) (hB0 : B ≤ w.heap.size) :
    Calls Tryz.prog 97 #[.pointer (some ⟨b, 0, none⟩), .int .u8 c] w fun e w' => e = .returned .nilIface ∧ Used B b (bs ++ [.int .u8 c]) w' ∧ Below B w w' := by
  obtain ⟨i0, hi, z0, z1, z2⟩ := info_parts (show (Tryz.prog.info? 5).map (fun i => (i.zero, i.size, i.bytes)) = some (some (.int .u8 0), 1, 1) by kernel_rfl)
  have e64 : ∀ args w, (callFunc 130 args).run Tryz.prog w = .ok (.enter 130 args) w := enters_of Tryz.func130 (by kernel_rfl) rfl
  go_enter Tryz.func97, Tryz.ntmps97
  go_wp2_with (go_at_call 130; refine (check_any B b bs _ h).mono ?_)
  rintro e w1 ⟨rfl, h1, u1⟩
  obtain ⟨hB, v, hk, own1, ne1⟩ := h1
  have k0 : w1.cell? ⟨b, 0, none⟩ = some (.pointer (some ⟨b, 0, none⟩)) := by rw [cell_of_heap hk]; rfl
  have k1 : w1.cell? ⟨b, 1, none⟩ = some v := by rw [cell_of_heap hk]; rfl
  have hB1 : B ≤ w1.heap.size := Nat.le_trans hB0 u1.size
  have hlt := lt_of_some hk
  go_wp2_with (at_builtin; refine wpList_append_own _ rfl _ _ 157 rfl B 5 i0 (.int .u8 0) 1 1 Tryz.underlying157 hi z0 z1 z2 rfl (by decide) _ _ _ rfl (own1.alloc _) ⟨w1.heap.size, 0, none⟩ 1 1 [.int .u8 c] rfl rfl ?r1 ?r2 ?r3 ?r4 ?r5 ?_)
  case r1 =>
    intro j u hj
    match j, hj with
    | 0, hj => simp at hj; subst hj; simp [Addr.add]
  case r2 => intro u hu; simp at hu; subst hu; rfl
  case r3 => unfold maxLen; omega
  case r4 => omega
  case r5 => simp; omega
  intro v' w2 own2 grew _
  have hk2 : w2.heap[b]? = some (.cells #[.pointer (some ⟨b, 0, none⟩), v] 159 (0, 0)) := by
    rw [grew.block b (by simp; omega) (fun e => ne1 e.symm), alloc_old w1 _ b hlt]
    exact hk
  have q0 : w2.cell? ⟨b, 0, none⟩ = some (.pointer (some ⟨b, 0, none⟩)) := by rw [cell_of_heap hk2]; rfl
  have q1 : w2.cell? ⟨b, 1, none⟩ = some v := by rw [cell_of_heap hk2]; rfl
  have q2 : w2.frozen? ⟨b, 1, none⟩ = false := frozen_of_heap hk2 1
  obtain ⟨a', m', c', rfl⟩ := own_slice own2
  go_wp2
  go_ret
  refine ⟨rfl, BuilderAt.put (T := 159) (e := 5) hB hk2 (bs' := bs ++ [.int .u8 c]) (by simpa using own2) (by decide), ?_⟩
  exact ((u1.alloc hB1 _).grown grew (by simp; omega) (fun k hk => (own1.lt k hk).1)).setCell (p := ⟨b, 1, none⟩) hB _
end Go.Proofs.YtokemibmanjpmaaGreatDoor

namespace Go.Proofs.YtokemibmanjpmaaGreatDoor
set_option linter.unusedVariables false
set_option linter.unusedSimpArgs false
set_option linter.unnecessarySimpa false
open Go.Proofs Go.Shelf Go.RowKit Go.Hp
/-- The bytes of a text. -/
abbrev bytes (s : ByteArray) : List UInt8 := s.data.toList
theorem out_below {w w' : World} (h : Below w.heap.size w w') : Hp.Out w w' := ⟨h.tape, h.os, h.output, fun d => d.elim⟩
theorem ext_below {w w' : World} (h : Below w.heap.size w w') : Hp.Ext w.heap w'.heap := ⟨h.size, h.block⟩
/-- The text of some bytes. -/
def str (l : List UInt8) : ByteArray := ⟨l.toArray⟩
theorem bytes_str (l : List UInt8) : bytes (str l) = l := rfl
theorem str_bytes (s : ByteArray) : str (bytes s) = s := rfl
theorem bytes_len (s : ByteArray) : (bytes s).length = s.size := (Lib.size_eq s).symm
theorem str_size (l : List UInt8) : (str l).size = l.length := by rw [← bytes_len, bytes_str]
theorem str_inj {l m : List UInt8} : str l = str m ↔ l = m := ⟨fun h => by rw [← bytes_str l, h, bytes_str], fun h => by rw [h]⟩
theorem toList_str (l : List UInt8) : (str l).toList = l := by rw [Lib.toList_data]; rfl
theorem toList_bytes (s : ByteArray) : s.toList = bytes s := Lib.toList_data s
theorem extract_str (s : ByteArray) (i j : Nat) : s.extract i j = str (((bytes s).take j).drop i) := by
  rw [← str_bytes (s.extract i j)]
  congr 1
  show (s.extract i j).data.toList = _
  rw [Lib.extract_data, List.drop_take]
end Go.Proofs.YtokemibmanjpmaaGreatDoor

namespace Go.Proofs.YtokemibmanjpmaaGreatDoor
set_option linter.unusedVariables false
set_option linter.unusedSimpArgs false
set_option linter.unnecessarySimpa false
open Go.Proofs Go.Shelf Go.RowKit Go.Hp
theorem new_fresh {h : Heap} {o : Obj} {K : Addr → Heap → Prop} (hk : K ⟨h.size, 0, none⟩ (h.push o)) : newP h o K := hk
theorem bldr_heap {B b : Nat} {bs : List Value} {w w' : World} (e : w'.heap = w.heap) (h : Bldr B b bs w) : Bldr B b bs w' := by
  simpa only [Bldr, Lib.IsBuilder, Lib.BuilderAt, World.ownsRow, e] using h
/-- A builder in memory, in a block of its own. -/
def BH (B b : Nat) (l : List UInt8) (h : Heap) : Prop := ∀ w : World, w.heap = h → Bldr B b (Lib.byteCells l) w
theorem BH.of {B b : Nat} {l : List UInt8} {w : World} (h : Bldr B b (Lib.byteCells l) w) : BH B b l w.heap := fun w' e => bldr_heap e h
theorem at_ext {T e B b : Nat} {p : Value} {bs : List Value} {w w' : World} (x : Ext w.heap w'.heap) (h : Lib.BuilderAt T e B b p bs w) : Lib.BuilderAt T e B b p bs w' := by
  obtain ⟨h1, v, h2, h3, h4⟩ := h
  refine ⟨h1, v, x.blk h2, ⟨h3.1, ?_⟩, h4⟩
  rcases h3.2 with h | ⟨g, cap, cur, a1, a2, a3, a4⟩
  · exact .inl h
  · exact .inr ⟨g, cap, cur, a1, a2, x.blk a3, a4⟩
theorem BH.ext {B b : Nat} {l : List UInt8} {h h' : Heap} (k : BH B b l h) (e : Ext h h') : BH B b l h' := fun w hw => by
  subst hw
  have := k { w with heap := h } rfl
  rcases this with g | g
  · exact .inl (at_ext (w := { w with heap := h }) (w' := w) e g)
  · exact .inr (at_ext (w := { w with heap := h }) (w' := w) e g)
theorem ext_low {g0 : Heap} {w w' : World} (e : Ext g0 w.heap) (b : Below g0.size w w') : Ext g0 w'.heap := ⟨Nat.le_trans e.size b.size, fun k hk => (b.block k hk).trans (e.at_ k hk)⟩
section
variable {g0 h : Heap} {b : Nat} {l : List UInt8}
theorem WriteString_of {s : List UInt8} {K : Int → Value → Heap → Prop} (e : Ext g0 h) (k : BH g0.size b l h) (hl : l.length + s.length ≤ 2 ^ 40) (hk : ∀ n v h', Ext g0 h' → BH g0.size b (l ++ s) h' → K n v h') : strings_Builder_WriteString (some ⟨b, 0, none⟩) (str s) h K := by
  intro w hw
  subst hw
  refine ⟨enters_of Tryz.func96 (by kernel_rfl) rfl _ _, (write_string g0.size b (Lib.byteCells l) (str s) w (k w rfl) (by rw [Lib.byteCells_length, str_size]; exact hl) e.size).mono ?_⟩
  rintro x w' ⟨rfl, hu, hb⟩
  refine ⟨_, rfl, ⟨hb.tape, hb.os, hb.output, fun d => d.elim⟩, hk _ _ _ (ext_low e hb) (BH.of (.inr ?_))⟩
  have : Lib.byteCells l ++ Lib.strCells (str s) = Lib.byteCells (l ++ s) := by rw [Lib.byteCells_append]; rfl
  rw [← this]; exact hu
theorem WriteByte_of {c : UInt8} {K : Value → Heap → Prop} (e : Ext g0 h) (k : BH g0.size b l h) (hl : l.length ≤ 2 ^ 40) (hk : ∀ v h', Ext g0 h' → BH g0.size b (l ++ [c]) h' → K v h') : strings_Builder_WriteByte (some ⟨b, 0, none⟩) (c.toNat : Int) h K := by
  intro w hw
  subst hw
  refine ⟨enters_of Tryz.func97 (by kernel_rfl) rfl _ _, (write_byte g0.size b (Lib.byteCells l) (c.toNat : Int) w (k w rfl) (by rw [Lib.byteCells_length]; exact hl) e.size).mono ?_⟩
  rintro x w' ⟨rfl, hu, hb⟩
  refine ⟨_, rfl, ⟨hb.tape, hb.os, hb.output, fun d => d.elim⟩, hk _ _ (ext_low e hb) (BH.of (.inr ?_))⟩
  have : Lib.byteCells l ++ [.int .u8 (c.toNat : Int)] = Lib.byteCells (l ++ [c]) := by rw [Lib.byteCells_append]; rfl
  rw [← this]; exact hu
theorem String_of {K : ByteArray → Heap → Prop} (e : Ext g0 h) (k : BH g0.size b l h) (hk : ∀ h', Ext g0 h' → K (str l) h') : strings_Builder_String (some ⟨b, 0, none⟩) h K := by
  intro w hw
  subst hw
  refine ⟨enters_of Tryz.func58 (by kernel_rfl) rfl _ _, (Tryz.Builder_String_any g0.size b l w (k w rfl) e.size).mono ?_⟩
  rintro x w' ⟨rfl, hb⟩
  exact ⟨_, rfl, ⟨hb.tape, hb.os, hb.output, fun d => d.elim⟩, hk _ (ext_low e hb)⟩
end
end Go.Proofs.YtokemibmanjpmaaGreatDoor

namespace Go.Proofs.YtokemibmanjpmaaGreatDoor
set_option linter.unusedVariables false
set_option linter.unusedSimpArgs false
set_option linter.unnecessarySimpa false
open Go.Proofs Go.Shelf Go.RowKit Go.Hp
/-- Put together with blanks between. -/
def tailJ (acc : List UInt8) : List (List UInt8) → List UInt8
  | [] => acc
  | x :: r => tailJ (acc ++ [32] ++ x) r
def joinB : List (List UInt8) → List UInt8
  | [] => []
  | x :: r => tailJ x r
def sumL (ls : List (List UInt8)) : Nat := (ls.map List.length).sum
theorem sumL_cons (x : List UInt8) (r : List (List UInt8)) : sumL (x :: r) = x.length + sumL r := by simp [sumL]
theorem sumL_mem {ls : List (List UInt8)} {x : List UInt8} (h : x ∈ ls) : x.length ≤ sumL ls := by
  induction ls with
  | nil => cases h
  | cons y r ih =>
    rw [sumL_cons]
    rcases List.mem_cons.1 h with rfl | h
    · omega
    · have := ih h; omega
theorem tailJ_app : ∀ (r : List (List UInt8)) (a b : List UInt8), tailJ (a ++ b) r = a ++ tailJ b r
  | [], a, b => rfl
  | x :: r, a, b => by
    show tailJ (a ++ b ++ [32] ++ x) r = a ++ tailJ (b ++ [32] ++ x) r
    rw [← tailJ_app r]; simp
theorem joinB_two (x y : List UInt8) (r : List (List UInt8)) : joinB (x :: y :: r) = x ++ 32 :: joinB (y :: r) := by
  show tailJ (x ++ [32] ++ y) r = x ++ 32 :: tailJ y r
  rw [tailJ_app]; simp
theorem sumL_join : ∀ (ls : List (List UInt8)), (joinB ls).length ≤ sumL ls + ls.length
  | [] => by simp [joinB]
  | [x] => by rw [sumL_cons]; show x.length ≤ _; omega
  | x :: y :: r => by
    have := sumL_join (y :: r)
    rw [joinB_two, sumL_cons]
    simp at this ⊢
    omega
theorem str_app (a b : List UInt8) : str a ++ str b = str (a ++ b) := by
  apply ByteArray.ext
  show (str a ++ str b).data = _
  rw [ByteArray.data_append]
  simp [str]
end Go.Proofs.YtokemibmanjpmaaGreatDoor

namespace Go.Proofs.YtokemibmanjpmaaGreatDoor
set_option linter.unusedVariables false
set_option linter.unusedSimpArgs false
set_option linter.unnecessarySimpa false
open Go.Proofs Go.Shelf Go.RowKit Go.Hp
/-- The table of the powers of ten is there. -/
def TabP (h : Heap) : Prop := ∀ w : World, w.heap = h → Lib.TabIs Tryz.prog w "internal/strconv.uint64pow10" .u64 Lib.pow10Tab
theorem FormatInt_of {n : Int} {h : Heap} {K : ByteArray → Heap → Prop} (ht : TabP h) (h0 : -9223372036854775808 ≤ n) (h1 : n ≤ 9223372036854775807) (hk : ∀ h', Ext h h' → K (str (Lib.itoa n)) h') : strconv_FormatInt n 10 h K := by
  intro w hw
  subst hw
  refine ⟨enters_of Tryz.func98 (by kernel_rfl) rfl _ _, (Any.strconv_FormatInt_10 Tryz.fmtI n h0 h1 w (ht w rfl)).mono ?_⟩
  rintro e w' ⟨rfl, k, os, rfl⟩
  have hb : Below w.heap.size w (Go.Sort.grow (w.drewN k) os) := ⟨rfl, rfl, rfl, by simp [Go.Sort.grow, World.drewN], fun i hi => by simp [Go.Sort.grow, World.drewN, Array.getElem?_append_left hi]⟩
  exact ⟨_, rfl, out_below hb, hk _ (ext_below hb)⟩
end Go.Proofs.YtokemibmanjpmaaGreatDoor

namespace Go.Proofs.YtokemibmanjpmaaGreatDoor
set_option linter.unusedVariables false
set_option linter.unusedSimpArgs false
open Go.Proofs Go.Lib
/-- Is this byte a digit? -/
def dgB (c : UInt8) : Bool := decide (48 ≤ c.toNat) && decide (c.toNat ≤ 57)
/-- The number of some digits, behind 'acc'. -/
def stepN (a : Nat) (c : UInt8) : Nat := a * 10 + (c.toNat - 48)
def valN (acc : Nat) (l : List UInt8) : Nat := l.foldl stepN acc
theorem valN_cons (acc : Nat) (c : UInt8) (r : List UInt8) : valN acc (c :: r) = valN (acc * 10 + (c.toNat - 48)) r := by
  unfold valN; rw [List.foldl_cons]; rfl
theorem valN_ge : ∀ (l : List UInt8) (acc : Nat), acc ≤ valN acc l
  | [], acc => Nat.le_refl _
  | c :: r, acc => by
    have := valN_ge r (acc * 10 + (c.toNat - 48))
    rw [valN_cons]
    omega
theorem dg_iff {c : UInt8} : dgB c = true ↔ 48 ≤ c.toNat ∧ c.toNat ≤ 57 := by simp [dgB]
theorem pu_cons (M acc : Nat) (c : UInt8) (r : List UInt8) : parseUintM M acc (c :: r) = if 48 ≤ c.toNat ∧ c.toNat ≤ 57 then (if 1844674407370955162 ≤ acc then .range else if M < acc * 10 + (c.toNat - 48) then .range else parseUintM M (acc * 10 + (c.toNat - 48)) r) else .syntax := by
  rw [parseUintM]
theorem parse_digits {M : Nat} (hM : ∀ acc d : Nat, 1844674407370955162 ≤ acc → M < acc * 10 + d) (l : List UInt8) : ∀ (acc : Nat), l.all dgB = true → acc ≤ M → parseUintM M acc l = if valN acc l ≤ M then .ok (valN acc l) else .range := by
  induction l with
  | nil => intro acc _ ha; rw [if_pos (show valN acc [] ≤ M from ha)]; rfl
  | cons c r ih =>
    intro acc h ha
    simp only [List.all_cons, Bool.and_eq_true] at h
    have hc := dg_iff.1 h.1
    have hg := valN_ge r (acc * 10 + (c.toNat - 48))
    rw [pu_cons, if_pos hc, valN_cons]
    by_cases h1 : 1844674407370955162 ≤ acc
    · have hb := hM acc (c.toNat - 48) h1
      rw [if_pos h1, if_neg (Nat.not_le.2 (Nat.lt_of_lt_of_le hb hg))]
    · rw [if_neg h1]
      by_cases h2 : M < acc * 10 + (c.toNat - 48)
      · rw [if_pos h2, if_neg (Nat.not_le.2 (Nat.lt_of_lt_of_le h2 hg))]
      · rw [if_neg h2]
        exact ih _ h.2 (Nat.not_lt.1 h2)
theorem byte_dig {c : UInt8} (h : 48 ≤ c.toNat) : UInt8.ofNat (48 + (c.toNat - 48)) = c := by
  rw [show 48 + (c.toNat - 48) = c.toNat by omega]; simp
theorem dec_step {a d : Nat} (ha : 1 ≤ a) (hd : d < 10) : decDigits (a * 10 + d) = decDigits a ++ [UInt8.ofNat (48 + d)] := by
  rw [decDigits, dif_neg (by omega), show (a * 10 + d) / 10 = a by omega, show (a * 10 + d) % 10 = d by omega]
theorem dec_val (l : List UInt8) : ∀ (a : Nat), 1 ≤ a → l.all dgB = true → decDigits (valN a l) = decDigits a ++ l := by
  induction l with
  | nil => intro a _ _; rw [List.append_nil]; rfl
  | cons c r ih =>
    intro a ha h
    simp only [List.all_cons, Bool.and_eq_true] at h
    have hc := dg_iff.1 h.1
    rw [valN_cons, ih _ (Nat.le_trans ha (by omega)) h.2, dec_step ha (by omega), byte_dig hc.1, List.append_assoc]
    rfl
/-- The digits of a number, without a 0 ahead. -/
def natB (l : List UInt8) : Bool := l.all dgB && (l == [48] || (l.head?.any fun c => c != 48))
theorem natB_dec {l : List UInt8} (h : natB l = true) : decDigits (valN 0 l) = l := by
  simp only [natB, Bool.and_eq_true, Bool.or_eq_true, beq_iff_eq] at h
  obtain ⟨hd, rfl | hh⟩ := h
  · rw [decDigits]; rfl
  · match l, hd, hh with
    | [], _, hh => simp at hh
    | c :: r, hd, hh =>
      simp only [List.all_cons, Bool.and_eq_true] at hd
      have hc := dg_iff.1 hd.1
      have hn : c ≠ 48 := by simpa using hh
      have hn' : c.toNat ≠ 48 := fun e => hn (UInt8.toNat_inj.1 e)
      rw [valN_cons, dec_val r _ (by omega) hd.2, decDigits, dif_pos (by omega), show 48 + (0 * 10 + (c.toNat - 48)) = 48 + (c.toNat - 48) by omega, byte_dig hc.1]
      rfl
end Go.Proofs.YtokemibmanjpmaaGreatDoor

namespace Go.Proofs.YtokemibmanjpmaaGreatDoor
set_option linter.unusedVariables false
set_option linter.unusedSimpArgs false
open Go.Proofs Go.Lib
/-- Is this text a number's digits? -/
def formL (l : List UInt8) : Bool := if l.head? = some 45 then natB l.tail && l.tail != [48] else natB l
/-- The number of these digits. -/
def valI (l : List UInt8) : Int := if l.head? = some 45 then -(valN 0 l.tail : Int) else (valN 0 l : Int)
theorem valN_pos {l : List UInt8} (h : natB l = true) (h0 : l ≠ [48]) : 1 ≤ valN 0 l := by
  simp only [natB, Bool.and_eq_true, Bool.or_eq_true, beq_iff_eq] at h
  obtain ⟨hd, hh⟩ := h
  have hh := hh.resolve_left h0
  match l, hd, hh with
  | [], _, hh => simp at hh
  | c :: r, hd, hh =>
    simp only [List.all_cons, Bool.and_eq_true] at hd
    have hc := dg_iff.1 hd.1
    have hn : c ≠ 48 := by simpa using hh
    have hn' : c.toNat ≠ 48 := fun e => hn (UInt8.toNat_inj.1 e)
    rw [valN_cons]
    have := valN_ge r (0 * 10 + (c.toNat - 48))
    omega
theorem itoa_val {l : List UInt8} (h : formL l = true) : itoa (valI l) = l := by
  unfold formL at h
  unfold valI
  split at h
  · rename_i hh
    rw [if_pos hh]
    simp only [Bool.and_eq_true, bne_iff_ne, ne_eq] at h
    rw [itoa_neg _ (valN_pos h.1 h.2), natB_dec h.1]
    match l, hh with
    | c :: r, hh => simp at hh; subst hh; rfl
  · rename_i hh
    rw [if_neg hh, itoa_nonneg, natB_dec h]
theorem natB_ne {l : List UInt8} (h : natB l = true) : l ≠ [] := by rintro rfl; simp [natB] at h
theorem natB_all {l : List UInt8} (h : natB l = true) : l.all dgB = true := by simp only [natB, Bool.and_eq_true] at h; exact h.1
theorem uint_form {l : List UInt8} (h : natB l = true) : parseUintB 64 l = if valN 0 l ≤ 18446744073709551615 then .ok (valN 0 l) else .range := by
  unfold parseUintB
  rw [if_neg (natB_ne h), show (2 ^ 64 - 1 : Nat) = 18446744073709551615 by decide]
  exact parse_digits (fun acc d h => by omega) l 0 (natB_all h) (by omega)
theorem parse_form {l : List UInt8} (h : formL l = true) : parseIntB 64 l = if -9223372036854775808 ≤ valI l ∧ valI l ≤ 9223372036854775807 then .ok (valI l) else .range := by
  unfold formL at h
  unfold valI
  split at h
  · rename_i hh
    rw [if_pos hh]
    simp only [Bool.and_eq_true] at h
    match l, hh, h with
    | c :: r, hh, h =>
      simp at hh; subst hh
      rw [List.tail_cons] at h ⊢
      rw [parseIntB_minus, uint_form h.1]
      generalize valN 0 r = n
      by_cases h1 : n ≤ 18446744073709551615
      · rw [if_pos h1]
        show (if 2 ^ (64 - 1) < n then NumEnd.range else .ok (-(n : Int))) = _
        rw [show (2 ^ (64 - 1) : Nat) = 9223372036854775808 by decide]
        by_cases h2 : 9223372036854775808 < n
        · rw [if_pos h2, if_neg (by omega)]
        · rw [if_neg h2, if_pos (by omega)]
      · rw [if_neg h1, if_neg (by omega)]; rfl
  · rename_i hh
    rw [if_neg hh]
    have ha := natB_all h
    match l, hh, h, ha with
    | [], _, h, _ => exact absurd rfl (natB_ne h)
    | c :: r, hh, h, ha =>
      simp only [List.all_cons, Bool.and_eq_true] at ha
      have hc := dg_iff.1 ha.1
      rw [parseIntB_plain 64 c r (by omega) (by omega), uint_form h]
      generalize valN 0 (c :: r) = n
      by_cases h1 : n ≤ 18446744073709551615
      · rw [if_pos h1]
        show (if 2 ^ (64 - 1) ≤ n then NumEnd.range else .ok (n : Int)) = _
        rw [show (2 ^ (64 - 1) : Nat) = 9223372036854775808 by decide]
        by_cases h2 : 9223372036854775808 ≤ n
        · rw [if_pos h2, if_neg (by omega)]
        · rw [if_neg h2, if_pos (by omega)]
      · rw [if_neg h1, if_neg (by omega)]; rfl
end Go.Proofs.YtokemibmanjpmaaGreatDoor

namespace Go.Proofs.YtokemibmanjpmaaGreatDoor
set_option linter.unusedVariables false
set_option linter.unusedSimpArgs false
open Go.Proofs Go.Lib
theorem valN_app (acc : Nat) (a b : List UInt8) : valN acc (a ++ b) = valN (valN acc a) b := by
  unfold valN; rw [List.foldl_append]
theorem dig_nat {d : Nat} (h : d < 10) : (UInt8.ofNat (48 + d)).toNat = 48 + d := by
  rw [UInt8.toNat_ofNat']; omega
theorem dig_is {d : Nat} (h : d < 10) : dgB (UInt8.ofNat (48 + d)) = true := dg_iff.2 (by rw [dig_nat h]; omega)
theorem dec_facts : ∀ (u : Nat), (decDigits u).all dgB = true ∧ valN 0 (decDigits u) = u ∧ (1 ≤ u → ∃ c r, decDigits u = c :: r ∧ c ≠ 48) := by
  intro u
  induction u using Nat.strongRecOn with
  | _ u ih =>
    by_cases h : u < 10
    · rw [decDigits, dif_pos h]
      refine ⟨by rw [List.all_cons, dig_is h]; rfl, ?_, fun h1 => ⟨_, [], rfl, fun e => ?_⟩⟩
      · rw [valN_cons, dig_nat h]
        show 0 * 10 + (48 + u - 48) = u
        omega
      · have := congrArg UInt8.toNat e
        rw [dig_nat h] at this
        have e2 : (48 : UInt8).toNat = 48 := rfl
        omega
    · obtain ⟨h1, h2, h3⟩ := ih (u / 10) (by omega)
      obtain ⟨c, r, hc, hn⟩ := h3 (by omega)
      have hm : u % 10 < 10 := by omega
      rw [decDigits, dif_neg h]
      refine ⟨by rw [List.all_append, h1, List.all_cons, dig_is hm]; rfl, ?_, fun _ => ⟨c, r ++ [UInt8.ofNat (48 + u % 10)], by rw [hc]; rfl, hn⟩⟩
      rw [valN_app, h2, valN_cons, dig_nat hm]
      show u / 10 * 10 + (48 + u % 10 - 48) = u
      omega
theorem dec_nat (u : Nat) : natB (decDigits u) = true := by
  obtain ⟨h1, _, h3⟩ := dec_facts u
  unfold natB
  rw [h1, Bool.true_and]
  by_cases h : 1 ≤ u
  · obtain ⟨c, r, hc, hn⟩ := h3 h
    rw [hc]; simp [hn]
  · obtain rfl : u = 0 := by omega
    rw [decDigits]; rfl
theorem dec_head (u : Nat) : (decDigits u).head? ≠ some 45 := by
  intro h
  obtain ⟨h1, _, _⟩ := dec_facts u
  match hd : decDigits u, h with
  | c :: r, h =>
    rw [hd] at h1
    simp only [List.head?_cons, Option.some.injEq] at h
    subst h
    simp [dgB] at h1
/-- What is printed is a number's digits, of just this number. -/
theorem itoa_form (n : Int) : formL (itoa n) = true ∧ valI (itoa n) = n := by
  by_cases h : n < 0
  · obtain ⟨u, hu, rfl⟩ : ∃ u : Nat, 1 ≤ u ∧ n = -(u : Int) := ⟨n.natAbs, by omega, by omega⟩
    rw [itoa_neg u hu]
    have h2 := (dec_facts u).2.1
    constructor
    · unfold formL
      rw [if_pos (show (45 :: decDigits u).head? = some 45 from rfl), List.tail_cons, dec_nat u, Bool.true_and, bne_iff_ne]
      intro e
      rw [e] at h2
      have : valN 0 [48] = 0 := rfl
      omega
    · unfold valI
      rw [if_pos (show (45 :: decDigits u).head? = some 45 from rfl), List.tail_cons, h2]
  · obtain ⟨u, rfl⟩ : ∃ u : Nat, n = (u : Int) := ⟨n.toNat, by omega⟩
    rw [itoa_nonneg u]
    constructor
    · unfold formL
      rw [if_neg (dec_head u), dec_nat u]
    · unfold valI
      rw [if_neg (dec_head u), (dec_facts u).2.1]
theorem itoa_ne (n : Int) : itoa n ≠ [] := by
  intro h
  have := (itoa_form n).1
  rw [h] at this
  simp [formL, natB] at this
theorem no_blank {l : List UInt8} (h : formL l = true) : (32 : UInt8) ∉ l := by
  intro hm
  unfold formL at h
  split at h
  · rename_i hh
    match l, hh with
    | c :: r, hh =>
      simp at hh; subst hh
      simp only [List.tail_cons, Bool.and_eq_true] at h
      have := natB_all h.1
      rcases List.mem_cons.1 hm with e | e
      · exact absurd e (by decide)
      · have := List.all_eq_true.1 this _ e
        simp [dgB] at this
  · have := List.all_eq_true.1 (natB_all h) _ hm
    simp [dgB] at this
theorem dec_len : ∀ (k u : Nat), u < 10 ^ (k + 1) → (decDigits u).length ≤ k + 1
  | 0, u, h => by rw [decDigits, dif_pos (by omega)]; simp
  | k + 1, u, h => by
    by_cases c : u < 10
    · rw [decDigits, dif_pos c]; simp
    · rw [decDigits, dif_neg c]
      have := dec_len k (u / 10) (by rw [Nat.pow_succ] at h; omega)
      simp; omega
theorem itoa_len {n : Int} (h0 : -9223372036854775808 ≤ n) (h1 : n ≤ 9223372036854775807) : (itoa n).length ≤ 20 := by
  by_cases h : n < 0
  · obtain ⟨u, hu, rfl⟩ : ∃ u : Nat, 1 ≤ u ∧ n = -(u : Int) := ⟨n.natAbs, by omega, by omega⟩
    rw [itoa_neg u hu]
    have := dec_len 18 u (by omega)
    simp; omega
  · obtain ⟨u, rfl⟩ : ∃ u : Nat, n = (u : Int) := ⟨n.toNat, by omega⟩
    rw [itoa_nonneg u]
    have := dec_len 18 u (by omega)
    omega
/-- Is it a number of 64 bits? -/
def inR (v : Int) : Bool := decide (-9223372036854775808 ≤ v) && decide (v ≤ 9223372036854775807)
theorem inR_iff {v : Int} : inR v = true ↔ -9223372036854775808 ≤ v ∧ v ≤ 9223372036854775807 := by simp [inR]
/-- What a text comes to: the number, and why there is none. -/
def parN (l : List UInt8) : Int := if formL l && inR (valI l) then valI l else 0
def parE (l : List UInt8) : Int := if formL l then (if inR (valI l) then 0 else 10) else 2
theorem par_no {l : List UInt8} (h : formL l = false) : parN l = 0 ∧ parE l = 2 := by simp [parN, parE, h]
theorem par_out {l : List UInt8} (h : formL l = true) (h2 : inR (valI l) = false) : parN l = 0 ∧ parE l = 10 := by simp [parN, parE, h, h2]
theorem par_ok {l : List UInt8} (h : formL l = true) (h2 : inR (valI l) = true) : parN l = valI l ∧ parE l = 0 := by simp [parN, parE, h, h2]
theorem parN_in (l : List UInt8) : inR (parN l) = true := by
  unfold parN
  split
  · rename_i h; exact (Bool.and_eq_true _ _ ▸ h).2
  · decide
theorem par_back {l : List UInt8} (h : parE l = 0) : formL l = true ∧ itoa (parN l) = l := by
  unfold parE at h
  split at h
  · rename_i h1
    split at h
    · rename_i h2
      rw [(par_ok h1 h2).1]
      exact ⟨h1, itoa_val h1⟩
    · cases h
  · cases h
theorem par_itoa {n : Int} (h : inR n = true) : parN (itoa n) = n ∧ parE (itoa n) = 0 := by
  obtain ⟨h1, h2⟩ := itoa_form n
  have := par_ok h1 (by rw [h2]; exact h)
  rw [h2] at this; exact this
/-- The document's question: a number that was wrapped has these digits just if it was not wrapped. -/
theorem wrap_itoa {l : List UInt8} {w : Int} (h : formL l = true) (hw : inR w = true) (hm : ∃ k : Int, valI l = w + k * 18446744073709551616) : (itoa w = l ↔ inR (valI l) = true) ∧ (inR (valI l) = true → w = valI l) := by
  have key : inR (valI l) = true → w = valI l := fun hi => by
    obtain ⟨k, hk⟩ := hm
    have h1 := inR_iff.1 hi
    have h2 := inR_iff.1 hw
    omega
  refine ⟨⟨fun e => ?_, fun hi => ?_⟩, key⟩
  · have := (itoa_form w).2
    rw [e] at this
    rw [this]; exact hw
  · rw [key hi, itoa_val h]
theorem form_long {l : List UInt8} (h : formL l = true) (hl : 20 < l.length) : inR (valI l) = false := by
  cases hi : inR (valI l) with
  | false => rfl
  | true =>
    obtain ⟨h0, h1⟩ := inR_iff.1 hi
    have := itoa_len h0 h1
    rw [itoa_val h] at this
    omega
/-! ### Lists -/
/-- The first part that is none: why, and where. -/
def rdE : List (List UInt8) → Nat → Int × Nat
  | [], _ => (0, 0)
  | x :: r, k => if parE x = 0 then rdE r (k + 1) else (parE x, k)
/-- The parts of a text. -/
def parts (l : List UInt8) (segs : List (List UInt8)) : List (List UInt8) := if l = [] then [] else segs
def rdL (ls : List (List UInt8)) : List Int := if (rdE ls 0).1 = 0 then ls.map parN else []
theorem rdE_bad {x : List UInt8} (hx : parE x ≠ 0) : ∀ (a r : List (List UInt8)) (k : Nat), (∀ y ∈ a, parE y = 0) → rdE (a ++ x :: r) k = (parE x, k + a.length)
  | [], r, k, _ => by simp [rdE, hx]
  | y :: a, r, k, h => by
    rw [List.cons_append, rdE, if_pos (h y (by simp)), rdE_bad hx a r (k + 1) fun z hz => h z (by simp [hz])]
    simp; omega
theorem rdE_good : ∀ (a : List (List UInt8)) (k : Nat), (∀ y ∈ a, parE y = 0) → rdE a k = (0, 0)
  | [], k, _ => rfl
  | y :: a, k, h => by
    rw [rdE, if_pos (h y (by simp)), rdE_good a (k + 1) fun z hz => h z (by simp [hz])]
theorem rdE_zero : ∀ (a : List (List UInt8)) (k : Nat), (rdE a k).1 = 0 → ∀ y ∈ a, parE y = 0
  | [], k, _, y, hy => by cases hy
  | x :: a, k, h, y, hy => by
    rw [rdE] at h
    split at h
    · rename_i hx
      rcases List.mem_cons.1 hy with rfl | hy
      · exact hx
      · exact rdE_zero a _ h y hy
    · rename_i hx; exact absurd h hx
theorem rdL_len (ls : List (List UInt8)) : (rdL ls).length ≤ ls.length := by unfold rdL; split <;> simp
theorem rdL_in (ls : List (List UInt8)) : ∀ n ∈ rdL ls, inR n = true := by
  unfold rdL
  split
  · intro n hn
    obtain ⟨x, _, rfl⟩ := List.mem_map.1 hn
    exact parN_in x
  · intro n hn; cases hn
theorem rd_back {ls : List (List UInt8)} (h : (rdE ls 0).1 = 0) : (rdL ls).map itoa = ls := by
  have hz := rdE_zero ls 0 h
  unfold rdL
  rw [if_pos h, List.map_map]
  have : ∀ (a : List (List UInt8)), (∀ y ∈ a, parE y = 0) → a.map (itoa ∘ parN) = a := by
    intro a
    induction a with
    | nil => intro _; rfl
    | cons x r ih =>
      intro h
      rw [List.map_cons, ih fun y hy => h y (by simp [hy])]
      show itoa (parN x) :: r = x :: r
      rw [(par_back (h x (by simp))).2]
  exact this ls hz
theorem rd_itoa {l : List Int} (h : ∀ n ∈ l, inR n = true) : rdE (l.map itoa) 0 = (0, 0) ∧ rdL (l.map itoa) = l := by
  have h1 : ∀ y ∈ l.map itoa, parE y = 0 := fun y hy => by
    obtain ⟨n, hn, rfl⟩ := List.mem_map.1 hy
    exact (par_itoa (h n hn)).2
  have h2 := rdE_good _ 0 h1
  refine ⟨h2, ?_⟩
  unfold rdL
  rw [h2, if_pos rfl, List.map_map]
  have : ∀ (a : List Int), (∀ y ∈ a, inR y = true) → a.map (parN ∘ itoa) = a := by
    intro a
    induction a with
    | nil => intro _; rfl
    | cons x r ih =>
      intro h
      rw [List.map_cons, ih fun y hy => h y (by simp [hy])]
      show parN (itoa x) :: r = x :: r
      rw [(par_itoa (h x (by simp))).1]
  exact this l h
end Go.Proofs.YtokemibmanjpmaaGreatDoor

namespace Go.Proofs.YtokemibmanjpmaaGreatDoor
set_option linter.unusedVariables false
set_option linter.unusedSimpArgs false
set_option linter.unnecessarySimpa false
open Go.Proofs Go.Shelf Go.RowKit Go.Hp
attribute [local irreducible] Go.Hp.iteB Go.Hp.stC
theorem u8wrap {x : Int} (h0 : 0 ≤ x) (h1 : x < 256) : IntKind.u8.wrap x = x := by rw [IntKind.wrap_u8]; omega
theorem u64wrap {x : Int} (h0 : 0 ≤ x) (h1 : x < 18446744073709551616) : IntKind.u64.wrap x = x := by rw [wrap_u64]; omega
theorem toList_nil_iff {l : List UInt8} : ((str l).toList == (⟨#[]⟩ : ByteArray).toList) = decide (l = []) := by
  have e : (⟨#[]⟩ : ByteArray).toList = [] := toList_str []
  rw [toList_str, e]
  cases l <;> simp
/-- One byte in memory. -/
theorem one_byte {h : Heap} {c : UInt8} {t : Nat} : bytesAt (h.push (.cells #[.int .u8 (c.toNat : Int)] t)) (some ⟨h.size, 0, none⟩) 1 [c] :=
  ⟨rfl, fun j b hj => by
    match j, hj with
    | 0, hj =>
      obtain rfl : c = b := by simpa using hj
      exact ⟨_, rfl, by simp [cell]⟩⟩
theorem Rec_of {n : Int} {h : Heap} {K : ByteArray → Heap → Prop} (hh : straitref06_digits n h K) : straitref06_digits_rec n h K := by
  intro w hw
  obtain ⟨g1, g2⟩ := straitref06_digits.calls hh w hw
  exact ⟨g1, g2.mono fun e w' ⟨v, he, ho, hr⟩ => ⟨v, he, ho, straitref06_digits.ret_elim (fun r h hk => hk) hr⟩⟩
theorem digits_of : ∀ (n : Nat), n < 18446744073709551616 → ∀ {h : Heap} {K : ByteArray → Heap → Prop}, (∀ h', Ext h h' → K (str (Lib.decDigits n)) h') → straitref06_digits (n : Int) h K := by
  intro n
  induction n using Nat.strongRecOn with
  | _ n ih =>
    intro hn h K hk
    unfold straitref06_digits
    refine iteB_intro (fun e => ?_) fun e => ?_
    · have e : n < 10 := by have e := of_decide_eq_true e; omega
      rw [u64wrap (by omega) (by omega), u8wrap (by omega) (by omega)]
      have hd : Lib.decDigits n = [UInt8.ofNat (48 + n)] := by rw [Lib.decDigits, dif_pos e]
      rw [hd] at hk
      have hc : (48 + (n : Int)) = ((UInt8.ofNat (48 + n)).toNat : Int) := by rw [dig_nat e]; omega
      refine bindV_intro fun m hm => ?_
      rw [hm, hc]
      exact new_fresh ⟨[UInt8.ofNat (48 + n)], one_byte, hk _ ((Ext.refl h).push _)⟩
    · have e : ¬ n < 10 := fun hl => by have := of_decide_eq_false e; omega
      have hm : n % 10 < 10 := by omega
      have hd : Lib.decDigits n = Lib.decDigits (n / 10) ++ [UInt8.ofNat (48 + n % 10)] := by rw [Lib.decDigits, dif_neg e]
      have hl : (Lib.decDigits (n / 10)).length ≤ 20 := dec_len 19 _ (by omega)
      have t1 : (n : Int).tmod 10 = ((n % 10 : Nat) : Int) := by rw [Int.tmod_eq_emod_of_nonneg (by omega)]; omega
      have t2 : (n : Int).tdiv 10 = ((n / 10 : Nat) : Int) := by rw [Int.tdiv_eq_ediv_of_nonneg (by omega)]; omega
      rw [t1, t2, u64wrap (by omega) (by omega), u64wrap (by omega) (by omega), u8wrap (by omega) (by omega)]
      have hc : (48 + ((n % 10 : Nat) : Int)) = ((UInt8.ofNat (48 + n % 10)).toNat : Int) := by rw [dig_nat hm]; omega
      rw [hd] at hk
      refine ⟨by decide, by decide, bindV_intro fun m hm' => ?_⟩
      rw [hm', hc]
      generalize hcc : UInt8.ofNat (48 + n % 10) = c at *
      have hs : ∀ x : List UInt8, x.length ≤ 20 → ((((str x).size + (str [c]).size : Nat) : Int) ≤ 9223372036854775807) := fun x hx => by rw [str_size, str_size]; simp; omega
      refine ⟨callP1.self (Rec_of (ih (n / 10) (by omega) (by omega) fun h1 e1 => ?_)), ?_⟩
      · refine new_fresh ⟨[c], one_byte, hs _ hl, ?_⟩
        have := hk _ (e1.push (.cells #[.int .u8 (c.toNat : Int)] 5))
        rw [← str_app] at this
        exact this
      · refine new_fresh ⟨[c], one_byte, callP1.self (Rec_of (ih (n / 10) (by omega) (by omega) fun h1 e1 => ⟨⟨[c], ⟨rfl, fun j b hj => ?_⟩, rfl⟩, hs _ hl, ?_⟩))⟩
        · obtain ⟨a, ha, hca⟩ := (one_byte (h := h) (c := c) (t := 5)).2 j b hj
          exact ⟨a, ha, e1.cell' hca⟩
        · have := hk _ (((Ext.refl h).push _).trans e1)
          rw [← str_app] at this
          exact this
theorem RPrint_of {n : Int} {h : Heap} {K : ByteArray → Heap → Prop} (h0 : -9223372036854775808 ≤ n) (h1 : n ≤ 9223372036854775807) (hk : ∀ h', Ext h h' → K (str (Lib.itoa n)) h') : straitref06_Print n h K := by
  unfold straitref06_Print
  refine iteB_intro (fun e => ?_) fun e => ?_
  · have e := of_decide_eq_true e
    obtain ⟨u, hu, rfl⟩ : ∃ u : Nat, 1 ≤ u ∧ n = -(u : Int) := ⟨n.natAbs, by omega, by omega⟩
    rw [Lib.itoa_neg u hu] at hk
    rw [wrap64 (x := -(u : Int) + 1) (by omega) (by omega), wrap64 (by omega) (by omega)]
    refine bindV_intro fun m hm => bindV_intro fun m2 hm2 => ?_
    rw [hm, u64wrap (x := 0 - (-(u : Int) + 1)) (by omega) (by omega), u64wrap (by omega) (by omega)] at hm2
    obtain rfl : m2 = (u : Int) := by omega
    refine callP1.self (digits_of u (by omega) fun h1 e1 => ⟨?_, ?_⟩)
    · have := dec_len 18 u (by omega)
      have e45 : (⟨#[45]⟩ : ByteArray).size = 1 := rfl
      rw [str_size, e45]; omega
    · have := hk h1 e1
      have e2 : str (45 :: Lib.decDigits u) = (⟨#[45]⟩ : ByteArray) ++ str (Lib.decDigits u) := (str_app [45] (Lib.decDigits u)).symm
      rw [e2] at this
      exact this
  · have e := of_decide_eq_false e
    obtain ⟨u, rfl⟩ : ∃ u : Nat, n = (u : Int) := ⟨n.toNat, by omega⟩
    rw [Lib.itoa_nonneg u] at hk
    rw [u64wrap (by omega) (by omega)]
    exact callP1.self (digits_of u (by omega) hk)
theorem var_ext {P : Program} {h h' : Heap} {n : String} {cs : Array Value} (g : Nat) (hg : P.globalNamed n = some g) (e : Ext h h') (t : ∀ w : World, w.heap = h → w.var? P n = some cs) : ∀ w : World, w.heap = h' → w.var? P n = some cs := by
  intro w hw
  have := t { w with heap := h } rfl
  unfold World.var? at this ⊢
  rw [hg] at this ⊢
  simp only [Option.bind_some] at this ⊢
  rw [hw]
  have hlt : g < h.size := by
    rcases Nat.lt_or_ge g h.size with hl | hl
    · exact hl
    · rw [Array.getElem?_eq_none hl] at this; cases this
  rw [e.at_ g hlt]; exact this
theorem pow_named : ∃ g, Tryz.prog.globalNamed "internal/strconv.uint64pow10" = some g := Option.isSome_iff_exists.1 (show (Tryz.prog.globalNamed "internal/strconv.uint64pow10").isSome = true by kernel_rfl)
theorem TabP.ext {h h' : Heap} (t : TabP h) (e : Ext h h') : TabP h' := by
  obtain ⟨g, hg⟩ := pow_named
  exact var_ext g hg e t
theorem Print_of {n : Int} {h : Heap} {K : ByteArray → Heap → Prop} (f : TabP h) (hn : inR n = true) (hk : ∀ h', Ext h h' → K (str (Lib.itoa n)) h') : dec_Print n h K := by
  unfold dec_Print
  obtain ⟨h0, h1⟩ := inR_iff.1 hn
  exact callP1.self (FormatInt_of f h0 h1 hk)
def numV (l : List Int) : List Value := l.map (Value.int .i64)
theorem numV_len (l : List Int) : (numV l).length = l.length := by simp [numV]
theorem numV_get {l : List Int} {i : Nat} {x : Int} (h : l[i]? = some x) : (numV l)[i]? = some (.int .i64 x) := by unfold numV; rw [List.getElem?_map, h]; rfl
theorem tailJ_snoc : ∀ (r : List (List UInt8)) (a x : List UInt8), tailJ a (r ++ [x]) = tailJ a r ++ [32] ++ x
  | [], a, x => rfl
  | y :: r, a, x => by rw [List.cons_append, tailJ, tailJ_snoc r, tailJ]
theorem joinB_snoc {a : List (List UInt8)} (x : List UInt8) (h : a ≠ []) : joinB (a ++ [x]) = joinB a ++ [32] ++ x := by
  match a, h with
  | y :: r, _ => rw [List.cons_append, joinB, tailJ_snoc, joinB]
theorem sum_itoa : ∀ (l : List Int), (∀ n ∈ l, inR n = true) → sumL (l.map Lib.itoa) ≤ 20 * l.length
  | [], _ => by simp [sumL]
  | n :: r, h => by
    have := sum_itoa r fun m hm => h m (by simp [hm])
    obtain ⟨h0, h1⟩ := inR_iff.1 (h n (by simp))
    have := itoa_len h0 h1
    rw [List.map_cons, sumL_cons]; simp; omega
theorem list_len {l : List Int} (h : ∀ n ∈ l, inR n = true) (i : Nat) : (joinB ((l.take i).map Lib.itoa)).length ≤ 21 * l.length := by
  have h1 := sumL_join ((l.take i).map Lib.itoa)
  have h2 := sum_itoa (l.take i) fun n hn => h n (List.mem_of_mem_take hn)
  rw [List.length_map] at h1
  have h3 : (l.take i).length ≤ l.length := by rw [List.length_take]; omega
  omega
section
variable {g0 : Heap} {q : Option Addr} {c : Nat}
theorem bldr_new (h : Heap) : BH h.size h.size [] (h.push (.cells #[.pointer none, .slice none 0 0] 159)) := fun w hw =>
  bldr_heap (w := (({ w with heap := h } : World).alloc (.cells #[.pointer none, .slice none 0 0] 159))) hw (Lib.fresh_isBuilder 159 5 { w with heap := h })
theorem list_l0 {K2 : Heap → Prop} {b : Nat} {ls : List Int} (v : valsAt g0 q (numV ls)) (f : TabP g0) (hin : ∀ n ∈ ls, inR n = true) (hb : ls.length ≤ 2 ^ 20)
    (hk : ∀ h', Ext g0 h' → BH g0.size b (joinB (ls.map Lib.itoa)) h' → K2 h') :
    ∀ (d i : Nat) (h : Heap), i + d = ls.length → Ext g0 h → BH g0.size b (joinB ((ls.take i).map Lib.itoa)) h → dec_List.l0 K2 (d + 1) ⟨b, 0, none⟩ q ls.length c (ls.length : Int) (i : Int) h
  | 0, i, h, hi, e, k => by
    unfold dec_List.l0 dec_List.b0
    rw [List.take_of_length_le (by omega)] at k
    exact iteB_neg (decide_eq_false (by omega)) (hk h e k)
  | d + 1, i, h, hi, e, k => by
    unfold dec_List.l0 dec_List.b0
    obtain ⟨n, hn⟩ := get_lt (l := ls) (i := i) (by omega)
    have hi1 := hin n (List.mem_of_getElem? hn)
    obtain ⟨r0, r1⟩ := inR_iff.1 hi1
    have hl := list_len hin i
    have hl2 := itoa_len r0 r1
    obtain ⟨a, ha, g⟩ := (v.ext e) i _ (numV_get hn)
    refine iteB_pos (decide_eq_true (by omega)) ?_
    rw [ha]
    simp -zeta only [chkP_some, Int.toNat_natCast, Nat.mul_one]
    rw [← ha]
    have ht : (ls.take (i + 1)).map Lib.itoa = (ls.take i).map Lib.itoa ++ [Lib.itoa n] := by rw [take_snoc hn, List.map_append]; rfl
    refine ⟨by omega, _, g, iteB_intro (fun e1 => ?_) fun e1 => ?_⟩
    · have e1 := of_decide_eq_true e1
      refine callP1.self (WriteByte_of (c := 32) e k (by omega) fun _ h2 e2 k2 => callP1.self (Print_of (f.ext e2) hi1 fun h3 e3 => callP2.self (WriteString_of (e2.trans e3) (k2.ext e3) (by simp only [List.length_append, List.length_cons, List.length_nil]; omega) fun _ _ h4 e4 k4 => ?_)))
      rw [wrap64 (by omega) (by omega)]
      refine list_l0 v f hin hb hk d (i + 1) h4 (by omega) e4 ?_
      rw [ht, joinB_snoc _ (by intro hh; have := congrArg List.length hh; rw [List.length_map, List.length_take, List.length_nil] at this; omega)]
      exact k4
    · have e1 := of_decide_eq_false e1
      obtain rfl : i = 0 := by omega
      refine callP1.self (Print_of (f.ext e) hi1 fun h3 e3 => callP2.self (WriteString_of (e.trans e3) (k.ext e3) (by omega) fun _ _ h4 e4 k4 => ?_))
      rw [wrap64 (by omega) (by omega)]
      refine list_l0 v f hin hb hk d (0 + 1) h4 (by omega) e4 ?_
      rw [ht]
      exact k4
theorem List_of {h : Heap} {ls : List Int} {K : ByteArray → Heap → Prop} (v : valsAt h q (numV ls)) (f : TabP h) (hin : ∀ n ∈ ls, inR n = true) (hb : ls.length ≤ 2 ^ 20)
    (hk : ∀ h', Ext h h' → K (str (joinB (ls.map Lib.itoa))) h') : dec_List q ls.length c h K := by
  unfold dec_List
  refine new_fresh ⟨ls.length + 1, list_l0 v f hin hb (fun h' e k => ?_) ls.length 0 _ (by omega) ((Ext.refl h).push _) (bldr_new h)⟩
  exact callP1.self (String_of e k fun h2 e2 => hk h2 e2)
theorem rlist_l0 {K2 : ByteArray → Heap → Prop} {ls : List Int} (v : valsAt g0 q (numV ls)) (hin : ∀ n ∈ ls, inR n = true) (hb : ls.length ≤ 2 ^ 20)
    (hk : ∀ h', Ext g0 h' → K2 (str (joinB (ls.map Lib.itoa))) h') :
    ∀ (d i : Nat) (h : Heap), i + d = ls.length → Ext g0 h → straitref06_List.l0 K2 (d + 1) q ls.length c (str (joinB ((ls.take i).map Lib.itoa))) (i : Int) h
  | 0, i, h, hi, e => by
    unfold straitref06_List.l0 straitref06_List.b0
    rw [List.take_of_length_le (by omega)]
    exact iteB_neg (decide_eq_false (by omega)) (hk h e)
  | d + 1, i, h, hi, e => by
    unfold straitref06_List.l0 straitref06_List.b0
    obtain ⟨n, hn⟩ := get_lt (l := ls) (i := i) (by omega)
    have hi1 := hin n (List.mem_of_getElem? hn)
    obtain ⟨r0, r1⟩ := inR_iff.1 hi1
    have hl := list_len hin i
    have hl2 := itoa_len r0 r1
    obtain ⟨a, ha, g⟩ := (v.ext e) i _ (numV_get hn)
    have ht : (ls.take (i + 1)).map Lib.itoa = (ls.take i).map Lib.itoa ++ [Lib.itoa n] := by rw [take_snoc hn, List.map_append]; rfl
    have e32 : (⟨#[32]⟩ : ByteArray) = str [32] := rfl
    rw [ha]
    simp -zeta only [chkP_some, Int.toNat_natCast, Nat.mul_one]
    rw [← ha]
    rw [e32, str_app, str_size, str_size, str_size]
    refine iteB_pos (decide_eq_true (by omega)) (iteB_intro (fun e1 => ⟨by simp only [List.length_append, List.length_cons, List.length_nil]; omega, by omega, _, g, callP1.self (RPrint_of r0 r1 fun h3 e3 => ⟨by rw [str_size]; simp only [List.length_append, List.length_cons, List.length_nil]; omega, ?_⟩)⟩) fun e1 => ⟨by omega, _, g, callP1.self (RPrint_of r0 r1 fun h3 e3 => ⟨by rw [str_size]; omega, ?_⟩)⟩)
    · have e1 := of_decide_eq_true e1
      rw [wrap64 (by omega) (by omega), str_app]
      have := rlist_l0 v hin hb hk d (i + 1) h3 (by omega) (e.trans e3)
      rw [ht, joinB_snoc _ (by intro hh; have := congrArg List.length hh; rw [List.length_map, List.length_take, List.length_nil] at this; omega)] at this
      exact this
    · have e1 := of_decide_eq_false e1
      obtain rfl : i = 0 := by omega
      rw [wrap64 (by omega) (by omega), str_app]
      have := rlist_l0 v hin hb hk d (0 + 1) h3 (by omega) (e.trans e3)
      rw [ht] at this
      exact this
theorem RList_of {h : Heap} {ls : List Int} {K : ByteArray → Heap → Prop} (v : valsAt h q (numV ls)) (hin : ∀ n ∈ ls, inR n = true) (hb : ls.length ≤ 2 ^ 20)
    (hk : ∀ h', Ext h h' → K (str (joinB (ls.map Lib.itoa))) h') : straitref06_List q ls.length c h K := by
  unfold straitref06_List
  exact ⟨ls.length + 1, rlist_l0 v hin hb hk ls.length 0 h (by omega) (Ext.refl h)⟩
end
end Go.Proofs.YtokemibmanjpmaaGreatDoor
