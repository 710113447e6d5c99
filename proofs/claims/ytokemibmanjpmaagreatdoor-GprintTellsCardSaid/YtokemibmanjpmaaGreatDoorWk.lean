/-
  Small laws for walking by simp.
-/
import Derived.Test.YtokemibmanjpmaaGreatDoorSt
namespace Go.Hp
set_option linter.unusedVariables false

theorem ex_int {k : IntKind} {a : Int} {G : Int → Prop} : (∃ x : Int, some (Value.int k a) = some (.int k x) ∧ G x) = G a := by simp
theorem ex_bool {a : Bool} {G : Bool → Prop} : (∃ x : Bool, some (Value.bool a) = some (.bool x) ∧ G x) = G a := by simp
theorem ex_str {a : ByteArray} {G : ByteArray → Prop} : (∃ x : ByteArray, some (Value.string a) = some (.string x) ∧ G x) = G a := by simp
theorem ex_flt {k : FloatKind} {a : Nat} {G : Nat → Prop} : (∃ x : Nat, some (Value.float k a) = some (.float k x) ∧ G x) = G a := by simp
theorem ex_ptr {a : Option Addr} {G : Option Addr → Prop} : (∃ x : Option Addr, some (Value.pointer a) = some (.pointer x) ∧ G x) = G a := by simp
theorem ex_any {a : Value} {G : Value → Prop} : (∃ x : Value, some a = some x ∧ G x) = G a := by simp
theorem ex_slice {a : Option Addr} {l c : Nat} {G : Option Addr → Nat → Nat → Prop} : (∃ (x : Option Addr) (xl xc : Nat), some (Value.slice a l c) = some (.slice x xl xc) ∧ G x xl xc) = G a l c := by
  apply propext; constructor
  · rintro ⟨x, xl, xc, h, g⟩; cases h; exact g
  · intro g; exact ⟨a, l, c, rfl, g⟩
theorem bnd_in {a b : Int} {G : Prop} (h1 : 0 ≤ a) (h2 : a < b) : ((0 ≤ a ∧ a < b) ∧ G) = G := by simp [h1, h2]
theorem eqAll3 (a b c : Bool) : eqAll [a, b, c] = (a && b && c) := by simp [eqAll, Bool.and_assoc]
theorem eqAll2 (a b : Bool) : eqAll [a, b] = (a && b) := by simp [eqAll]
theorem eqAll1 (a : Bool) : eqAll [a] = a := by simp [eqAll]
theorem wrap64 {x : Int} (h1 : -9223372036854775808 ≤ x) (h2 : x < 9223372036854775808) : IntKind.i64.wrap x = x := wrap_id h1 h2

theorem flat_map {α : Type} {f : α → Value} {l : List α} (hf : ∀ a, flat (f a) = true) : ∀ v ∈ l.map f, flat v = true := by
  intro v hv; obtain ⟨a, _, rfl⟩ := List.mem_map.1 hv; exact hf a
theorem take_snoc {α : Type} {l : List α} {i : Nat} {x : α} (h : l[i]? = some x) : l.take (i + 1) = l.take i ++ [x] := by rw [List.take_add_one, h]; rfl
theorem drop_cons {α : Type} {l : List α} {i : Nat} {x : α} (h : l[i]? = some x) : l.drop i = x :: l.drop (i + 1) := by
  have hi := (List.getElem?_eq_some_iff.1 h).1
  rw [List.drop_eq_getElem_cons hi]; congr 1; exact (List.getElem?_eq_some_iff.1 h).2
theorem get_lt {α : Type} {l : List α} {i : Nat} (h : i < l.length) : ∃ x, l[i]? = some x := ⟨_, List.getElem?_eq_getElem h⟩
theorem lt_get {α : Type} {l : List α} {i : Nat} {x : α} (h : l[i]? = some x) : i < l.length := (List.getElem?_eq_some_iff.1 h).1

section
variable {h : Heap} {q : Option Addr} {l : List Value} {i : Nat}
theorem vals_at {k : Addr → Prop} {v : Value} (hv : valsAt h q l) (hx : l[i]? = some v) (hk : ∀ a, q = some a → cell h (a.add i) = some v → k a) : chkP q k := by
  obtain ⟨a, rfl, hc⟩ := hv i v hx; exact hk a rfl hc
theorem vals_int {k : IntKind} {x : Int} {G : Int → Prop} (hv : valsAt h q l) (hx : l[i]? = some (.int k x)) : (chkP q fun a => ∃ y : Int, cell h (a.add i) = some (.int k y) ∧ G y) = G x := by
  obtain ⟨a, rfl, hc⟩ := hv i _ hx; simp [hc]
theorem vals_bool {x : Bool} {G : Bool → Prop} (hv : valsAt h q l) (hx : l[i]? = some (.bool x)) : (chkP q fun a => ∃ y : Bool, cell h (a.add i) = some (.bool y) ∧ G y) = G x := by
  obtain ⟨a, rfl, hc⟩ := hv i _ hx; simp only [chkP_some, hc]; exact ex_bool
theorem vals_flt {k : FloatKind} {x : Nat} {G : Nat → Prop} (hv : valsAt h q l) (hx : l[i]? = some (.float k x)) : (chkP q fun a => ∃ y : Nat, cell h (a.add i) = some (.float k y) ∧ G y) = G x := by
  obtain ⟨a, rfl, hc⟩ := hv i _ hx; simp [hc]
theorem vals_str {x : ByteArray} {G : ByteArray → Prop} (hv : valsAt h q l) (hx : l[i]? = some (.string x)) : (chkP q fun a => ∃ y : ByteArray, cell h (a.add i) = some (.string y) ∧ G y) = G x := by
  obtain ⟨a, rfl, hc⟩ := hv i _ hx; simp [hc]
theorem vals_slice {p : Option Addr} {n c : Nat} {G : Option Addr → Nat → Nat → Prop} (hv : valsAt h q l) (hx : l[i]? = some (.slice p n c)) : (chkP q fun a => ∃ (y : Option Addr) (yl yc : Nat), cell h (a.add i) = some (.slice y yl yc) ∧ G y yl yc) = G p n c := by
  obtain ⟨a, rfl, hc⟩ := hv i _ hx; simp only [chkP_some, hc]; exact ex_slice
end

/-- Rows of threes of integers. -/
def ints3 (n : Nat) (f g k : Nat → Int) : List Value := tab 3 n fun i o => .int .i64 (if o = 0 then f i else if o = 1 then g i else k i)
theorem ints3_length (n : Nat) (f g k : Nat → Int) : (ints3 n f g k).length = n * 3 := tab_length ..
theorem ints3_get0 {n i : Nat} {f g k : Nat → Int} (h : i < n) : (ints3 n f g k)[i * 3]? = some (.int .i64 (f i)) := tab_get (o := 0) h (by omega)
theorem ints3_get1 {n i : Nat} {f g k : Nat → Int} (h : i < n) : (ints3 n f g k)[i * 3 + 1]? = some (.int .i64 (g i)) := tab_get (o := 1) h (by omega)
theorem ints3_get2 {n i : Nat} {f g k : Nat → Int} (h : i < n) : (ints3 n f g k)[i * 3 + 2]? = some (.int .i64 (k i)) := tab_get (o := 2) h (by omega)
theorem ints3_set0 {n i : Nat} {f g k : Nat → Int} {x : Int} : (ints3 n f g k).set (i * 3) (.int .i64 x) = ints3 n (upd f i x) g k := by
  refine (tab_set (o := 0) (by omega)).trans (tab_congr fun a o ha ho => ?_)
  unfold upd; by_cases e : a = i <;> by_cases e2 : o = 0 <;> simp [e, e2]
theorem ints3_set1 {n i : Nat} {f g k : Nat → Int} {x : Int} : (ints3 n f g k).set (i * 3 + 1) (.int .i64 x) = ints3 n f (upd g i x) k := by
  refine (tab_set (o := 1) (by omega)).trans (tab_congr fun a o ha ho => ?_)
  unfold upd; by_cases e : a = i <;> by_cases e2 : o = 0 <;> by_cases e3 : o = 1 <;> simp [e, e2, e3] <;> omega
theorem ints3_set2 {n i : Nat} {f g k : Nat → Int} {x : Int} : (ints3 n f g k).set (i * 3 + 2) (.int .i64 x) = ints3 n f g (upd k i x) := by
  refine (tab_set (o := 2) (by omega)).trans (tab_congr fun a o ha ho => ?_)
  unfold upd; by_cases e : a = i <;> by_cases e2 : o = 0 <;> by_cases e3 : o = 1 <;> simp [e, e2, e3] <;> omega
theorem ints3_congr {n : Nat} {f g k f' g' k' : Nat → Int} (h : ∀ i, i < n → f i = f' i ∧ g i = g' i ∧ k i = k' i) : ints3 n f g k = ints3 n f' g' k' := tab_congr fun i o hi _ => by
  obtain ⟨a, b, c⟩ := h i hi; rw [a, b, c]
theorem ints3_zero (n : Nat) : zeroRow [.int .i64 0, .int .i64 0, .int .i64 0] n = ints3 n (fun _ => 0) (fun _ => 0) (fun _ => 0) := by
  rw [zeroRow_tab]; apply tab_congr; intro i o _ ho
  have : o = 0 ∨ o = 1 ∨ o = 2 := by simp at ho; omega
  rcases this with rfl | rfl | rfl <;> rfl
end Go.Hp
