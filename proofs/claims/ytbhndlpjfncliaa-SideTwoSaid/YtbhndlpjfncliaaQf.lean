/-
  The frame of my own, once more, with draws kept.
-/
import Derived.Orders
import Derived.LoopN
import Derived.Below
import Derived.Deep.Draws
import Derived.Laws.Entries
import Derived.WalkSpells
import Derived.Laws.StructEq
import Derived.Laws.AppendOwn
import Derived.Laws.MakeOwn
import Derived.Maps.RangeRun
import Derived.Scope
import Derived.Laws.Externs
import Derived.RowKit
namespace Go.Hq
set_option linter.unusedVariables false
set_option linter.unusedSimpArgs false

abbrev Heap := Array Obj

def cell (h : Heap) (a : Addr) : Option Value :=
  match h[a.block]? with
  | some (.cells c _ _) => if a.spot.isSome then none else c[a.off]?
  | _ => none

def frz (h : Heap) (a : Addr) : Bool :=
  match h[a.block]? with
  | some (.cells _ _ (lo, hi)) => lo ≤ a.off && a.off < hi
  | _ => false

def setC (h : Heap) (a : Addr) (v : Value) : Heap :=
  h.modify a.block fun
    | .cells c elem frozen => .cells (if a.spot.isSome then c else c.setIfInBounds a.off v) elem frozen
    | o => o

theorem cell_eq (w : World) (a : Addr) : w.cell? a = cell w.heap a := rfl
theorem frz_eq (w : World) (a : Addr) : w.frozen? a = frz w.heap a := rfl
theorem setC_eq (w : World) (a : Addr) (v : Value) : (w.setCell a v).heap = setC w.heap a v := rfl

/-- Is it kept, too, that draws grow? (seatfw.sh: DK=False where a leaf's contract doesn't tell.) -/
abbrev DK : Prop := True
/-- The streams are as they were. -/
structure Out (w w' : World) : Prop where
  tape : w'.tape = w.tape
  os : w'.os = w.os
  output : w'.output = w.output
  drawn : DK → w.drawn ≤ w'.drawn

theorem Out.refl (w : World) : Out w w := ⟨rfl, rfl, rfl, fun _ => Nat.le_refl _⟩
theorem Out.trans {a b c : World} (h : Out a b) (k : Out b c) : Out a c := ⟨k.tape.trans h.tape, k.os.trans h.os, k.output.trans h.output, fun d => Nat.le_trans (h.drawn d) (k.drawn d)⟩
theorem Out.drewN {a b : World} (d : DK) (h : Out a b) (hh : b.heap = a.heap) : b = a.drewN (b.drawn - a.drawn) := by
  obtain ⟨h1, h2, h3, h4⟩ := h
  have h4 := h4 d
  cases a; cases b
  simp only [World.drewN] at *
  subst hh h1 h2 h3
  congr 1
  omega

/-- What kind of value lies in a cell. -/
inductive Sh where
  | int (k : IntKind) | bool | str | flt (k : FloatKind) | ptr | sl | map | any

def rdS : Sh → Option Value → (Value → Prop) → Prop
  | .int k, c, K => ∃ x : Int, c = some (.int k x) ∧ K (.int k x)
  | .bool, c, K => ∃ x : Bool, c = some (.bool x) ∧ K (.bool x)
  | .str, c, K => ∃ x : ByteArray, c = some (.string x) ∧ K (.string x)
  | .flt k, c, K => ∃ x : Nat, c = some (.float k x) ∧ K (.float k x)
  | .ptr, c, K => ∃ x : Option Addr, c = some (.pointer x) ∧ K (.pointer x)
  | .sl, c, K => ∃ (a : Option Addr) (l n : Nat), c = some (.slice a l n) ∧ K (.slice a l n)
  | .map, c, K => ∃ x : Option Nat, c = some (.map x) ∧ K (.map x)
  | .any, c, K => ∃ x : Value, c = some x ∧ K x

/-- Several cells, from one place on. -/
def rdL : List Sh → Heap → Addr → Nat → (List Value → Prop) → Prop
  | [], _, _, _, K => K []
  | s :: r, h, a, i, K => rdS s (cell h (a.add i)) fun v => rdL r h a (i + 1) fun vs => K (v :: vs)

/-- Several cells of a list, from one place on. -/
def rdF : List Sh → List Value → Nat → (List Value → Prop) → Prop
  | [], _, _, K => K []
  | s :: r, cs, i, K => rdS s cs[i]? fun v => rdF r cs (i + 1) fun vs => K (v :: vs)

def flat : Value → Bool
  | .agg _ | .tuple _ => false
  | _ => true

/-- A store into one cell. -/
def stC (h : Heap) (a : Addr) (v : Value) (K : Heap → Prop) : Prop := ((cell h a).isSome = true ∧ frz h a = false) ∧ K (setC h a v)

def stL : List Value → Heap → Addr → Nat → (Heap → Prop) → Prop
  | [], h, _, _, K => K h
  | v :: r, h, a, i, K => match flat v with
    | true => stC h (a.add i) v fun h' => stL r h' a (i + 1) K
    | false => False

/-- The kinds of a type's cells. -/
def kinds (P : Program) : Nat → TypeId → List Sh
  | 0, _ => []
  | n + 1, t => match P.underlying t with
    | some (.int k) => [.int k]
    | some .bool => [.bool]
    | some .string => [.str]
    | some (.float k) => [.flt k]
    | some (.pointer _) => [.ptr]
    | some (.slice _) => [.sl]
    | some (.map _ _) => [.map]
    | some (.struct fs) => fs.toList.flatMap fun f => kinds P n f.type
    | some (.array len e) => (List.replicate len (kinds P n e)).flatten
    | _ => [.any]

def iteB (b : Bool) (p q : Prop) : Prop := match b with
  | true => p
  | false => q

theorem iteB_decide (c : Prop) [Decidable c] (p q : Prop) : iteB (decide c) p q = if c then p else q := by
  unfold iteB; by_cases h : c <;> simp [h]
theorem iteB_eq (b : Bool) (p q : Prop) : iteB b p q ↔ (b = true → p) ∧ (b = false → q) := by cases b <;> simp [iteB]
@[simp] theorem iteB_true (p q : Prop) : iteB true p q = p := rfl
@[simp] theorem iteB_false (p q : Prop) : iteB false p q = q := rfl

theorem bif_and (b : Bool) (p : Prop) : (bif b then p else False) ↔ b = true ∧ p := by cases b <;> simp

/-- A name for a value. -/
def bindV {α : Type} (x : α) (K : α → Prop) : Prop := K x
theorem bindV_eq {α : Type} (x : α) (K : α → Prop) : bindV x K = K x := rfl
theorem bindV_intro {α : Type} {x : α} {K : α → Prop} (h : ∀ y, y = x → K y) : bindV x K := h x rfl

def chkP (q : Option Addr) (K : Addr → Prop) : Prop := match q with
  | some a => K a
  | none => False
@[simp] theorem chkP_some (a : Addr) (K : Addr → Prop) : chkP (some a) K = K a := rfl
@[simp] theorem chkP_none (K : Addr → Prop) : chkP none K = False := rfl

/-- Slots and what they hold. -/
abbrev Env := List (Nat × Value)

def get : Env → Nat → Option Value
  | [], _ => none
  | (s, v) :: r, t => bif Nat.beq s t then some v else get r t

def put (E : Env) : Option Tmp → Value → Env
  | some d, v => (d, v) :: E
  | none, _ => E

def getAll (E : Env) : List Nat → Option (List Value)
  | [] => some []
  | t :: r => match get E t with
    | some v => match getAll E r with
      | some vs => some (v :: vs)
      | none => none
    | none => none

def ev (E : Env) : Operand → Option Value
  | .tmp t => get E t
  | .const v => some v
  | .global g => some (.pointer (some ⟨g, 0, none⟩))
  | .func f => some (.func (.func f) #[] #[])

def val (v : Option Value) (K : Value → Prop) : Prop := match v with
  | some v => K v
  | none => False

def vals (ρ : Operand → Option Value) : List Operand → (List Value → Prop) → Prop
  | [], K => K []
  | x :: r, K => match ρ x with
    | some v => vals ρ r fun vs => K (v :: vs)
    | none => False

def eqAll : List Bool → Bool
  | [] => true
  | b :: r => b && eqAll r

def eqCell (P : Program) (t : TypeId) (x y : Value) : Option Bool :=
  match P.underlying t, x, y with
  | some (.int _), .int k a, .int k' b => if k = k' then some (a == b) else none
  | some .bool, .bool a, .bool b => some (a == b)
  | some .string, .string a, .string b => some (a.toList == b.toList)
  | _, _, _ => none

/-- '==' of structs whose fields take a cell each: a Bool a field. -/
def eqRow (P : Program) : Nat → List Field → List Value → List Value → Option (List Bool)
  | _, [], [], [] => some []
  | k, f :: fs, x :: xs, y :: ys => bif Nat.beq f.offset k && !(f.name == "_") then (match eqCell P f.type x y with
    | some b => match eqRow P (k + 1) fs xs ys with
      | some bs => some (b :: bs)
      | none => none
    | none => none) else none
  | _, _, _, _ => none

def eqAgg (P : Program) (t : TypeId) (xs ys : List Value) : Option (List Bool) :=
  match P.underlying t with
  | some (.struct fs) => bif !P.stoodInHeld t && !P.eqGuardType P.depth t then eqRow P 0 fs.toList xs ys else none
  | _ => none

def intBin (op : BinOp) (k : IntKind) (a b : Int) (K : Value → Prop) : Prop :=
  match op with
  | .add => K (.int k (k.wrap (a + b)))
  | .sub => K (.int k (k.wrap (a - b)))
  | .mul => K (.int k (k.wrap (a * b)))
  | .quo => b ≠ 0 ∧ K (.int k (k.wrap (a.tdiv b)))
  | .rem => b ≠ 0 ∧ K (.int k (a.tmod b))
  | .and | .or | .xor | .andNot => K (.int k (bits op k a b))
  | .eql => K (.bool (a == b))
  | .neq => K (.bool (a != b))
  | .lss => K (.bool (decide (a < b)))
  | .leq => K (.bool (decide (a ≤ b)))
  | .gtr => K (.bool (decide (a > b)))
  | .geq => K (.bool (decide (a ≥ b)))
  | _ => False

def strBin (op : BinOp) (a b : ByteArray) (K : Value → Prop) : Prop :=
  match op with
  | .add => ((a.size + b.size : Nat) : Int) ≤ 9223372036854775807 ∧ K (.string (a ++ b))
  | .eql => K (.bool (a.toList == b.toList))
  | .neq => K (.bool !(a.toList == b.toList))
  | .lss => K (.bool (Op.bytesLess a.toList b.toList))
  | .leq => K (.bool (Op.bytesLess a.toList b.toList || a.toList == b.toList))
  | .gtr => K (.bool !(Op.bytesLess a.toList b.toList || a.toList == b.toList))
  | .geq => K (.bool !(Op.bytesLess a.toList b.toList))
  | _ => False

def fltBin (op : BinOp) (k : FloatKind) (a b : Nat) (K : Value → Prop) : Prop :=
  match op with
  | .eql => K (.bool (k.format.order a b == some .eq))
  | .neq => K (.bool (k.format.order a b != some .eq))
  | .lss => K (.bool (k.format.order a b == some .lt))
  | .leq => K (.bool (k.format.order a b == some .lt || k.format.order a b == some .eq))
  | .gtr => K (.bool (k.format.order a b == some .gt))
  | .geq => K (.bool (k.format.order a b == some .gt || k.format.order a b == some .eq))
  | .add => ∃ r, k.format.add a b = some r ∧ K (.float k r)
  | .sub => ∃ r, k.format.sub a b = some r ∧ K (.float k r)
  | .mul => ∃ r, k.format.mul a b = some r ∧ K (.float k r)
  | .quo => ∃ r, k.format.div a b = some r ∧ K (.float k r)
  | _ => False

def binK (P : Program) (op : BinOp) (t : TypeId) (x y : Value) (K : Value → Prop) : Prop :=
  match op, x, y with
  | .shl, .int k a, .int _ b => 0 ≤ b ∧ K (.int k (k.wrap (a * 2 ^ (min b.toNat k.bits))))
  | .shr, .int k a, .int _ b => 0 ≤ b ∧ K (.int k (a.fdiv (2 ^ (min b.toNat k.bits))))
  | op, .int k a, .int k' b => if k = k' then intBin op k a b K else False
  | op, .string a, .string b => strBin op a b K
  | op, .float k a, .float k' b => if k = k' then fltBin op k a b K else False
  | .eql, .bool a, .bool b => match P.underlying t with | some .bool => K (.bool (a == b)) | _ => False
  | .neq, .bool a, .bool b => match P.underlying t with | some .bool => K (.bool (!(a == b))) | _ => False
  | .eql, .pointer q, .pointer none => match P.underlying t with | some (.pointer _) => K (.bool q.isNone) | _ => False
  | .neq, .pointer q, .pointer none => match P.underlying t with | some (.pointer _) => K (.bool (!q.isNone)) | _ => False
  | .eql, .slice q _ _, .slice none _ _ => match P.underlying t with | some (.slice _) => K (.bool q.isNone) | _ => False
  | .neq, .slice q _ _, .slice none _ _ => match P.underlying t with | some (.slice _) => K (.bool (!q.isNone)) | _ => False
  | .eql, .agg xs, .agg ys => match eqAgg P t xs.toList ys.toList with | some bs => K (.bool (eqAll bs)) | _ => False
  | .neq, .agg xs, .agg ys => match eqAgg P t xs.toList ys.toList with | some bs => K (.bool (!eqAll bs)) | _ => False
  | _, _, _ => False

/-- Which type of element, and how many cells one takes. -/
def elemSize (P : Program) (t : TypeId) : Option (TypeId × Nat) := match P.underlying t with
  | some (.slice e) => match P.info? e with
    | some i => some (e, i.size)
    | none => none
  | _ => none

def sliceK (P : Program) (t : TypeId) (x : Value) (lo hi : Option Value) (K : Value → Prop) : Prop :=
  match P.underlying t, x with
  | some .string, .string s =>
    match hi with
    | none => match lo with
      | none => K (.string (s.extract 0 s.size))
      | some (.int _ l) => (0 ≤ l ∧ l ≤ (s.size : Int)) ∧ K (.string (s.extract l.toNat s.size))
      | _ => False
    | some (.int _ u) => match lo with
      | none => (0 ≤ u ∧ u ≤ (s.size : Int)) ∧ K (.string (s.extract 0 u.toNat))
      | some (.int _ l) => (0 ≤ u ∧ u ≤ (s.size : Int)) ∧ (0 ≤ l ∧ l ≤ (u.toNat : Int)) ∧ K (.string (s.extract l.toNat u.toNat))
      | _ => False
    | _ => False
  | some (.slice e), .slice a len cap =>
    match P.info? e with
    | none => False
    | some i =>
      match hi with
      | none => match lo with
        | none => K (.slice (if cap = 0 then a else a.map (·.add (0 * i.size))) len cap)
        | some (.int _ l) => (0 ≤ l ∧ l ≤ (len : Int)) ∧ K (.slice (if cap = l.toNat then a else a.map (·.add (l.toNat * i.size))) (len - l.toNat) (cap - l.toNat))
        | _ => False
      | some (.int _ u) => match lo with
        | none => (0 ≤ u ∧ u ≤ (cap : Int)) ∧ K (.slice (if cap = 0 then a else a.map (·.add (0 * i.size))) u.toNat cap)
        | some (.int _ l) => (0 ≤ u ∧ u ≤ (cap : Int)) ∧ (0 ≤ l ∧ l ≤ (u.toNat : Int)) ∧
            K (.slice (if cap = l.toNat then a else a.map (·.add (l.toNat * i.size))) (u.toNat - l.toNat) (cap - l.toNat))
        | _ => False
      | _ => False
  | _, _ => False

def min2 : Value → Value → Option Value
  | .int k x, .int _ y => some (.int k (if y < x then y else x))
  | _, _ => none
def max2 : Value → Value → Option Value
  | .int k x, .int _ y => some (.int k (if y > x then y else x))
  | _, _ => none
def foldV (f : Value → Value → Option Value) : Value → List Value → Option Value
  | x, [] => some x
  | x, y :: r => match f x y with
    | some z => foldV f z r
    | none => none

def convK (P : Program) (s d : TypeId) (x : Value) (K : Value → Prop) : Prop :=
  match P.underlying s, P.underlying d, x with
  | some _, some (.int k), .int _ n => K (.int k (k.wrap n))
  | some .string, some .string, .string b => K (.string b)
  | some _, some (.float k), .int _ n => K (.float k (k.nearest n))
  | some _, some (.int k), .float q b => ∃ n, (q.decode b).toInt .zero = some n ∧ (k.min ≤ n ∧ n ≤ k.max) ∧ K (.int k n)
  | _, _, _ => False

/-- The offset of a field, and its type, where it takes a cell. -/
def fieldOf (P : Program) (s : TypeId) (f : Nat) : Option (Nat × TypeId × Nat) := match P.underlying s with
  | some (.struct fs) => match fs[f]? with
    | some g => match P.info? g.type with
      | some i => match i.size with
        | 0 => none
        | n + 1 => some (g.offset, g.type, n + 1)
      | none => none
    | none => none
  | _ => none

def aggB (P : Program) (t : TypeId) : Option Bool := match P.underlying t with
  | some (.struct _) => some true
  | some (.array _ _) => some true
  | some _ => some false
  | none => none

/-- What an operation looks at. -/
def opsOf : Op → List Operand
  | .move x | .assign x | .nilCheck x | .unOp _ _ x | .extract x _ | .fieldAddr _ x _ | .field _ x _ | .convert _ _ x | .makeInterface _ x
  | .load _ x | .box _ x => [x]
  | .pick c a b => [c, a, b]
  | .binOp _ _ x y _ | .indexAddr _ x y | .index _ x y | .store _ x y | .makeSlice _ x y => [x, y]
  | .slice _ x lo hi _ => x :: (lo.toList ++ hi.toList)
  | .makeFunc _ first cap => first.toList ++ cap.toList
  | .build _ ps | .buildSlice _ _ ps => ps.toList.map (·.2)
  | .makeMap _ (some r) => [r]
  | .lookup _ x y _ => [x, y]
  | .mapUpdate _ m k x => [m, k, x]
  | .range _ x | .next x _ | .entry x => [x]
  | .call { callee := .value f, args, .. } => f :: args.toList
  | .call { args, .. } => args.toList
  | _ => []

def zeroRow (zero : List Value) : Nat → List Value
  | 0 => []
  | n + 1 => zero ++ zeroRow zero n

def cellsL : Value → List Value
  | .agg cs => cs.toList
  | v => [v]

/-- Parts laid into a row of cells. -/
def setRow : List Value → Nat → List Value → List Value
  | cs, _, [] => cs
  | cs, i, v :: r => setRow (cs.set i v) (i + 1) r

def fillL (place : Nat → Option (Nat × Nat)) : List Value → List Nat → List Value → Option (List Value)
  | cs, [], [] => some cs
  | cs, i :: r, v :: s => match place i with
    | some (off, size) => bif Nat.beq (cellsL v).length size && Nat.ble (off + (cellsL v).length) cs.length then fillL place (setRow cs off (cellsL v)) r s else none
    | none => none
  | _, _, _ => none

def placeOf (P : Program) (fs : Array Field) (i : Nat) : Option (Nat × Nat) := match fs[i]? with
  | some f => match P.info? f.type with
    | some j => some (f.offset, j.size)
    | none => none
  | none => none

def buildK (P : Program) (t : TypeId) (ixs : List Nat) (vs : List Value) (K : Value → Prop) : Prop :=
  match P.underlying t, P.info? t with
  | some (.struct fs), some { zero := some z, .. } => bif fs.toList.all (fun f => (P.info? f.type).isSome) then (match fillL (placeOf P fs) (cellsL z) ixs vs with
    | some cs => K (.agg cs.toArray)
    | none => False) else False
  | some (.array _ e), some { zero := some z, .. } => match P.info? e with
    | some j => match fillL (fun i => some (i * j.size, j.size)) (cellsL z) ixs vs with
      | some cs => K (.agg cs.toArray)
      | none => False
    | none => False
  | _, _ => False

/-- Operations that only reckon. -/
def pureV (P : Program) (o : Op) (vs : List Value) (K : Value → Prop) : Prop :=
  match o, vs with
  | .move _, [x] => K x
  | .assign _, [x] => K x
  | .pick _ _ _, [.bool t, a, b] => iteB t (K a) (K b)
  | .nilCheck _, [.pointer q] => chkP q fun a => K (.pointer (some a))
  | .nilCheck _, [.func (.func f) first cap] => K (.func (.func f) first cap)
  | .binOp op t _ _ _, [a, b] => binK P op t a b K
  | .unOp .neg _ _, [.int k n] => K (.int k (k.wrap (0 - n)))
  | .unOp .xor _ _, [.int k n] => K (.int k (bits .xor k (if k.signed then -1 else k.max) n))
  | .unOp .not _ _, [.bool b] => K (.bool !b)
  | .extract _ i, [.tuple ws] => val ws[i]? K
  | .fieldAddr s _ f, [.pointer (some a)] => match fieldOf P s f with
    | some (off, _, _) => K (.pointer (some (a.add off)))
    | none => False
  | .field s _ f, [.agg cs] => match fieldOf P s f with
    | some (off, t, n) => match aggB P t with
      | some true => K (.agg (cs.toList.drop off |>.take n).toArray)
      | some false => val cs[off]? K
      | none => False
    | none => False
  | .indexAddr t _ _, [.slice q len _, .int _ n] => match elemSize P t with
    | some (_, sz) => chkP q fun a => (0 ≤ n ∧ n < (len : Int)) ∧ K (.pointer (some (a.add (n.toNat * sz))))
    | none => False
  | .indexAddr t _ _, [.pointer (some a), .int _ n] => match P.underlying t with
    | some (.array len e) => match P.info? e with
      | some j => (0 ≤ n ∧ n < (len : Int)) ∧ K (.pointer (some (a.add (n.toNat * j.size))))
      | none => False
    | _ => False
  | .index t _ _, [.string s, .int _ n] => match P.underlying t with
    | some .string => 0 ≤ n ∧ ∃ b : UInt8, s[n.toNat]? = some b ∧ K (.int .u8 b.toNat)
    | _ => False
  | .index t _ _, [.agg cs, .int _ n] => match P.underlying t with
    | some (.array len e) => match aggB P e, kinds P 8 e, P.info? e with
      | some false, [sh], some j => bif Nat.beq j.size 1 then (0 ≤ n ∧ n < (len : Int)) ∧ rdS sh cs.toList[n.toNat]? K else False
      | some true, l, some j => bif Nat.beq j.size l.length then (0 ≤ n ∧ n < (len : Int)) ∧ rdF l cs.toList (n.toNat * j.size) fun ws => K (.agg ws.toArray) else False
      | _, _, _ => False
    | _ => False
  | .slice t _ none none none, [v] => sliceK P t v none none K
  | .slice t _ (some _) none none, [v, l] => sliceK P t v (some l) none K
  | .slice t _ none (some _) none, [v, u] => sliceK P t v none (some u) K
  | .slice t _ (some _) (some _) none, [v, l, u] => sliceK P t v (some l) (some u) K
  | .convert s d _, [v] => convK P s d v K
  | .makeInterface t _, [v] => match P.underlying t with
    | some (.interface _) => False
    | some _ => K (.iface t v)
    | none => False
  | .makeFunc f first _, ws => K (.func f (ws.take first.size).toArray (ws.drop first.size).toArray)
  | .build t ps, ws => buildK P t (ps.toList.map (·.1)) ws K
  | .call { callee := .builtin .len, argTypes, .. }, [x] => match argTypes.toList with
    | [t] => match P.underlying t, x with
      | some (.slice _), .slice _ n _ => K (.int .i64 n)
      | some .string, .string s => K (.int .i64 s.size)
      | _, _ => False
    | _ => False
  | .call { callee := .builtin .cap, argTypes, .. }, [x] => match argTypes.toList with
    | [t] => match P.underlying t, x with
      | some (.slice _), .slice _ _ n => K (.int .i64 n)
      | _, _ => False
    | _ => False
  | .call { callee := .builtin .min, .. }, x :: r => val (foldV min2 x r) K
  | .call { callee := .builtin .max, .. }, x :: r => val (foldV max2 x r) K
  | _, _ => False

/-- Operations that look at memory and leave it alone. -/
def readV (P : Program) (o : Op) (vs : List Value) (h : Heap) (K : Value → Prop) : Prop :=
  match o, vs with
  | .load t _, [.pointer (some a)] => match aggB P t with
    | some true => rdL (kinds P 8 t) h a 0 fun ws => match P.info? t with
      | some i => bif Nat.beq i.size ws.length then K (.agg ws.toArray) else False
      | none => False
    | some false => match kinds P 8 t with
      | [s] => rdS s (cell h a) K
      | _ => False
    | none => False
  | _, _ => False

/-- 'n' cells from 'q' on hold these. -/
def cellsAt (h : Heap) (q : Option Addr) (n : Nat) (vs : List Value) : Prop :=
  vs.length = n ∧ ∀ j, j < n → ∃ a, q = some a ∧ cell h (a.add j) = vs[j]?

/-- append: 'news' are the cells that come behind. -/
def appP (e : TypeId) (size bytes : Nat) (zero : List Value) (q : Option Addr) (len cap n : Nat) (news : List Value) (h : Heap)
    (K : Option Addr → Nat → Nat → Heap → Prop) : Prop :=
  (len + n ≤ cap → match q with
    | none => K none (len + n) cap h
    | some a => stL news h (a.add (len * size)) 0 fun h' => K (some a) (len + n) cap h') ∧
  (cap < len + n → (len + n) * bytes ≤ 2 ^ 46 ∧ len + n ≤ 2 ^ 46 ∧ ∃ olds, cellsAt h q (len * size) olds ∧ ∀ c, len + n ≤ c →
    K (some ⟨h.size, 0, none⟩) (len + n) c (h.push (.cells (olds ++ news ++ zeroRow zero (c - (len + n))).toArray e)))

def appK (P : Program) (t : TypeId) (s x : Value) (h : Heap) (K : Value → Heap → Prop) : Prop :=
  match P.underlying t with
  | some (.slice e) => match P.info? e with
    | some { size, bytes, zero := some z, .. } => match s with
      | .slice q len cap => match x with
        | .slice q2 n _ => ∃ news, cellsAt h q2 (n * size) news ∧
            appP e size bytes (cellsL z) q len cap n news h fun q' l' c' h' => K (.slice q' l' c') h'
        | .string b => appP e size bytes (cellsL z) q len cap b.size (b.toList.map fun b => .int .u8 b.toNat) h fun q' l' c' h' => K (.slice q' l' c') h'
        | _ => False
      | _ => False
    | _ => False
  | _ => False

/-- copy: as many as there is room for. -/
def copyP (size : Nat) (q : Option Addr) (len : Nat) (q2 : Option Addr) (n : Nat) (h : Heap) (K : Int → Heap → Prop) : Prop :=
  ∃ news, cellsAt h q2 (Nat.min n len * size) news ∧ match q with
    | none => K (Nat.min n len : Nat) h
    | some a => stL news h a 0 fun h' => K (Nat.min n len : Nat) h'

/-- clear: a slice's elements are zeros. -/
def clearP (zero : List Value) (q : Option Addr) (n : Nat) (h : Heap) (K : Heap → Prop) : Prop :=
  match q with
  | none => K h
  | some a => stL (zeroRow zero n) h a 0 K

/-- A new block. -/
def newP (h : Heap) (o : Obj) (K : Addr → Heap → Prop) : Prop := K ⟨h.size, 0, none⟩ (h.push o)

/-- Operations that write, or make memory. -/
def writeV (P : Program) (o : Op) (vs : List Value) (h : Heap) (K : Value → Heap → Prop) : Prop :=
  match o, vs with
  | .alloc e, [] => match P.info? e with
    | some { zero := some z, .. } => newP h (.cells (cellsL z).toArray e) fun a h' => K (.pointer (some a)) h'
    | _ => False
  | .box e _, [v] => newP h (.cells (cellsL v).toArray e) fun a h' => K (.pointer (some a)) h'
  | .store t _ _, [.pointer (some a), v] => match P.info? t with
    | some i => bif Nat.beq i.size (cellsL v).length then (match cellsL v with
        | [c] => match flat c with
          | true => stC h a c fun h' => K undef h'
          | false => False
        | cs => stL cs h a 0 fun h' => K undef h') else False
    | none => False
  | .buildSlice t len ps, ws => match P.underlying t with
    | some (.slice e) => match P.info? e with
      | some { size, zero := some z, .. } => bif Nat.ble (len * size) 100000 && Nat.beq size (cellsL z).length then (match fillL (fun i => some (i * size, size)) (zeroRow (cellsL z) len) (ps.toList.map (·.1)) ws with
        | some cs => newP h (.cells cs.toArray e) fun a h' => K (.slice (some a) len len) h'
        | none => False) else False
      | _ => False
    | _ => False
  | .makeSlice t _ _, [.int _ l, .int _ c] => match P.underlying t with
    | some (.slice e) => match P.info? e with
      | some { bytes, size, zero := some z, .. } => bif Nat.beq size (cellsL z).length then
          (0 ≤ l ∧ l ≤ c ∧ c * bytes ≤ 2 ^ 47 ∧ c ≤ 2 ^ 47) ∧ newP h (.cells (zeroRow (cellsL z) c.toNat).toArray e) fun a h' => K (.slice (some a) l.toNat c.toNat) h' else False
      | _ => False
    | _ => False
  | .call { callee := .builtin .append, argTypes, .. }, [s, x] => match argTypes.toList with
    | [t, u] => match P.underlying u with
      | some (.int _) => False
      | some _ => appK P t s x h K
      | none => False
    | _ => False
  | .call { callee := .builtin .copy, argTypes, .. }, [.slice q len _, .slice q2 n _] => match argTypes.toList with
    | t :: _ => match elemSize P t with
      | some (_, size) => copyP size q len q2 n h fun m h' => K (.int .i64 m) h'
      | none => False
    | _ => False
  | .call { callee := .builtin .clear, argTypes, .. }, [.slice q n _] => match argTypes.toList with
    | [t] => match P.underlying t with
      | some (.slice e) => match P.info? e with
        | some { zero := some z, .. } => clearP (cellsL z) q n h fun h' => K (.tuple #[]) h'
        | _ => False
      | _ => False
    | _ => False
  | _, _ => False

/-! ### Maps: what has come in, in that order; keys are integers, or two of them -/
abbrev KV := List (Value × Value)
def entriesFrom : Nat → KV → List MapEntry
  | _, [] => []
  | i, e :: r => { key := e.1, val := e.2, born := i } :: entriesFrom (i + 1) r
def mapObj (m : KV) : Obj := .map (entriesFrom 0 m).toArray m.length
def mapAt (h : Heap) (b : Nat) (m : KV) : Prop := h[b]? = some (mapObj m)
def setO (h : Heap) (b : Nat) (o : Obj) : Heap := h.setIfInBounds b o
inductive KK where
  | int (k : IntKind) | two (k : IntKind)
def keyKind (P : Program) (t : TypeId) : Option KK := match P.underlying t with
  | some (.int k) => some (.int k)
  | some (.array n e) => match P.underlying e with
    | some (.int k) => match P.info? e with
      | some i => bif Nat.beq n 2 && Nat.beq i.size 1 then some (.two k) else none
      | none => none
    | _ => none
  | _ => none
def isKey : KK → Value → Bool
  | .int k, .int k' _ => decide (k = k')
  | .two k, .agg ⟨[.int k1 _, .int k2 _]⟩ => decide (k = k1) && decide (k = k2)
  | _, _ => false
def keyEq : Value → Value → Bool
  | .int _ a, .int _ b => a == b
  | .agg ⟨[.int _ a, .int _ b]⟩, .agg ⟨[.int _ c, .int _ d]⟩ => a == c && b == d
  | _, _ => false
def getM (key : Value) : KV → Option Value
  | [] => none
  | e :: r => bif keyEq key e.1 then some e.2 else getM key r
def putM (key v : Value) : KV → KV
  | [] => [(key, v)]
  | e :: r => bif keyEq key e.1 then (key, v) :: r else e :: putM key v r
/-- A map with keys of this kind lies there. -/
def mapIn (kk : KK) (h : Heap) (b : Nat) (m : KV) : Prop := mapAt h b m ∧ ∀ e ∈ m, isKey kk e.1 = true
def chkM (q : Option Nat) (K : Nat → Prop) : Prop := match q with
  | some b => K b
  | none => False
@[simp] theorem chkM_some (b : Nat) (K : Nat → Prop) : chkM (some b) K = K b := rfl

def okV (ok : Bool) (v : Value) (b : Bool) : Value := match ok with
  | true => .tuple #[v, .bool b]
  | false => v
/-- Operations on maps, and iterators. -/
def mapV (P : Program) (o : Op) (vs : List Value) (h : Heap) (K : Value → Heap → Prop) : Prop :=
  match o, vs with
  | .makeMap _ none, [] => newP h (mapObj []) fun a h' => K (.map (some a.block)) h'
  | .lookup t _ _ ok, [.map q, key] => match P.underlying t with
    | some (.map kt et) => match keyKind P kt, kinds P 8 et, P.info? et with
      | some kk, [sh], some { zero := some z, .. } => bif isKey kk key then chkM q fun b => ∃ m, mapIn kk h b m ∧ rdS sh (some ((getM key m).getD z)) fun v => K (okV ok v (getM key m).isSome) h else False
      | _, _, _ => False
    | _ => False
  | .mapUpdate t _ _ _, [.map q, key, v] => match P.underlying t with
    | some (.map kt _) => match keyKind P kt with
      | some kk => bif isKey kk key then chkM q fun b => ∃ m, mapIn kk h b m ∧ K undef (setO h b (mapObj (putM key v m))) else False
      | none => False
    | _ => False
  | .call { callee := .builtin .len, argTypes, .. }, [.map q] => match argTypes.toList with
    | [t] => match P.underlying t with
      | some (.map _ _) => chkM q fun b => ∃ m, mapAt h b m ∧ K (.int .i64 m.length) h
      | _ => False
    | _ => False
  | .range t _, [.map q] => match P.underlying t with
    | some (.map _ _) => chkM q fun b => ∃ m, mapAt h b m ∧ newP h (.mapIter (some b) m.length #[] m.length) fun a h' => K (.pointer (some a)) h'
    | _ => False
  | .next _ false, [.pointer (some a)] => (a.off = 0 ∧ a.spot = none) ∧ ∃ (b : Nat) (m : KV) (seen : List Nat), (h[a.block]? = some (.mapIter (some b) m.length seen.toArray m.length) ∧ mapAt h b m) ∧
      ((∀ i, i < m.length → i ∈ seen) → K (.tuple #[.bool false]) h) ∧
      ∀ i e, m[i]? = some e → i ∉ seen → K (.tuple #[.bool true, e.1, e.2]) (setO h a.block (.mapIter (some b) m.length (seen ++ [i]).toArray m.length))
  | .entry _, [.pointer (some a)] => (a.off = 0 ∧ a.spot = none) ∧ ∃ (b : Nat) (m : KV) (seen : List Nat) (i : Nat) (e : Value × Value), (h[a.block]? = some (.mapIter (some b) m.length (seen ++ [i]).toArray m.length) ∧ mapAt h b m ∧ m[i]? = some e) ∧ ∃ (q : Option Addr) (l c : Nat), e.2 = .slice q l c ∧ K (.tuple #[e.1, .slice q l c]) h   -- (elements are slices: the only such loop here)
  | _, _ => False

def isMap : Op → List Value → Bool
  | .makeMap _ _, _ | .lookup _ _ _ _, _ | .mapUpdate _ _ _ _, _ | .range _ _, _ | .next _ _, _ | .entry _, _ => true
  | .call { callee := .builtin .len, .. }, [.map _] => true
  | _, _ => false

/-- 0: it only reckons; 1: it looks at memory; 2: all others. ('quiet' tells, too, from 1000000 on, which types are maps.) -/
def cls (quiet : FuncId → Bool) : Op → Nat
  | .move _ | .assign _ | .pick _ _ _ | .nilCheck _ | .binOp _ _ _ _ _ | .unOp _ _ _ | .extract _ _ | .fieldAddr _ _ _ | .field _ _ _ | .indexAddr _ _ _ | .index _ _ _
  | .slice _ _ _ _ _ | .convert _ _ _ | .makeInterface _ _ | .makeFunc _ _ _ | .build _ _
  | .call { callee := .builtin .cap, .. } | .call { callee := .builtin .min, .. } | .call { callee := .builtin .max, .. } => 0
  | .call { callee := .builtin .len, argTypes, .. } => match argTypes.toList with
    | [t] => if quiet (1000000 + t) then 2 else 0
    | _ => 0
  | .load _ _ => 1
  | .call { callee := .value (.func f), .. } => if quiet f then 1 else 2
  | _ => 2

end Go.Hq

namespace Go.Hq
set_option linter.unusedVariables false
set_option linter.unusedSimpArgs false

section
variable {P : Program} {K : Value → Prop}

theorem val_val {v : Option Value} (h : val v K) : ∃ u, K u ∧ val v (· = u) := by
  cases v with
  | none => exact h.elim
  | some v => exact ⟨v, h, rfl⟩

theorem chkP_elim {q : Option Addr} {F : Addr → Prop} (h : chkP q F) : ∃ a, q = some a ∧ F a := by
  cases q with
  | none => exact h.elim
  | some a => exact ⟨a, rfl, h⟩

theorem iteB_val {b : Bool} {u v : Value} (h : iteB b (K u) (K v)) : ∃ x, K x ∧ iteB b (u = x) (v = x) := by
  cases b
  · exact ⟨v, h, rfl⟩
  · exact ⟨u, h, rfl⟩

theorem intBin_val {op : BinOp} {k : IntKind} {a b : Int} (h : intBin op k a b K) : ∃ v, K v ∧ intBin op k a b (· = v) := by
  cases op <;> simp only [intBin] at h ⊢ <;> first | exact h.elim | exact ⟨_, h, rfl⟩ | exact ⟨_, h.2, h.1, rfl⟩

theorem strBin_val {op : BinOp} {a b : ByteArray} (h : strBin op a b K) : ∃ v, K v ∧ strBin op a b (· = v) := by
  cases op <;> simp only [strBin] at h ⊢ <;> first | exact h.elim | exact ⟨_, h, rfl⟩ | exact ⟨_, h.2, h.1, rfl⟩

theorem fltBin_val {op : BinOp} {k : FloatKind} {a b : Nat} (h : fltBin op k a b K) : ∃ v, K v ∧ fltBin op k a b (· = v) := by
  cases op <;> simp only [fltBin] at h ⊢ <;> first | exact h.elim | exact ⟨_, h, rfl⟩ | (obtain ⟨r, hr, h⟩ := h; exact ⟨_, h, r, hr, rfl⟩)

theorem binK_val {op : BinOp} {t : TypeId} {x y : Value} (h : binK P op t x y K) : ∃ v, K v ∧ binK P op t x y (· = v) := by
  unfold binK at h ⊢
  split at h
  · exact ⟨_, h.2, h.1, rfl⟩
  · exact ⟨_, h.2, h.1, rfl⟩
  · split at h
    · rename_i hk; subst hk; simpa using intBin_val h
    · exact h.elim
  · exact strBin_val h
  · split at h
    · rename_i hk; subst hk; simpa using fltBin_val h
    · exact h.elim
  all_goals first
    | (split at h
       · exact ⟨_, h, rfl⟩
       · exact h.elim)
    | exact h.elim

theorem sliceK_val {t : TypeId} {x : Value} {lo hi : Option Value} (h : sliceK P t x lo hi K) : ∃ v, K v ∧ sliceK P t x lo hi (· = v) := by
  unfold sliceK at h ⊢
  split at h
  · split at h
    · split at h
      · exact ⟨_, h, rfl⟩
      · exact ⟨_, h.2, h.1, rfl⟩
      · exact h.elim
    · split at h
      · exact ⟨_, h.2, h.1, rfl⟩
      · exact ⟨_, h.2.2, h.1, h.2.1, rfl⟩
      · exact h.elim
    · exact h.elim
  · split at h
    · exact h.elim
    split at h
    · split at h
      · exact ⟨_, h, rfl⟩
      · exact ⟨_, h.2, h.1, rfl⟩
      · exact h.elim
    · split at h
      · exact ⟨_, h.2, h.1, rfl⟩
      · exact ⟨_, h.2.2, h.1, h.2.1, rfl⟩
      · exact h.elim
    · exact h.elim
  · exact h.elim

theorem convK_val {s d : TypeId} {x : Value} (h : convK P s d x K) : ∃ v, K v ∧ convK P s d x (· = v) := by
  unfold convK at h ⊢
  split at h
  · exact ⟨_, h, rfl⟩
  · exact ⟨_, h, rfl⟩
  · exact ⟨_, h, rfl⟩
  · obtain ⟨n, h1, h2, h⟩ := h; exact ⟨_, h, n, h1, h2, rfl⟩
  · exact h.elim

theorem buildK_val {t : TypeId} {ixs : List Nat} {vs : List Value} (h : buildK P t ixs vs K) : ∃ v, K v ∧ buildK P t ixs vs (· = v) := by
  unfold buildK at h ⊢
  split at h
  · rw [bif_and] at h
    obtain ⟨hb, h⟩ := h
    simp only [hb, cond_true]
    split at h
    · exact ⟨_, h, rfl⟩
    · exact h.elim
  · split at h
    · split at h
      · exact ⟨_, h, rfl⟩
      · exact h.elim
    · exact h.elim
  · exact h.elim

theorem rdS_val {s : Sh} {c : Option Value} (h : rdS s c K) : ∃ v, c = some v ∧ K v ∧ rdS s c (· = v) := by
  cases s <;> simp only [rdS] at h ⊢
  case sl => obtain ⟨a, l, n, e, hk⟩ := h; exact ⟨_, e, hk, a, l, n, e, rfl⟩
  all_goals (obtain ⟨x, e, hk⟩ := h; exact ⟨_, e, hk, x, e, rfl⟩)

theorem rdS_mono {s : Sh} {c : Option Value} {K' : Value → Prop} (h : rdS s c K) (hk : ∀ v, K v → K' v) : rdS s c K' := by
  cases s <;> simp only [rdS] at h ⊢
  case sl => obtain ⟨a, l, n, e, hh⟩ := h; exact ⟨a, l, n, e, hk _ hh⟩
  all_goals (obtain ⟨x, e, hh⟩ := h; exact ⟨x, e, hk _ hh⟩)

theorem rdF_mono : ∀ {l : List Sh} {cs : List Value} {i : Nat} {K K' : List Value → Prop}, rdF l cs i K → (∀ x, K x → K' x) → rdF l cs i K'
  | [], _, _, _, _, h, hk => hk _ h
  | s :: r, cs, i, K, K', h, hk => rdS_mono h fun v hv => rdF_mono hv fun x hx => hk _ hx
theorem rdF_val : ∀ {l : List Sh} {cs : List Value} {i : Nat} {K : List Value → Prop}, rdF l cs i K →
    ∃ vs, (cs.drop i).take l.length = vs ∧ K vs ∧ rdF l cs i (· = vs)
  | [], _, _, _, hh => ⟨[], by simp, hh, rfl⟩
  | s :: r, cs, i, K, hh => by
    obtain ⟨v, hc, hk, hv⟩ := rdS_val hh
    obtain ⟨vs, hl, hK, hr⟩ := rdF_val hk
    obtain ⟨hi, hc⟩ := List.getElem?_eq_some_iff.1 hc
    refine ⟨v :: vs, ?_, hK, ?_⟩
    · rw [List.length_cons, List.drop_eq_getElem_cons hi, List.take_succ_cons, hc, hl]
    · refine rdS_mono hv ?_
      rintro u rfl
      exact rdF_mono hr fun x hx => by rw [hx]

theorem pureV_val {o : Op} {vs : List Value} (h : pureV P o vs K) : ∃ v, K v ∧ pureV P o vs (· = v) := by
  unfold pureV at h ⊢
  split at h
  · exact ⟨_, h, rfl⟩
  · exact ⟨_, h, rfl⟩
  · exact iteB_val h
  · obtain ⟨a, rfl, h⟩ := chkP_elim h
    exact ⟨_, h, rfl⟩
  · exact ⟨_, h, rfl⟩
  · exact binK_val h
  · exact ⟨_, h, rfl⟩
  · exact ⟨_, h, rfl⟩
  · exact ⟨_, h, rfl⟩
  · exact val_val h
  · split at h
    · exact ⟨_, h, rfl⟩
    · exact h.elim
  · split at h
    · split at h
      · exact ⟨_, h, rfl⟩
      · exact val_val h
      · exact h.elim
    · exact h.elim
  · split at h
    · obtain ⟨a, rfl, h⟩ := chkP_elim h
      exact ⟨_, h.2, h.1, rfl⟩
    · exact h.elim
  · split at h
    · split at h
      · exact ⟨_, h.2, h.1, rfl⟩
      · exact h.elim
    · exact h.elim
  · split at h
    · obtain ⟨h0, b, hb, hk⟩ := h
      exact ⟨_, hk, h0, b, hb, rfl⟩
    · exact h.elim
  · split at h
    · split at h
      · rw [bif_and] at h
        obtain ⟨hb, h0, h⟩ := h
        obtain ⟨v, _, hk, hr⟩ := rdS_val h
        refine ⟨v, hk, ?_⟩
        rw [bif_and]
        exact ⟨hb, h0, hr⟩
      · rw [bif_and] at h
        obtain ⟨hb, h0, h⟩ := h
        obtain ⟨vs, _, hk, hr⟩ := rdF_val h
        refine ⟨_, hk, ?_⟩
        rw [bif_and]
        exact ⟨hb, h0, rdF_mono hr fun x hx => by rw [hx]⟩
      · exact h.elim
    · exact h.elim
  · exact sliceK_val h
  · exact sliceK_val h
  · exact sliceK_val h
  · exact sliceK_val h
  · exact convK_val h
  · split at h
    · exact h.elim
    · exact ⟨_, h, rfl⟩
    · exact h.elim
  · exact ⟨_, h, rfl⟩
  · exact buildK_val h
  · split at h
    · split at h
      · exact ⟨_, h, rfl⟩
      · exact ⟨_, h, rfl⟩
      · exact h.elim
    · exact h.elim
  · split at h
    · split at h
      · exact ⟨_, h, rfl⟩
      · exact h.elim
    · exact h.elim
  · exact val_val h
  · exact val_val h
  · exact h.elim

theorem rdL_val : ∀ {l : List Sh} {h : Heap} {a : Addr} {i : Nat} {K : List Value → Prop}, rdL l h a i K →
    ∃ vs, vs.length = l.length ∧ (∀ j, j < l.length → cell h (a.add (i + j)) = vs[j]?) ∧ K vs ∧ rdL l h a i (· = vs)
  | [], _, _, _, _, hh => ⟨[], rfl, fun _ hj => absurd hj (by simp), hh, rfl⟩
  | s :: r, h, a, i, K, hh => by
    obtain ⟨v, hc, hk, hv⟩ := rdS_val hh
    obtain ⟨vs, hl, hcs, hK, hr⟩ := rdL_val hk
    refine ⟨v :: vs, by simp [hl], ?_, hK, ?_⟩
    · intro j hj
      cases j with
      | zero => simpa using hc
      | succ j =>
        have := hcs j (by simpa using hj)
        simp only [List.getElem?_cons_succ]
        rw [← this]; congr 2; omega
    · refine rdS_mono hv ?_
      rintro u rfl
      refine (show ∀ {l : List Sh} {i : Nat} {K K' : List Value → Prop}, rdL l h a i K → (∀ x, K x → K' x) → rdL l h a i K' from ?_) hr (fun x hx => by rw [hx])
      intro l
      induction l with
      | nil => intro i K K' h1 h2; exact h2 _ h1
      | cons s l ih => intro i K K' h1 h2; exact rdS_mono h1 fun v hv => ih hv fun x hx => h2 _ hx

theorem readV_val {o : Op} {vs : List Value} {h : Heap} (hh : readV P o vs h K) : ∃ v, K v ∧ readV P o vs h (· = v) := by
  unfold readV at hh ⊢
  split at hh
  · split at hh
    · obtain ⟨ws, _, _, hk, hr⟩ := rdL_val hh
      split at hk
      · rename_i hi
        cases hb : Nat.beq _ ws.length with
        | false => rw [hb] at hk; exact hk.elim
        | true =>
          rw [hb] at hk
          refine ⟨_, hk, ?_⟩
          refine (show ∀ {l : List Sh} {a : Addr} {i : Nat} {K K' : List Value → Prop}, rdL l h a i K → (∀ x, K x → K' x) → rdL l h a i K' from ?_) hr (fun x hx => by subst hx; simp [hb])
          intro l
          induction l with
          | nil => intro a i K K' h1 h2; exact h2 _ h1
          | cons s l ih => intro a i K K' h1 h2; exact rdS_mono h1 fun v hv => ih hv fun x hx => h2 _ hx
      · exact hk.elim
    · split at hh
      · obtain ⟨v, _, hk, hv⟩ := rdS_val hh
        exact ⟨v, hk, hv⟩
      · exact hh.elim
    · exact hh.elim
  · exact hh.elim
end

end Go.Hq

namespace Go.Hq
set_option linter.unusedVariables false
set_option linter.unusedSimpArgs false

section
variable {P : Program} {ρ : Operand → Value}

theorem run_info {P : Program} {t : TypeId} {i : TypeInfo} (h : P.info? t = some i) (w : World) : (typeInfo t).run P w = .ok i w := by
  simp [typeInfo, program, Sem.run, bind, Sem.bind, h, pure]

theorem run_sizeOf {P : Program} {t : TypeId} {i : TypeInfo} (h : P.info? t = some i) (w : World) : (sizeOf t).run P w = .ok i.size w := by
  simp [sizeOf, run_info h]

theorem run_isAgg {P : Program} {t : TypeId} {b : Bool} (h : aggB P t = some b) (w : World) : (isAgg t).run P w = .ok b w := by
  unfold aggB at h
  cases hu : P.underlying t with
  | none => rw [hu] at h; cases h
  | some d =>
    rw [hu] at h
    simp only [isAgg, Sem.run_bind, run_underlying hu]
    cases d <;> simp_all

theorem equal_succ (t : TypeId) (x y : Value) : Op.equal t x y = Op.equalIn (9999 + 1) t x y := rfl

theorem equal_bool {t : TypeId} (h : P.underlying t = some .bool) (a b : Bool) (w : World) : (Op.equal t (.bool a) (.bool b)).run P w = .ok (a == b) w := by
  rw [equal_succ, Op.equalIn]; simp only [Sem.run_bind, run_underlying h]; rfl
theorem equal_ptr {t e : TypeId} (h : P.underlying t = some (.pointer e)) (q : Option Addr) (w : World) : (Op.equal t (.pointer q) (.pointer none)).run P w = .ok q.isNone w := by
  rw [equal_succ, Op.equalIn]; simp only [Sem.run_bind, run_underlying h]; cases q <;> rfl
theorem equal_slice {t e : TypeId} (h : P.underlying t = some (.slice e)) (q : Option Addr) (l n l' n' : Nat) (w : World) :
    (Op.equal t (.slice q l n) (.slice none l' n')).run P w = .ok q.isNone w := by
  rw [equal_succ, Op.equalIn]; simp only [Sem.run_bind, run_underlying h]; cases q <;> rfl

theorem eqCell_run {t : TypeId} {x y : Value} {b : Bool} {d : Nat} (h : eqCell P t x y = some b) (w : World) : (Op.equalIn (d + 1) t x y).run P w = .ok b w := by
  unfold eqCell at h
  split at h
  · rename_i hu
    split at h
    · rename_i hk; cases h; subst hk; rw [Op.equalIn]; simp only [Sem.run_bind, run_underlying hu]; simp
    · cases h
  · rename_i hu; cases h; rw [Op.equalIn]; simp only [Sem.run_bind, run_underlying hu]; rfl
  · rename_i hu; cases h; rw [Op.equalIn]; simp only [Sem.run_bind, run_underlying hu, beq_toListBytes]; rfl
  · cases h

theorem eqCell_agg {t : TypeId} {x y : Value} {b : Bool} (h : eqCell P t x y = some b) : aggB P t = some false := by
  unfold eqCell at h
  unfold aggB
  split at h
  · rename_i hu; rw [hu]
  · rename_i hu; rw [hu]
  · rename_i hu; rw [hu]
  · cases h

theorem eqRow_run {d : Nat} (hx : Array Value) (hy : Array Value) (w : World) : ∀ (fs : List Field) (k : Nat) (xs ys : List Value) (bs : List Bool), hx.toList.drop k = xs → hy.toList.drop k = ys →
    eqRow P k fs xs ys = some bs → (Op.eqFields (d + 1) hx hy fs).run P w = .ok (eqAll bs) w
  | [], k, xs, ys, bs, _, _, h => by
    match xs, ys, h with
    | [], [], h => cases h; simp [Op.eqFields, eqAll]
    | _ :: _, _, h => simp [eqRow] at h
    | [], _ :: _, h => simp [eqRow] at h
  | f :: fs, k, [], ys, bs, _, _, h => by simp [eqRow] at h
  | f :: fs, k, x :: xs, [], bs, _, _, h => by simp [eqRow] at h
  | f :: fs, k, x :: xs, y :: ys, bs, h1, h2, h => by
    simp only [eqRow] at h
    cases hc : (Nat.beq f.offset k && !(f.name == "_")) with
    | false => rw [hc] at h; cases h
    | true =>
      rw [hc] at h
      simp only [cond_true] at h
      rw [Bool.and_eq_true] at hc
      have hoff := Nat.eq_of_beq_eq_true hc.1
      have hn : f.name ≠ "_" := by simpa using hc.2
      split at h
      · rename_i b hb
        split at h
        · rename_i bs' hbs
          cases h
          have hag := eqCell_agg hb
          have ex : hx[k]? = some x := by
            have : (hx.toList.drop k)[0]? = some x := by rw [h1]; rfl
            rw [List.getElem?_drop] at this; simpa using this
          have ey : hy[k]? = some y := by
            have : (hy.toList.drop k)[0]? = some y := by rw [h2]; rfl
            rw [List.getElem?_drop] at this; simpa using this
          have px : (part f.type hx f.offset).run P w = .ok x w := by simp [part, run_isAgg hag, hoff, ex]
          have py : (part f.type hy f.offset).run P w = .ok y w := by simp [part, run_isAgg hag, hoff, ey]
          have ih := eqRow_run (d := d) hx hy w fs (k + 1) xs ys bs' (by rw [← List.drop_drop, h1]; rfl) (by rw [← List.drop_drop, h2]; rfl) hbs
          rw [Op.eqFields, if_pos hn]
          simp only [Sem.run_bind, px, py, eqCell_run hb w, Result.andThen_ok]
          cases b
          · simp [eqAll]
          · simpa [eqAll] using ih
        · cases h
      · cases h

theorem equal_agg {t : TypeId} {xs ys : Array Value} {bs : List Bool} (h : eqAgg P t xs.toList ys.toList = some bs) (w : World) :
    (Op.equal t (.agg xs) (.agg ys)).run P w = .ok (eqAll bs) w ∧ ∀ (op : BinOp) (x y : Operand), (eqGuard op t x y (.agg xs) (.agg ys)).run P w = .ok () w := by
  unfold eqAgg at h
  split at h
  · rename_i fs hu
    cases hc : (!P.stoodInHeld t && !P.eqGuardType P.depth t) with
    | false => rw [hc] at h; cases h
    | true =>
      rw [hc] at h
      simp only [cond_true] at h
      rw [Bool.and_eq_true] at hc
      have hp : P.stoodInHeld t = false := by simpa using hc.1
      have hg : P.eqGuardType P.depth t = false := by simpa using hc.2
      have hf : P.fieldsOf t = fs := by simp [Program.fieldsOf, hu]
      refine ⟨?_, fun op x y => ?_⟩
      · rw [equal_succ, run_equalIn_struct (P := P) w 9999 t xs ys (by rw [hf]; exact hu) hp, hf]
        exact eqRow_run (d := 9998) xs ys w fs.toList 0 xs.toList ys.toList bs rfl rfl h
      · unfold eqGuard
        cases op <;> simp [hg]
  · cases h

theorem run_eql' {t : TypeId} {x y : Operand} {xs ys : Array Value} {q : Bool} {w : World} (hg : (eqGuard .eql t x y (.agg xs) (.agg ys)).run P w = .ok () w)
    (h : (Op.equal t (.agg xs) (.agg ys)).run P w = .ok q w) : (do eqGuard .eql t x y (.agg xs) (.agg ys); binOp .eql t (.agg xs) (.agg ys) : Sem Value).run P w = .ok (.bool q) w := by
  have hb : binOp .eql t (.agg xs) (.agg ys) = (do pure (.bool (← Op.equal t (.agg xs) (.agg ys)))) := rfl
  rw [hb]; simp only [Sem.run_bind, hg, Result.andThen]; rw [h]; rfl
theorem run_neq' {t : TypeId} {x y : Operand} {xs ys : Array Value} {q : Bool} {w : World} (hg : (eqGuard .neq t x y (.agg xs) (.agg ys)).run P w = .ok () w)
    (h : (Op.equal t (.agg xs) (.agg ys)).run P w = .ok q w) : (do eqGuard .neq t x y (.agg xs) (.agg ys); binOp .neq t (.agg xs) (.agg ys) : Sem Value).run P w = .ok (.bool (!q)) w := by
  have hb : binOp .neq t (.agg xs) (.agg ys) = (do pure (.bool (!(← Op.equal t (.agg xs) (.agg ys))))) := rfl
  rw [hb]; simp only [Sem.run_bind, hg, Result.andThen]; rw [h]; rfl

theorem run_eql {t : TypeId} {x y : Operand} {a b : Value} {q : Bool} {w : World} (hb : binOp .eql t a b = (do pure (.bool (← Op.equal t a b))))
    (hg : eqGuard .eql t x y a b = pure ()) (h : (Op.equal t a b).run P w = .ok q w) : (do eqGuard .eql t x y a b; binOp .eql t a b : Sem Value).run P w = .ok (.bool q) w := by
  rw [hg, hb]; simp [h]
theorem run_neq {t : TypeId} {x y : Operand} {a b : Value} {q : Bool} {w : World} (hb : binOp .neq t a b = (do pure (.bool (!(← Op.equal t a b)))))
    (hg : eqGuard .neq t x y a b = pure ()) (h : (Op.equal t a b).run P w = .ok q w) : (do eqGuard .neq t x y a b; binOp .neq t a b : Sem Value).run P w = .ok (.bool (!q)) w := by
  rw [hg, hb]; simp [h]

theorem binK_run {op : BinOp} {t : TypeId} {x y : Operand} {a b v : Value} (h : binK P op t a b (· = v)) (w : World) :
    (do eqGuard op t x y a b; binOp op t a b : Sem Value).run P w = .ok v w := by
  unfold binK at h
  split at h
  · obtain ⟨h0, rfl⟩ := h
    simp [go_sem, Op.shift, Int.not_lt.mpr h0]
  · obtain ⟨h0, rfl⟩ := h
    simp [go_sem, Op.shift, Int.not_lt.mpr h0]
  · split at h
    · rename_i k a k' b hsl hsr hk
      subst hk
      cases op <;> simp only [intBin] at h <;> first
        | exact h.elim
        | (subst h; simp [go_sem]; done)
        | (obtain ⟨h0, rfl⟩ := h; simp [go_sem, h0]; done)
        | (subst h; rfl)
    · exact h.elim
  · rename_i a b
    cases op <;> simp only [strBin] at h <;> first
      | exact h.elim
      | (subst h; simp [go_sem, binOp, Op.stringOp]; done)
      | (obtain ⟨h0, rfl⟩ := h; simp [go_sem, binOp, Op.stringOp]; omega)
  · split at h
    · rename_i k a k' b hk
      subst hk
      cases op <;> simp only [fltBin] at h <;> first
        | exact h.elim
        | (subst h; simp [go_sem, binOp, Op.floatCmp]; done)
        | (obtain ⟨r, hr, rfl⟩ := h; simp [go_sem, binOp, Op.floatArith, hr]; done)
    · exact h.elim
  all_goals first
    | exact h.elim
    | (split at h
       · rename_i hu
         subst h
         first
           | exact run_eql rfl (by simp [go_sem]) (equal_bool hu _ _ _)
           | exact run_neq rfl (by simp [go_sem]) (equal_bool hu _ _ _)
           | exact run_eql rfl (by simp [go_sem]) (equal_ptr hu _ _)
           | exact run_neq rfl (by simp [go_sem]) (equal_ptr hu _ _)
           | exact run_eql rfl (by simp [go_sem]) (equal_slice hu _ _ _ _ _ _)
           | exact run_neq rfl (by simp [go_sem]) (equal_slice hu _ _ _ _ _ _)
           | exact run_eql' ((equal_agg hu w).2 _ _ _) (equal_agg hu w).1
           | exact run_neq' ((equal_agg hu w).2 _ _ _) (equal_agg hu w).1
       · exact h.elim)


theorem bound_run {k : IntKind} {l : Int} {y : Nat} {c : BoundsCode} (h : 0 ≤ l ∧ l ≤ (y : Int)) (w : World) : (Instr.sliceBound (.int k l) y c).run P w = .ok l.toNat w := by
  simp [Instr.sliceBound, asIntOf, h]

theorem sliceK_run {t : TypeId} {x v : Value} {lo hi : Option Value} (h : sliceK P t x lo hi (· = v)) (w : World) : (Instr.sliceAt t x lo hi none).run P w = .ok v w := by
  unfold sliceK at h
  split at h
  · rename_i s hu
    split at h
    · split at h
      · subst h; simp [Instr.sliceAt, Instr.slice, Instr.sliceBounds, run_underlying hu]
      · obtain ⟨h0, rfl⟩ := h; simp [Instr.sliceAt, Instr.slice, Instr.sliceBounds, run_underlying hu, bound_run h0]
      · exact h.elim
    · split at h
      · obtain ⟨h0, rfl⟩ := h; simp [Instr.sliceAt, Instr.slice, Instr.sliceBounds, run_underlying hu, bound_run h0]
      · obtain ⟨h0, h1, rfl⟩ := h; simp [Instr.sliceAt, Instr.slice, Instr.sliceBounds, run_underlying hu, bound_run h0, bound_run h1]
      · exact h.elim
    · exact h.elim
  · rename_i e a len cap hu
    split at h
    · exact h.elim
    rename_i i hi'
    split at h
    · split at h
      · subst h; simp [Instr.sliceAt, Instr.slice, Instr.sliceBounds, run_underlying hu, run_sizeOf hi']
      · obtain ⟨h0, rfl⟩ := h; simp [Instr.sliceAt, Instr.slice, Instr.sliceBounds, run_underlying hu, run_sizeOf hi', bound_run h0]
      · exact h.elim
    · split at h
      · obtain ⟨h0, rfl⟩ := h; simp [Instr.sliceAt, Instr.slice, Instr.sliceBounds, run_underlying hu, run_sizeOf hi', bound_run h0]
      · obtain ⟨h0, h1, rfl⟩ := h; simp [Instr.sliceAt, Instr.slice, Instr.sliceBounds, run_underlying hu, run_sizeOf hi', bound_run h0, bound_run h1]
      · exact h.elim
    · exact h.elim
  · exact h.elim

theorem convK_run {s d : TypeId} {x v : Value} (h : convK P s d x (· = v)) (w : World) : (convert s d x).run P w = .ok v w := by
  unfold convK at h
  split at h
  · rename_i hs hd; subst h; simp [convert, run_underlying hs, run_underlying hd, Conv.intToInt]
  · rename_i hs hd; subst h; simp [convert, run_underlying hs, run_underlying hd]
  · rename_i hs hd; subst h; simp [convert, run_underlying hs, run_underlying hd, Conv.intToFloat]
  · rename_i hs hd; obtain ⟨n, h1, h2, rfl⟩ := h; simp [convert, run_underlying hs, run_underlying hd, Conv.floatToInt, h1, h2]
  · exact h.elim

theorem min2_run {x y z : Value} (h : min2 x y = some z) (w : World) : (Builtin.min2 x y).run P w = .ok z w := by
  unfold min2 at h
  split at h
  · cases h; simp [Builtin.min2]
  · cases h
theorem max2_run {x y z : Value} (h : max2 x y = some z) (w : World) : (Builtin.max2 x y).run P w = .ok z w := by
  unfold max2 at h
  split at h
  · cases h; simp [Builtin.max2]
  · cases h
theorem fold_run {f : Value → Value → Option Value} {g : Value → Value → Sem Value} (hfg : ∀ x y z, f x y = some z → ∀ w, (g x y).run P w = .ok z w) :
    ∀ {r : List Value} {x z : Value}, foldV f x r = some z → ∀ w : World, (r.foldlM g x).run P w = .ok z w
  | [], x, z, h, w => by cases h; simp
  | y :: r, x, z, h, w => by
    simp only [foldV] at h
    split at h
    · rename_i u hu
      simp only [List.foldlM_cons, Sem.run_bind, hfg _ _ _ hu, Result.andThen]
      exact fold_run hfg h w
    · cases h

theorem val_eq {o : Option Value} {v : Value} (h : val o (· = v)) : o = some v := by
  cases o with
  | none => exact h.elim
  | some u => exact congrArg some h

theorem setRow_fold : ∀ (vs : List Value) (off j : Nat) (cs : List Value),
    ((vs.zipIdx j).foldl (fun (c : Array Value) (x : Value × Nat) => c.setIfInBounds (off + x.2) x.1) cs.toArray) = (setRow cs (off + j) vs).toArray
  | [], _, _, _ => rfl
  | v :: r, off, j, cs => by
    simp only [List.zipIdx_cons, List.foldl_cons, setRow]
    have := setRow_fold r off (j + 1) (cs.set (off + j) v)
    rw [show off + (j + 1) = off + j + 1 from rfl] at this
    rw [← this]
    congr 1
    simp

theorem cells_toList (v : Value) : v.cells.toList = cellsL v := by cases v <;> simp [Value.cells, cellsL]
theorem cells_size (v : Value) : v.cells.size = (cellsL v).length := by rw [← cells_toList]; simp
theorem length_setRow : ∀ (vs : List Value) (i : Nat) (cs : List Value), (setRow cs i vs).length = cs.length
  | [], _, _ => rfl
  | v :: r, i, cs => by simp [setRow, length_setRow r]

theorem fillL_fill {place place' : Nat → Option (Nat × Nat)} (hp : ∀ i x, place i = some x → place' i = some x) :
    ∀ (ixs : List Nat) (vs : List Value) (cs r : List Value), fillL place cs ixs vs = some r → Instr.fill place' cs.toArray (ixs.zip vs) = some r.toArray
  | [], [], cs, r, h => by cases h; simp [Instr.fill]
  | [], v :: s, cs, r, h => by cases h
  | i :: ixs, [], cs, r, h => by cases h
  | i :: ixs, v :: s, cs, r, h => by
    simp only [fillL] at h
    split at h
    · rename_i off size hpl
      cases hc : (Nat.beq (cellsL v).length size && Nat.ble (off + (cellsL v).length) cs.length) with
      | false => rw [hc] at h; cases h
      | true =>
        rw [hc] at h
        simp only [Bool.and_eq_true, Nat.beq_eq, Nat.ble_eq] at hc
        simp only [List.zip_cons_cons, Instr.fill, hp _ _ hpl]
        rw [if_neg (by rw [cells_size]; simp; omega)]
        have hz : v.cells.zipIdx.foldl (fun cs (x : Value × Nat) => cs.setIfInBounds (off + x.2) x.1) cs.toArray = (setRow cs off (cellsL v)).toArray := by
          rw [← Array.foldl_toList, Array.toList_zipIdx, cells_toList]
          exact setRow_fold (cellsL v) off 0 cs
        have h2 := fillL_fill hp ixs s _ r h
        rw [← hz] at h2
        exact h2
    · cases h

theorem zip_map_fst {α β : Type} (l : List (Nat × α)) (f : α → β) : (l.map (·.1)).zip (l.map fun x => f x.2) = l.map fun x => (x.1, f x.2) := by
  induction l with
  | nil => rfl
  | cons a l ih => simp [ih]

theorem run_mapM_list {α β : Type} (f : α → Sem β) (g : α → β) (w : World) : ∀ l : List α, (∀ x ∈ l, (f x).run P w = .ok (g x) w) → (l.mapM f).run P w = .ok (l.map g) w
  | [], _ => by simp
  | a :: l, h => by
    simp [h a (by simp), run_mapM_list f g w l (fun x hx => h x (by simp [hx]))]

theorem run_mapM_array {α β : Type} (f : α → Sem β) (g : α → β) (w : World) (l : Array α) (h : ∀ x ∈ l.toList, (f x).run P w = .ok (g x) w) :
    (l.mapM f).run P w = .ok (l.map g) w := by
  rw [Array.mapM_eq_mapM_toList]
  simp [run_mapM_list f g w l.toList h]
  exact (Array.toList_inj.1 (by simp))

theorem run_zeroValue {t : TypeId} {i : TypeInfo} {z : Value} (h : P.info? t = some i) (hz : i.zero = some z) (w : World) : (zeroValue t).run P w = .ok z w := by
  simp [zeroValue, run_info h, hz]

theorem buildK_run {t : TypeId} {ps : Array (Nat × Operand)} {v : Value} (h : buildK P t (ps.toList.map (·.1)) ((ps.toList.map (·.2)).map ρ) (· = v)) (w : World) :
    (Instr.build t (ps.map fun (i, x) => (i, ρ x))).run P w = .ok v w := by
  have hz : (ps.toList.map (·.1)).zip ((ps.toList.map (·.2)).map ρ) = (ps.map fun (i, x) => (i, ρ x)).toList := by
    rw [List.map_map]
    exact (zip_map_fst ps.toList ρ).trans (by simp)
  unfold buildK at h
  split at h
  · rename_i fs d str size bytes hp al fal z cm ms hu hi
    rw [bif_and] at h
    obtain ⟨hb, h⟩ := h
    split at h
    · rename_i cs hf
      subst h
      have hm : (fs.mapM fun f => do pure (f.offset, ← sizeOf f.type) : Sem (Array (Nat × Nat))).run P w = .ok (fs.map fun f => (f.offset, P.cellsOf f.type)) w := by
        refine run_mapM_array _ _ w fs fun f hf => ?_
        have hb' := (List.all_eq_true.1 hb) f hf
        obtain ⟨i, hi⟩ := Option.isSome_iff_exists.1 hb'
        simp [run_sizeOf hi, Program.cellsOf, hi]
      have := fillL_fill (place' := fun i => (fs.map fun f => (f.offset, P.cellsOf f.type))[i]?) (fun i x hx => by
        unfold placeOf at hx
        split at hx
        · rename_i f hf
          split at hx
          · rename_i j hj
            cases hx
            simp [hf, Program.cellsOf, hj]
          · cases hx
        · cases hx) _ _ _ _ hf
      rw [hz] at this
      rw [← cells_toList z] at this
      simp only [Instr.build, Sem.run_bind, run_zeroValue hi rfl, Result.andThen, run_underlying hu, hm]
      simp only [Array.toArray_toList, Array.toList_map, Array.getElem?_map] at this
      simp [this]
    · exact h.elim
  · rename_i len e d str size bytes hp al fal z cm ms hu hi
    split at h
    · rename_i j hj
      split at h
      · rename_i cs hf
        subst h
        have := fillL_fill (place' := fun i => some (i * j.size, j.size)) (fun i x hx => hx) _ _ _ _ hf
        rw [hz] at this
        rw [← cells_toList z] at this
        simp only [Instr.build, Sem.run_bind, run_zeroValue hi rfl, Result.andThen, run_underlying hu, run_sizeOf hj]
        simp only [Array.toArray_toList, Array.toList_map] at this
        simp [this]
      · exact h.elim
    · exact h.elim
  · exact h.elim
end
end Go.Hq

namespace Go.Hq
set_option linter.unusedVariables false
set_option linter.unusedSimpArgs false

section
variable {P : Program} {ρ : Operand → Value}

theorem run_typed_index {t e : TypeId} {i : TypeInfo} {a : Addr} {len cap : Nat} {k : IntKind} {n : Int} (hu : P.underlying t = some (.slice e)) (hi : P.info? e = some i)
    (hn : 0 ≤ n ∧ n < (len : Int)) (w : World) : (Instr.indexAt t (.slice (some a) len cap) (.int k n)).run P w = .ok (.pointer (some (a.add (n.toNat * i.size)))) w := by
  simp [Instr.indexAt, asIntOf, run_underlying hu, hn, run_sizeOf hi]

theorem run_array_index {t e : TypeId} {i : TypeInfo} {a : Addr} {len : Nat} {k : IntKind} {n : Int} (hu : P.underlying t = some (.array len e)) (hi : P.info? e = some i)
    (hn : 0 ≤ n ∧ n < (len : Int)) (w : World) : (Instr.indexAt t (.pointer (some a)) (.int k n)).run P w = .ok (.pointer (some (a.add (n.toNat * i.size)))) w := by
  simp [Instr.indexAt, asIntOf, run_underlying hu, hn, run_sizeOf hi, Instr.sureAddr]

theorem fieldOf_parts {s : TypeId} {f off t n : Nat} (h : fieldOf P s f = some (off, t, n)) :
    ∃ fs g i, P.underlying s = some (.struct fs) ∧ fs[f]? = some g ∧ P.info? g.type = some i ∧ i.size = n ∧ g.offset = off ∧ g.type = t ∧ n ≠ 0 := by
  unfold fieldOf at h
  split at h
  · rename_i fs hu
    split at h
    · rename_i g hg
      split at h
      · rename_i i hi
        split at h
        · cases h
        · rename_i m hm
          cases h
          exact ⟨fs, g, i, hu, hg, hi, hm, rfl, rfl, by omega⟩
      · cases h
    · cases h
  · cases h

theorem elemSize_parts {t e n : Nat} (h : elemSize P t = some (e, n)) : ∃ i, P.underlying t = some (.slice e) ∧ P.info? e = some i ∧ i.size = n := by
  unfold elemSize at h
  split at h
  · rename_i hu
    split at h
    · rename_i i hi
      cases h
      exact ⟨i, hu, hi, rfl⟩
    · cases h
  · cases h

theorem extract_list (cs : Array Value) (i n : Nat) : cs.extract i (i + n) = (cs.toList.drop i |>.take n).toArray := by
  apply Array.ext'
  simp

theorem arr_map {args : Array Operand} {l : List Value} (h : args.toList.map ρ = l) : args.map ρ = l.toArray := by
  rw [← h]; exact Array.ext' (by simp)
theorem arr_one {args : Array TypeId} {l : List TypeId} (h : args.toList = l) : args = l.toArray := by
  rw [← h]

theorem pureV_run {o : Oper} {v : Value} (h : pureV P o.op ((opsOf o.op).map ρ) (· = v)) (w : World) : (execOp ρ o).run P w = .ok (.value v) w := by
  obtain ⟨dst, op, type, pos, after, guard⟩ := o
  simp only at h
  unfold pureV at h
  split at h
  case h_1 he => subst h; simp [opsOf] at he; simp [execOp, he]
  case h_2 he => subst h; simp [opsOf] at he; simp [execOp, he]
  case h_3 he =>
    simp [opsOf] at he
    obtain ⟨h1, h2, h3⟩ := he
    rename_i t _ _
    cases t <;> simp only [iteB] at h <;> subst h <;> simp [execOp, h1, h2, h3, asBool]
  case h_4 he =>
    obtain ⟨a, rfl, h⟩ := chkP_elim h
    subst h; simp [opsOf] at he; simp [execOp, he]
  case h_5 he => subst h; simp [opsOf] at he; simp [execOp, he]
  case h_6 he =>
    simp [opsOf] at he
    obtain ⟨h1, h2⟩ := he
    have := fun x y => binK_run (x := x) (y := y) h w
    simp only [execOp, h1, h2]
    simp only [Sem.run_bind] at this ⊢
    simp [this]
  case h_7 he => subst h; simp [opsOf] at he; simp [execOp, he, Op.unary, Op.intArith]
  case h_8 he => subst h; simp [opsOf] at he; simp [execOp, he, Op.unary]; rfl
  case h_9 he => subst h; simp [opsOf] at he; simp [execOp, he, Op.unary]
  case h_10 he => simp [opsOf] at he; have := val_eq h; simp [execOp, he, Instr.extract, this]
  case h_11 he =>
    simp [opsOf] at he
    split at h
    · rename_i hf
      subst h
      obtain ⟨fs, g, i, hu, hg, hi, hs, ho, ht, hn⟩ := fieldOf_parts hf
      simp [execOp, he, Instr.fieldAt, run_underlying hu, hg, Instr.sureAddr, fieldPlace, run_sizeOf hi, hs, hn, ho]
    · exact h.elim
  case h_12 he =>
    simp [opsOf] at he
    split at h
    · rename_i hf
      obtain ⟨fs, g, i, hu, hg, hi, hs, ho, ht, hn⟩ := fieldOf_parts hf
      subst ht
      split at h
      · rename_i ha
        subst h
        simp [execOp, he, Instr.field, run_underlying hu, hg, asAgg, part, run_isAgg ha, run_sizeOf hi, hs, ho, extract_list]
      · rename_i ha
        have := val_eq h
        simp [execOp, he, Instr.field, run_underlying hu, hg, asAgg, part, run_isAgg ha, ho, this]
      · exact h.elim
    · exact h.elim
  case h_13 he =>
    simp [opsOf] at he
    split at h
    · rename_i hf
      obtain ⟨i, hu, hi, hs⟩ := elemSize_parts hf
      obtain ⟨a, rfl, h0, h⟩ := chkP_elim h
      subst h
      simp [execOp, he.1, he.2, run_typed_index hu hi h0, hs]
    · exact h.elim
  case h_14 he =>
    simp [opsOf] at he
    split at h
    · rename_i hu
      split at h
      · rename_i hi
        obtain ⟨h0, h⟩ := h
        subst h
        simp [execOp, he.1, he.2, run_array_index hu hi h0]
      · exact h.elim
    · exact h.elim
  case h_15 he =>
    simp [opsOf] at he
    split at h
    · rename_i hu
      obtain ⟨h0, b, hb, h⟩ := h
      subst h
      simp [execOp, he.1, he.2, Instr.index, asIntOf, run_underlying hu, h0, hb]
    · exact h.elim
  case h_16 he =>
    simp [opsOf] at he
    split at h
    · rename_i hu
      split at h
      · rename_i ha hk hj
        rw [bif_and] at h
        obtain ⟨hb, h0, h⟩ := h
        obtain ⟨u, hc, hk, _⟩ := rdS_val h
        subst hk
        have hs := Nat.eq_of_beq_eq_true hb
        rw [Array.getElem?_toList] at hc
        simp [execOp, he.1, he.2, Instr.index, asIntOf, run_underlying hu, h0, run_sizeOf hj, hs, part, run_isAgg ha, hc]
      · rename_i ha hj
        rw [bif_and] at h
        obtain ⟨hb, h0, h⟩ := h
        obtain ⟨vs, hv, hk, _⟩ := rdF_val h
        subst hk
        have hs := Nat.eq_of_beq_eq_true hb
        rw [← hs] at hv
        simp [execOp, he.1, he.2, Instr.index, asIntOf, run_underlying hu, h0, run_sizeOf hj, part, run_isAgg ha, ← hv, extract_list]
      · exact h.elim
    · exact h.elim
  case h_17 he => simp [opsOf] at he; have := sliceK_run h w; simp [execOp, he, this]
  case h_18 he => simp [opsOf] at he; have := sliceK_run h w; simp [execOp, he.1, he.2, this]
  case h_19 he => simp [opsOf] at he; have := sliceK_run h w; simp [execOp, he.1, he.2, this]
  case h_20 he => simp [opsOf] at he; have := sliceK_run h w; simp [execOp, he.1, he.2.1, he.2.2, this]
  case h_21 he => simp [opsOf] at he; have := convK_run h w; simp [execOp, he, this]
  case h_22 he =>
    simp [opsOf] at he
    split at h
    · exact h.elim
    · rename_i hn hu
      subst h
      simp only [execOp, he, Instr.makeInterface, Sem.run_bind, run_underlying hu, Result.andThen]
      rename_i d
      cases d <;> first | (exact (hn _ rfl).elim) | simp
    · exact h.elim
  case h_23 he =>
    subst h
    simp [opsOf]
    simp [execOp, Instr.makeFunc]
    exact ⟨Array.ext' (by simp), Array.ext' (by simp)⟩
  case h_24 he =>
    simp only [opsOf] at h
    have := buildK_run h w
    simp [execOp, this]
  case h_25 he =>
    simp only [opsOf] at he
    split at h
    · rename_i ha
      split at h
      · rename_i hu
        subst h
        simp [execOp, resolve, invoke, builtin, arr_map he, arr_one ha, Builtin.len_, run_underlying hu, goInt]
      · rename_i hu
        subst h
        simp [execOp, resolve, invoke, builtin, arr_map he, arr_one ha, Builtin.len_, run_underlying hu, goInt]
      · exact h.elim
    · exact h.elim
  case h_26 he =>
    simp only [opsOf] at he
    split at h
    · rename_i ha
      split at h
      · rename_i hu
        subst h
        simp [execOp, resolve, invoke, builtin, arr_map he, arr_one ha, Builtin.cap_, run_underlying hu, goInt]
      · exact h.elim
    · exact h.elim
  case h_27 he =>
    simp only [opsOf] at he
    have hv := val_eq h
    have := fold_run (P := P) (fun x y z hh w => min2_run hh w) hv w
    simp [execOp, resolve, invoke, builtin, arr_map he, Builtin.min_, this]
  case h_28 he =>
    simp only [opsOf] at he
    have hv := val_eq h
    have := fold_run (P := P) (fun x y z hh w => max2_run hh w) hv w
    simp [execOp, resolve, invoke, builtin, arr_map he, Builtin.max_, this]
  case h_29 => exact h.elim

theorem readV_run {o : Oper} {v : Value} {h : Heap} (hh : readV P o.op ((opsOf o.op).map ρ) h (· = v)) (w : World) (hw : w.heap = h) : (execOp ρ o).run P w = .ok (.value v) w := by
  obtain ⟨dst, op, type, pos, after, guard⟩ := o
  simp only at hh
  unfold readV at hh
  split at hh
  case h_2 => exact hh.elim
  case h_1 he =>
    simp [opsOf] at he
    split at hh
    · rename_i ha
      obtain ⟨ws, hl, hc, hk, _⟩ := rdL_val hh
      split at hk
      · rename_i i hi
        rw [bif_and] at hk
        obtain ⟨hb, hk⟩ := hk
        subst hk
        have hs : i.size = ws.length := by simpa using hb
        have := run_loadCells_list (P := P) w _ ws (fun j u hu => by
          have hj : j < ws.length := by
            rcases Nat.lt_or_ge j ws.length with h | h
            · exact h
            · rw [List.getElem?_eq_none h] at hu; cases hu
          have := hc j (by omega)
          rw [Nat.zero_add] at this
          rw [cell_eq, hw, this]; exact hu)
        simp [execOp, he, Instr.loadAt, Instr.sureAddr, loadVar, run_isAgg ha, run_sizeOf hi, hs, this]
      · exact hk.elim
    · rename_i ha
      split at hh
      · obtain ⟨u, hc, hk, _⟩ := rdS_val hh
        subst hk
        subst hw
        simp [execOp, he, Instr.loadAt, Instr.sureAddr, loadVar, run_isAgg ha, run_load, cell_eq, hc]
      · exact hh.elim
    · exact hh.elim
end
end Go.Hq

namespace Go.Hq
set_option linter.unusedVariables false
set_option linter.unusedSimpArgs false

section
variable {P : Program} {ρ : Operand → Value}

theorem length_zeroRow (l : List Value) : ∀ n, (zeroRow l n).length = n * l.length
  | 0 => by simp [zeroRow]
  | n + 1 => by simp [zeroRow, length_zeroRow l n, Nat.add_mul]; omega

theorem zeroRow_get (l : List Value) : ∀ (n j : Nat), j < n * l.length → (zeroRow l n)[j]? = l[j % l.length]?
  | 0, j, h => by simp at h
  | n + 1, j, h => by
    simp only [zeroRow]
    by_cases hj : j < l.length
    · rw [List.getElem?_append_left hj, Nat.mod_eq_of_lt hj]
    · rw [List.getElem?_append_right (by omega), zeroRow_get l n (j - l.length) (by rw [Nat.add_mul] at h; omega), ← Nat.mod_eq_sub_mod (by omega)]

theorem rangeRow_eq (c : Array Value) (n : Nat) : ((Array.range (n * c.size)).map (c[· % c.size]!)) = (zeroRow c.toList n).toArray := by
  apply Array.ext'
  apply List.ext_getElem?
  intro j
  by_cases hj : j < n * c.size
  · have h0 : 0 < c.size := by
      rcases Nat.eq_zero_or_pos c.size with h | h
      · rw [h] at hj; simp at hj
      · exact h
    have hm : j % c.size < c.size := Nat.mod_lt _ h0
    have hz := zeroRow_get c.toList n j (by simpa using hj)
    simp only [Array.length_toList] at hz
    rw [hz]
    simp [hj, hm]
  · rw [List.getElem?_eq_none, List.getElem?_eq_none]
    · simp [length_zeroRow] at hj ⊢; omega
    · simp at hj ⊢; omega

theorem madeCells_eq (z : Value) (n : Nat) : madeCells z.cells (n * (cellsL z).length) = (zeroRow (cellsL z) n).toArray := by
  rw [← cells_size, ← cells_toList]; exact rangeRow_eq z.cells n
theorem zeroCells_eq (z : Value) (n : Nat) : Builtin.zeroCells z.cells n = (zeroRow (cellsL z) n).toArray := by
  rw [← cells_toList]; exact rangeRow_eq z.cells n

theorem stL_run : ∀ {vs : List Value} {h : Heap} {a : Addr} {i : Nat} {K : Heap → Prop}, stL vs h a i K → ∀ w : World, w.heap = h →
    ∃ w', (storeCells a vs i).run P w = .ok () w' ∧ Out w w' ∧ K w'.heap
  | [], h, a, i, K, hh, w, hw => ⟨w, by simp [storeCells], Out.refl w, by rw [hw]; exact hh⟩
  | v :: r, h, a, i, K, hh, w, hw => by
    simp only [stL] at hh
    split at hh
    · rename_i hf
      obtain ⟨⟨h1, h2⟩, hh⟩ := hh
      obtain ⟨w', hr, ho, hk⟩ := stL_run hh (w.setCell (a.add i) v) (by rw [setC_eq, hw])
      refine ⟨w', ?_, ⟨ho.1, ho.2, ho.3, ho.4⟩, hk⟩
      have h1' : (w.cell? (a.add i)).isSome = true := by rw [cell_eq, hw]; exact h1
      have h2' : w.frozen? (a.add i) = false := by rw [frz_eq, hw]; exact h2
      obtain ⟨u, hu⟩ := Option.isSome_iff_exists.1 h1'
      have hs : (store (a.add i) v).run P w = .ok () (w.setCell (a.add i) v) := by
        rw [run_store P w _ v _ (by cases v <;> first | rfl | cases hf)]
        simp [hu, h2']
      simp [storeCells, hs, hr]
    · exact hh.elim

theorem run_row {h : Heap} {q : Option Addr} {n len cap size : Nat} {vs : List Value} (hr : cellsAt h q (n * size) vs) (w : World) (hw : w.heap = h) :
    (Builtin.firstCells size n (.slice q len cap)).run P w = .ok vs.toArray w := by
  obtain ⟨hl, hr⟩ := hr
  cases q with
  | none =>
    have h0 : n * size = 0 := by
      rcases Nat.eq_zero_or_pos (n * size) with h | h
      · exact h
      · obtain ⟨a, ha, _⟩ := hr 0 h; cases ha
    rw [h0] at hl
    have : vs = [] := List.length_eq_zero_iff.1 hl
    subst this
    simp [Builtin.firstCells]
  | some a =>
    refine run_firstCells_some w size n a len cap vs hl fun j v hj => ?_
    have hlt : j < n * size := by
      rcases Nat.lt_or_ge j (n * size) with h | h
      · exact h
      · rw [List.getElem?_eq_none (by omega)] at hj; cases hj
    obtain ⟨b, hb, hc⟩ := hr j hlt
    cases hb
    rw [cell_eq, hw, hc, hj]

theorem appP_run {t u e ty : TypeId} {i : TypeInfo} {z : Value} {d : TypeDesc} (ht : P.underlying t = some (.slice e)) (hu : P.underlying u = some d) (hd : ∀ k, d ≠ .int k)
    (hi : P.info? e = some i) (hz : i.zero = some z) {q : Option Addr} {len cap n : Nat} {news : List Value} {x : Value} {h : Heap} {K : Option Addr → Nat → Nat → Heap → Prop}
    (hp : appP e i.size i.bytes (cellsL z) q len cap n news h K) (w : World) (hw : w.heap = h) (hx : ∀ w : World, (Builtin.lenOf x).run P w = .ok n w)
    (hf : ∀ w' : World, w'.heap = h → (Builtin.firstCells i.size n x).run P w' = .ok news.toArray w') :
    ∃ q' l' c' w', (Builtin.append_ #[t, u] ty #[.slice q len cap, x]).run P w = .ok (.slice q' l' c') w' ∧ Out w w' ∧ K q' l' c' w'.heap := by
  obtain ⟨h1, h2⟩ := hp
  by_cases hc : len + n ≤ cap
  · have hk := h1 hc
    cases q with
    | none =>
      refine ⟨none, len + n, cap, w, ?_, Out.refl w, by rw [hw]; exact hk⟩
      simp [Builtin.append_, run_underlying ht, run_sizeOf hi, run_underlying hu, hx, hf w hw, hc]
    | some a =>
      obtain ⟨w', hr, ho, hk⟩ := stL_run (P := P) hk w hw
      refine ⟨some a, len + n, cap, w', ?_, ho, hk⟩
      simp [Builtin.append_, run_underlying ht, run_sizeOf hi, run_underlying hu, hx, hf w hw, hc, hr]
  · obtain ⟨hb, hb2, olds, hro, hk⟩ := h2 (by omega)
    have hn : ¬ len + n ≤ cap := hc
    have hcut : len + n ≤ grownCap w (len + n) cap e := by simp [grownCap, Question.cut]
    refine ⟨some ⟨w.heap.size, 0, none⟩, len + n, grownCap w (len + n) cap e, w.drew.alloc (.cells (olds ++ news ++ zeroRow (cellsL z) (grownCap w (len + n) cap e - (len + n))).toArray e), ?_, ?_, ?_⟩
    rotate_left
    · exact ⟨rfl, rfl, rfl, fun _ => Nat.le_succ _⟩
    · have := hk _ hcut
      rw [← hw] at this
      exact this
    · have h48 : ¬ (281474976710656 < Builtin.nextslicecap (len + n) cap * i.bytes) := by
        have := growslice_fits (need := len + n) (old := cap) (bytes := i.bytes) (by omega) (by omega)
        omega
      have h63 : ¬ (9223372036854775807 < ((len : Int) + (n : Int)) ∧ i.bytes = 0) := by omega
      have hro' := run_row (P := P) (len := len) (cap := cap) hro w.drew (by show w.heap = h; exact hw)
      have hf' := hf w.drew (by show w.heap = h; exact hw)
      simp [Builtin.append_, run_underlying ht, run_sizeOf hi, run_underlying hu, hx, hn, h48, h63, Question.forced, run_info hi, run_zeroValue hi hz, hro', hf', newRow, grownCap, zeroCells_eq]

theorem lenOf_slice (q : Option Addr) (n c : Nat) (w : World) : (Builtin.lenOf (.slice q n c)).run P w = .ok n w := by simp [Builtin.lenOf]
theorem lenOf_string (s : ByteArray) (w : World) : (Builtin.lenOf (.string s)).run P w = .ok s.size w := by simp [Builtin.lenOf]
theorem first_string (size : Nat) (s : ByteArray) (w : World) : (Builtin.firstCells size s.size (.string s)).run P w = .ok (s.toList.map fun b => Value.int .u8 b.toNat).toArray w := by
  have hx : s.extract 0 s.size = s := by simp
  simp only [Builtin.firstCells, hx, Sem.run_pure]
  congr 1
  apply Array.ext'
  simp [ByteArray.toList_eq]

theorem storeVar_run {t : TypeId} {i : TypeInfo} (hi : P.info? t = some i) {a : Addr} {v : Value} (hs : i.size = (cellsL v).length) {h : Heap} {K : Heap → Prop} (hk : stL (cellsL v) h a 0 K) (w : World) (hw : w.heap = h) :
    ∃ w', (Instr.storeAt t (.pointer (some a)) v).run P w = .ok () w' ∧ Out w w' ∧ K w'.heap := by
  obtain ⟨w', hr, ho, hk⟩ := stL_run (P := P) hk w hw
  refine ⟨w', ?_, ho, hk⟩
  simp [Instr.storeAt, Instr.sureAddr, storeVar, run_sizeOf hi, cells_size, hs, cells_toList, hr]

theorem writeV_run {o : Oper} {h : Heap} {K : Value → Heap → Prop} (hh : writeV P o.op ((opsOf o.op).map ρ) h K) (w : World) (hw : w.heap = h) :
    ∃ v nx w', (execOp ρ o).run P w = .ok nx w' ∧ (nx = .value v ∨ (nx = .skip ∧ v = undef)) ∧ Out w w' ∧ K v w'.heap := by
  obtain ⟨dst, op, type, pos, after, guard⟩ := o
  simp only at hh
  unfold writeV at hh
  split at hh
  case h_1 he =>
    split at hh
    · rename_i hi
      refine ⟨_, _, w.alloc (.cells (cellsL _).toArray _), ?_, .inl rfl, ⟨rfl, rfl, rfl, fun _ => Nat.le_refl _⟩, by rw [← hw] at hh; exact hh⟩
      simp [execOp, Instr.alloc, run_zeroValue hi rfl, newVar, newRow, ← cells_toList, hw]
    · exact hh.elim
  case h_2 he =>
    simp [opsOf] at he
    refine ⟨_, _, w.alloc (.cells (cellsL _).toArray _), ?_, .inl rfl, ⟨rfl, rfl, rfl, fun _ => Nat.le_refl _⟩, by rw [← hw] at hh; exact hh⟩
    simp [execOp, he, Instr.box, newVar, newRow, ← cells_toList, hw]
  case h_3 t x y a v he =>
    simp [opsOf] at he
    split at hh
    · rename_i i hi
      rw [bif_and] at hh
      obtain ⟨hb, hh⟩ := hh
      have hs := Nat.eq_of_beq_eq_true hb
      have hst : stL (cellsL v) h a 0 fun h' => K undef h' := by
        split at hh
        · rename_i hc
          rw [hc]
          split at hh
          · rename_i hf
            simp only [stL, hf, Addr.add_zero']
            exact hh
          · exact hh.elim
        · exact hh
      obtain ⟨w', hr, ho, hk⟩ := storeVar_run hi hs hst w hw
      refine ⟨undef, .skip, w', ?_, .inr ⟨rfl, rfl⟩, ho, hk⟩
      simp [execOp, he.1, he.2, hr]
    · exact hh.elim
  case h_4 =>
    rename_i t len ps
    split at hh
    · rename_i e hu
      split at hh
      · rename_i desc str size bytes hp al fa z cm ms hi
        rw [bif_and] at hh
        obtain ⟨hb, hh⟩ := hh
        rw [Bool.and_eq_true] at hb
        split at hh
        · rename_i cs hf
          have hz : (ps.toList.map (·.1)).zip ((ps.toList.map (·.2)).map ρ) = (ps.map fun (i, x) => (i, ρ x)).toList := by
            rw [List.map_map]
            exact (zip_map_fst ps.toList ρ).trans (by simp)
          simp only [opsOf] at hf
          have hfill := fillL_fill (place' := fun i => some (i * size, size)) (fun i x hx => hx) _ _ _ _ hf
          rw [hz] at hfill
          have hs : size = (cellsL z).length := Nat.eq_of_beq_eq_true hb.2
          have hle : len * size ≤ 100000 := Nat.le_of_ble_eq_true hb.1
          have hrow : ((Array.range (len * size)).map (z.cells[· % z.cells.size]!)) = (zeroRow (cellsL z) len).toArray := by
            rw [hs, ← cells_size, ← cells_toList]; exact rangeRow_eq z.cells len
          have hb24 : ¬ (len * size > 2 ^ 24) := by omega
          refine ⟨_, _, w.alloc (.cells cs.toArray e), ?_, .inl rfl, ⟨rfl, rfl, rfl, fun _ => Nat.le_refl _⟩, by rw [← hw] at hh; exact hh⟩
          by_cases h0 : len * size = 0
          · have hnil : zeroRow (cellsL z) len = [] := by
              apply List.length_eq_zero_iff.1; rw [length_zeroRow, ← hs]; exact h0
            rw [hnil] at hfill
            have h0' : len = 0 ∨ size = 0 := Nat.mul_eq_zero.1 h0
            simp only [execOp, Instr.buildSlice, Sem.run_bind, run_underlying hu, Result.andThen, run_sizeOf hi, if_neg hb24, h0]
            simp at hfill
            simp [hfill, newRow, Array.range_zero']
          · simp only [execOp, Instr.buildSlice, Sem.run_bind, run_underlying hu, Result.andThen, run_sizeOf hi, if_neg hb24, if_neg h0, run_zeroValue hi rfl]
            rw [← hrow] at hfill
            simp at hfill
            simp [hfill, newRow, run_zeroValue hi rfl]
        · exact hh.elim
      · exact hh.elim
    · exact hh.elim
  case h_5 t x y kl l kc c he =>
    simp [opsOf] at he
    split at hh
    · rename_i e hu
      split at hh
      · rename_i desc str size bytes hp al fa z cm ms hi
        rw [bif_and] at hh
        obtain ⟨hb, ⟨h0, h1, h2, h3⟩, hh⟩ := hh
        have hs := Nat.eq_of_beq_eq_true hb
        have := run_make (P := P) w t e _ z hu hi rfl kl kc l c h0 h1 (by show (bytes : Int) * c ≤ _; rw [Int.mul_comm]; omega) (by omega)
        rw [hs, madeCells_eq] at this
        exact ⟨_, .value (.slice (some ⟨w.heap.size, 0, none⟩) l.toNat c.toNat), w.alloc (.cells (zeroRow (cellsL z) c.toNat).toArray e), by simp [execOp, he.1, he.2, this], .inl rfl, ⟨rfl, rfl, rfl, fun _ => Nat.le_refl _⟩, by rw [← hw] at hh; exact hh⟩
      · exact hh.elim
    · exact hh.elim
  case h_6 args tys s x he =>
    simp only [opsOf] at he
    split at hh
    · rename_i t u ht
      split at hh
      · exact hh.elim
      · rename_i d hd hu
        unfold appK at hh
        split at hh
        · rename_i e hut
          split at hh
          · rename_i z hi
            split at hh
            · split at hh
              · rename_i q2 n2 c2
                obtain ⟨news, hr, hp⟩ := hh
                obtain ⟨q', l', c', w', hrun, ho, hk⟩ := appP_run (ty := type) hut hu (fun k hk => hd k (by rw [hk])) hi rfl hp w hw (lenOf_slice q2 n2 c2) (fun w' hw' => run_row hr w' hw')
                exact ⟨_, _, w', by simp [execOp, resolve, invoke, builtin, arr_map he, arr_one ht, hrun], .inl rfl, ho, hk⟩
              · obtain ⟨q', l', c', w', hrun, ho, hk⟩ := appP_run (ty := type) hut hu (fun k hk => hd k (by rw [hk])) hi rfl hh w hw (lenOf_string _) (fun w' hw' => first_string _ _ w')
                exact ⟨_, _, w', by simp [execOp, resolve, invoke, builtin, arr_map he, arr_one ht, hrun], .inl rfl, ho, hk⟩
              · exact hh.elim
            · exact hh.elim
          · exact hh.elim
        · exact hh.elim
      · exact hh.elim
    · exact hh.elim
  case h_7 args tys q len cap q2 n c2 he =>
    simp only [opsOf] at he
    split at hh
    · rename_i t r ht
      split at hh
      · rename_i e size hes
        obtain ⟨i, hu, hi, hs⟩ := elemSize_parts hes
        subst hs
        obtain ⟨news, hr, hp⟩ := hh
        have hrun := run_row (P := P) (len := n) (cap := c2) hr w hw
        cases q with
        | none =>
          exact ⟨_, .value (.int .i64 (Nat.min n len : Nat)), w, by simp [execOp, resolve, invoke, builtin, arr_map he, arr_one ht, Builtin.copy_, run_underlying hu, lenOf_slice, run_sizeOf hi, hrun, goInt], .inl rfl, Out.refl w, by rw [hw]; exact hp⟩
        | some a =>
          obtain ⟨w', hst, ho, hk⟩ := stL_run (P := P) hp w hw
          exact ⟨_, .value (.int .i64 (Nat.min n len : Nat)), w', by simp [execOp, resolve, invoke, builtin, arr_map he, arr_one ht, Builtin.copy_, run_underlying hu, lenOf_slice, run_sizeOf hi, hrun, goInt, hst], .inl rfl, ho, hk⟩
      · exact hh.elim
    · exact hh.elim
  case h_8 args tys q n c he =>
    simp only [opsOf] at he
    split at hh
    · rename_i t ht
      split at hh
      · rename_i e hu
        split at hh
        · rename_i z hi
          cases q with
          | none => exact ⟨_, .value (.tuple #[]), w, by simp [execOp, resolve, invoke, builtin, arr_map he, arr_one ht, Builtin.clear_, run_underlying hu], .inl rfl, Out.refl w, by rw [hw]; exact hh⟩
          | some a =>
            obtain ⟨w', hst, ho, hk⟩ := stL_run (P := P) hh w hw
            refine ⟨_, .value (.tuple #[]), w', ?_, .inl rfl, ho, hk⟩
            cases n with
            | zero =>
              simp only [zeroRow, storeCells] at hst
              cases hst
              simp [execOp, resolve, invoke, builtin, arr_map he, arr_one ht, Builtin.clear_, run_underlying hu]
            | succ n => simp [execOp, resolve, invoke, builtin, arr_map he, arr_one ht, Builtin.clear_, run_underlying hu, run_zeroValue hi rfl, zeroCells_eq, hst]
        · exact hh.elim
      · exact hh.elim
    · exact hh.elim
  case h_9 => exact hh.elim
/-! ### Maps -/
theorem entries_get : ∀ (m : KV) (i j : Nat), (entriesFrom i m)[j]? = (m[j]?).map fun e => { key := e.1, val := e.2, born := i + j }
  | [], i, j => by simp [entriesFrom]
  | e :: r, i, 0 => by simp [entriesFrom]
  | e :: r, i, j + 1 => by simp [entriesFrom, entries_get r (i + 1) j]; congr 1; funext e; congr 1; omega
theorem entries_len : ∀ (m : KV) (i : Nat), (entriesFrom i m).length = m.length
  | [], _ => rfl
  | _ :: r, i => by simp [entriesFrom, entries_len r (i + 1)]
theorem entries_mem {m : KV} {x : MapEntry} (h : x ∈ entriesFrom 0 m) : ∃ i e, m[i]? = some e ∧ x = { key := e.1, val := e.2, born := i } := by
  obtain ⟨i, hi⟩ := List.mem_iff_getElem?.1 h
  rw [entries_get] at hi
  cases he : m[i]? with
  | none => rw [he] at hi; cases hi
  | some e => rw [he] at hi; simp only [Option.map_some, Nat.zero_add, Option.some.injEq] at hi; exact ⟨i, e, he, hi.symm⟩
theorem entries_born (m : KV) (i : Nat) : (entriesFrom i m).map (·.born) = (List.range m.length).map (i + ·) := by
  apply List.ext_getElem?
  intro j
  rw [List.getElem?_map, entries_get, List.getElem?_map]
  by_cases h : j < m.length
  · simp [h]
  · rw [List.getElem?_eq_none (by omega), List.getElem?_eq_none (by simp; omega)]; rfl
theorem keyKind_int {kt : TypeId} {k : IntKind} (h : keyKind P kt = some (.int k)) : P.underlying kt = some (.int k) := by
  unfold keyKind at h
  split at h
  · cases h; assumption
  · split at h
    · split at h
      · rename_i i hi
        cases hb : (Nat.beq _ 2 && Nat.beq i.size 1) <;> rw [hb] at h <;> cases h
      · cases h
    · cases h
  · cases h
theorem keyKind_two {kt : TypeId} {k : IntKind} (h : keyKind P kt = some (.two k)) : ∃ e i, P.underlying kt = some (.array 2 e) ∧ P.underlying e = some (.int k) ∧ P.info? e = some i ∧ i.size = 1 := by
  unfold keyKind at h
  split at h
  · cases h
  · rename_i n e hu
    split at h
    · rename_i k' he
      split at h
      · rename_i i hi
        cases hb : (Nat.beq n 2 && Nat.beq i.size 1) with
        | false => rw [hb] at h; cases h
        | true =>
          rw [hb] at h; cases h
          rw [Bool.and_eq_true] at hb
          obtain rfl := Nat.eq_of_beq_eq_true hb.1
          exact ⟨e, i, hu, he, hi, Nat.eq_of_beq_eq_true hb.2⟩
      · cases h
    · cases h
  · cases h
theorem isKey_int {k : IntKind} {v : Value} (h : isKey (.int k) v = true) : ∃ a, v = .int k a := by
  cases v <;> simp [isKey] at h
  subst h; exact ⟨_, rfl⟩
theorem isKey_two {k : IntKind} {v : Value} (h : isKey (.two k) v = true) : ∃ a b, v = .agg #[.int k a, .int k b] := by
  cases v with
  | agg xs =>
    obtain ⟨l⟩ := xs
    match l, h with
    | [.int k1 a, .int k2 b], h =>
      have h : (decide (k = k1) && decide (k = k2)) = true := h
      rw [Bool.and_eq_true] at h
      have h2 := of_decide_eq_true h.1; have h3 := of_decide_eq_true h.2
      subst h2; subst h3; exact ⟨_, _, rfl⟩
  | _ => simp [isKey] at h
/-- What is found: where, and what. -/
def findM (key : Value) : KV → Nat → Option (Nat × Value)
  | [], _ => none
  | e :: r, i => bif keyEq key e.1 then some (i, e.2) else findM key r (i + 1)
theorem findM_get (key : Value) : ∀ (m : KV) (i : Nat), (findM key m i).map (·.2) = getM key m
  | [], _ => rfl
  | e :: r, i => by
    unfold findM getM
    cases keyEq key e.1
    · simpa using findM_get key r (i + 1)
    · rfl
theorem checkKey_run {empty : Bool} {kk : KK} {kt : TypeId} {key : Value} (hk : keyKind P kt = some kk) (hi : isKey kk key = true) (w : World) : (Instr.checkKey empty 10000 kt key).run P w = .ok () w := by
  show (Instr.checkKey empty (9999 + 1) kt key).run P w = .ok () w
  unfold Instr.checkKey
  cases kk with
  | int k =>
    obtain ⟨a, rfl⟩ := isKey_int hi
    simp [run_underlying (keyKind_int hk)]
  | two k =>
    obtain ⟨a, b, rfl⟩ := isKey_two hi
    obtain ⟨e, i, h1, h2, h3, h4⟩ := keyKind_two hk
    have hag : aggB P e = some false := by simp [aggB, h2]
    have c1 : ∀ x, (Instr.checkKey empty 9999 e (.int k x)).run P w = .ok () w := fun x => by
      show (Instr.checkKey empty (9998 + 1) e (.int k x)).run P w = .ok () w
      unfold Instr.checkKey
      simp [run_underlying h2]
    simp [run_underlying h1, part, run_isAgg hag, run_sizeOf h3, h4, c1, Std.Legacy.Range.forIn_eq_forIn_range', Std.Legacy.Range.size, List.range']
theorem keyEqual_run {kt : TypeId} {k : IntKind} {a b c d : Int} (hk : keyKind P kt = some (.two k)) (w : World) : (Op.equal kt (.agg #[.int k a, .int k b]) (.agg #[.int k c, .int k d])).run P w = .ok (a == c && b == d) w := by
  obtain ⟨e, i, h1, h2, h3, h4⟩ := keyKind_two hk
  have hag : aggB P e = some false := by simp [aggB, h2]
  have c1 : ∀ x y, (Op.equalIn 9999 e (.int k x) (.int k y)).run P w = .ok (x == y) w := fun x y => by
    show (Op.equalIn (9998 + 1) e (.int k x) (.int k y)).run P w = .ok (x == y) w
    unfold Op.equalIn
    simp [run_underlying h2]
  rw [equal_succ]
  unfold Op.equalIn
  simp [run_underlying h1, part, run_isAgg hag, run_sizeOf h3, h4, c1, Std.Legacy.Range.forIn_eq_forIn_range', Std.Legacy.Range.size, List.range']
  by_cases h5 : a = c <;> by_cases h6 : b = d <;> simp [h5, h6]
theorem findKey_run {kk : KK} {kt : TypeId} {key : Value} (hk : keyKind P kt = some kk) (hi : isKey kk key = true) (w : World) : ∀ {m : KV}, (∀ e ∈ m, isKey kk e.1 = true) → (Instr.findKey kt key (entriesFrom 0 m)).run P w = .ok (findM key m 0) w := by
  intro m hm
  cases kk with
  | int k =>
    obtain ⟨a, rfl⟩ := isKey_int hi
    have hf : ∀ (m : KV) (i j : Nat), (∀ e ∈ m, isKey (.int k) e.1 = true) → Instr.findNow (.int k) (.int k a) (entriesFrom j m) i = some (findM (.int k a) m i) := by
      intro m
      induction m with
      | nil => intro i j _; rfl
      | cons e r ih =>
        intro i j hm
        obtain ⟨c, hc⟩ := isKey_int (hm e (by simp))
        have ih := ih (i + 1) (j + 1) fun x hx => hm x (by simp [hx])
        unfold entriesFrom Instr.findNow findM
        rw [hc]
        simp only [Instr.sameNow, keyEq, if_true]
        cases h5 : a == c
        · simpa using ih
        · rfl
    unfold Instr.findKey
    simp [run_underlying (keyKind_int hk), hf m 0 0 hm]
  | two k =>
    obtain ⟨a, b, rfl⟩ := isKey_two hi
    obtain ⟨e0, i0, h1, h2, h3, h4⟩ := keyKind_two hk
    have hf : ∀ (m : KV) (i j : Nat), (∀ e ∈ m, isKey (.two k) e.1 = true) → (Instr.findAsking kt (.agg #[.int k a, .int k b]) (entriesFrom j m) i).run P w = .ok (findM (.agg #[.int k a, .int k b]) m i) w := by
      intro m
      induction m with
      | nil => intro i j _; rfl
      | cons e r ih =>
        intro i j hm
        obtain ⟨c, d, hc⟩ := isKey_two (hm e (by simp))
        have ih := ih (i + 1) (j + 1) fun x hx => hm x (by simp [hx])
        unfold entriesFrom Instr.findAsking findM
        rw [hc]
        simp only [Sem.run_bind, keyEqual_run hk, Result.andThen_ok, keyEq]
        cases h5 : (a == c && b == d)
        · simpa using ih
        · rfl
    unfold Instr.findKey
    cases m with
    | nil => simp [run_underlying h1, entriesFrom, Instr.findNow, findM]
    | cons e r =>
      obtain ⟨c, d, hc⟩ := isKey_two (hm e (by simp))
      have hn : Instr.findNow (.array 2 e0) (.agg #[.int k a, .int k b]) (entriesFrom 0 (e :: r)) 0 = none := by
        unfold entriesFrom Instr.findNow
        rw [hc]; rfl
      simp only [Sem.run_bind, run_underlying h1, Result.andThen_ok, hn]
      exact hf (e :: r) 0 0 hm
theorem findM_lt {key : Value} : ∀ {m : KV} {i j : Nat} {v : Value}, findM key m i = some (j, v) → i ≤ j ∧ ∃ e, m[j - i]? = some e ∧ keyEq key e.1 = true ∧ v = e.2
  | [], i, j, v, h => by cases h
  | e :: r, i, j, v, h => by
    unfold findM at h
    cases hc : keyEq key e.1 with
    | true => rw [hc] at h; simp only [cond_true, Option.some.injEq, Prod.mk.injEq] at h; obtain ⟨rfl, rfl⟩ := h; exact ⟨Nat.le_refl _, e, by simp, hc, rfl⟩
    | false =>
      rw [hc] at h; simp only [cond_false] at h
      obtain ⟨h1, e', h2, h3, h4⟩ := findM_lt h
      refine ⟨by omega, e', ?_, h3, h4⟩
      rw [show j - i = (j - (i + 1)) + 1 by omega, List.getElem?_cons_succ]; exact h2
theorem put_none {key v : Value} : ∀ {m : KV} {i : Nat}, findM key m i = none → putM key v m = m ++ [(key, v)]
  | [], _, _ => rfl
  | e :: r, i, h => by
    unfold findM at h
    unfold putM
    cases hc : keyEq key e.1 with
    | true => rw [hc] at h; cases h
    | false => rw [hc] at h; simp only [cond_false] at h ⊢; rw [put_none h]; rfl
theorem put_some {key v : Value} : ∀ {m : KV} {i j : Nat} {u : Value}, findM key m i = some (j, u) → putM key v m = m.set (j - i) (key, v)
  | [], _, _, _, h => by cases h
  | e :: r, i, j, u, h => by
    have h0 := findM_lt h
    unfold findM at h
    unfold putM
    cases hc : keyEq key e.1 with
    | true => rw [hc] at h; simp only [cond_true, Option.some.injEq, Prod.mk.injEq] at h ⊢; obtain ⟨rfl, rfl⟩ := h; simp
    | false =>
      rw [hc] at h; simp only [cond_false] at h ⊢
      have h1 := findM_lt h
      rw [put_some h, show j - i = (j - (i + 1)) + 1 by omega]; rfl
theorem entries_append : ∀ (m n : KV) (i : Nat), entriesFrom i (m ++ n) = entriesFrom i m ++ entriesFrom (i + m.length) n
  | [], n, i => by simp [entriesFrom]
  | e :: r, n, i => by simp only [List.cons_append, entriesFrom, entries_append r n (i + 1), List.length_cons]; congr 3; omega
theorem entries_set {m : KV} {j : Nat} {e : Value × Value} (i : Nat) : entriesFrom i (m.set j e) = (entriesFrom i m).modify j fun x => { x with key := e.1, val := e.2 } := by
  apply List.ext_getElem?
  intro k
  rw [entries_get, List.getElem?_modify, entries_get, List.getElem?_set]
  by_cases c : j = k
  · subst c
    by_cases d : j < m.length
    · simp [d]
    · rw [if_pos rfl, if_neg d, List.getElem?_eq_none (by omega)]; rfl
  · rw [if_neg c]; simp [c]
theorem sameKey {kk : KK} {a b : Value} (ha : isKey kk a = true) (hb : isKey kk b = true) (h : keyEq a b = true) : a = b := by
  cases kk with
  | int k =>
    obtain ⟨x, rfl⟩ := isKey_int ha; obtain ⟨y, rfl⟩ := isKey_int hb
    unfold keyEq at h; simp at h; rw [h]
  | two k =>
    obtain ⟨x, y, rfl⟩ := isKey_two ha; obtain ⟨u, v, rfl⟩ := isKey_two hb
    unfold keyEq at h; simp at h; rw [h.1, h.2]
theorem stays_run {kk : KK} {a : Value} (ha : isKey kk a = true) (w : World) : (Instr.keyThatStays a a).run P w = .ok a w := by
  have : Instr.sameBits 10000 a a = true := by
    cases kk with
    | int k => obtain ⟨x, rfl⟩ := isKey_int ha; simp [Instr.sameBits]
    | two k =>
      obtain ⟨x, y, rfl⟩ := isKey_two ha
      show Instr.sameBits (9999 + 1) _ _ = true
      unfold Instr.sameBits
      have : ∀ z : Int, Instr.sameBits 9999 (.int k z) (.int k z) = true := fun z => by simp [Instr.sameBits]
      simp [this]
  unfold Instr.keyThatStays
  simp [this]

theorem lookup_run {t kt et : TypeId} {kk : KK} {i : TypeInfo} {z key : Value} {b : Nat} {m : KV} {ok : Bool} {w : World} (hu : P.underlying t = some (.map kt et)) (hkk : keyKind P kt = some kk) (hi : P.info? et = some i) (hz : i.zero = some z)
    (hk : isKey kk key = true) (hb : w.heap[b]? = some (.map (entriesFrom 0 m).toArray m.length)) (hks : ∀ e ∈ m, isKey kk e.1 = true) :
    (Instr.lookup t (.map (some b)) key ok).run P w = .ok (okV ok ((getM key m).getD z) (getM key m).isSome) w := by
  have hg := findM_get key m 0
  simp only [Instr.lookup, Sem.run_bind, run_underlying hu, Result.andThen_ok, Go.MapKept.run_getObj_map hb, checkKey_run hkk hk, Sem.run_pure]
  have hf := findKey_run hkk hk w hks
  rw [hf]
  simp only [Result.andThen_ok]
  cases hf2 : findM key m 0 with
  | none =>
    rw [hf2] at hg
    have hg : getM key m = none := by simpa using hg.symm
    cases ok <;> simp [hg, run_zeroValue hi hz, okV]
  | some p =>
    rw [hf2] at hg
    have hg : getM key m = some p.2 := by simpa using hg.symm
    cases ok <;> simp [hg, okV]
theorem update_run {t kt et : TypeId} {kk : KK} {key v : Value} {b : Nat} {m : KV} {w : World} (hu : P.underlying t = some (.map kt et)) (hkk : keyKind P kt = some kk)
    (hk : isKey kk key = true) (hb : w.heap[b]? = some (.map (entriesFrom 0 m).toArray m.length)) (hks : ∀ e ∈ m, isKey kk e.1 = true) :
    (Instr.mapUpdate t (.map (some b)) key v).run P w = .ok () { w with heap := w.heap.setIfInBounds b (mapObj (putM key v m)) } := by
  simp only [Instr.mapUpdate, Sem.run_bind, run_underlying hu, Result.andThen_ok, Go.MapKept.run_getObj_map hb, checkKey_run hkk hk, Sem.run_pure]
  have hf := findKey_run hkk hk w hks
  rw [hf]
  simp only [Result.andThen_ok]
  cases hf2 : findM key m 0 with
  | none =>
    have hp := put_none (v := v) hf2
    have e1 : (Obj.map ((entriesFrom 0 m).toArray.push { key := key, val := v, born := m.length }) (m.length + 1)) = mapObj (putM key v m) := by
      rw [hp]; unfold mapObj; rw [entries_append]; simp [entriesFrom]
    simp only [Go.MapKept.run_setObj_map _ hb, e1]
  | some p =>
    obtain ⟨j, u⟩ := p
    have hp := put_some (v := v) hf2
    obtain ⟨_, e, h2, h3, h4⟩ := findM_lt hf2
    rw [Nat.sub_zero] at hp h2
    have hke := sameKey hk (hks e (List.mem_of_getElem? h2)) h3
    have hj : ((entriesFrom 0 m).toArray[j]?).map (·.key) = some key := by
      simp [entries_get, h2, hke]
    have e1 : (Obj.map ((entriesFrom 0 m).toArray.modify j fun x => { x with key := key, val := v }) m.length) = mapObj (putM key v m) := by
      rw [hp]; unfold mapObj; rw [entries_set]; simp
    simp only [hj, Option.getD_some, Sem.run_bind, stays_run hk, Result.andThen_ok, Go.MapKept.run_setObj_map _ hb, e1]

theorem mapV_run {o : Oper} {h : Heap} {K : Value → Heap → Prop} (hh : mapV P o.op ((opsOf o.op).map ρ) h K) (w : World) (hw : w.heap = h) :
    ∃ v nx w', (execOp ρ o).run P w = .ok nx w' ∧ (nx = .value v ∨ (nx = .skip ∧ v = undef)) ∧ Out w w' ∧ K v w'.heap := by
  obtain ⟨dst, op, type, pos, after, guard⟩ := o
  simp only at hh
  unfold mapV at hh
  split at hh
  case h_1 he =>
    refine ⟨_, _, w.alloc (mapObj []), ?_, .inl rfl, ⟨rfl, rfl, rfl, fun _ => Nat.le_refl _⟩, by rw [← hw] at hh; exact hh⟩
    simp [execOp, Instr.makeMap, mapObj, entriesFrom, hw]
  case h_2 t x y ok q key he =>
    simp [opsOf] at he
    split at hh
    · rename_i kt et hu
      split at hh
      · rename_i hkk hsh hi
        rw [bif_and] at hh
        obtain ⟨hk, hh⟩ := hh
        cases q with
        | none => exact hh.elim
        | some b =>
          obtain ⟨m, ⟨hm, hks⟩, hh⟩ := hh
          obtain ⟨v, hv, hkv, _⟩ := rdS_val hh
          have hv := Option.some.inj hv
          have hb : w.heap[b]? = some (.map (entriesFrom 0 m).toArray m.length) := by rw [hw]; exact hm
          have hrun := lookup_run (ok := ok) hu hkk hi rfl hk hb hks
          rw [hv] at hrun
          exact ⟨_, .value (okV ok v (getM key m).isSome), w, by simp [execOp, he.1, he.2, hrun], .inl rfl, Out.refl w, by rw [hw]; exact hkv⟩
      · exact hh.elim
    · exact hh.elim
  case h_3 t x y z q key v he =>
    simp [opsOf] at he
    split at hh
    · rename_i kt et hu
      split at hh
      · rename_i kk hkk
        rw [bif_and] at hh
        obtain ⟨hk, hh⟩ := hh
        cases q with
        | none => exact hh.elim
        | some b =>
          obtain ⟨m, ⟨hm, hks⟩, hh⟩ := hh
          have hb : w.heap[b]? = some (.map (entriesFrom 0 m).toArray m.length) := by rw [hw]; exact hm
          have hrun := update_run (v := v) hu hkk hk hb hks
          refine ⟨undef, .skip, { w with heap := w.heap.setIfInBounds b (mapObj (putM key v m)) }, ?_, .inr ⟨rfl, rfl⟩, ⟨rfl, rfl, rfl, fun _ => Nat.le_refl _⟩, by rw [← hw] at hh; exact hh⟩
          simp [execOp, he.1, he.2.1, he.2.2, hrun]
      · exact hh.elim
    · exact hh.elim
  case h_4 args tys q he =>
    simp only [opsOf] at he
    split at hh
    · rename_i t ht
      split at hh
      · rename_i kt et hu
        cases q with
        | none => exact hh.elim
        | some b =>
          obtain ⟨m, hm, hh⟩ := hh
          have hb : w.heap[b]? = some (.map (entriesFrom 0 m).toArray m.length) := by rw [hw]; exact hm
          exact ⟨_, .value (.int .i64 m.length), w, by simp [execOp, resolve, invoke, builtin, arr_map he, arr_one ht, Builtin.len_, run_underlying hu, Go.MapKept.run_getObj_map hb, entries_len, goInt], .inl rfl, Out.refl w, by rw [hw]; exact hh⟩
      · exact hh.elim
    · exact hh.elim
  case h_5 t x q he =>
    simp [opsOf] at he
    split at hh
    · rename_i kt et hu
      cases q with
      | none => exact hh.elim
      | some b =>
        obtain ⟨m, hm, hh⟩ := hh
        have hb : w.heap[b]? = some (.map (entriesFrom 0 m).toArray m.length) := by rw [hw]; exact hm
        refine ⟨_, .value (.pointer (some ⟨w.heap.size, 0, none⟩)), w.alloc (.mapIter (some b) m.length #[] m.length), ?_, .inl rfl, ⟨rfl, rfl, rfl, fun _ => Nat.le_refl _⟩, by rw [← hw] at hh; exact hh⟩
        simp [execOp, he, Instr.range, run_underlying hu, getObj, Sem.run, hb]
    · exact hh.elim
  case h_6 x a he =>
    simp [opsOf] at he
    obtain ⟨⟨ha, hs⟩, b, m, seen, ⟨hr, hm⟩, h1, h2⟩ := hh
    have hb : w.heap[b]? = some (.map (entriesFrom 0 m).toArray m.length) := by rw [hw]; exact hm
    have hr' : w.heap[a.block]? = some (.mapIter (some b) m.length seen.toArray m.length) := by rw [hw]; exact hr
    obtain ⟨ab, ao, asp⟩ := a
    simp only at ha hs hr' h2
    subst ha hs
    have hold : ∀ x ∈ (entriesFrom 0 m).toArray.toList, x.born < m.length := fun x hx => by
      obtain ⟨i, e, hi, rfl⟩ := entries_mem (by simpa using hx); exact (List.getElem?_eq_some_iff.1 hi).1
    rcases run_next_at (P := P) w type ab b m.length m.length seen.toArray (entriesFrom 0 m).toArray m.length hr' hb hold (Nat.le_refl _) with ⟨h0, hrun⟩ | ⟨e, hmem, w1, hw1, hrun⟩
    · refine ⟨_, .value (.tuple #[.bool false]), w, by simp [execOp, he, hrun], .inl rfl, Out.refl w, ?_⟩
      rw [hw]; refine h1 fun i hi => ?_
      have h0 := Array.eq_empty_of_size_eq_zero h0
      refine Classical.byContradiction fun hn => ?_
      have : ({ key := (m[i]).1, val := (m[i]).2, born := i } : MapEntry) ∈ (leftOf (entriesFrom 0 m).toArray seen.toArray) := by
        unfold leftOf
        rw [Array.mem_filter]
        refine ⟨?_, by simpa using hn⟩
        rw [List.mem_toArray]
        refine List.mem_iff_getElem?.2 ⟨i, ?_⟩
        rw [entries_get, List.getElem?_eq_getElem hi]; simp
      rw [h0] at this; simp at this
    · have hmem' : e ∈ entriesFrom 0 m ∧ ¬ e.born ∈ seen := by
        unfold leftOf at hmem
        simpa using hmem
      obtain ⟨i, x, hi, rfl⟩ := entries_mem hmem'.1
      refine ⟨_, .value (.tuple #[.bool true, x.1, x.2]), _, by simp [execOp, he, hrun]; rfl, .inl rfl, ?_, ?_⟩
      · rcases hw1 with rfl | rfl
        · exact ⟨rfl, rfl, rfl, fun _ => Nat.le_refl _⟩
        · exact ⟨rfl, rfl, rfl, fun _ => Nat.le_succ _⟩
      · have := h2 i x hi hmem'.2
        have e1 : (seen.toArray.push i) = (seen ++ [i]).toArray := by simp
        rcases hw1 with rfl | rfl
        · subst hw; exact this
        · subst hw; exact this
  case h_7 x a he =>
    simp [opsOf] at he
    obtain ⟨⟨ha, hs⟩, b, m, seen, i, e, ⟨hr, hm, hi⟩, q, l, c, he2, hh⟩ := hh
    have hb : w.heap[b]? = some (.map (entriesFrom 0 m).toArray m.length) := by rw [hw]; exact hm
    obtain ⟨ab, ao, asp⟩ := a
    simp only at ha hs hr
    subst ha hs
    have hr' : w.heap[ab]? = some (.mapIter (some b) m.length (seen.toArray.push i) m.length) := by rw [hw, hr]; simp
    have hrun := run_entry_at (P := P) w ab b m.length seen.toArray (entriesFrom 0 m).toArray m.length { key := e.1, val := e.2, born := i } hr' hb (by
      refine List.mem_iff_getElem?.2 ⟨i, ?_⟩
      rw [List.toList_toArray, entries_get, hi]; simp) (by
      rw [List.toList_toArray, entries_born]
      exact List.pairwise_map.2 ((List.nodup_range (n := m.length)).imp fun h e => h (by omega)))
    exact ⟨_, .value (.tuple #[e.1, e.2]), w, by simp [execOp, he, hrun], .inl rfl, Out.refl w, by rw [hw, he2]; exact hh⟩
  case h_8 => exact hh.elim
end
end Go.Hq

namespace Go.Hq
set_option linter.unusedVariables false
set_option linter.unusedSimpArgs false

/-- What the walk is told of calls. -/
structure Ctx where
  P : Program
  call : FuncId → List Value → Heap → (Value → Heap → Prop) → Prop
  qcall : FuncId → List Value → Heap → (Value → Prop) → Prop
  quiet : FuncId → Bool
  loop : Nat → List Value → Heap → (Nat → List Value → Heap → Prop) → Prop
  hint : TypeId → Option FuncId := fun _ => none   -- a cell of this type is read only where it holds this function, bound to one pointer

/-- A read; of a cell of a function type, by the hint. -/
def readH (hint : TypeId → Option FuncId) (P : Program) (o : Op) (vs : List Value) (h : Heap) (K : Value → Prop) : Prop :=
  match o, vs with
  | .load t x, [.pointer (some a)] => match hint t with
    | none => readV P (.load t x) [.pointer (some a)] h K
    | some f => match aggB P t, kinds P 8 t with
      | some false, [.any] => ∃ q : Addr, cell h a = some (.func (.func f) #[] #[.pointer (some q)]) ∧ K (.func (.func f) #[] #[.pointer (some q)])
      | _, _ => False
  | _, _ => False

/-- An operation that leaves memory alone. -/
def rdK (C : Ctx) (o : Op) (vs : List Value) (h : Heap) (K : Value → Prop) : Prop :=
  match cls C.quiet o with
  | 0 => pureV C.P o vs K
  | 1 => match o, vs with
    | .load t a, vs => readH C.hint C.P (.load t a) vs h K
    | .call { callee := .value _, .. }, .func (.func f) first cap :: args => C.qcall f (first.toList ++ args ++ cap.toList) h K
    | _, _ => False
  | _ => False

def wrK (C : Ctx) (o : Op) (vs : List Value) (h : Heap) (K : Value → Heap → Prop) : Prop :=
  match o, vs with
  | .call { callee := .value _, .. }, .func (.func f) first cap :: args => C.call f (first.toList ++ args ++ cap.toList) h K
  | o, vs => match isMap o vs with
    | true => mapV C.P o vs h K
    | false => writeV C.P o vs h K

def opK (C : Ctx) (o : Op) (vs : List Value) (h : Heap) (K : Value → Heap → Prop) : Prop :=
  bif Nat.ble (cls C.quiet o) 1 then rdK C o vs h (fun v => K v h) else wrK C o vs h K

structure Ctx.OK (C : Ctx) : Prop where
  mixed : C.P.follows .mixedOrders = true
  mono : ∀ {f args h} {K K' : Value → Heap → Prop}, C.call f args h K → (∀ v h', K v h' → K' v h') → C.call f args h K'
  qmono : ∀ {f args h} {K K' : Value → Prop}, C.qcall f args h K → (∀ v, K v → K' v) → C.qcall f args h K'
  qval : ∀ {f args h} {K : Value → Prop}, C.qcall f args h K → ∃ v, K v ∧ C.qcall f args h (· = v)
  call : ∀ {f args h} {K : Value → Heap → Prop}, C.call f args h K → ∀ w : World, w.heap = h → (callFunc f args.toArray).run C.P w = .ok (.enter f args.toArray) w ∧
    Calls C.P f args.toArray w fun e w' => ∃ v, e = .returned v ∧ Out w w' ∧ K v w'.heap
  qcall : ∀ {f args h} {v : Value}, C.qcall f args h (· = v) → ∀ w : World, w.heap = h → ((callFunc f args.toArray).run C.P w = .ok (.enter f args.toArray) w ∧
    Calls C.P f args.toArray w fun e w' => e = .returned v ∧ Out w w' ∧ w'.heap = h) ∨ (callFunc f args.toArray).run C.P w = .ok (.value v) w

section mono
variable {P : Program}
theorem val_mono {o : Option Value} {K K' : Value → Prop} (h : val o K) (hk : ∀ v, K v → K' v) : val o K' := by
  obtain ⟨v, hv, he⟩ := val_val h
  rw [val_eq he]; exact hk v hv

variable {K K' : Value → Prop}
theorem iteB_mono {b : Bool} {u v : Value} (h : iteB b (K u) (K v)) (hk : ∀ v, K v → K' v) : iteB b (K' u) (K' v) := by
  cases b
  · exact hk _ h
  · exact hk _ h

theorem intBin_mono {op : BinOp} {k : IntKind} {a b : Int} (h : intBin op k a b K) (hk : ∀ v, K v → K' v) : intBin op k a b K' := by
  cases op <;> simp only [intBin] at h ⊢ <;> first | exact h.elim | exact hk _ h | exact ⟨h.1, hk _ h.2⟩

theorem strBin_mono {op : BinOp} {a b : ByteArray} (h : strBin op a b K) (hk : ∀ v, K v → K' v) : strBin op a b K' := by
  cases op <;> simp only [strBin] at h ⊢ <;> first | exact h.elim | exact hk _ h | exact ⟨h.1, hk _ h.2⟩

theorem fltBin_mono {op : BinOp} {k : FloatKind} {a b : Nat} (h : fltBin op k a b K) (hk : ∀ v, K v → K' v) : fltBin op k a b K' := by
  cases op <;> simp only [fltBin] at h ⊢ <;> first | exact h.elim | exact hk _ h | (obtain ⟨r, hr, h⟩ := h; exact ⟨r, hr, hk _ h⟩)

theorem binK_mono {op : BinOp} {t : TypeId} {x y : Value} (h : binK P op t x y K) (hk : ∀ v, K v → K' v) : binK P op t x y K' := by
  unfold binK at h ⊢
  split at h
  · exact ⟨h.1, hk _ h.2⟩
  · exact ⟨h.1, hk _ h.2⟩
  · split at h
    · rename_i hk; subst hk; simpa using intBin_mono h hk
    · exact h.elim
  · exact strBin_mono h hk
  · split at h
    · rename_i hq; subst hq; simpa using fltBin_mono h hk
    · exact h.elim
  all_goals first
    | (split at h
       · exact hk _ h
       · exact h.elim)
    | exact h.elim

theorem sliceK_mono {t : TypeId} {x : Value} {lo hi : Option Value} (h : sliceK P t x lo hi K) (hk : ∀ v, K v → K' v) : sliceK P t x lo hi K' := by
  unfold sliceK at h ⊢
  split at h
  · split at h
    · split at h
      · exact hk _ h
      · exact ⟨h.1, hk _ h.2⟩
      · exact h.elim
    · split at h
      · exact ⟨h.1, hk _ h.2⟩
      · exact ⟨h.1, h.2.1, hk _ h.2.2⟩
      · exact h.elim
    · exact h.elim
  · split at h
    · exact h.elim
    split at h
    · split at h
      · exact hk _ h
      · exact ⟨h.1, hk _ h.2⟩
      · exact h.elim
    · split at h
      · exact ⟨h.1, hk _ h.2⟩
      · exact ⟨h.1, h.2.1, hk _ h.2.2⟩
      · exact h.elim
    · exact h.elim
  · exact h.elim

theorem convK_mono {s d : TypeId} {x : Value} (h : convK P s d x K) (hk : ∀ v, K v → K' v) : convK P s d x K' := by
  unfold convK at h ⊢
  split at h
  · exact hk _ h
  · exact hk _ h
  · exact hk _ h
  · obtain ⟨n, h1, h2, h⟩ := h; exact ⟨n, h1, h2, hk _ h⟩
  · exact h.elim

theorem buildK_mono {t : TypeId} {ixs : List Nat} {vs : List Value} (h : buildK P t ixs vs K) (hk : ∀ v, K v → K' v) : buildK P t ixs vs K' := by
  unfold buildK at h ⊢
  split at h
  · rw [bif_and] at h
    obtain ⟨hb, h⟩ := h
    simp only [hb, cond_true]
    split at h
    · exact hk _ h
    · exact h.elim
  · split at h
    · split at h
      · exact hk _ h
      · exact h.elim
    · exact h.elim
  · exact h.elim

theorem pureV_mono {o : Op} {vs : List Value} (h : pureV P o vs K) (hk : ∀ v, K v → K' v) : pureV P o vs K' := by
  unfold pureV at h ⊢
  split at h
  · exact hk _ h
  · exact hk _ h
  · exact iteB_mono h hk
  · obtain ⟨a, rfl, h⟩ := chkP_elim h
    exact hk _ h
  · exact hk _ h
  · exact binK_mono h hk
  · exact hk _ h
  · exact hk _ h
  · exact hk _ h
  · exact val_mono h hk
  · split at h
    · exact hk _ h
    · exact h.elim
  · split at h
    · split at h
      · exact hk _ h
      · exact val_mono h hk
      · exact h.elim
    · exact h.elim
  · split at h
    · obtain ⟨a, rfl, h⟩ := chkP_elim h
      exact ⟨h.1, hk _ h.2⟩
    · exact h.elim
  · split at h
    · split at h
      · exact ⟨h.1, hk _ h.2⟩
      · exact h.elim
    · exact h.elim
  · split at h
    · obtain ⟨h0, b, hb, hk'⟩ := h
      exact ⟨h0, b, hb, hk _ hk'⟩
    · exact h.elim
  · split at h
    · split at h
      · rw [bif_and] at h ⊢
        obtain ⟨hb, h0, h⟩ := h
        exact ⟨hb, h0, rdS_mono h hk⟩
      · rw [bif_and] at h ⊢
        obtain ⟨hb, h0, h⟩ := h
        exact ⟨hb, h0, rdF_mono h fun ws hw => hk _ hw⟩
      · exact h.elim
    · exact h.elim
  · exact sliceK_mono h hk
  · exact sliceK_mono h hk
  · exact sliceK_mono h hk
  · exact sliceK_mono h hk
  · exact convK_mono h hk
  · split at h
    · exact h.elim
    · exact hk _ h
    · exact h.elim
  · exact hk _ h
  · exact buildK_mono h hk
  · split at h
    · split at h
      · exact hk _ h
      · exact hk _ h
      · exact h.elim
    · exact h.elim
  · split at h
    · split at h
      · exact hk _ h
      · exact h.elim
    · exact h.elim
  · exact val_mono h hk
  · exact val_mono h hk
  · exact h.elim

theorem rdL_mono : ∀ {l : List Sh} {h : Heap} {a : Addr} {i : Nat} {K K' : List Value → Prop}, rdL l h a i K → (∀ x, K x → K' x) → rdL l h a i K'
  | [], _, _, _, _, _, h1, h2 => h2 _ h1
  | _ :: _, _, _, _, _, _, h1, h2 => rdS_mono h1 fun _ hv => rdL_mono hv fun _ hx => h2 _ hx

theorem readV_mono {o : Op} {vs : List Value} {h : Heap} (hh : readV P o vs h K) (hk : ∀ v, K v → K' v) : readV P o vs h K' := by
  unfold readV at hh ⊢
  split at hh
  · split at hh
    · refine rdL_mono hh fun x hx => ?_
      split at hx
      · rw [bif_and] at hx ⊢; exact ⟨hx.1, hk _ hx.2⟩
      · exact hx.elim
    · split at hh
      · exact rdS_mono hh hk
      · exact hh.elim
    · exact hh.elim
  · exact hh.elim

theorem readH_mono {hint : TypeId → Option FuncId} {o : Op} {vs : List Value} {h : Heap} (hh : readH hint P o vs h K) (hk : ∀ v, K v → K' v) : readH hint P o vs h K' := by
  unfold readH at hh ⊢
  split at hh
  · split at hh
    · exact readV_mono hh hk
    · split at hh
      · obtain ⟨q, h1, h2⟩ := hh; exact ⟨q, h1, hk _ h2⟩
      · exact hh.elim
  · exact hh.elim
theorem readH_val {hint : TypeId → Option FuncId} {o : Op} {vs : List Value} {h : Heap} (hh : readH hint P o vs h K) : ∃ v, K v ∧ readH hint P o vs h (· = v) := by
  unfold readH at hh ⊢
  split at hh
  · split at hh
    · exact readV_val hh
    · split at hh
      · obtain ⟨q, h1, h2⟩ := hh; exact ⟨_, h2, q, h1, rfl⟩
      · exact hh.elim
  · exact hh.elim
theorem readH_V {hint : TypeId → Option FuncId} {o : Op} {vs : List Value} {h : Heap} (hh : readH hint P o vs h K) : readV P o vs h K := by
  unfold readH at hh
  split at hh
  · split at hh
    · exact hh
    · split at hh
      · rename_i h1 h2
        obtain ⟨q, h3, h4⟩ := hh
        unfold readV
        simp only [h1, h2]
        exact ⟨_, h3, h4⟩
      · exact hh.elim
  · exact hh.elim

theorem stL_mono : ∀ {vs : List Value} {h : Heap} {a : Addr} {i : Nat} {K K' : Heap → Prop}, stL vs h a i K → (∀ x, K x → K' x) → stL vs h a i K'
  | [], _, _, _, _, _, h1, h2 => h2 _ h1
  | _ :: _, _, _, _, _, _, h1, h2 => by
    simp only [stL] at h1 ⊢
    split at h1
    · exact ⟨h1.1, stL_mono h1.2 h2⟩
    · exact h1.elim

theorem appP_mono {e size bytes : Nat} {zero : List Value} {q : Option Addr} {len cap n : Nat} {news : List Value} {h : Heap} {K K' : Option Addr → Nat → Nat → Heap → Prop}
    (hh : appP e size bytes zero q len cap n news h K) (hk : ∀ a b c d, K a b c d → K' a b c d) : appP e size bytes zero q len cap n news h K' := by
  refine ⟨fun h1 => ?_, fun h2 => ?_⟩
  · have := hh.1 h1
    cases q with
    | none => exact hk _ _ _ _ this
    | some a => exact stL_mono this fun x hx => hk _ _ _ _ hx
  · obtain ⟨a, b, olds, hr, hc⟩ := hh.2 h2
    exact ⟨a, b, olds, hr, fun c hc' => hk _ _ _ _ (hc c hc')⟩

theorem writeV_mono {o : Op} {vs : List Value} {h : Heap} {K K' : Value → Heap → Prop} (hh : writeV P o vs h K) (hk : ∀ v h', K v h' → K' v h') : writeV P o vs h K' := by
  unfold writeV at hh ⊢
  split at hh
  · split at hh
    · exact hk _ _ hh
    · exact hh.elim
  · exact hk _ _ hh
  · split at hh
    · rw [bif_and] at hh ⊢
      refine ⟨hh.1, ?_⟩
      have hh := hh.2
      split at hh
      · split at hh
        · exact ⟨hh.1, hk _ _ hh.2⟩
        · exact hh.elim
      · exact stL_mono hh fun x hx => hk _ _ hx
    · exact hh.elim
  · split at hh
    · split at hh
      · rw [bif_and] at hh ⊢
        refine ⟨hh.1, ?_⟩
        have hh := hh.2
        split at hh
        · exact hk _ _ hh
        · exact hh.elim
      · exact hh.elim
    · exact hh.elim
  · split at hh
    · split at hh
      · rw [bif_and] at hh ⊢
        exact ⟨hh.1, hh.2.1, hk _ _ hh.2.2⟩
      · exact hh.elim
    · exact hh.elim
  · split at hh
    · split at hh
      · exact hh.elim
      · unfold appK at hh ⊢
        split at hh
        · split at hh
          · split at hh
            · split at hh
              · obtain ⟨news, hr, hp⟩ := hh
                exact ⟨news, hr, appP_mono hp fun _ _ _ _ hx => hk _ _ hx⟩
              · exact appP_mono hh fun _ _ _ _ hx => hk _ _ hx
              · exact hh.elim
            · exact hh.elim
          · exact hh.elim
        · exact hh.elim
      · exact hh.elim
    · exact hh.elim
  · split at hh
    · split at hh
      · obtain ⟨news, hr, hp⟩ := hh
        refine ⟨news, hr, ?_⟩
        split at hp
        · exact hk _ _ hp
        · exact stL_mono hp fun x hx => hk _ _ hx
      · exact hh.elim
    · exact hh.elim
  · split at hh
    · split at hh
      · split at hh
        · unfold clearP at hh ⊢
          split at hh
          · exact hk _ _ hh
          · exact stL_mono hh fun x hx => hk _ _ hx
        · exact hh.elim
      · exact hh.elim
    · exact hh.elim
  · exact hh.elim
theorem mapV_mono {o : Op} {vs : List Value} {h : Heap} {K K' : Value → Heap → Prop} (hh : mapV P o vs h K) (hk : ∀ v h', K v h' → K' v h') : mapV P o vs h K' := by
  unfold mapV at hh ⊢
  split at hh
  · exact hk _ _ hh
  · rename_i t x y ok q key
    split at hh
    · split at hh
      · rw [bif_and] at hh ⊢
        refine ⟨hh.1, ?_⟩
        have hh := hh.2
        cases q with
        | none => exact hh.elim
        | some b => obtain ⟨m, h1, h2⟩ := hh; exact ⟨m, h1, rdS_mono h2 fun v hv => hk _ _ hv⟩
      · exact hh.elim
    · exact hh.elim
  · rename_i t x y z q key v
    split at hh
    · split at hh
      · rw [bif_and] at hh ⊢
        refine ⟨hh.1, ?_⟩
        have hh := hh.2
        cases q with
        | none => exact hh.elim
        | some b => obtain ⟨m, h1, h2⟩ := hh; exact ⟨m, h1, hk _ _ h2⟩
      · exact hh.elim
    · exact hh.elim
  · rename_i args tys q
    split at hh
    · split at hh
      · cases q with
        | none => exact hh.elim
        | some b => obtain ⟨m, h1, h2⟩ := hh; exact ⟨m, h1, hk _ _ h2⟩
      · exact hh.elim
    · exact hh.elim
  · rename_i t x q
    split at hh
    · cases q with
      | none => exact hh.elim
      | some b => obtain ⟨m, h1, h2⟩ := hh; exact ⟨m, h1, hk _ _ h2⟩
    · exact hh.elim
  · obtain ⟨h0, b, m, seen, h1, h2, h3⟩ := hh
    exact ⟨h0, b, m, seen, h1, fun h => hk _ _ (h2 h), fun i e hi hn => hk _ _ (h3 i e hi hn)⟩
  · obtain ⟨h0, b, m, seen, i, e, h1, q, l, c, h2, h3⟩ := hh
    exact ⟨h0, b, m, seen, i, e, h1, q, l, c, h2, hk _ _ h3⟩
  · exact hh.elim
end mono
end Go.Hq

namespace Go.Hq
set_option linter.unusedVariables false
set_option linter.unusedSimpArgs false

section
variable {C : Ctx}

theorem rdK_val (hC : C.OK) {o : Op} {vs : List Value} {h : Heap} {K : Value → Prop} (hh : rdK C o vs h K) : ∃ v, K v ∧ rdK C o vs h (· = v) := by
  unfold rdK at hh ⊢
  split at hh
  · exact pureV_val hh
  · split at hh
    · exact readH_val hh
    · exact hC.qval hh
    · exact hh.elim
  · exact hh.elim

theorem rdK_mono (hC : C.OK) {o : Op} {vs : List Value} {h : Heap} {K K' : Value → Prop} (hh : rdK C o vs h K) (hk : ∀ v, K v → K' v) : rdK C o vs h K' := by
  unfold rdK at hh ⊢
  split at hh
  · exact pureV_mono hh hk
  · split at hh
    · exact readH_mono hh hk
    · exact hC.qmono hh hk
    · exact hh.elim
  · exact hh.elim

theorem rdK_pure {o : Op} {vs : List Value} {h h' : Heap} {K : Value → Prop} (h0 : cls C.quiet o = 0) (hh : rdK C o vs h K) : rdK C o vs h' K := by
  unfold rdK at hh ⊢
  rw [h0] at hh ⊢
  exact hh

theorem wrK_mono (hC : C.OK) {o : Op} {vs : List Value} {h : Heap} {K K' : Value → Heap → Prop} (hh : wrK C o vs h K) (hk : ∀ v h', K v h' → K' v h') : wrK C o vs h K' := by
  unfold wrK at hh ⊢
  split at hh
  · exact hC.mono hh hk
  · split at hh
    · exact mapV_mono hh hk
    · exact writeV_mono hh hk

theorem opK_mono (hC : C.OK) {o : Op} {vs : List Value} {h : Heap} {K K' : Value → Heap → Prop} (hh : opK C o vs h K) (hk : ∀ v h', K v h' → K' v h') : opK C o vs h K' := by
  unfold opK at hh ⊢
  cases hb : Nat.ble (cls C.quiet o) 1 with
  | true => rw [hb] at hh; exact rdK_mono hC hh fun v hv => hk v h hv
  | false => rw [hb] at hh; exact wrK_mono hC hh hk

/-- Operation number i comes up. -/
def aOp (C : Ctx) (ops : Array Oper) (i : Nat) (K : Act → Heap → Prop) (a : Act) (h : Heap) : Prop :=
  match ops[i]? with
  | none => K a h
  | some o => if Region.wanted o (yielded ops a.tmps) then opK C o.op ((opsOf o.op).map a.eval) h (fun v h' => K (a.put o.dst v) h') else K (a.put o.dst undef) h

variable {ops : Array Oper} {md : Region.Mode}

theorem aOp_mono (hC : C.OK) {i : Nat} {K K' : Act → Heap → Prop} {a : Act} {h : Heap} (hh : aOp C ops i K a h) (hk : ∀ a h, K a h → K' a h) : aOp C ops i K' a h := by
  unfold aOp at hh ⊢
  split at hh
  · exact hk _ _ hh
  · split at hh
    · rename_i hw; rw [if_pos hw]; exact opK_mono hC hh fun v h' hv => hk _ _ hv
    · rename_i hw; rw [if_neg hw]; exact hk _ _ hh

def aAny (C : Ctx) (md : Region.Mode) (ops : Array Oper) (Q : Act → Heap → Prop) : Nat → Array Bool → Act → Heap → Prop
  | 0, listed, a, h => Region.ready md ops listed = [] ∧ Q a h
  | fuel + 1, listed, a, h =>
    (Region.ready md ops listed = [] → Q a h) ∧
    ∀ i ∈ Region.ready md ops listed, aOp C ops i (aAny C md ops Q fuel (listed.setIfInBounds i true)) a h

/-! ### From there to the model's own -/

theorem call_run {P : Program} {ρ : Operand → Value} {o : Oper} {fop : Operand} {args : Array Operand} {tys : Array TypeId} {f : FuncId} {first cap : Array Value} {as : List Value} {w : World} {r : Result Next}
    (hop : o.op = .call { callee := .value fop, args := args, argTypes := tys }) (hvs : (opsOf o.op).map ρ = .func (.func f) first cap :: as)
    (h : (callFunc f (first.toList ++ as ++ cap.toList).toArray).run P w = r) : (execOp ρ o).run P w = r := by
  obtain ⟨dst, op, type, pos, after, guard⟩ := o
  simp only at hop hvs
  subst hop
  simp only [opsOf, List.map_cons, List.cons.injEq] at hvs
  have e : first ++ args.map ρ ++ cap = (first.toList ++ as ++ cap.toList).toArray := by
    rw [← hvs.2]; apply Array.ext'; simp
  simp only [execOp, resolve, hvs.1, Deferred.ofValue]
  simp only [← e] at h
  simp only [bind, Sem.bind, pure, invoke]
  exact h

theorem upon_enter_returned {P : Program} {o : Oper} {a : Act} {next : Act → World → Prop} {Q : Exit → Act → World → Prop} {f : FuncId} {args : Array Value} {w : World} {R : Value → World → Prop}
    (hc : Calls P f args w fun e w' => ∃ v, e = .returned v ∧ R v w') (hk : ∀ v w', R v w' → next (a.put o.dst v) w') : o.upon P a next Q (.ok (.enter f args) w) := by
  rw [Oper.upon_enter]
  refine hc.mono fun e w' ⟨v, he, hR⟩ => ?_
  subst he
  exact hk v w' hR

theorem rdK_wp (hC : C.OK) {o : Oper} {a : Act} {h : Heap} {K : Act → Prop} {next : Act → World → Prop} {Q : Exit → Act → World → Prop} {w0 w : World}
    (hh : rdK C o.op ((opsOf o.op).map a.eval) h (fun v => K (a.put o.dst v))) (hw : w.heap = h) (ho : Out w0 w) (hk : ∀ a w', w'.heap = h → Out w0 w' → K a → next a w') : o.wp C.P a w next Q := by
  obtain ⟨v, hv, he⟩ := rdK_val hC hh
  unfold rdK at he
  unfold Oper.wp
  split at he
  · rw [pureV_run he w]; exact hk _ _ hw ho hv
  · split at he
    · rename_i t x hop
      rw [← hop] at he
      rw [readV_run (readH_V he) w hw]; exact hk _ _ hw ho hv
    · rename_i fop args tys f first cap as hop hvs
      rcases hC.qcall he w hw with ⟨hr, hc⟩ | hr
      rotate_left
      · rw [call_run hop hvs hr]; exact hk _ _ hw ho hv
      rw [call_run hop hvs hr]
      exact upon_enter_returned (R := fun u w' => u = v ∧ Out w w' ∧ w'.heap = h) (hc.mono fun e w' ⟨he, ho', hh'⟩ => ⟨v, he, rfl, ho', hh'⟩)
        fun u w' ⟨hu, ho', hh'⟩ => by subst hu; exact hk _ _ hh' (ho.trans ho') hv
    · exact he.elim
  · exact he.elim

theorem wrK_wp (hC : C.OK) {o : Oper} {a : Act} {h : Heap} {K : Act → Heap → Prop} {next : Act → World → Prop} {Q : Exit → Act → World → Prop} {w0 w : World}
    (hh : wrK C o.op ((opsOf o.op).map a.eval) h (fun v h' => K (a.put o.dst v) h')) (hw : w.heap = h) (ho : Out w0 w) (hk : ∀ a w', Out w0 w' → K a w'.heap → next a w') : o.wp C.P a w next Q := by
  unfold wrK at hh
  unfold Oper.wp
  split at hh
  · rename_i fop args tys f first cap as hop hvs
    obtain ⟨hr, hc⟩ := hC.call hh w hw
    rw [call_run hop hvs hr]
    exact upon_enter_returned (R := fun v w' => Out w w' ∧ K (a.put o.dst v) w'.heap) hc fun v w' ⟨ho', hK⟩ => hk _ _ (ho.trans ho') hK
  · obtain ⟨v, nx, w', hr, hn, ho', hK⟩ : ∃ v nx w', (execOp a.eval o).run C.P w = .ok nx w' ∧ (nx = .value v ∨ (nx = .skip ∧ v = undef)) ∧ Out w w' ∧ K (a.put o.dst v) w'.heap := by
      split at hh
      · exact mapV_run hh w hw
      · exact writeV_run hh w hw
    rw [hr]
    rcases hn with rfl | ⟨rfl, rfl⟩
    · exact hk _ _ (ho.trans ho') hK
    · exact hk _ _ (ho.trans ho') hK

theorem opK_wp (hC : C.OK) {o : Oper} {a : Act} {h : Heap} {K : Act → Heap → Prop} {next : Act → World → Prop} {Q : Exit → Act → World → Prop} {w0 w : World}
    (hh : opK C o.op ((opsOf o.op).map a.eval) h (fun v h' => K (a.put o.dst v) h')) (hw : w.heap = h) (ho : Out w0 w) (hk : ∀ a w', Out w0 w' → K a w'.heap → next a w') : o.wp C.P a w next Q := by
  unfold opK at hh
  cases hb : Nat.ble (cls C.quiet o.op) 1 with
  | true => rw [hb] at hh; exact rdK_wp (K := fun a => K a h) hC hh hw ho fun a w' hw' ho' hK => hk _ _ ho' (by rw [hw']; exact hK)
  | false => rw [hb] at hh; exact wrK_wp hC hh hw ho hk

theorem aOp_wp (hC : C.OK) {i : Nat} {K : Act → Heap → Prop} {a : Act} {h : Heap} {next : Act → World → Prop} {Q : Exit → Act → World → Prop} {w0 w : World}
    (hh : aOp C ops i K a h) (hw : w.heap = h) (ho : Out w0 w) (hk : ∀ a w', Out w0 w' → K a w'.heap → next a w') : wpOp C.P ops Q i next a w := by
  unfold aOp at hh
  unfold wpOp
  split at hh
  · rename_i hi; simp only [hi]; exact hk _ _ ho (by rw [hw]; exact hh)
  · rename_i o hi
    simp only [hi]
    split at hh
    · rename_i hw'; rw [if_pos hw']; exact .inl (opK_wp hC hh hw ho hk)
    · rename_i hw'; rw [if_neg hw']; exact hk _ _ ho (by rw [hw]; exact hh)

theorem aAny_wp (hC : C.OK) {Q : Act → Heap → Prop} {Q' : Exit → Act → World → Prop} {w0 : World} (hQ : ∀ a w, Out w0 w → Q a w.heap → Q' .normal a w) :
    ∀ (fuel : Nat) (listed : Array Bool) (a : Act) (w : World), Out w0 w → aAny C md ops Q fuel listed a w.heap → wpAny C.P md ops Q' fuel listed a w
  | 0, _, _, _, ho, h => ⟨h.1, hQ _ _ ho h.2⟩
  | fuel + 1, _, _, _, ho, h => ⟨fun h0 => hQ _ _ ho (h.1 h0), fun i hi => aOp_wp hC (h.2 i hi) rfl ho fun a' w' ho' hK => aAny_wp hC hQ fuel _ a' w' ho' hK⟩

/-! ### Who waits for whom -/

def bitB (m i : Nat) : Bool := Nat.beq (Nat.land (Nat.shiftRight m i) 1) 1
/-- Operation j waits, by whatever chain, for operation i: a table says so. -/
def depB (D : List Nat) (j i : Nat) : Bool := bitB (D.getD j 0) i

def maskOK (md : Region.Mode) (ops : Array Oper) (D : List Nat) : Bool :=
  (List.range ops.size).all fun j => (List.range ops.size).all fun i => !depB D j i || (match ops[j]? with
    | some o => o.after.toList.any fun e => Region.binds md e && Nat.blt e.on j && (Nat.beq e.on i || depB D e.on i)
    | none => false)

def Closed (md : Region.Mode) (ops : Array Oper) (l : Array Bool) : Prop :=
  ∀ j o, ops[j]? = some o → l.getD j false = true → ∀ e ∈ o.after, Region.binds md e = true → l.getD e.on false = true

theorem dep_not {D : List Nat} (hm : maskOK md ops D = true) {i : Nat} {l : Array Bool} (hc : Closed md ops l) (hi : l.getD i false = false) (hlt : i < ops.size) : ∀ (j : Nat), j < ops.size →
    (∀ o, ops[j]? = some o → ∀ e ∈ o.after, Region.binds md e = true → l.getD e.on false = true) → depB D j i = false := by
  intro j
  induction j using Nat.strongRecOn with
  | _ j ih =>
    intro hj hl
    cases hd : depB D j i with
    | false => rfl
    | true =>
      exfalso
      have h := (List.all_eq_true.1 ((List.all_eq_true.1 hm) j (List.mem_range.2 hj))) i (List.mem_range.2 hlt)
      rw [hd] at h
      simp only [Bool.not_true, Bool.false_or] at h
      split at h
      · rename_i o ho
        obtain ⟨e, he, h⟩ := List.any_eq_true.1 h
        simp only [Bool.and_eq_true, Bool.or_eq_true] at h
        obtain ⟨⟨hb, hlt'⟩, h⟩ := h
        have hlt' : e.on < j := Nat.le_of_ble_eq_true hlt'
        have hel := hl o ho e (by simpa using he) hb
        rcases h with h | h
        · rw [Nat.eq_of_beq_eq_true h, hi] at hel; cases hel
        · rw [ih e.on hlt' (by omega) (fun o' ho' => hc e.on o' ho' hel)] at h; cases h
      · cases h

theorem closed_set {l : Array Bool} {j : Nat} (hc : Closed md ops l) (hr : j ∈ Region.ready md ops l) : Closed md ops (l.setIfInBounds j true) := by
  intro k o hk hl e he hb
  have keep : ∀ x, l.getD x false = true → (l.setIfInBounds j true).getD x false = true := fun x hx => getD_set_true hx
  by_cases hkj : k = j
  · subst hkj
    obtain ⟨_, o', ho', hall⟩ := mem_ready.1 hr
    rw [hk] at ho'; cases ho'
    exact keep _ (hall e he hb)
  · rw [getD_set_ne false (Ne.symm hkj)] at hl
    exact keep _ (hc k o hk hl e he hb)

def slotsOf (ops : Array Oper) (o : Oper) : List Tmp :=
  (opsOf o.op).filterMap (fun | .tmp t => some t | _ => none) ++ (match o.guard with
    | some (g, _) => ((ops[g]?).bind (·.dst)).toList
    | none => [])

def apartB (ops : Array Oper) (x y : Oper) : Bool :=
  (match x.dst with
   | some d => !(slotsOf ops y).contains d && (match y.dst with | some d' => !Nat.beq d d' | none => true)
   | none => true) &&
  (match y.dst with
   | some d => !(slotsOf ops x).contains d
   | none => true)

theorem apartB_spec {x y : Oper} (h : apartB ops x y = true) :
    (∀ d, x.dst = some d → d ∉ slotsOf ops y) ∧ (∀ d, x.dst = some d → y.dst ≠ some d) ∧ (∀ d, y.dst = some d → d ∉ slotsOf ops x) := by
  refine ⟨fun d hd => ?_, fun d hd he => ?_, fun d hd => ?_⟩ <;> simp [apartB, hd] at h
  · exact h.1.1
  · simp [he] at h
  · exact h.2

theorem vals_put (o : Oper) (a : Act) (dst : Option Tmp) (v : Value) (h : ∀ d, dst = some d → d ∉ slotsOf ops o) :
    (opsOf o.op).map (a.put dst v).eval = (opsOf o.op).map a.eval := by
  apply List.map_congr_left
  intro x hx
  refine Act.eval_put fun d hd hxd => h d hd ?_
  subst hxd
  exact List.mem_append_left _ (List.mem_filterMap.2 ⟨.tmp d, hx, rfl⟩)

theorem wanted_put' (o : Oper) (a : Act) (dst : Option Tmp) (v : Value) (h : ∀ d, dst = some d → d ∉ slotsOf ops o) :
    Region.wanted o (yielded ops (a.put dst v).tmps) = Region.wanted o (yielded ops a.tmps) := by
  cases dst with
  | none => rfl
  | some d =>
    unfold Region.wanted
    cases hg : o.guard with
    | none => rfl
    | some gw =>
      obtain ⟨g, want⟩ := gw
      have hy : yielded ops (a.put (some d) v).tmps g = yielded ops a.tmps g := by
        unfold yielded
        cases ht : (ops[g]?).bind (·.dst) with
        | none => rfl
        | some t =>
          have hne : d ≠ t := fun e => h d rfl (by subst e; simp [slotsOf, hg, ht])
          simp [Act.put, Array.getElem?_setIfInBounds_ne hne]
      simp only [hy]

/-- In state (a, h) the operation, which leaves memory alone, yields v. -/
def vl (C : Ctx) (ops : Array Oper) (o : Oper) (a : Act) (h : Heap) (v : Value) : Prop :=
  (Region.wanted o (yielded ops a.tmps) = true ∧ rdK C o.op ((opsOf o.op).map a.eval) h (· = v)) ∨ (Region.wanted o (yielded ops a.tmps) = false ∧ v = undef)

theorem vl_put {o : Oper} {a : Act} {h : Heap} {v : Value} (hv : vl C ops o a h v) (dst : Option Tmp) (u : Value) (hd : ∀ d, dst = some d → d ∉ slotsOf ops o) : vl C ops o (a.put dst u) h v := by
  unfold vl at *
  rw [wanted_put' o a dst u hd, vals_put o a dst u hd]
  exact hv

theorem vl_pure {o : Oper} {a : Act} {h h' : Heap} {v : Value} (h0 : cls C.quiet o.op = 0) (hv : vl C ops o a h v) : vl C ops o a h' v :=
  hv.imp (fun ⟨x, y⟩ => ⟨x, rdK_pure h0 y⟩) id

theorem vl_op (hC : C.OK) {i : Nat} {o : Oper} {a : Act} {h : Heap} {v : Value} {K : Act → Heap → Prop} (hi : ops[i]? = some o) (hc : Nat.ble (cls C.quiet o.op) 1 = true) (hv : vl C ops o a h v)
    (hK : K (a.put o.dst v) h) : aOp C ops i K a h := by
  unfold aOp
  simp only [hi]
  rcases hv with ⟨hw, hr⟩ | ⟨hw, rfl⟩
  · rw [if_pos hw]
    unfold opK
    rw [hc]
    exact rdK_mono hC hr fun u hu => by subst hu; exact hK
  · rw [if_neg (by rw [hw]; simp)]; exact hK

theorem op_vl (hC : C.OK) {i : Nat} {o : Oper} {a : Act} {h : Heap} {K : Act → Heap → Prop} (hi : ops[i]? = some o) (hc : Nat.ble (cls C.quiet o.op) 1 = true) (hh : aOp C ops i K a h) :
    ∃ v, vl C ops o a h v ∧ K (a.put o.dst v) h := by
  unfold aOp at hh
  simp only [hi] at hh
  by_cases hw : Region.wanted o (yielded ops a.tmps) = true
  · rw [if_pos hw] at hh
    unfold opK at hh
    rw [hc] at hh
    obtain ⟨v, hv, hr⟩ := rdK_val hC hh
    exact ⟨v, .inl ⟨hw, hr⟩, hv⟩
  · rw [if_neg hw] at hh
    exact ⟨undef, .inr ⟨by simpa using hw, rfl⟩, hh⟩

/-- The operation j, apart from i: whether i's value is already in its slot makes no difference to it. -/
theorem aOp_put (hC : C.OK) {j : Nat} {oi oj : Oper} {v : Value} (hj : ops[j]? = some oj) (hap : apartB ops oi oj = true)
    {K : Act → Heap → Prop} {a : Act} {h : Heap} (hh : aOp C ops j K (a.put oi.dst v) h) :
    aOp C ops j (fun a' h' => (∃ u, a' = a.put oj.dst u) ∧ (Nat.ble (cls C.quiet oj.op) 1 = true → h' = h) ∧ K (a'.put oi.dst v) h') a h := by
  obtain ⟨h1, h2, h3⟩ := apartB_spec hap
  unfold aOp at hh ⊢
  simp only [hj] at hh ⊢
  rw [wanted_put' oj a oi.dst v h1, vals_put oj a oi.dst v h1] at hh
  split at hh
  · rename_i hw
    rw [if_pos hw]
    unfold opK at hh ⊢
    cases hs : Nat.ble (cls C.quiet oj.op) 1 with
    | true =>
      rw [hs] at hh
      exact rdK_mono hC hh fun u hu => ⟨⟨u, rfl⟩, fun _ => rfl, by rw [← Act.put_comm a v u h2]; exact hu⟩
    | false =>
      rw [hs] at hh
      exact wrK_mono hC hh fun u h' hu => ⟨⟨u, rfl⟩, (fun h => by cases h), by rw [← Act.put_comm a v u h2]; exact hu⟩
  · rename_i hw
    rw [if_neg hw]
    exact ⟨⟨undef, rfl⟩, (by intro _; first | rfl | trivial), by rw [← Act.put_comm a v undef h2]; exact hh⟩

/-! ### What was looked at early, and must stay as it was -/

/-- The number of an operation that was taken early, and that memory still gives what it saw. -/
abbrev Watch := List (Nat × (Heap → Prop))
def afterW (D : List Nat) (j : Nat) : Watch → Heap → Prop → Prop
  | [], _, P => P
  | (i, w) :: r, h, P => bif depB D j i then afterW D j r h P else w h ∧ afterW D j r h P
def keepW (D : List Nat) (j : Nat) : Watch → Watch
  | [] => []
  | (i, w) :: r => bif depB D j i then keepW D j r else (i, w) :: keepW D j r

theorem afterW_mono {D : List Nat} {j : Nat} {h : Heap} {P P' : Prop} (hp : P → P') : ∀ {W : Watch}, afterW D j W h P → afterW D j W h P'
  | [], hh => hp hh
  | (i, w) :: r, hh => by
    unfold afterW at hh ⊢
    cases hd : depB D j i with
    | true => rw [hd] at hh; exact afterW_mono hp hh
    | false => rw [hd] at hh; exact ⟨hh.1, afterW_mono hp hh.2⟩

def writes (C : Ctx) (ops : Array Oper) (j : Nat) : Bool := match ops[j]? with
  | some o => !Nat.ble (cls C.quiet o.op) 1
  | none => false

def wK (C : Ctx) (ops : Array Oper) (D : List Nat) (W : Watch) (j : Nat) (h : Heap) (K : Watch → Prop) : Prop :=
  bif writes C ops j then afterW D j W h (K (keepW D j W)) else K W

def wOp (C : Ctx) (ops : Array Oper) (D : List Nat) (W : Watch) (j : Nat) (K : Watch → Act → Heap → Prop) (a : Act) (h : Heap) : Prop :=
  aOp C ops j (fun a' h' => wK C ops D W j h' fun W' => K W' a' h') a h

theorem wOp_mono (hC : C.OK) {D : List Nat} {W : Watch} {j : Nat} {K K' : Watch → Act → Heap → Prop} {a : Act} {h : Heap} (hh : wOp C ops D W j K a h) (hk : ∀ W a h, K W a h → K' W a h) : wOp C ops D W j K' a h := by
  refine aOp_mono hC hh fun a' h' h1 => ?_
  unfold wK at h1 ⊢
  cases hw : writes C ops j with
  | true => rw [hw] at h1; exact afterW_mono (hk _ _ _) h1
  | false => rw [hw] at h1; exact hk _ _ _ h1

def wAny (C : Ctx) (md : Region.Mode) (ops : Array Oper) (D : List Nat) (Q : Act → Heap → Prop) : Nat → Watch → Array Bool → Act → Heap → Prop
  | 0, _, listed, a, h => Region.ready md ops listed = [] ∧ Q a h
  | fuel + 1, W, listed, a, h =>
    (Region.ready md ops listed = [] → Q a h) ∧
    ∀ i ∈ Region.ready md ops listed, wOp C ops D W i (fun W' => wAny C md ops D Q fuel W' (listed.setIfInBounds i true)) a h

theorem wAny_nil (hC : C.OK) {D : List Nat} {Q : Act → Heap → Prop} : ∀ {fuel : Nat} {listed : Array Bool} {a : Act} {h : Heap}, wAny C md ops D Q fuel [] listed a h → aAny C md ops Q fuel listed a h
  | 0, _, _, _, hh => hh
  | fuel + 1, _, _, _, hh => ⟨hh.1, fun i hi => aOp_mono hC (hh.2 i hi) fun a' h' h1 => by
      unfold wK at h1
      cases hw : writes C ops i with
      | true => rw [hw] at h1; exact wAny_nil hC h1
      | false => rw [hw] at h1; exact wAny_nil hC h1⟩

theorem wAny_less (hC : C.OK) {D : List Nat} {Q : Act → Heap → Prop} {x : Nat × (Heap → Prop)} : ∀ {fuel : Nat} {W : Watch} {listed : Array Bool} {a : Act} {h : Heap}, wAny C md ops D Q fuel (x :: W) listed a h → wAny C md ops D Q fuel W listed a h
  | 0, _, _, _, _, hh => hh
  | fuel + 1, W, _, _, _, hh => ⟨hh.1, fun j hj => aOp_mono hC (hh.2 j hj) fun a' h' h1 => by
      unfold wK at h1 ⊢
      cases hw : writes C ops j with
      | false => rw [hw] at h1; exact wAny_less hC h1
      | true =>
        rw [hw] at h1
        obtain ⟨i, w⟩ := x
        simp only [cond_true, afterW, keepW] at h1
        cases hd : depB D j i with
        | true => rw [hd] at h1; exact h1
        | false => rw [hd] at h1; exact afterW_mono (fun hp => wAny_less hC hp) h1.2⟩

theorem wAny_first (hC : C.OK) {D : List Nat} (hm : maskOK md ops D = true) {Q : Act → Heap → Prop} {i : Nat} {oi : Oper} {v : Value} {w : Heap → Prop} (hi : ops[i]? = some oi) (hci : Nat.ble (cls C.quiet oi.op) 1 = true) (X : Bool) :
    ∀ (fuel : Nat) (W : Watch) (listed : Array Bool) (a : Act) (h : Heap), Closed md ops listed →
      (∀ j oj, ops[j]? = some oj → j ≠ i → listed.getD j true = false → depB D j i = true ∨ (apartB ops oi oj = true ∧ (X = true ∨ cls C.quiet oi.op = 0 ∨ Nat.ble (cls C.quiet oj.op) 1 = true))) →
      i ∈ Region.ready md ops listed → vl C ops oi a h v → (∀ h', w h' → vl C ops oi a h' v) →
      wAny C md ops D Q fuel (bif X then (i, w) :: W else W) (listed.setIfInBounds i true) (a.put oi.dst v) h → wAny C md ops D Q (fuel + 1) W listed a h := by
  have hwi : writes C ops i = false := by unfold writes; simp only [hi, hci]; rfl
  have self : ∀ (fuel : Nat) (W : Watch) (listed : Array Bool) (a : Act) (h : Heap), vl C ops oi a h v →
      wAny C md ops D Q fuel (bif X then (i, w) :: W else W) (listed.setIfInBounds i true) (a.put oi.dst v) h → wOp C ops D W i (fun W' => wAny C md ops D Q fuel W' (listed.setIfInBounds i true)) a h := by
    intro fuel W listed a h hv H
    refine vl_op hC hi hci hv ?_
    unfold wK
    rw [hwi]
    cases X with
    | true => exact wAny_less hC H
    | false => exact H
  intro fuel
  induction fuel with
  | zero =>
    intro W listed a h _ _ hr hv hw H
    refine ⟨fun h => (by rw [h] at hr; cases hr), fun j hj => ?_⟩
    by_cases hji : j = i
    · subst hji; exact self 0 W listed a h hv H
    · have := ready_mono hj hji
      rw [H.1] at this
      cases this
  | succ fuel ih =>
    intro W listed a h hcl hfree hr hv hw H
    refine ⟨fun h => (by rw [h] at hr; cases hr), fun j hj => ?_⟩
    by_cases hji : j = i
    · subst hji; exact self _ W listed a h hv H
    · have h1 := H.2 j (ready_mono hj hji)
      obtain ⟨hjun, oj, hoj, hall⟩ := mem_ready.1 hj
      have hiun : listed.getD i false = false := by
        have := (mem_ready.1 hr).1
        rcases Nat.lt_or_ge i listed.size with h' | h'
        · simp [h'] at this ⊢; exact this
        · simp [Array.getElem?_eq_none h']
      have hnd : depB D j i = false := dep_not hm hcl hiun (Array.getElem?_eq_some_iff.1 hi).1 j (Array.getElem?_eq_some_iff.1 hoj).1 fun o ho => by rw [hoj] at ho; cases ho; exact hall
      have hap := (hfree j oj hoj hji hjun).resolve_left (by rw [hnd]; simp)
      obtain ⟨_, _, h3⟩ := apartB_spec hap.1
      have h2 := aOp_put hC hoj hap.1 h1
      refine aOp_mono hC h2 fun a' h' ⟨⟨u, hu⟩, hst, hk⟩ => ?_
      have hw' : ∀ h'', w h'' → vl C ops oi a' h'' v := fun h'' hx => by rw [hu]; exact vl_put (hw h'' hx) oj.dst u h3
      have hfree' : ∀ k ok, ops[k]? = some ok → k ≠ i → (listed.setIfInBounds j true).getD k true = false → depB D k i = true ∨ (apartB ops oi ok = true ∧ (X = true ∨ cls C.quiet oi.op = 0 ∨ Nat.ble (cls C.quiet ok.op) 1 = true)) := by
        intro k ok hk hki hun
        refine hfree k ok hk hki ?_
        by_cases hjk : j = k
        · subst hjk; exact hjun
        · rw [getD_set_ne true hjk] at hun; exact hun
      have go : ∀ (W' : Watch), vl C ops oi a' h' v → wAny C md ops D Q fuel (bif X then (i, w) :: W' else W') ((listed.setIfInBounds i true).setIfInBounds j true) (a'.put oi.dst v) h' →
          wAny C md ops D Q (fuel + 1) W' (listed.setIfInBounds j true) a' h' := fun W' hv' hh =>
        ih W' (listed.setIfInBounds j true) a' h' (closed_set hcl hj) hfree' (ready_mono hr (Ne.symm hji)) hv' hw' (by rw [Array.setIfInBounds_comm _ _ hji]; exact hh)
      unfold wK at hk ⊢
      cases hwj : writes C ops j with
      | false =>
        rw [hwj] at hk
        have hcj : Nat.ble (cls C.quiet oj.op) 1 = true := by unfold writes at hwj; simp only [hoj] at hwj; simpa using hwj
        have hh := hst hcj
        subst hh
        exact go W (by rw [hu]; exact vl_put hv oj.dst u h3) hk
      | true =>
        rw [hwj] at hk
        have hcj : Nat.ble (cls C.quiet oj.op) 1 = false := by unfold writes at hwj; simp only [hoj] at hwj; simpa using hwj
        cases X with
        | true =>
          simp only [cond_true, afterW, keepW, hnd, cond_false] at hk
          exact afterW_mono (fun hp => go _ (hw' h' hk.1) hp) hk.2
        | false =>
          have h0 : cls C.quiet oi.op = 0 := by
            rcases hap.2 with h | h | h
            · cases h
            · exact h
            · rw [hcj] at h; cases h
          exact afterW_mono (fun hp => go _ (by rw [hu]; exact vl_pure h0 (vl_put hv oj.dst u h3)) hp) hk

/-! ### Schedules -/
inductive Sched where
  | done
  | take (i : Nat) (s : Sched)
  | early (i : Nat) (s : Sched)
  | alt (i : Nat) (s r : Sched)
  | noalt

def altIdx : Sched → List Nat
  | .alt i _ r => i :: altIdx r
  | _ => []

def depth : Sched → Nat
  | .done => 0
  | .take _ s => depth s + 1
  | .early _ s => depth s + 1
  | .alt _ s r => max (depth s + 1) (depth r)
  | .noalt => 0

def takeable (quiet : FuncId → Bool) (D : List Nat) (ops : Array Oper) (X : Bool) (l : Array Bool) (i : Nat) : Bool :=
  match ops[i]? with
  | none => false
  | some oi => Nat.ble (cls quiet oi.op) 1 && (List.range ops.size).all fun j => Nat.beq j i || l.getD j true || depB D j i || (match ops[j]? with
      | some oj => apartB ops oi oj && (X || Nat.beq (cls quiet oi.op) 0 || Nat.ble (cls quiet oj.op) 1)
      | none => true)

def checkS (quiet : FuncId → Bool) (md : Region.Mode) (D : List Nat) (ops : Array Oper) : Bool → Sched → Array Bool → Bool
  | false, .done, l => (Region.ready md ops l).isEmpty
  | false, .take i s, l => (Region.ready md ops l).contains i && takeable quiet D ops false l i && checkS quiet md D ops false s (l.setIfInBounds i true)
  | false, .early i s, l => (Region.ready md ops l).contains i && takeable quiet D ops true l i && checkS quiet md D ops false s (l.setIfInBounds i true)
  | false, .alt i s r, l => Region.ready md ops l == altIdx (.alt i s r) && checkS quiet md D ops false s (l.setIfInBounds i true) && checkS quiet md D ops true r l
  | true, .alt i s r, l => checkS quiet md D ops false s (l.setIfInBounds i true) && checkS quiet md D ops true r l
  | true, .noalt, _ => true
  | _, _, _ => false

def runA (C : Ctx) (D : List Nat) (ops : Array Oper) (Q : Act → Heap → Prop) : Sched → Watch → Act → Heap → Prop
  | .done, _, a, h => Q a h
  | .take i s, W, a, h => wOp C ops D W i (runA C D ops Q s) a h
  | .early i s, W, a, h => match ops[i]? with
    | some o => ∃ v w, vl C ops o a h v ∧ (∀ h', w h' → vl C ops o a h' v) ∧ runA C D ops Q s ((i, w) :: W) (a.put o.dst v) h
    | none => False
  | .alt i s r, W, a, h => wOp C ops D W i (runA C D ops Q s) a h ∧ runA C D ops Q r W a h
  | .noalt, _, _, _ => True

theorem closed_ready_mem {l : Array Bool} {i : Nat} (h : (Region.ready md ops l).contains i = true) : i ∈ Region.ready md ops l := by simpa using h

theorem takeable_spec {D : List Nat} {X : Bool} {l : Array Bool} {i : Nat} (ht : takeable C.quiet D ops X l i = true) : ∃ oi, ops[i]? = some oi ∧ Nat.ble (cls C.quiet oi.op) 1 = true ∧
    ∀ j oj, ops[j]? = some oj → j ≠ i → l.getD j true = false → depB D j i = true ∨ (apartB ops oi oj = true ∧ (X = true ∨ cls C.quiet oi.op = 0 ∨ Nat.ble (cls C.quiet oj.op) 1 = true)) := by
  unfold takeable at ht
  split at ht
  · cases ht
  · rename_i oi hi
    rw [Bool.and_eq_true] at ht
    obtain ⟨hc, hall⟩ := ht
    refine ⟨oi, hi, hc, ?_⟩
    intro j oj hj hji hun
    have hlt := (Array.getElem?_eq_some_iff.1 hj).1
    have := (List.all_eq_true.1 hall) j (List.mem_range.2 hlt)
    simp only [Bool.or_eq_true, hun, hj, Bool.and_eq_true] at this
    rcases this with ((h1 | h1) | h1) | h1
    · exact absurd (Nat.eq_of_beq_eq_true h1) hji
    · cases h1
    · exact .inl h1
    · refine .inr ⟨h1.1, ?_⟩
      rcases h1.2 with (h | h) | h
      · exact .inl h
      · exact .inr (.inl (Nat.eq_of_beq_eq_true h))
      · exact .inr (.inr h)

theorem runA_any (hC : C.OK) {D : List Nat} (hm : maskOK md ops D = true) {Q : Act → Heap → Prop} : ∀ (s : Sched) (alt : Bool) (W : Watch) (l : Array Bool) (a : Act) (h : Heap) (fuel : Nat), depth s ≤ fuel → Closed md ops l →
    checkS C.quiet md D ops alt s l = true → runA C D ops Q s W a h →
    (alt = false → wAny C md ops D Q fuel W l a h) ∧ (alt = true → (∀ i ∈ altIdx s, i ∈ Region.ready md ops l) → ∀ f, fuel = f + 1 → ∀ i ∈ altIdx s, wOp C ops D W i (fun W' => wAny C md ops D Q f W' (l.setIfInBounds i true)) a h)
  | .done, alt, W, l, a, h, fuel, _, _, hk, hr => by
    cases alt with
    | true => cases hk
    | false =>
      refine ⟨fun _ => ?_, fun h => by cases h⟩
      have he : Region.ready md ops l = [] := by simpa [checkS] using hk
      cases fuel with
      | zero => exact ⟨he, hr⟩
      | succ f => exact ⟨fun _ => hr, by rw [he]; simp⟩
  | .take i s, alt, W, l, a, h, fuel, hd, hcl, hk, hr => by
    cases alt with
    | true => cases hk
    | false =>
      refine ⟨fun _ => ?_, fun h => by cases h⟩
      simp only [checkS, Bool.and_eq_true] at hk
      obtain ⟨⟨hmem, ht⟩, hs⟩ := hk
      have hmem := closed_ready_mem hmem
      cases fuel with
      | zero => simp [depth] at hd
      | succ f =>
        obtain ⟨oi, hi, hc, hfree⟩ := takeable_spec ht
        have hr : aOp C ops i (fun a' h' => wK C ops D W i h' fun W' => runA C D ops Q s W' a' h') a h := hr
        obtain ⟨v, hv, hK⟩ := op_vl hC hi hc hr
        have hwi : writes C ops i = false := by unfold writes; simp only [hi, hc]; rfl
        unfold wK at hK
        rw [hwi] at hK
        exact wAny_first (w := fun _ => False) hC hm hi hc false f W l a h hcl hfree hmem hv (fun _ hx => hx.elim) ((runA_any hC hm s false _ _ _ _ f (by simp [depth] at hd; omega) (closed_set hcl hmem) hs hK).1 rfl)
  | .early i s, alt, W, l, a, h, fuel, hd, hcl, hk, hr => by
    cases alt with
    | true => cases hk
    | false =>
      refine ⟨fun _ => ?_, fun h => by cases h⟩
      simp only [checkS, Bool.and_eq_true] at hk
      obtain ⟨⟨hmem, ht⟩, hs⟩ := hk
      have hmem := closed_ready_mem hmem
      cases fuel with
      | zero => simp [depth] at hd
      | succ f =>
        obtain ⟨oi, hi, hc, hfree⟩ := takeable_spec ht
        simp only [runA, hi] at hr
        obtain ⟨v, w, hv, hw, hK⟩ := hr
        exact wAny_first (w := w) hC hm hi hc true f W l a h hcl hfree hmem hv hw ((runA_any hC hm s false _ _ _ _ f (by simp [depth] at hd; omega) (closed_set hcl hmem) hs hK).1 rfl)
  | .alt i s r, alt, W, l, a, h, fuel, hd, hcl, hk, hr => by
    cases alt with
    | true =>
      refine ⟨(fun h => by cases h), fun _ hmem f hf j hj => ?_⟩
      simp only [checkS, Bool.and_eq_true] at hk
      subst hf
      have hd' : depth s + 1 ≤ f + 1 ∧ depth r ≤ f + 1 := by simp [depth] at hd; omega
      simp only [altIdx, List.mem_cons] at hj
      rcases hj with rfl | hj
      · exact wOp_mono hC hr.1 fun W' a' h' hh => (runA_any hC hm s false _ _ _ _ f (by omega) (closed_set hcl (hmem _ (by simp [altIdx]))) hk.1 hh).1 rfl
      · exact (runA_any hC hm r true W l a h (f + 1) hd'.2 hcl hk.2 hr.2).2 rfl (fun k hk' => hmem k (by simp [altIdx, hk'])) f rfl j hj
    | false =>
      refine ⟨fun _ => ?_, fun h => by cases h⟩
      simp only [checkS, Bool.and_eq_true, beq_iff_eq] at hk
      obtain ⟨⟨he, hs⟩, hk⟩ := hk
      cases fuel with
      | zero => simp [depth] at hd
      | succ f =>
        have hd' : depth s + 1 ≤ f + 1 ∧ depth r ≤ f + 1 := by simp [depth] at hd; omega
        refine ⟨fun h0 => by rw [he] at h0; simp [altIdx] at h0, fun j hj => ?_⟩
        have hmem : ∀ k, k ∈ altIdx (.alt i s r) → k ∈ Region.ready md ops l := fun k hk' => by rw [he]; exact hk'
        rw [he] at hj
        simp only [altIdx, List.mem_cons] at hj
        rcases hj with rfl | hj
        · exact wOp_mono hC hr.1 fun W' a' h' hh => (runA_any hC hm s false _ _ _ _ f (by omega) (closed_set hcl (hmem _ (by simp [altIdx]))) hs hh).1 rfl
        · exact (runA_any hC hm r true W l a h (f + 1) hd'.2 hcl hk hr.2).2 rfl (fun k hk' => hmem k (by simp [altIdx, hk'])) f rfl j hj
  | .noalt, alt, W, l, a, h, fuel, _, _, hk, _ => by
    cases alt with
    | true => exact ⟨(fun h => by cases h), fun _ _ _ _ i hi => by simp [altIdx] at hi⟩
    | false => cases hk

theorem closed_none (n : Nat) : Closed md ops (Array.replicate n false) := by
  intro j o _ hl
  simp [Array.getElem?_replicate] at hl
  split at hl <;> simp_all

/-- **A schedule that the Bool has checked serves every order.** -/
theorem wp_sched (hC : C.OK) {id : Nat} {D : List Nat} {s : Sched} {Q : Act → Heap → Prop} {Q' : Exit → Act → World → Prop} {a : Act} {w0 w : World} (hm : maskOK .any ops D = true) (hd : depth s ≤ ops.size)
    (hk : checkS C.quiet .any D ops false s (Array.replicate ops.size false) = true) (ho : Out w0 w) (hr : runA C D ops Q s [] a w.heap) (hQ : ∀ a w, Out w0 w → Q a w.heap → Q' .normal a w) :
    (Code.region id ops true).wp C.P Q' a w := by
  refine wp_region_any hC.mixed (aAny_wp hC hQ _ _ _ _ (w0 := w0) ⟨ho.1, ho.2, ho.3, fun d => Nat.le_succ_of_le (ho.4 d)⟩ ?_)
  exact wAny_nil hC ((runA_any hC hm s false [] _ a _ ops.size hd (closed_none _) hk hr).1 rfl)
end
end Go.Hq

namespace Go.Hq
set_option linter.unusedVariables false
set_option linter.unusedSimpArgs false

/-- A function without a body that hands a value back at once. -/
theorem ext_run {P : Program} {f : FuncId} {fn : Func} {e : Array Value → Sem Value} (hf : P.funcs[f]? = some fn) (hname : (fn.name == "runtime.NumGoroutine") = false) (hb : fn.body.isNone = true)
    (hn : Extern.findNext fn = none) (he : Extern.find fn = some e) {args : Array Value} {v : Value} {w : World} (hr : (e args).run P w = .ok v w) : (callFunc f args).run P w = .ok (.value v) w := by
  rw [run_callFunc_extern hf hname hb hn he, hr]; rfl

/-- A float cut to a whole one. (Where it is a NaN that is not quiet, the machine may keep it, or not.) -/
def truncOK (x : Nat) : Prop := match FloatKind.f64.decode x with
  | .nan _ t => FloatKind.f64.format.quiet t = t
  | _ => True
def truncF (x : Nat) : Nat := match FloatKind.f64.decode x with
  | .nan _ _ => x
  | d => FloatKind.f64.encode (d.integral .zero)
def truncM (x : Nat) : Ieee.Datum → Sem Value
  | .nan s t => if FloatKind.f64.format.quiet t = t then pure (.float .f64 x) else do
      let kept ← choose (.extern "math.Floor,Ceil,Trunc,RoundToEven.signallingNaN kept" 2)
      pure (.float .f64 (if kept == 1 then x else FloatKind.f64.encode (.nan s (FloatKind.f64.format.quiet t))))
  | d => pure (.float .f64 (FloatKind.f64.encode (d.integral .zero)))
theorem truncM_eq {n : String} {x : Nat} : Extern.MathFloor.toIntegral n .zero #[.float .f64 x] = truncM x (FloatKind.f64.decode x) := by
  delta Extern.MathFloor.toIntegral
  rfl
theorem trunc_run {P : Program} {w : World} {n : String} {x : Nat} (h : truncOK x) : (Extern.MathFloor.toIntegral n .zero #[.float .f64 x]).run P w = .ok (.float .f64 (truncF x)) w := by
  rw [truncM_eq]
  unfold truncOK at h
  unfold truncF
  cases hd : FloatKind.f64.decode x with
  | nan s t => rw [hd] at h; simp only [truncM]; rw [if_pos h]; rfl
  | number s m i => rfl
  | infinity s => rfl

inductive Ann where
  | auto
  | reg (D : List Nat) (s : Sched)
  | two (a b : Ann)
  | loop (i : Nat) (keep : List Nat) (outs : List (Nat × List Nat)) (body : Ann)
  | jump (l i : Nat) (keep : List Nat) (outs : List (Nat × List Nat)) (first rest : Ann)

def Ann.l : Ann → Ann
  | .two a _ => a
  | _ => .auto
def Ann.r : Ann → Ann
  | .two _ b => b
  | _ => .auto

def eRun (C : Ctx) (o : Oper) (E : Env) (h : Heap) (K : Env → Heap → Prop) : Prop :=
  vals (ev E) (opsOf o.op) fun vs => opK C o.op vs h fun v h' => K (put E o.dst v) h'

def eStep (C : Ctx) (ops : Array Oper) (o : Oper) (E : Env) (h : Heap) (K : Env → Heap → Prop) : Prop :=
  match o.guard with
  | none => eRun C o E h K
  | some (g, want) => match (ops[g]?).bind (·.dst) with
    | none => False
    | some d => match get E d with
      | some (.bool b) => iteB b
          (bif want then eRun C o (put E (some d) (.bool true)) h K else K (put (put E (some d) (.bool true)) o.dst undef) h)
          (bif want then K (put (put E (some d) (.bool false)) o.dst undef) h else eRun C o (put E (some d) (.bool false)) h K)
      | some (.tuple _) => K (put E o.dst undef) h
      | _ => False

def runL (C : Ctx) (ops : Array Oper) (K : Env → Heap → Prop) : List Oper → Env → Heap → Prop
  | [], E, h => K E h
  | o :: r, E, h => eStep C ops o E h (runL C ops K r)

def eOp (C : Ctx) (ops : Array Oper) (i : Nat) (K : Env → Heap → Prop) (E : Env) (h : Heap) : Prop :=
  match ops[i]? with
  | none => K E h
  | some o => eStep C ops o E h K

/-- An operation that is taken early: what it sees must stay. -/
def eWatch (C : Ctx) (o : Oper) (E : Env) (h : Heap) (K : (Heap → Prop) → Env → Prop) : Prop :=
  vals (ev E) (opsOf o.op) fun vs => rdK C o.op vs h fun v => K (fun h' => rdK C o.op vs h' (· = v)) (put E o.dst v)

def eEarly (C : Ctx) (ops : Array Oper) (i : Nat) (E : Env) (h : Heap) (K : (Heap → Prop) → Env → Prop) : Prop :=
  match ops[i]? with
  | none => False
  | some o => match o.guard with
    | none => eWatch C o E h K
    | some (g, want) => match (ops[g]?).bind (·.dst) with
      | none => False
      | some d => match get E d with
        | some (.bool b) => iteB b
            (bif want then eWatch C o (put E (some d) (.bool true)) h K else K (fun _ => True) (put (put E (some d) (.bool true)) o.dst undef))
            (bif want then K (fun _ => True) (put (put E (some d) (.bool false)) o.dst undef) else eWatch C o (put E (some d) (.bool false)) h K)
        | some (.tuple _) => K (fun _ => True) (put E o.dst undef)
        | _ => False

def runS (C : Ctx) (D : List Nat) (ops : Array Oper) (K : Env → Heap → Prop) : Sched → Watch → Env → Heap → Prop
  | .done, _, E, h => K E h
  | .take i s, W, E, h => eOp C ops i (fun E' h' => wK C ops D W i h' fun W' => runS C D ops K s W' E' h') E h
  | .early i s, W, E, h => eEarly C ops i E h fun w E' => runS C D ops K s ((i, w) :: W) E' h
  | .alt i s .noalt, W, E, h => eOp C ops i (fun E' h' => wK C ops D W i h' fun W' => runS C D ops K s W' E' h') E h
  | .alt i s r, W, E, h => eOp C ops i (fun E' h' => wK C ops D W i h' fun W' => runS C D ops K s W' E' h') E h ∧ runS C D ops K r W E h
  | .noalt, _, _, _ => True

def lookN : List (Nat × List Nat) → Nat → List Nat
  | [], _ => []
  | (s, v) :: r, t => bif Nat.beq s t then v else lookN r t

def exitOf : Nat → Exit
  | 0 => .ret
  | 1 => .normal
  | n + 2 => .exit n

/-- What must hold of the slots and of memory, ahead of this code, for Q to hold behind it. -/
def evC (C : Ctx) : Code → Ann → (Exit → Env → Heap → Prop) → Env → Heap → Prop
  | .skip, _, Q, E, h => Q .normal E h
  | .label _, _, Q, E, h => Q .normal E h
  | .region _ ops false, _, Q, E, h => runL C ops (Q .normal) ops.toList E h
  | .region _ ops true, .reg D s, Q, E, h => runS C D ops (Q .normal) s [] E h
  | .seq x y, n, Q, E, h => evC C x n.l (fun e E h => match e with
      | .normal => evC C y n.r Q E h
      | e => Q e E h) E h
  | .cond c x y, n, Q, E, h => match ev E c with
      | some (.bool t) => iteB t (evC C x n.l Q E h) (evC C y n.r Q E h)
      | _ => False
  | .block id c, n, Q, E, h => evC C c n.l (fun e E h => match e with
      | .exit id' => bif Nat.beq id' id then Q .normal E h else Q (.exit id') E h
      | e => Q e E h) E h
  | .loop _, .loop i keep outs _, Q, E, h => match getAll E keep with
      | some vs => C.loop i vs h fun x us h' => Q (exitOf x) ((lookN outs x).zip us) h'
      | none => False
  | .scope c, .jump l i keep outs n _, Q, E, h => evC C c n (fun e E h => match e with
      | .goto l' => bif Nat.beq l' l then (match getAll E keep with
        | some vs => C.loop i vs h fun x us h' => Q (exitOf x) ((lookN outs x).zip us) h'
        | none => False) else False
      | e => Q e E h) E h
  | .scope c, .two n _, Q, E, h => evC C c n (fun e E h => match e with
      | .goto _ => False
      | e => Q e E h) E h
  | .scope c, .auto, Q, E, h => evC C c .auto (fun e E h => match e with
      | .goto _ => False
      | e => Q e E h) E h
  | .exit id, _, Q, E, h => Q (.exit id) E h
  | .goto l, _, Q, E, h => Q (.goto l) E h
  | .ret, _, Q, E, h => Q .ret E h
  | _, _, _, _, _ => False

structure Sat (N : Nat) (E : Env) (a : Act) : Prop where
  defers : a.defers = []
  size : a.tmps.size = N
  at_ : ∀ t v, get E t = some v → t < N ∧ a.tmps[t]? = some v

def lift (w0 : World) (N : Nat) (Q : Exit → Env → Heap → Prop) (e : Exit) (a : Act) (w : World) : Prop := ∃ E, Sat N E a ∧ Out w0 w ∧ Q e E w.heap

/-! What a call is, said of the callee's own words: some post of the callee's leads on. -/
def callP0 (F : (Heap → Prop) → Prop) (K : Heap → Prop) : Prop := ∃ R, F R ∧ ∀ h, R h → K h
def callP1 {α0 : Type} (F : (α0 → Heap → Prop) → Prop) (K : α0 → Heap → Prop) : Prop := ∃ R, F R ∧ ∀ x0 h, R x0 h → K x0 h
def callP2 {α0 α1 : Type} (F : (α0 → α1 → Heap → Prop) → Prop) (K : α0 → α1 → Heap → Prop) : Prop := ∃ R, F R ∧ ∀ x0 x1 h, R x0 x1 h → K x0 x1 h
def callP3 {α0 α1 α2 : Type} (F : (α0 → α1 → α2 → Heap → Prop) → Prop) (K : α0 → α1 → α2 → Heap → Prop) : Prop := ∃ R, F R ∧ ∀ x0 x1 x2 h, R x0 x1 x2 h → K x0 x1 x2 h
def callP4 {α0 α1 α2 α3 : Type} (F : (α0 → α1 → α2 → α3 → Heap → Prop) → Prop) (K : α0 → α1 → α2 → α3 → Heap → Prop) : Prop := ∃ R, F R ∧ ∀ x0 x1 x2 x3 h, R x0 x1 x2 x3 h → K x0 x1 x2 x3 h
def callP5 {α0 α1 α2 α3 α4 : Type} (F : (α0 → α1 → α2 → α3 → α4 → Heap → Prop) → Prop) (K : α0 → α1 → α2 → α3 → α4 → Heap → Prop) : Prop := ∃ R, F R ∧ ∀ x0 x1 x2 x3 x4 h, R x0 x1 x2 x3 x4 h → K x0 x1 x2 x3 x4 h
def callP6 {α0 α1 α2 α3 α4 α5 : Type} (F : (α0 → α1 → α2 → α3 → α4 → α5 → Heap → Prop) → Prop) (K : α0 → α1 → α2 → α3 → α4 → α5 → Heap → Prop) : Prop := ∃ R, F R ∧ ∀ x0 x1 x2 x3 x4 x5 h, R x0 x1 x2 x3 x4 x5 h → K x0 x1 x2 x3 x4 x5 h
def callP7 {α0 α1 α2 α3 α4 α5 α6 : Type} (F : (α0 → α1 → α2 → α3 → α4 → α5 → α6 → Heap → Prop) → Prop) (K : α0 → α1 → α2 → α3 → α4 → α5 → α6 → Heap → Prop) : Prop := ∃ R, F R ∧ ∀ x0 x1 x2 x3 x4 x5 x6 h, R x0 x1 x2 x3 x4 x5 x6 h → K x0 x1 x2 x3 x4 x5 x6 h
def callP8 {α0 α1 α2 α3 α4 α5 α6 α7 : Type} (F : (α0 → α1 → α2 → α3 → α4 → α5 → α6 → α7 → Heap → Prop) → Prop) (K : α0 → α1 → α2 → α3 → α4 → α5 → α6 → α7 → Heap → Prop) : Prop := ∃ R, F R ∧ ∀ x0 x1 x2 x3 x4 x5 x6 x7 h, R x0 x1 x2 x3 x4 x5 x6 x7 h → K x0 x1 x2 x3 x4 x5 x6 x7 h
def callP9 {α0 α1 α2 α3 α4 α5 α6 α7 α8 : Type} (F : (α0 → α1 → α2 → α3 → α4 → α5 → α6 → α7 → α8 → Heap → Prop) → Prop) (K : α0 → α1 → α2 → α3 → α4 → α5 → α6 → α7 → α8 → Heap → Prop) : Prop := ∃ R, F R ∧ ∀ x0 x1 x2 x3 x4 x5 x6 x7 x8 h, R x0 x1 x2 x3 x4 x5 x6 x7 x8 h → K x0 x1 x2 x3 x4 x5 x6 x7 x8 h
def callP10 {α0 α1 α2 α3 α4 α5 α6 α7 α8 α9 : Type} (F : (α0 → α1 → α2 → α3 → α4 → α5 → α6 → α7 → α8 → α9 → Heap → Prop) → Prop) (K : α0 → α1 → α2 → α3 → α4 → α5 → α6 → α7 → α8 → α9 → Heap → Prop) : Prop := ∃ R, F R ∧ ∀ x0 x1 x2 x3 x4 x5 x6 x7 x8 x9 h, R x0 x1 x2 x3 x4 x5 x6 x7 x8 x9 h → K x0 x1 x2 x3 x4 x5 x6 x7 x8 x9 h
def callP11 {α0 α1 α2 α3 α4 α5 α6 α7 α8 α9 α10 : Type} (F : (α0 → α1 → α2 → α3 → α4 → α5 → α6 → α7 → α8 → α9 → α10 → Heap → Prop) → Prop) (K : α0 → α1 → α2 → α3 → α4 → α5 → α6 → α7 → α8 → α9 → α10 → Heap → Prop) : Prop := ∃ R, F R ∧ ∀ x0 x1 x2 x3 x4 x5 x6 x7 x8 x9 x10 h, R x0 x1 x2 x3 x4 x5 x6 x7 x8 x9 x10 h → K x0 x1 x2 x3 x4 x5 x6 x7 x8 x9 x10 h
def callP12 {α0 α1 α2 α3 α4 α5 α6 α7 α8 α9 α10 α11 : Type} (F : (α0 → α1 → α2 → α3 → α4 → α5 → α6 → α7 → α8 → α9 → α10 → α11 → Heap → Prop) → Prop) (K : α0 → α1 → α2 → α3 → α4 → α5 → α6 → α7 → α8 → α9 → α10 → α11 → Heap → Prop) : Prop := ∃ R, F R ∧ ∀ x0 x1 x2 x3 x4 x5 x6 x7 x8 x9 x10 x11 h, R x0 x1 x2 x3 x4 x5 x6 x7 x8 x9 x10 x11 h → K x0 x1 x2 x3 x4 x5 x6 x7 x8 x9 x10 x11 h
def qcallP1 {α0 : Type} (h : Heap) (F : (α0 → Heap → Prop) → Prop) (K : α0 → Prop) : Prop := ∃ x0, F (fun y0 h' => y0 = x0 ∧ h' = h) ∧ K x0
def qcallP2 {α0 α1 : Type} (h : Heap) (F : (α0 → α1 → Heap → Prop) → Prop) (K : α0 → α1 → Prop) : Prop := ∃ x0 x1, F (fun y0 y1 h' => y0 = x0 ∧ y1 = x1 ∧ h' = h) ∧ K x0 x1
def qcallP3 {α0 α1 α2 : Type} (h : Heap) (F : (α0 → α1 → α2 → Heap → Prop) → Prop) (K : α0 → α1 → α2 → Prop) : Prop := ∃ x0 x1 x2, F (fun y0 y1 y2 h' => y0 = x0 ∧ y1 = x1 ∧ y2 = x2 ∧ h' = h) ∧ K x0 x1 x2
def qcallP4 {α0 α1 α2 α3 : Type} (h : Heap) (F : (α0 → α1 → α2 → α3 → Heap → Prop) → Prop) (K : α0 → α1 → α2 → α3 → Prop) : Prop := ∃ x0 x1 x2 x3, F (fun y0 y1 y2 y3 h' => y0 = x0 ∧ y1 = x1 ∧ y2 = x2 ∧ y3 = x3 ∧ h' = h) ∧ K x0 x1 x2 x3
def qcallP5 {α0 α1 α2 α3 α4 : Type} (h : Heap) (F : (α0 → α1 → α2 → α3 → α4 → Heap → Prop) → Prop) (K : α0 → α1 → α2 → α3 → α4 → Prop) : Prop := ∃ x0 x1 x2 x3 x4, F (fun y0 y1 y2 y3 y4 h' => y0 = x0 ∧ y1 = x1 ∧ y2 = x2 ∧ y3 = x3 ∧ y4 = x4 ∧ h' = h) ∧ K x0 x1 x2 x3 x4
def qcallP6 {α0 α1 α2 α3 α4 α5 : Type} (h : Heap) (F : (α0 → α1 → α2 → α3 → α4 → α5 → Heap → Prop) → Prop) (K : α0 → α1 → α2 → α3 → α4 → α5 → Prop) : Prop := ∃ x0 x1 x2 x3 x4 x5, F (fun y0 y1 y2 y3 y4 y5 h' => y0 = x0 ∧ y1 = x1 ∧ y2 = x2 ∧ y3 = x3 ∧ y4 = x4 ∧ y5 = x5 ∧ h' = h) ∧ K x0 x1 x2 x3 x4 x5
def qcallP7 {α0 α1 α2 α3 α4 α5 α6 : Type} (h : Heap) (F : (α0 → α1 → α2 → α3 → α4 → α5 → α6 → Heap → Prop) → Prop) (K : α0 → α1 → α2 → α3 → α4 → α5 → α6 → Prop) : Prop := ∃ x0 x1 x2 x3 x4 x5 x6, F (fun y0 y1 y2 y3 y4 y5 y6 h' => y0 = x0 ∧ y1 = x1 ∧ y2 = x2 ∧ y3 = x3 ∧ y4 = x4 ∧ y5 = x5 ∧ y6 = x6 ∧ h' = h) ∧ K x0 x1 x2 x3 x4 x5 x6
def qcallP8 {α0 α1 α2 α3 α4 α5 α6 α7 : Type} (h : Heap) (F : (α0 → α1 → α2 → α3 → α4 → α5 → α6 → α7 → Heap → Prop) → Prop) (K : α0 → α1 → α2 → α3 → α4 → α5 → α6 → α7 → Prop) : Prop := ∃ x0 x1 x2 x3 x4 x5 x6 x7, F (fun y0 y1 y2 y3 y4 y5 y6 y7 h' => y0 = x0 ∧ y1 = x1 ∧ y2 = x2 ∧ y3 = x3 ∧ y4 = x4 ∧ y5 = x5 ∧ y6 = x6 ∧ y7 = x7 ∧ h' = h) ∧ K x0 x1 x2 x3 x4 x5 x6 x7
def qcallP9 {α0 α1 α2 α3 α4 α5 α6 α7 α8 : Type} (h : Heap) (F : (α0 → α1 → α2 → α3 → α4 → α5 → α6 → α7 → α8 → Heap → Prop) → Prop) (K : α0 → α1 → α2 → α3 → α4 → α5 → α6 → α7 → α8 → Prop) : Prop := ∃ x0 x1 x2 x3 x4 x5 x6 x7 x8, F (fun y0 y1 y2 y3 y4 y5 y6 y7 y8 h' => y0 = x0 ∧ y1 = x1 ∧ y2 = x2 ∧ y3 = x3 ∧ y4 = x4 ∧ y5 = x5 ∧ y6 = x6 ∧ y7 = x7 ∧ y8 = x8 ∧ h' = h) ∧ K x0 x1 x2 x3 x4 x5 x6 x7 x8
def qcallP10 {α0 α1 α2 α3 α4 α5 α6 α7 α8 α9 : Type} (h : Heap) (F : (α0 → α1 → α2 → α3 → α4 → α5 → α6 → α7 → α8 → α9 → Heap → Prop) → Prop) (K : α0 → α1 → α2 → α3 → α4 → α5 → α6 → α7 → α8 → α9 → Prop) : Prop := ∃ x0 x1 x2 x3 x4 x5 x6 x7 x8 x9, F (fun y0 y1 y2 y3 y4 y5 y6 y7 y8 y9 h' => y0 = x0 ∧ y1 = x1 ∧ y2 = x2 ∧ y3 = x3 ∧ y4 = x4 ∧ y5 = x5 ∧ y6 = x6 ∧ y7 = x7 ∧ y8 = x8 ∧ y9 = x9 ∧ h' = h) ∧ K x0 x1 x2 x3 x4 x5 x6 x7 x8 x9
def qcallP11 {α0 α1 α2 α3 α4 α5 α6 α7 α8 α9 α10 : Type} (h : Heap) (F : (α0 → α1 → α2 → α3 → α4 → α5 → α6 → α7 → α8 → α9 → α10 → Heap → Prop) → Prop) (K : α0 → α1 → α2 → α3 → α4 → α5 → α6 → α7 → α8 → α9 → α10 → Prop) : Prop := ∃ x0 x1 x2 x3 x4 x5 x6 x7 x8 x9 x10, F (fun y0 y1 y2 y3 y4 y5 y6 y7 y8 y9 y10 h' => y0 = x0 ∧ y1 = x1 ∧ y2 = x2 ∧ y3 = x3 ∧ y4 = x4 ∧ y5 = x5 ∧ y6 = x6 ∧ y7 = x7 ∧ y8 = x8 ∧ y9 = x9 ∧ y10 = x10 ∧ h' = h) ∧ K x0 x1 x2 x3 x4 x5 x6 x7 x8 x9 x10
def qcallP12 {α0 α1 α2 α3 α4 α5 α6 α7 α8 α9 α10 α11 : Type} (h : Heap) (F : (α0 → α1 → α2 → α3 → α4 → α5 → α6 → α7 → α8 → α9 → α10 → α11 → Heap → Prop) → Prop) (K : α0 → α1 → α2 → α3 → α4 → α5 → α6 → α7 → α8 → α9 → α10 → α11 → Prop) : Prop := ∃ x0 x1 x2 x3 x4 x5 x6 x7 x8 x9 x10 x11, F (fun y0 y1 y2 y3 y4 y5 y6 y7 y8 y9 y10 y11 h' => y0 = x0 ∧ y1 = x1 ∧ y2 = x2 ∧ y3 = x3 ∧ y4 = x4 ∧ y5 = x5 ∧ y6 = x6 ∧ y7 = x7 ∧ y8 = x8 ∧ y9 = x9 ∧ y10 = x10 ∧ y11 = x11 ∧ h' = h) ∧ K x0 x1 x2 x3 x4 x5 x6 x7 x8 x9 x10 x11

section
variable {C : Ctx} {N : Nat} {ops : Array Oper}

theorem Sat.put {E : Env} {a : Act} {dst : Option Tmp} {v : Value} (h : Sat N E a) (hd : ∀ d, dst = some d → d < N) : Sat N (put E dst v) (a.put dst v) := by
  cases dst with
  | none => exact h
  | some d =>
    have hd := hd d rfl
    refine ⟨h.defers, by simp [Act.put, h.size], fun t u ht => ?_⟩
    simp only [Hq.put, get] at ht
    cases hb : Nat.beq d t with
    | true =>
      rw [hb] at ht
      simp only [cond_true, Option.some.injEq] at ht
      have := Nat.eq_of_beq_eq_true hb
      subst this; subst ht
      exact ⟨hd, by simp [Act.put, h.size, hd]⟩
    | false =>
      rw [hb] at ht
      have hne : d ≠ t := fun e => by rw [e, Nat.beq_refl] at hb; cases hb
      obtain ⟨h1, h2⟩ := h.at_ t u ht
      exact ⟨h1, by simp [Act.put, Array.getElem?_setIfInBounds_ne hne, h2]⟩

/-- A slot's value said once more. -/
theorem Sat.again {E : Env} {a : Act} {d : Nat} {v : Value} (h : Sat N E a) (hd : get E d = some v) : Sat N (Hq.put E (some d) v) a := by
  refine ⟨h.defers, h.size, fun t u ht => ?_⟩
  simp only [Hq.put, get] at ht
  cases hb : Nat.beq d t with
  | true =>
    rw [hb] at ht
    simp only [cond_true, Option.some.injEq] at ht
    have := Nat.eq_of_beq_eq_true hb
    subst this; subst ht
    exact h.at_ _ _ hd
  | false => rw [hb] at ht; exact h.at_ _ _ ht

theorem Sat.ev {E : Env} {a : Act} {x : Operand} {v : Value} (h : Sat N E a) (hx : ev E x = some v) : a.eval x = v := by
  cases x with
  | tmp t => obtain ⟨h1, h2⟩ := h.at_ t v hx; simp [Act.eval, h2]
  | const u => cases hx; rfl
  | global g => cases hx; rfl
  | func f => cases hx; rfl

theorem Sat.vals {E : Env} {a : Act} (h : Sat N E a) : ∀ {l : List Operand} {K : List Value → Prop}, Hq.vals (Hq.ev E) l K → K (l.map a.eval)
  | [], _, hk => hk
  | x :: r, K, hk => by
    simp only [Hq.vals] at hk
    split at hk
    · rename_i v hx
      have := Sat.vals h hk
      rw [List.map_cons, h.ev hx]; exact this
    · exact hk.elim

theorem Sat.getAll {E : Env} {a : Act} (h : Sat N E a) : ∀ {l : List Nat} {vs : List Value}, Hq.getAll E l = some vs → Sat N (l.zip vs) a
  | [], vs, hk => by cases hk; exact ⟨h.defers, h.size, fun t v ht => by cases ht⟩
  | t :: r, vs, hk => by
    simp only [Hq.getAll] at hk
    split at hk
    · rename_i v hv
      split at hk
      · rename_i us hus
        cases hk
        have ih := Sat.getAll h hus
        refine ⟨h.defers, h.size, fun s u hs => ?_⟩
        simp only [List.zip_cons_cons, get] at hs
        cases hb : Nat.beq t s with
        | true =>
          rw [hb] at hs
          simp only [cond_true, Option.some.injEq] at hs
          have := Nat.eq_of_beq_eq_true hb
          subst this; subst hs
          exact h.at_ _ _ hv
        | false => rw [hb] at hs; exact ih.at_ _ _ hs
      · cases hk
    · cases hk

def dstOK (N : Nat) (o : Oper) : Bool := match o.dst with
  | some d => Nat.blt d N
  | none => true

theorem dstOK_spec {o : Oper} (h : dstOK N o = true) : ∀ d, o.dst = some d → d < N := by
  intro d hd
  simp only [dstOK, hd] at h
  exact (by simpa [Nat.blt] using h : d + 1 ≤ N)

/-- What K says of slots, said of a frame. -/
def ofE (N : Nat) (K : Env → Heap → Prop) (a : Act) (h : Heap) : Prop := ∃ E, Sat N E a ∧ K E h

theorem eRun_sound (hC : C.OK) {o : Oper} {E : Env} {h : Heap} {K : Env → Heap → Prop} {a : Act} (hd : dstOK N o = true) (hs : Sat N E a) (hh : eRun C o E h K) :
    opK C o.op ((opsOf o.op).map a.eval) h fun v h' => ofE N K (a.put o.dst v) h' :=
  opK_mono hC (hs.vals hh) fun _ _ hk => ⟨_, hs.put (dstOK_spec hd), hk⟩

theorem eStep_sound (hC : C.OK) {i : Nat} {o : Oper} {E : Env} {h : Heap} {K : Env → Heap → Prop} {a : Act} (hi : ops[i]? = some o) (hd : dstOK N o = true) (hs : Sat N E a) (hh : eStep C ops o E h K) :
    aOp C ops i (ofE N K) a h := by
  unfold aOp
  simp only [hi]
  unfold eStep at hh
  split at hh
  · rename_i hg
    rw [if_pos (by simp [Region.wanted, hg])]
    exact eRun_sound hC hd hs hh
  · rename_i g want hg
    split at hh
    · exact hh.elim
    · rename_i d hgd
      split at hh
      · rename_i b hb
        obtain ⟨h1, h2⟩ := hs.at_ _ _ hb
        have hy : yielded ops a.tmps g = some b := by unfold yielded; rw [hgd]; simp [h2]
        cases b with
        | true =>
          have hs' : Sat N (put E (some d) (.bool true)) a := hs.again hb
          simp only [iteB_true] at hh
          cases want with
          | true => rw [if_pos (by simp [Region.wanted, hg, hy])]; exact eRun_sound hC hd hs' hh
          | false => rw [if_neg (by simp [Region.wanted, hg, hy])]; exact ⟨_, hs'.put (dstOK_spec hd), hh⟩
        | false =>
          have hs' : Sat N (put E (some d) (.bool false)) a := hs.again hb
          simp only [iteB_false] at hh
          cases want with
          | true => rw [if_neg (by simp [Region.wanted, hg, hy])]; exact ⟨_, hs'.put (dstOK_spec hd), hh⟩
          | false => rw [if_pos (by simp [Region.wanted, hg, hy])]; exact eRun_sound hC hd hs' hh
      · rename_i vs hb
        obtain ⟨h1, h2⟩ := hs.at_ _ _ hb
        have hy : yielded ops a.tmps g = none := by unfold yielded; rw [hgd]; simp [h2]
        rw [if_neg (by simp [Region.wanted, hg, hy])]
        exact ⟨_, hs.put (dstOK_spec hd), hh⟩
      · exact hh.elim

theorem eOp_sound (hC : C.OK) (hd : ops.toList.all (dstOK N) = true) {i : Nat} {E : Env} {h : Heap} {K : Env → Heap → Prop} {a : Act} (hs : Sat N E a) (hh : eOp C ops i K E h) : aOp C ops i (ofE N K) a h := by
  unfold eOp at hh
  split at hh
  · rename_i hi; unfold aOp; simp only [hi]; exact ⟨E, hs, hh⟩
  · rename_i o hi
    exact eStep_sound hC hi ((List.all_eq_true.1 hd) o (Array.mem_toList_iff.2 (Array.mem_of_getElem? hi))) hs hh

/-- The watches of both sides. -/
inductive WRel : Watch → Watch → Prop where
  | nil : WRel [] []
  | cons {i : Nat} {w w' : Heap → Prop} {W W' : Watch} (h : ∀ h', w h' → w' h') (r : WRel W W') : WRel ((i, w) :: W) ((i, w') :: W')
theorem WRel.keep {D : List Nat} {j : Nat} {W W' : Watch} (r : WRel W W') : WRel (keepW D j W) (keepW D j W') := by
  induction r with
  | nil => exact .nil
  | @cons i w w' W W' h r ih =>
    unfold keepW
    cases depB D j i with
    | true => exact ih
    | false => exact .cons h ih
theorem WRel.after {D : List Nat} {j : Nat} {h : Heap} {P P' : Prop} {W W' : Watch} (r : WRel W W') (hp : P → P') (hh : afterW D j W h P) : afterW D j W' h P' := by
  induction r with
  | nil => exact hp hh
  | @cons i w w' W W' hw r ih =>
    unfold afterW at hh ⊢
    cases hd : depB D j i with
    | true => rw [hd] at hh; exact ih hh
    | false => rw [hd] at hh; exact ⟨hw _ hh.1, ih hh.2⟩
theorem WRel.wK {D : List Nat} {j : Nat} {h : Heap} {K K' : Watch → Prop} {W W' : Watch} (r : WRel W W') (hk : ∀ W W', WRel W W' → K W → K' W') (hh : wK C ops D W j h K) : wK C ops D W' j h K' := by
  unfold Hq.wK at hh ⊢
  cases hw : writes C ops j with
  | true => rw [hw] at hh; exact r.after (hk _ _ r.keep) hh
  | false => rw [hw] at hh; exact hk _ _ r hh

theorem eWatch_sound (hC : C.OK) {o : Oper} {E : Env} {h : Heap} {K : (Heap → Prop) → Env → Prop} {a : Act} (hd : dstOK N o = true) (hs : Sat N E a) (hw : Region.wanted o (yielded ops a.tmps) = true) (hh : eWatch C o E h K) :
    ∃ v w, vl C ops o a h v ∧ (∀ h', w h' → vl C ops o a h' v) ∧ ∃ E', Sat N E' (a.put o.dst v) ∧ K w E' := by
  have hh := hs.vals hh
  obtain ⟨v, hk, hr⟩ := rdK_val hC hh
  exact ⟨v, _, .inl ⟨hw, hr⟩, fun h' hx => .inl ⟨hw, hx⟩, _, hs.put (dstOK_spec hd), hk⟩

theorem eEarly_sound (hC : C.OK) {i : Nat} {o : Oper} {E : Env} {h : Heap} {K : (Heap → Prop) → Env → Prop} {a : Act} (hi : ops[i]? = some o) (hd : dstOK N o = true) (hs : Sat N E a) (hh : eEarly C ops i E h K) :
    ∃ v w, vl C ops o a h v ∧ (∀ h', w h' → vl C ops o a h' v) ∧ ∃ E', Sat N E' (a.put o.dst v) ∧ K w E' := by
  unfold eEarly at hh
  simp only [hi] at hh
  split at hh
  · rename_i hg
    exact eWatch_sound hC hd hs (by simp [Region.wanted, hg]) hh
  · rename_i g want hg
    split at hh
    · exact hh.elim
    · rename_i d hgd
      split at hh
      · rename_i b hb
        obtain ⟨h1, h2⟩ := hs.at_ _ _ hb
        have hy : yielded ops a.tmps g = some b := by unfold yielded; rw [hgd]; simp [h2]
        cases b with
        | true =>
          have hs' : Sat N (put E (some d) (.bool true)) a := hs.again hb
          simp only [iteB_true] at hh
          cases want with
          | true => exact eWatch_sound hC hd hs' (by simp [Region.wanted, hg, hy]) hh
          | false => exact ⟨undef, _, .inr ⟨by simp [Region.wanted, hg, hy], rfl⟩, fun h' _ => .inr ⟨by simp [Region.wanted, hg, hy], rfl⟩, _, hs'.put (dstOK_spec hd), hh⟩
        | false =>
          have hs' : Sat N (put E (some d) (.bool false)) a := hs.again hb
          simp only [iteB_false] at hh
          cases want with
          | true => exact ⟨undef, _, .inr ⟨by simp [Region.wanted, hg, hy], rfl⟩, fun h' _ => .inr ⟨by simp [Region.wanted, hg, hy], rfl⟩, _, hs'.put (dstOK_spec hd), hh⟩
          | false => exact eWatch_sound hC hd hs' (by simp [Region.wanted, hg, hy]) hh
      · rename_i vs hb
        obtain ⟨h1, h2⟩ := hs.at_ _ _ hb
        have hy : yielded ops a.tmps g = none := by unfold yielded; rw [hgd]; simp [h2]
        exact ⟨undef, _, .inr ⟨by simp [Region.wanted, hg, hy], rfl⟩, fun h' _ => .inr ⟨by simp [Region.wanted, hg, hy], rfl⟩, _, hs.put (dstOK_spec hd), hh⟩
      · exact hh.elim

theorem runS_sound (hC : C.OK) {D : List Nat} (hd : ops.toList.all (dstOK N) = true) {K : Env → Heap → Prop} : ∀ (s : Sched) {W W' : Watch} {E : Env} {a : Act} {h : Heap}, WRel W W' → Sat N E a → runS C D ops K s W E h → runA C D ops (ofE N K) s W' a h
  | .done, _, _, E, _, _, _, hs, hh => ⟨E, hs, hh⟩
  | .take i s, W, W', E, a, h, hr, hs, hh => by
    show aOp C ops i (fun a' h' => wK C ops D W' i h' fun W' => runA C D ops (ofE N K) s W' a' h') a h
    exact aOp_mono hC (eOp_sound hC hd hs hh) fun _ _ ⟨_, hs', hk⟩ => hr.wK (fun _ _ hr' hk' => runS_sound hC hd s hr' hs' hk') hk
  | .early i s, W, W', E, a, h, hr, hs, hh => by
    cases hi : ops[i]? with
    | none => simp only [runS, eEarly, hi] at hh
    | some o =>
      obtain ⟨v, w, hv, hw, E', hs', hk⟩ := eEarly_sound hC hi ((List.all_eq_true.1 hd) o (Array.mem_toList_iff.2 (Array.mem_of_getElem? hi))) hs hh
      simp only [runA, hi]
      exact ⟨v, w, hv, hw, runS_sound hC hd s (.cons (fun _ hx => hx) hr) hs' hk⟩
  | .alt i s r, W, W', E, a, h, hr, hs, hh => by
    have key : eOp C ops i (fun E' h' => wK C ops D W i h' fun W' => runS C D ops K s W' E' h') E h ∧ runS C D ops K r W E h := by
      cases r with
      | noalt => exact ⟨hh, trivial⟩
      | _ => exact hh
    refine ⟨?_, runS_sound hC hd r hr hs key.2⟩
    show aOp C ops i (fun a' h' => wK C ops D W' i h' fun W' => runA C D ops (ofE N K) s W' a' h') a h
    exact aOp_mono hC (eOp_sound hC hd hs key.1) fun _ _ ⟨_, hs', hk⟩ => hr.wK (fun _ _ hr' hk' => runS_sound hC hd s hr' hs' hk') hk
  | .noalt, _, _, _, _, _, _, _, _ => trivial

theorem runL_sound (hC : C.OK) (hd : ops.toList.all (dstOK N) = true) {K : Env → Heap → Prop} {Q : Exit → Act → World → Prop} {w0 : World} (hQ : ∀ E a w, Sat N E a → Out w0 w → K E w.heap → Q .normal a w) :
    ∀ (l : List Oper) (k : Nat) {E : Env} {a : Act} {w : World}, (∀ j, l[j]? = ops[k + j]?) → Sat N E a → Out w0 w → runL C ops K l E w.heap → wpOps C.P ops Q (List.range' k l.length) a w
  | [], _, E, a, w, _, hs, ho, hh => hQ E a w hs ho hh
  | o :: l, k, E, a, w, hl, hs, ho, hh => by
    have h0 : ops[k]? = some o := by simpa using (hl 0).symm
    have hd' : dstOK N o = true := (List.all_eq_true.1 hd) o (Array.mem_toList_iff.2 (Array.mem_of_getElem? h0))
    rw [List.length_cons, List.range'_succ, wpOps_cons]
    refine aOp_wp hC (eStep_sound hC h0 hd' hs hh) rfl ho fun a' w' ho' ⟨E', hs', hk⟩ => ?_
    exact runL_sound hC hd hQ l (k + 1) (fun j => by have := hl (j + 1); simpa [Nat.add_assoc, Nat.add_comm 1 j] using this) hs' ho' hk

/-- What a Bool can see of a body. -/
def seen (quiet : FuncId → Bool) (N : Nat) : Code → Ann → Bool
  | .region _ ops false, _ => ops.toList.all (dstOK N)
  | .region _ ops true, .reg D s => ops.toList.all (dstOK N) && Nat.ble (depth s) ops.size && maskOK .any ops D && checkS quiet .any D ops false s (Array.replicate ops.size false)
  | .seq x y, n => seen quiet N x n.l && seen quiet N y n.r
  | .cond _ x y, n => seen quiet N x n.l && seen quiet N y n.r
  | .block _ c, n => seen quiet N c n.l
  | .loop c, .loop _ _ _ n => seen quiet N c n
  | .scope c, .jump _ _ _ _ n _ => seen quiet N c n
  | .scope c, .two n _ => seen quiet N c n
  | .scope c, .auto => seen quiet N c .auto
  | _, _ => true

/-- A loop is what is said of it. -/
def LoopOK (C : Ctx) (N : Nat) (body : Code) (i : Nat) (keep : List Nat) (outs : List (Nat × List Nat)) : Prop :=
  ∀ vs h (K : Nat → List Value → Heap → Prop), C.loop i vs h K → ∀ (w0 : World) (a : Act) (w : World), Sat N (keep.zip vs) a → Out w0 w → w.heap = h →
    (Code.loop body).wp C.P (lift w0 N fun e E h' => ∃ x us, e = exitOf x ∧ E = (lookN outs x).zip us ∧ K x us h') a w

/-- From a label on, round after round: what goes to the label goes on with one round less. -/
def jumps (P : Program) (rest : Code) (l : Nat) (Q : Exit → Act → World → Prop) : Nat → Act → World → Prop
  | 0, _, _ => False
  | n + 1, a, w => rest.wp P (fun e a w => match e with
    | .goto l' => l' = l ∧ jumps P rest l Q n a w
    | e => Q e a w) a w

theorem wp_scope_rounds {P : Program} {c rest : Code} {l : Nat} {Q : Exit → Act → World → Prop} {a : Act} {w : World} (hf : findLabel c l = some rest)
    (first : c.wp P (fun e a w => match e with
      | .goto l' => l' = l ∧ ∃ n, jumps P rest l Q n a w
      | e => Q e a w) a w) : (Code.scope c).wp P Q a w := by
  intro b k cs
  have hg : gotoIn l (.inScope c :: k) = some (.code rest :: .inScope c :: k) := by simp [gotoIn, hf]
  have key : ∀ n a w, jumps P rest l Q n a w → ∃ e a' w', Q e a' w' ∧ Arrives P (lone (b.at a (.code rest :: .inScope c :: k)) cs w) b k cs e a' w' := by
    intro n
    induction n with
    | zero => intro a w h; exact h.elim
    | succ n ih =>
      intro a w h
      obtain ⟨e, a₁, w₁, hq, harr⟩ := h b (.inScope c :: k) cs
      cases e with
      | normal => exact ⟨.normal, a₁, w₁, hq, Steps.trans harr (.one step_inScope)⟩
      | exit id => exact ⟨.exit id, a₁, w₁, hq, fun k' hk => harr k' (by simp [exitTo, hk])⟩
      | goto l' =>
        obtain ⟨rfl, hJ'⟩ := hq
        obtain ⟨e₂, a₂, w₂, hq₂, harr₂⟩ := ih a₁ w₁ hJ'
        exact ⟨e₂, a₂, w₂, hq₂, .of_steps (harr _ hg) harr₂⟩
      | ret => exact ⟨_, a₁, w₁, hq, harr⟩
      | panic ch => exact ⟨_, a₁, w₁, hq, harr⟩
      | outgrown => exact ⟨_, a₁, w₁, hq, harr⟩
  obtain ⟨e, a₁, w₁, hq, harr⟩ := first b (.inScope c :: k) cs
  cases e with
  | normal => exact ⟨.normal, a₁, w₁, hq, .head step_scope (Steps.trans harr (.one step_inScope))⟩
  | exit id => exact ⟨.exit id, a₁, w₁, hq, fun k' hk => .head step_scope (harr k' (by simp [exitTo, hk]))⟩
  | goto l' =>
    obtain ⟨rfl, n, hJ'⟩ := hq
    obtain ⟨e₂, a₂, w₂, hq₂, harr₂⟩ := key n a₁ w₁ hJ'
    exact ⟨e₂, a₂, w₂, hq₂, .of_steps (.head step_scope (harr _ hg)) harr₂⟩
  | ret => exact ⟨_, a₁, w₁, hq, .of_steps (.one step_scope) harr⟩
  | panic ch => exact ⟨_, a₁, w₁, hq, .of_steps (.one step_scope) harr⟩
  | outgrown => exact ⟨_, a₁, w₁, hq, .of_steps (.one step_scope) harr⟩

/-- A label that is gone back to is what is said of it. -/
def JumpOK (C : Ctx) (N : Nat) (rest : Code) (l i : Nat) (keep : List Nat) (outs : List (Nat × List Nat)) : Prop :=
  ∀ vs h (K : Nat → List Value → Heap → Prop), C.loop i vs h K → ∀ (w0 : World) (a : Act) (w : World), Sat N (keep.zip vs) a → Out w0 w → w.heap = h →
    ∃ n, jumps C.P rest l (lift w0 N fun e E h' => ∃ x us, e = exitOf x ∧ E = (lookN outs x).zip us ∧ K x us h') n a w

theorem jumps_mono {P : Program} {rest : Code} {l : Nat} {Q Q' : Exit → Act → World → Prop} (hq : ∀ e a w, Q e a w → Q' e a w) : ∀ {n : Nat} {a : Act} {w : World}, jumps P rest l Q n a w → jumps P rest l Q' n a w
  | 0, _, _, h => h.elim
  | n + 1, _, _, h => wp_mono h fun e a w he => by
    cases e with
    | goto l' => exact ⟨he.1, jumps_mono hq he.2⟩
    | _ => exact hq _ _ _ he

def loopsOK (C : Ctx) (N : Nat) : Code → Ann → Prop
  | .seq x y, n => loopsOK C N x n.l ∧ loopsOK C N y n.r
  | .cond _ x y, n => loopsOK C N x n.l ∧ loopsOK C N y n.r
  | .block _ c, n => loopsOK C N c n.l
  | .loop c, .loop i keep outs _ => LoopOK C N c i keep outs
  | .scope c, .jump l i keep outs n _ => loopsOK C N c n ∧ ∃ rest, findLabel c l = some rest ∧ JumpOK C N rest l i keep outs
  | .scope c, .two n _ => loopsOK C N c n
  | .scope c, .auto => loopsOK C N c .auto
  | _, _ => True

theorem evC_sound (hC : C.OK) : ∀ (c : Code) (n : Ann), seen C.quiet N c n = true → loopsOK C N c n → ∀ {Q : Exit → Env → Heap → Prop} {E : Env} {a : Act} {w0 w : World},
    evC C c n Q E w.heap → Sat N E a → Out w0 w → c.wp C.P (lift w0 N Q) a w
  | .skip, _, _, _, Q, E, a, w0, w, hh, hs, ho => wp_skip ⟨E, hs, ho, hh⟩
  | .label l, _, _, _, Q, E, a, w0, w, hh, hs, ho => wp_label ⟨E, hs, ho, hh⟩
  | .region id ops false, _, hb, _, Q, E, a, w0, w, hh, hs, ho => by
    refine wp_region ?_
    have := runL_sound (Q := lift w0 N Q) hC hb (fun E a w hs ho hk => ⟨E, hs, ho, hk⟩) ops.toList 0 (by simp) hs ho hh
    rw [List.range_eq_range']; simpa using this
  | .region id ops true, .reg D s, hb, _, Q, E, a, w0, w, hh, hs, ho => by
    simp only [seen, Bool.and_eq_true] at hb
    obtain ⟨⟨⟨h1, h2⟩, hm⟩, h3⟩ := hb
    exact wp_sched hC hm (Nat.le_of_ble_eq_true h2) h3 ho (runS_sound hC h1 s .nil hs hh) fun a w ho ⟨E, hs, hk⟩ => ⟨E, hs, ho, hk⟩
  | .region _ _ true, .auto, _, _, _, _, _, _, _, hh, _, _ => hh.elim
  | .region _ _ true, .two _ _, _, _, _, _, _, _, _, hh, _, _ => hh.elim
  | .region _ _ true, .loop _ _ _ _, _, _, _, _, _, _, _, hh, _, _ => hh.elim
  | .region _ _ true, .jump _ _ _ _ _ _, _, _, _, _, _, _, _, hh, _, _ => hh.elim
  | .seq x y, n, hb, hl, Q, E, a, w0, w, hh, hs, ho => by
    simp only [seen, Bool.and_eq_true] at hb
    refine wp_seq (wp_mono (evC_sound hC x n.l hb.1 hl.1 hh hs ho) fun e a w ⟨E, hs, ho, hq⟩ => ?_)
    cases e with
    | normal => exact evC_sound hC y n.r hb.2 hl.2 hq hs ho
    | _ => exact ⟨E, hs, ho, hq⟩
  | .cond c x y, n, hb, hl, Q, E, a, w0, w, hh, hs, ho => by
    simp only [seen, Bool.and_eq_true] at hb
    simp only [evC] at hh
    split at hh
    · rename_i t ht
      refine wp_cond (hs.ev ht) ?_
      cases t with
      | true => exact evC_sound hC x n.l hb.1 hl.1 hh hs ho
      | false => exact evC_sound hC y n.r hb.2 hl.2 hh hs ho
    · exact hh.elim
  | .block id c, n, hb, hl, Q, E, a, w0, w, hh, hs, ho => by
    refine wp_block (wp_mono (evC_sound hC c n.l hb hl hh hs ho) fun e a w ⟨E, hs, ho, hq⟩ => ?_)
    cases e with
    | exit id' =>
      simp only [Exit.inBlock]
      simp only at hq
      cases hid : Nat.beq id' id with
      | true => rw [hid] at hq; rw [if_pos (Nat.eq_of_beq_eq_true hid)]; exact ⟨E, hs, ho, hq⟩
      | false => rw [hid] at hq; rw [if_neg (fun e => by rw [e, Nat.beq_refl] at hid; cases hid)]; exact ⟨E, hs, ho, hq⟩
    | _ => exact ⟨E, hs, ho, hq⟩
  | .loop c, .loop i keep outs n, hb, hl, Q, E, a, w0, w, hh, hs, ho => by
    simp only [evC] at hh
    split at hh
    · rename_i vs hvs
      refine wp_mono (hl vs w.heap _ hh w0 a w (hs.getAll hvs) ho rfl) fun e a w ⟨E, hs, ho, x, us, he, hE, hk⟩ => ?_
      subst he; subst hE
      exact ⟨_, hs, ho, hk⟩
    · exact hh.elim
  | .loop _, .auto, _, _, _, _, _, _, _, hh, _, _ => hh.elim
  | .loop _, .two _ _, _, _, _, _, _, _, _, hh, _, _ => hh.elim
  | .loop _, .reg _ _, _, _, _, _, _, _, _, hh, _, _ => hh.elim
  | .loop _, .jump _ _ _ _ _ _, _, _, _, _, _, _, _, hh, _, _ => hh.elim
  | .scope c, .two n _, hb, hl, Q, E, a, w0, w, hh, hs, ho => by
    refine wp_scope_straight (wp_mono (evC_sound hC c n hb hl hh hs ho) fun e a w ⟨E, hs, ho, hq⟩ => ?_)
    cases e with
    | goto l => exact hq.elim
    | _ => exact ⟨E, hs, ho, hq⟩
  | .scope c, .auto, hb, hl, Q, E, a, w0, w, hh, hs, ho => by
    refine wp_scope_straight (wp_mono (evC_sound hC c .auto hb hl hh hs ho) fun e a w ⟨E, hs, ho, hq⟩ => ?_)
    cases e with
    | goto l => exact hq.elim
    | _ => exact ⟨E, hs, ho, hq⟩
  | .scope c, .jump l i keep outs n _, hb, hl, Q, E, a, w0, w, hh, hs, ho => by
    obtain ⟨hl1, rest, hf, hj⟩ := hl
    refine wp_scope_rounds hf (wp_mono (evC_sound hC c n hb hl1 hh hs ho) fun e a w ⟨E, hs, ho, hq⟩ => ?_)
    cases e with
    | goto l' =>
      simp only at hq
      rw [bif_and] at hq
      obtain ⟨h1, hq⟩ := hq
      refine ⟨Nat.eq_of_beq_eq_true h1, ?_⟩
      split at hq
      · rename_i vs hvs
        obtain ⟨m, hm⟩ := hj vs w.heap _ hq w0 a w (hs.getAll hvs) ho rfl
        refine ⟨m, jumps_mono (fun e a w ⟨E, hs, ho, x, us, he, hE, hk⟩ => ?_) hm⟩
        subst he; subst hE
        exact ⟨_, hs, ho, hk⟩
      · exact hq.elim
    | _ => exact ⟨E, hs, ho, hq⟩
  | .scope _, .reg _ _, _, _, _, _, _, _, _, hh, _, _ => hh.elim
  | .scope _, .loop _ _ _ _, _, _, _, _, _, _, _, hh, _, _ => hh.elim
  | .exit id, _, _, _, Q, E, a, w0, w, hh, hs, ho => wp_exit ⟨E, hs, ho, hh⟩
  | .goto l, _, _, _, Q, E, a, w0, w, hh, hs, ho => wp_goto ⟨E, hs, ho, hh⟩
  | .ret, _, _, _, Q, E, a, w0, w, hh, hs, ho => wp_ret ⟨E, hs, ho, hh⟩
  | .rangeFunc _ _ _ _, _, _, _, _, _, _, _, _, hh, _, _ => hh.elim
  | .refuse _, _, _, _, _, _, _, _, _, hh, _, _ => hh.elim

/-- The typed rounds of a loop: at each round's head the slots 'keep' hold vs. -/
theorem loop_ok {body : Code} {n : Ann} {i : Nat} {keep : List Nat} {outs : List (Nat × List Nat)} (hC : C.OK) (hb : seen C.quiet N body n = true) (hl : loopsOK C N body n)
    (L : (Nat → List Value → Heap → Prop) → Nat → List Value → Heap → Prop)
    (h0 : ∀ K vs h, ¬ L K 0 vs h)
    (hS : ∀ K m vs h, L K (m + 1) vs h → evC C body n (fun e E h' => match e with
      | .normal => match getAll E keep with
        | some vs' => L K m vs' h'
        | none => False
      | .ret => match getAll E (lookN outs 0) with
        | some us => K 0 us h'
        | none => False
      | .exit id => match getAll E (lookN outs (id + 2)) with
        | some us => K (id + 2) us h'
        | none => False
      | _ => False) (keep.zip vs) h)
    (hx : ∀ vs h K, C.loop i vs h K → ∃ m, L K m vs h) : LoopOK C N body i keep outs := by
  intro vs h K hh w0 a w hs ho hw
  obtain ⟨m, hm⟩ := hx vs h K hh
  refine wp_loop_rounds m ?_
  clear hh hx
  induction m generalizing vs h a w with
  | zero => exact (h0 _ _ _ hm).elim
  | succ m ih =>
    rw [rounds_succ]
    have := hS K m vs h hm
    rw [← hw] at this
    refine wp_mono (evC_sound hC body n hb hl this hs ho) fun e a' w' ⟨E, hs', ho', hq⟩ => ?_
    cases e with
    | normal =>
      simp only at hq
      split at hq
      · rename_i vs' hvs
        exact ih vs' w'.heap a' w' (hs'.getAll hvs) ho' rfl hq
      · exact hq.elim
    | ret =>
      simp only at hq
      split at hq
      · rename_i us hus
        exact ⟨_, hs'.getAll hus, ho', 0, us, rfl, rfl, hq⟩
      · exact hq.elim
    | exit id =>
      simp only at hq
      split at hq
      · rename_i us hus
        exact ⟨_, hs'.getAll hus, ho', id + 2, us, rfl, rfl, hq⟩
      · exact hq.elim
    | goto l => exact hq.elim
    | panic ch => exact hq.elim
    | outgrown => exact hq.elim

/-- The typed rounds from a label on. -/
theorem jump_ok {rest : Code} {n : Ann} {l i : Nat} {keep : List Nat} {outs : List (Nat × List Nat)} (hC : C.OK) (hb : seen C.quiet N rest n = true) (hl : loopsOK C N rest n)
    (L : (Nat → List Value → Heap → Prop) → Nat → List Value → Heap → Prop)
    (h0 : ∀ K vs h, ¬ L K 0 vs h)
    (hS : ∀ K m vs h, L K (m + 1) vs h → evC C rest n (fun e E h' => match e with
      | .goto l' => bif Nat.beq l' l then (match getAll E keep with
        | some vs' => L K m vs' h'
        | none => False) else False
      | .normal => match getAll E (lookN outs 1) with
        | some us => K 1 us h'
        | none => False
      | .ret => match getAll E (lookN outs 0) with
        | some us => K 0 us h'
        | none => False
      | .exit id => match getAll E (lookN outs (id + 2)) with
        | some us => K (id + 2) us h'
        | none => False
      | _ => False) (keep.zip vs) h)
    (hx : ∀ vs h K, C.loop i vs h K → ∃ m, L K m vs h) : JumpOK C N rest l i keep outs := by
  intro vs h K hh w0 a w hs ho hw
  obtain ⟨m, hm⟩ := hx vs h K hh
  refine ⟨m, ?_⟩
  clear hh hx
  induction m generalizing vs h a w with
  | zero => exact (h0 _ _ _ hm).elim
  | succ m ih =>
    have := hS K m vs h hm
    rw [← hw] at this
    refine wp_mono (evC_sound hC rest n hb hl this hs ho) fun e a' w' ⟨E, hs', ho', hq⟩ => ?_
    cases e with
    | goto l' =>
      simp only at hq
      rw [bif_and] at hq
      obtain ⟨h1, hq⟩ := hq
      refine ⟨Nat.eq_of_beq_eq_true h1, ?_⟩
      split at hq
      · rename_i vs' hvs
        exact ih vs' w'.heap a' w' (hs'.getAll hvs) ho' rfl hq
      · exact hq.elim
    | normal =>
      simp only at hq
      split at hq
      · rename_i us hus
        exact ⟨_, hs'.getAll hus, ho', 1, us, rfl, rfl, hq⟩
      · exact hq.elim
    | ret =>
      simp only at hq
      split at hq
      · rename_i us hus
        exact ⟨_, hs'.getAll hus, ho', 0, us, rfl, rfl, hq⟩
      · exact hq.elim
    | exit id =>
      simp only at hq
      split at hq
      · rename_i us hus
        exact ⟨_, hs'.getAll hus, ho', id + 2, us, rfl, rfl, hq⟩
      · exact hq.elim
    | panic ch => exact hq.elim
    | outgrown => exact hq.elim

/-- What a function hands back. -/
def resK (P : Program) (E : Env) (h : Heap) : List ResultVar → (List Value → Prop) → Prop
  | [], K => K []
  | .tmp t :: r, K => match get E t with
    | some v => resK P E h r fun vs => K (v :: vs)
    | none => False
  | .cell p t :: r, K => match get E p with
    | some (.pointer (some a)) => readV P (.load t (.tmp 0)) [.pointer (some a)] h fun v => resK P E h r fun vs => K (v :: vs)
    | _ => False

def oneOrAll : List Value → Value
  | [v] => v
  | vs => .tuple vs.toArray

def numbered : Nat → List Value → Env
  | _, [] => []
  | n, v :: r => (n, v) :: numbered (n + 1) r

def evF (C : Ctx) (fn : Func) (n : Ann) (args : List Value) (h : Heap) (K : Value → Heap → Prop) : Prop :=
  match fn.body with
  | none => False
  | some c => evC C c n (fun e E h' => match e with
    | .normal => resK C.P E h' fn.results.toList fun vs => K (oneOrAll vs) h'
    | .ret => resK C.P E h' fn.results.toList fun vs => K (oneOrAll vs) h'
    | _ => False) (numbered 0 args) h

def resOne (tmps : Array Value) : ResultVar → Sem Value
  | .tmp t => pure (tmps.getD t undef)
  | .cell p t => do loadVar t (← asAddr (tmps.getD p undef))

theorem run_mapM_cons {α β : Type} {P : Program} {f : α → Sem β} {x : α} {r : List α} {y : β} {ys : List β} {w : World} (h : (f x).run P w = .ok y w) (hr : (r.mapM f).run P w = .ok ys w) :
    ((x :: r).mapM f).run P w = .ok (y :: ys) w := by
  simp [List.mapM_cons, h, hr]

theorem resK_run {E : Env} {a : Act} {h : Heap} (hs : Sat N E a) (w : World) (hw : w.heap = h) : ∀ {l : List ResultVar} {K : List Value → Prop}, resK C.P E h l K →
    ∃ vs, K vs ∧ (l.mapM (resOne a.tmps)).run C.P w = .ok vs w
  | [], K, hk => ⟨[], hk, by simp⟩
  | .tmp t :: r, K, hk => by
    simp only [resK] at hk
    split at hk
    · rename_i v hv
      obtain ⟨vs, hk, hr⟩ := resK_run hs w hw hk
      obtain ⟨h1, h2⟩ := hs.at_ _ _ hv
      exact ⟨v :: vs, hk, run_mapM_cons (by simp [resOne, h2]) hr⟩
    · exact hk.elim
  | .cell p t :: r, K, hk => by
    simp only [resK] at hk
    split at hk
    · rename_i q hv
      obtain ⟨v, hk, hrd⟩ := readV_val hk
      obtain ⟨vs, hk, hr⟩ := resK_run hs w hw hk
      obtain ⟨h1, h2⟩ := hs.at_ _ _ hv
      have := readV_run (P := C.P) (ρ := fun _ => .pointer (some q)) (o := { dst := none, op := .load t (.tmp 0), type := 0, pos := "", after := #[], guard := none }) (v := v) (by simpa [opsOf] using hrd) w hw
      simp [execOp, Instr.loadAt, Instr.sureAddr] at this
      refine ⟨v :: vs, hk, run_mapM_cons ?_ hr⟩
      have h3 : (loadVar t q).run C.P w = .ok v w := by
        cases hlv : (loadVar t q).run C.P w with
        | ok x w' => rw [hlv] at this; simpa using this
        | halt x w' => rw [hlv] at this; simp at this
      simp [resOne, h2, asAddr, h3]
    · exact hk.elim

theorem results_eq (fn : Func) (tmps : Array Value) : results fn tmps = (do let vs ← fn.results.mapM (resOne tmps); pure (if h : vs.size = 1 then vs[0] else .tuple vs)) := by
  unfold results
  congr 2

theorem results_run {fn : Func} {tmps : Array Value} {vs : List Value} {w : World} {P : Program} (h : (fn.results.toList.mapM (resOne tmps)).run P w = .ok vs w) :
    (results fn tmps).run P w = .ok (oneOrAll vs) w := by
  rw [results_eq, Array.mapM_eq_mapM_toList]
  simp only [Sem.run_bind, Sem.run_map, h]
  match vs with
  | [] => rfl
  | [v] => rfl
  | v :: u :: r => rfl

theorem numbered_get : ∀ (args : List Value) (n t : Nat) (v : Value), get (numbered n args) t = some v → n ≤ t ∧ args[t - n]? = some v
  | [], _, _, _, h => by cases h
  | u :: r, n, t, v, h => by
    simp only [numbered, get] at h
    cases hb : Nat.beq n t with
    | true =>
      rw [hb] at h
      simp only [cond_true, Option.some.injEq] at h
      have := Nat.eq_of_beq_eq_true hb
      subst this; subst h
      exact ⟨Nat.le_refl _, by simp⟩
    | false =>
      rw [hb] at h
      obtain ⟨h1, h2⟩ := numbered_get r (n + 1) t v h
      refine ⟨by omega, ?_⟩
      rw [show t - n = (t - (n + 1)) + 1 by omega]
      simpa using h2

theorem evF_calls (hC : C.OK) {f : FuncId} {fn : Func} {n : Ann} {args : List Value} {h : Heap} {K : Value → Heap → Prop} (hf : C.P.funcs[f]? = some fn) (hn : args.length ≤ fn.ntmps)
    (hb : ∀ c, fn.body = some c → seen C.quiet fn.ntmps c n = true) (hl : ∀ c, fn.body = some c → loopsOK C fn.ntmps c n) (hh : evF C fn n args h K) (w : World) (hw : w.heap = h) :
    Calls C.P f args.toArray w fun e w' => ∃ v, e = .returned v ∧ Out w w' ∧ K v w'.heap := by
  unfold evF at hh
  split at hh
  · exact hh.elim
  · rename_i c hc
    refine calls_of_wp hf hc ?_
    subst hw
    have hs : Sat fn.ntmps (numbered 0 args) { tmps := args.toArray ++ Array.replicate (fn.ntmps - args.toArray.size) undef, defers := [] } := by
      refine ⟨rfl, by simp; omega, fun t v ht => ?_⟩
      obtain ⟨_, h2⟩ := numbered_get args 0 t v ht
      have hlt : t < args.length := by
        rcases Nat.lt_or_ge t args.length with h | h
        · exact h
        · rw [Nat.sub_zero, List.getElem?_eq_none h] at h2; cases h2
      refine ⟨by omega, ?_⟩
      rw [Array.getElem?_append_left (by simpa using hlt)]
      simpa using h2
    have main : ∀ (E : Env) (a : Act) (w' : World), Sat fn.ntmps E a → Out w w' → resK C.P E w'.heap fn.results.toList (fun vs => K (oneOrAll vs) w'.heap) →
        a.defers = [] ∧ ∃ v, (results fn a.tmps).run C.P w' = .ok v w' ∧ ∃ u, Ending.returned v = .returned u ∧ Out w w' ∧ K u w'.heap := by
      intro E a w' hs ho hr
      obtain ⟨vs, hk, hrun⟩ := resK_run hs w' rfl hr
      exact ⟨hs.defers, oneOrAll vs, results_run hrun, _, rfl, ho, hk⟩
    refine wp_mono (evC_sound hC c n (hb c hc) (hl c hc) hh hs (Out.refl w)) fun e a w' ⟨E, hs, ho, hq⟩ => ?_
    cases e with
    | normal => exact main E a w' hs ho hq
    | ret => exact main E a w' hs ho hq
    | exit id => exact hq.elim
    | goto l => exact hq.elim
    | panic ch => exact hq.elim
    | outgrown => exact hq.elim

def sub : Code → List Nat → Code
  | c, [] => c
  | .seq x y, 0 :: p => sub x p
  | .seq x y, _ :: p => sub y p
  | .cond _ x y, 0 :: p => sub x p
  | .cond _ x y, _ :: p => sub y p
  | .block _ c, _ :: p => sub c p
  | .loop c, _ :: p => sub c p
  | .scope c, 0 :: p => sub c p
  | .scope c, (l + 1) :: p => match findLabel c l with
    | some r => sub r p
    | none => .skip
  | c, _ => c

/-- The loops of a body that lie in no other, and the labels that are gone back to. -/
def loopList : Code → Ann → List (Code × Option Nat × Nat × List Nat × List (Nat × List Nat))
  | .seq x y, n => loopList x n.l ++ loopList y n.r
  | .cond _ x y, n => loopList x n.l ++ loopList y n.r
  | .block _ c, n => loopList c n.l
  | .loop c, .loop i keep outs _ => [(c, none, i, keep, outs)]
  | .scope c, .jump l i keep outs n _ => loopList c n ++ [(match findLabel c l with | some r => (r, some l, i, keep, outs) | none => (.skip, some l, i, keep, outs))]
  | .scope c, .two n _ => loopList c n
  | .scope c, .auto => loopList c .auto
  | _, _ => []

def rowOK (C : Ctx) (N : Nat) : Code × Option Nat × Nat × List Nat × List (Nat × List Nat) → Prop
  | (c, none, i, keep, outs) => LoopOK C N c i keep outs
  | (c, some l, i, keep, outs) => JumpOK C N c l i keep outs

def allOK (C : Ctx) (N : Nat) : List (Code × Option Nat × Nat × List Nat × List (Nat × List Nat)) → Prop
  | [] => True
  | x :: r => rowOK C N x ∧ allOK C N r

theorem allOK_append {l r : List (Code × Option Nat × Nat × List Nat × List (Nat × List Nat))} (h : allOK C N (l ++ r)) : allOK C N l ∧ allOK C N r := by
  induction l with
  | nil => exact ⟨trivial, h⟩
  | cons x l ih => exact ⟨⟨h.1, (ih h.2).1⟩, (ih h.2).2⟩

/-- Each label that is gone back to is there. -/
def labels : Code → Ann → Bool
  | .seq x y, n => labels x n.l && labels y n.r
  | .cond _ x y, n => labels x n.l && labels y n.r
  | .block _ c, n => labels c n.l
  | .scope c, .jump l _ _ _ n _ => labels c n && (findLabel c l).isSome
  | .scope c, .two n _ => labels c n
  | .scope c, .auto => labels c .auto
  | _, _ => true

theorem loopList_ok : ∀ (c : Code) (n : Ann), labels c n = true → allOK C N (loopList c n) → loopsOK C N c n
  | .seq x y, n, hb, h => by
    simp only [labels, Bool.and_eq_true] at hb
    exact ⟨loopList_ok x n.l hb.1 (allOK_append h).1, loopList_ok y n.r hb.2 (allOK_append h).2⟩
  | .cond _ x y, n, hb, h => by
    simp only [labels, Bool.and_eq_true] at hb
    exact ⟨loopList_ok x n.l hb.1 (allOK_append h).1, loopList_ok y n.r hb.2 (allOK_append h).2⟩
  | .block _ c, n, hb, h => loopList_ok c n.l hb h
  | .loop c, .loop i keep outs _, _, h => h.1
  | .scope c, .jump l i keep outs n m, hb, h => by
    simp only [labels, Bool.and_eq_true] at hb
    obtain ⟨r, hr⟩ := Option.isSome_iff_exists.1 hb.2
    refine ⟨loopList_ok c n hb.1 (allOK_append h).1, r, hr, ?_⟩
    have := (allOK_append h).2.1
    rw [hr] at this
    exact this
  | .scope c, .two n _, hb, h => loopList_ok c n hb h
  | .scope c, .auto, hb, h => loopList_ok c .auto hb h
  | .scope _, .reg _ _, _, _ => trivial
  | .scope _, .loop _ _ _ _, _, _ => trivial
  | .loop _, .auto, _, _ => trivial
  | .loop _, .two _ _, _, _ => trivial
  | .loop _, .reg _ _, _, _ => trivial
  | .loop _, .jump _ _ _ _ _ _, _, _ => trivial
  | .skip, _, _, _ => trivial
  | .region _ _ _, _, _, _ => trivial
  | .rangeFunc _ _ _ _, _, _, _ => trivial
  | .exit _, _, _, _ => trivial
  | .label _, _, _, _ => trivial
  | .goto _, _, _, _ => trivial
  | .ret, _, _, _ => trivial
  | .refuse _, _, _, _ => trivial

theorem loops_ok {c : Code} {n : Ann} {l : List (Code × Option Nat × Nat × List Nat × List (Nat × List Nat))} (hl : (labels c n, loopList c n) = (true, l)) (h : allOK C N l) : loopsOK C N c n := by
  simp only [Prod.mk.injEq] at hl
  exact loopList_ok c n hl.1 (by rw [hl.2]; exact h)

theorem fn_calls (hC : C.OK) {f : FuncId} {fn : Func} {n : Ann} {args : List Value} {h : Heap} {K : Value → Heap → Prop} {c : Code} (hf : C.P.funcs[f]? = some fn) (hc : fn.body = some c)
    (hname : (fn.name == "runtime.NumGoroutine") = false) (hn : Nat.ble args.length fn.ntmps = true) (hb : seen C.quiet fn.ntmps c n = true) (hl : loopsOK C fn.ntmps c n) (hh : evF C fn n args h K) (w : World) (hw : w.heap = h) :
    (callFunc f args.toArray).run C.P w = .ok (.enter f args.toArray) w ∧ Calls C.P f args.toArray w fun e w' => ∃ v, e = .returned v ∧ Out w w' ∧ K v w'.heap := by
  refine ⟨?_, evF_calls hC hf (Nat.le_of_ble_eq_true hn) (fun c' hc' => by rw [hc] at hc'; cases hc'; exact hb) (fun c' hc' => by rw [hc] at hc'; cases hc'; exact hl) hh w hw⟩
  have hname' : ¬ fn.name = "runtime.NumGoroutine" := by simpa using hname
  simp [callFunc, program, Sem.run, bind, Sem.bind, hf, hname', hc, pure]
end
end Go.Hq

namespace Go.Hq
set_option linter.unusedVariables false
set_option linter.unusedSimpArgs false
open Go.RowKit

theorem callP1.self {α : Type} {F : (α → Heap → Prop) → Prop} {K : α → Heap → Prop} (h : F K) : callP1 F K := ⟨K, h, fun _ _ h => h⟩
theorem callP0.self {F : (Heap → Prop) → Prop} {K : Heap → Prop} (h : F K) : callP0 F K := ⟨K, h, fun _ h => h⟩
theorem callP2.self {α β : Type} {F : (α → β → Heap → Prop) → Prop} {K : α → β → Heap → Prop} (h : F K) : callP2 F K := ⟨K, h, fun _ _ _ h => h⟩
theorem callP3.self {α β γ : Type} {F : (α → β → γ → Heap → Prop) → Prop} {K : α → β → γ → Heap → Prop} (h : F K) : callP3 F K := ⟨K, h, fun _ _ _ _ h => h⟩
theorem callP4.self {α β γ δ : Type} {F : (α → β → γ → δ → Heap → Prop) → Prop} {K : α → β → γ → δ → Heap → Prop} (h : F K) : callP4 F K := ⟨K, h, fun _ _ _ _ _ h => h⟩
theorem callP5.self {α β γ δ ε : Type} {F : (α → β → γ → δ → ε → Heap → Prop) → Prop} {K : α → β → γ → δ → ε → Heap → Prop} (h : F K) : callP5 F K := ⟨K, h, fun _ _ _ _ _ _ h => h⟩
theorem callP6.self {α β γ δ ε ζ : Type} {F : (α → β → γ → δ → ε → ζ → Heap → Prop) → Prop} {K : α → β → γ → δ → ε → ζ → Heap → Prop} (h : F K) : callP6 F K := ⟨K, h, fun _ _ _ _ _ _ _ h => h⟩
theorem callP7.self {α β γ δ ε ζ η : Type} {F : (α → β → γ → δ → ε → ζ → η → Heap → Prop) → Prop} {K : α → β → γ → δ → ε → ζ → η → Heap → Prop} (h : F K) : callP7 F K := ⟨K, h, fun _ _ _ _ _ _ _ _ h => h⟩

theorem qcallP1.of {α : Type} {h : Heap} {F : (α → Heap → Prop) → Prop} {K : α → Prop} (x : α) (hF : ∀ R, R x h → F R) (hk : K x) : qcallP1 h F K := ⟨x, hF _ ⟨rfl, rfl⟩, hk⟩
theorem qcallP2.of {α β : Type} {h : Heap} {F : (α → β → Heap → Prop) → Prop} {K : α → β → Prop} (x : α) (y : β) (hF : ∀ R, R x y h → F R) (hk : K x y) : qcallP2 h F K := ⟨x, y, hF _ ⟨rfl, rfl, rfl⟩, hk⟩
theorem qcallP3.of {α β γ : Type} {h : Heap} {F : (α → β → γ → Heap → Prop) → Prop} {K : α → β → γ → Prop} (x : α) (y : β) (z : γ) (hF : ∀ R, R x y z h → F R) (hk : K x y z) : qcallP3 h F K :=
  ⟨x, y, z, hF _ ⟨rfl, rfl, rfl, rfl⟩, hk⟩
theorem qcallP4.of {α β γ δ : Type} {h : Heap} {F : (α → β → γ → δ → Heap → Prop) → Prop} {K : α → β → γ → δ → Prop} (x : α) (y : β) (z : γ) (u : δ) (hF : ∀ R, R x y z u h → F R) (hk : K x y z u) : qcallP4 h F K :=
  ⟨x, y, z, u, hF _ ⟨rfl, rfl, rfl, rfl, rfl⟩, hk⟩

theorem iteB_intro {b : Bool} {p q : Prop} (h1 : b = true → p) (h2 : b = false → q) : iteB b p q := by
  cases b
  · exact h2 rfl
  · exact h1 rfl
theorem iteB_pos {b : Bool} {p q : Prop} (h : b = true) (hp : p) : iteB b p q := by rw [h]; exact hp
theorem iteB_neg {b : Bool} {p q : Prop} (h : b = false) (hq : q) : iteB b p q := by rw [h]; exact hq

/-- All that was there is there still. -/
structure Ext (h h' : Heap) : Prop where
  size : h.size ≤ h'.size
  at_ : ∀ b, b < h.size → h'[b]? = h[b]?
theorem Ext.refl (h : Heap) : Ext h h := ⟨Nat.le_refl _, fun _ _ => rfl⟩
theorem Ext.trans {a b c : Heap} (h : Ext a b) (k : Ext b c) : Ext a c := ⟨Nat.le_trans h.size k.size, fun i hi => (k.at_ i (Nat.lt_of_lt_of_le hi h.size)).trans (h.at_ i hi)⟩
theorem Ext.push {a h : Heap} (e : Ext a h) (o : Obj) : Ext a (h.push o) :=
  e.trans ⟨by simp, fun b hb => by rw [Array.getElem?_push, if_neg (by omega)]⟩
theorem Ext.setC {a h : Heap} (e : Ext a h) {p : Addr} (hp : a.size ≤ p.block) (v : Value) : Ext a (setC h p v) :=
  ⟨by simpa [Hq.setC] using e.size, fun b hb => by simp only [Hq.setC, Array.getElem?_modify]; rw [if_neg (by omega)]; exact e.at_ b hb⟩
theorem Ext.cell {h h' : Heap} (e : Ext h h') {p : Addr} (hp : p.block < h.size) : Hq.cell h' p = Hq.cell h p := by unfold Hq.cell; rw [e.at_ _ hp]
theorem Ext.frz {h h' : Heap} (e : Ext h h') {p : Addr} (hp : p.block < h.size) : Hq.frz h' p = Hq.frz h p := by unfold Hq.frz; rw [e.at_ _ hp]
theorem cell_lt {h : Heap} {p : Addr} {v : Value} (hc : cell h p = some v) : p.block < h.size := by
  unfold cell at hc
  split at hc
  · rename_i hb; exact (Array.getElem?_eq_some_iff.1 hb).1
  · cases hc
theorem Ext.cell' {h h' : Heap} (e : Ext h h') {p : Addr} {v : Value} (hp : Hq.cell h p = some v) : Hq.cell h' p = some v := by rw [e.cell (cell_lt hp)]; exact hp
/-- A block that was there. -/
theorem Ext.blk {h h' : Heap} (e : Ext h h') {b : Nat} {o : Obj} (hb : h[b]? = some o) : h'[b]? = some o := by rw [e.at_ b (Array.getElem?_eq_some_iff.1 hb).1]; exact hb

theorem ext_below {w w' : World} (e : Ext w.heap w'.heap) (o : Out w w') : Below w.heap.size w w' := ⟨o.os, o.tape, o.output, e.size, e.at_⟩

@[simp] theorem add_mk (b o n : Nat) : (⟨b, o, none⟩ : Addr).add n = ⟨b, o + n, none⟩ := by
  unfold Addr.add; split
  · subst_vars; rfl
  · rfl
@[simp] theorem add_block (a : Addr) (n : Nat) : (a.add n).block = a.block := by unfold Addr.add; split <;> rfl

/-- A block of cells that may be written: what it holds. -/
def row (h : Heap) (b : Nat) (cs : List Value) : Prop := ∃ t, h[b]? = some (.cells cs.toArray t)

theorem row.lt {h : Heap} {b : Nat} {cs : List Value} (hr : row h b cs) : b < h.size := (Array.getElem?_eq_some_iff.1 hr.choose_spec).1
theorem row.cell {h : Heap} {b : Nat} {cs : List Value} (hr : row h b cs) (j : Nat) : Hq.cell h ⟨b, j, none⟩ = cs[j]? := by
  obtain ⟨t, ht⟩ := hr; unfold Hq.cell; simp [ht]
theorem row.frz {h : Heap} {b : Nat} {cs : List Value} (hr : row h b cs) (j : Nat) : Hq.frz h ⟨b, j, none⟩ = false := by
  obtain ⟨t, ht⟩ := hr; unfold Hq.frz; simp [ht]
theorem row.ext {h h' : Heap} {b : Nat} {cs : List Value} (hr : row h b cs) (e : Ext h h') : row h' b cs := ⟨hr.choose, e.blk hr.choose_spec⟩
theorem row.set {h : Heap} {b : Nat} {cs : List Value} (hr : row h b cs) (j : Nat) (v : Value) : row (setC h ⟨b, j, none⟩ v) b (cs.set j v) := by
  obtain ⟨t, ht⟩ := hr; refine ⟨t, ?_⟩; simp [setC, Array.getElem?_modify, ht]
theorem row.other {h : Heap} {b : Nat} {cs : List Value} (hr : row h b cs) {p : Addr} (hp : p.block ≠ b) (v : Value) : row (setC h p v) b cs := by
  obtain ⟨t, ht⟩ := hr; refine ⟨t, ?_⟩; simp only [setC, Array.getElem?_modify]; rw [if_neg hp]; exact ht
theorem row.push {h : Heap} {b : Nat} {cs : List Value} (hr : row h b cs) (o : Obj) : row (h.push o) b cs := hr.ext ((Ext.refl h).push o)
theorem row.new (h : Heap) (cs : List Value) (t : TypeId) : row (h.push (.cells cs.toArray t)) h.size cs := ⟨t, by simp⟩
@[simp] theorem size_setC (h : Heap) (p : Addr) (v : Value) : (setC h p v).size = h.size := by simp [setC]

theorem newP_intro {h : Heap} {cs : List Value} {t : TypeId} {K : Addr → Heap → Prop} (hk : ∀ b h', b = h.size → h'.size = h.size + 1 → Ext h h' → row h' b cs → K ⟨b, 0, none⟩ h') : newP h (.cells cs.toArray t) K :=
  hk h.size _ rfl (by simp) ((Ext.refl h).push _) (row.new h cs t)

theorem stC_row {h : Heap} {b j : Nat} {cs : List Value} {v : Value} {K : Heap → Prop} (hr : row h b cs) (hj : j < cs.length) (hk : K (setC h ⟨b, j, none⟩ v)) : stC h ⟨b, j, none⟩ v K :=
  ⟨⟨by rw [hr.cell]; simp [hj], hr.frz j⟩, hk⟩

theorem wrap_id {x : Int} (h1 : -9223372036854775808 ≤ x) (h2 : x < 9223372036854775808) : IntKind.i64.wrap x = x := by rw [IntKind.wrap_i64]; omega
theorem wrap_u64 (x : Int) : IntKind.u64.wrap x = x % 18446744073709551616 := by simp [IntKind.wrap, IntKind.bits, IntKind.signed]
theorem wrap_i64_eq (x : Int) : IntKind.i64.wrap x = (x + 9223372036854775808) % 18446744073709551616 - 9223372036854775808 := IntKind.wrap_i64 x

/-- Of what was there, only blocks in S have turned. -/
structure Chg (S : Nat → Prop) (h h' : Heap) : Prop where
  size : h.size ≤ h'.size
  at_ : ∀ b, b < h.size → ¬ S b → h'[b]? = h[b]?
theorem Chg.refl (S : Nat → Prop) (h : Heap) : Chg S h h := ⟨Nat.le_refl _, fun _ _ _ => rfl⟩
theorem Chg.trans {S : Nat → Prop} {a b c : Heap} (h : Chg S a b) (k : Chg S b c) : Chg S a c :=
  ⟨Nat.le_trans h.size k.size, fun i hi hs => (k.at_ i (Nat.lt_of_lt_of_le hi h.size) hs).trans (h.at_ i hi hs)⟩
theorem Chg.mono {S T : Nat → Prop} {h h' : Heap} (c : Chg S h h') (hs : ∀ b, b < h.size → S b → T b) : Chg T h h' := ⟨c.size, fun b hb hn => c.at_ b hb fun hS => hn (hs b hb hS)⟩
theorem Ext.chg {S : Nat → Prop} {h h' : Heap} (e : Ext h h') : Chg S h h' := ⟨e.size, fun b hb _ => e.at_ b hb⟩
theorem Chg.ext {S : Nat → Prop} {h h' : Heap} (c : Chg S h h') (hs : ∀ b, b < h.size → ¬ S b) : Ext h h' := ⟨c.size, fun b hb => c.at_ b hb (hs b hb)⟩
/-- What was there ahead of the blocks that turned is there still. -/
theorem Ext.chg_trans {S : Nat → Prop} {a b c : Heap} (h : Ext a b) (k : Chg S b c) (hs : ∀ i, i < a.size → ¬ S i) : Ext a c :=
  ⟨Nat.le_trans h.size k.size, fun i hi => (k.at_ i (Nat.lt_of_lt_of_le hi h.size) (hs i hi)).trans (h.at_ i hi)⟩
theorem Chg.setC (S : Nat → Prop) (h : Heap) {p : Addr} (hp : S p.block) (v : Value) : Chg S h (setC h p v) :=
  ⟨by simp, fun b hb hn => by simp only [Hq.setC, Array.getElem?_modify]; rw [if_neg (fun e => hn (by rw [← e]; exact hp))]⟩
theorem Chg.cell {S : Nat → Prop} {h h' : Heap} (c : Chg S h h') {p : Addr} {v : Value} (hp : Hq.cell h p = some v) (hn : ¬ S p.block) : Hq.cell h' p = some v := by
  have := c.at_ p.block (cell_lt hp) hn
  unfold Hq.cell at hp ⊢; rw [this]; exact hp
theorem row.chg {S : Nat → Prop} {h h' : Heap} {b : Nat} {cs : List Value} (hr : row h b cs) (c : Chg S h h') (hn : ¬ S b) : row h' b cs := by
  obtain ⟨t, ht⟩ := hr; exact ⟨t, by rw [c.at_ b (Array.getElem?_eq_some_iff.1 ht).1 hn]; exact ht⟩

/-- A slice's elements, each of one cell: 'n' values from 'q' on. -/
def valsAt (h : Heap) (q : Option Addr) (l : List Value) : Prop := ∀ i v, l[i]? = some v → ∃ a, q = some a ∧ cell h (a.add i) = some v
theorem valsAt.ext {h h' : Heap} {q : Option Addr} {l : List Value} (hv : valsAt h q l) (e : Ext h h') : valsAt h' q l := fun i v hi => by
  obtain ⟨a, ha, hc⟩ := hv i v hi; exact ⟨a, ha, e.cell' hc⟩
theorem valsAt.take {h : Heap} {q : Option Addr} {l : List Value} (hv : valsAt h q l) (n : Nat) : valsAt h q (l.take n) := fun i v hi => hv i v (by
  rw [List.getElem?_take] at hi; split at hi <;> simp_all)
theorem valsAt.row {h : Heap} {b o : Nat} {cs l : List Value} (hr : row h b cs) (hl : ∀ i v, l[i]? = some v → cs[o + i]? = some v) : valsAt h (some ⟨b, o, none⟩) l := fun i v hi =>
  ⟨_, rfl, by rw [add_mk, hr.cell]; exact hl i v hi⟩
theorem valsAt.lt {h : Heap} {q : Option Addr} {l : List Value} (hv : valsAt h q l) (hl : l ≠ []) : ∃ a, q = some a ∧ a.block < h.size := by
  cases l with
  | nil => exact absurd rfl hl
  | cons v r => obtain ⟨a, ha, hc⟩ := hv 0 v rfl; exact ⟨a, ha, by have := cell_lt hc; simpa using this⟩

/-- A law's own contract, as the row wants it. -/
theorem law_calls {P : Program} {f : FuncId} {args : Array Value} {w : World} {ret : (Bool → Heap → Prop) → Value → Heap → Prop}
    (hret : ∀ {K : Bool → Heap → Prop} {K' : Value → Heap → Prop} {v : Value} {h : Heap}, (∀ b h, K b h → K' (.bool b) h) → ret K v h → K' v h)
    (hc : Calls P f args w fun e w' => ∃ v, e = .returned v ∧ Out w w' ∧ ret (fun b h' => b = true ∧ Ext w.heap h') v w'.heap) :
    Calls P f args w fun e w' => e = .returned (.bool true) ∧ Below w.heap.size w w' :=
  hc.mono fun e w' ⟨v, he, ho, hr⟩ => by
    have := hret (K' := fun v h' => v = .bool true ∧ Ext w.heap h') (fun b h' ⟨hb, e⟩ => ⟨by rw [hb], e⟩) hr
    exact ⟨by rw [he, this.1], ext_below this.2 ho⟩

/-- A slice of integers that came in. -/
theorem row_ints {k : IntKind} {w : World} {a : Option Addr} {len cap : Nat} {zs : List Int}
    (h : (a = none ∧ len = 0 ∧ cap = 0 ∧ zs = []) ∨
      ∃ x, a = some x ∧ len ≤ cap ∧ cap ≤ maxLen ∧ zs.length = cap ∧ (∀ i, i < zs.length → w.cell? (x.add i) = some (.int k (zs.getD i 0))) ∧ ∀ n ∈ zs, (Lit.int k n).wf = true) :
    ∃ l : List Int, l.length = len ∧ len ≤ cap ∧ valsAt w.heap a (l.map (Value.int k)) ∧ (∀ n ∈ l, (Lit.int k n).wf = true) ∧ (len ≠ 0 → ∃ x, a = some x) ∧ cap ≤ maxLen := by
  rcases h with ⟨rfl, rfl, rfl, rfl⟩ | ⟨x, rfl, h1, h2, h3, h4, h5⟩
  · exact ⟨[], rfl, Nat.le_refl _, fun i v hi => by simp at hi, fun n hn => by simp at hn, fun h => absurd rfl h, by simp [maxLen]⟩
  · refine ⟨zs.take len, by rw [List.length_take]; omega, h1, fun i v hi => ?_, fun n hn => h5 n (List.mem_of_mem_take hn), fun _ => ⟨x, rfl⟩, h2⟩
    rw [List.getElem?_map, List.getElem?_take] at hi
    split at hi
    · cases hz : zs[i]? with
      | none => rw [hz] at hi; cases hi
      | some n =>
        rw [hz] at hi
        simp only [Option.map_some, Option.some.injEq] at hi
        have hlt := (List.getElem?_eq_some_iff.1 hz).1
        refine ⟨x, rfl, ?_⟩
        rw [← hi, ← cell_eq, h4 i hlt]; simp [List.getD, hz]
    · cases hi

theorem wf_i64 {n : Int} (h : (Lit.int .i64 n).wf = true) : -9223372036854775808 ≤ n ∧ n ≤ 9223372036854775807 := by
  simp only [Lit.wf, IntKind.min, IntKind.max, IntKind.signed, IntKind.bits, Bool.and_eq_true, decide_eq_true_eq, if_true] at h; omega
theorem wf_u64 {n : Int} (h : (Lit.int .u64 n).wf = true) : 0 ≤ n ∧ n < 18446744073709551616 := by
  simp only [Lit.wf, IntKind.min, IntKind.max, IntKind.signed, IntKind.bits, Bool.and_eq_true, decide_eq_true_eq, Bool.false_eq_true, if_false] at h; omega
end Go.Hq
