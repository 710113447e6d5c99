/-
  The frame of my own, part 1: a heap without a tape, environments of slots, and what one operation does, said once, in continuation form.
-/
import Derived.Orders
import Derived.LoopN
import Derived.Below
import Derived.Deep.Draws
namespace Go.Hp
set_option linter.unusedVariables false
set_option linter.unusedSimpArgs false

abbrev Heap := Array Obj

def cell (h : Heap) (a : Addr) : Option Value :=
  match h[a.block]? with
  | some (.cells c _ _) => if a.spot.isSome then none else c[a.off]?
  | _ => none

def frz (h : Heap) (a : Addr) : Bool :=
  match h[a.block]? with
  | some (.cells _ _ (lo, hi)) => lo ≤ a.off && a.off < hi
  | _ => false

def setC (h : Heap) (a : Addr) (v : Value) : Heap :=
  h.modify a.block fun
    | .cells c elem frozen => .cells (if a.spot.isSome then c else c.setIfInBounds a.off v) elem frozen
    | o => o

theorem cell_eq (w : World) (a : Addr) : w.cell? a = cell w.heap a := rfl
theorem frz_eq (w : World) (a : Addr) : w.frozen? a = frz w.heap a := rfl
theorem setC_eq (w : World) (a : Addr) (v : Value) : (w.setCell a v).heap = setC w.heap a v := rfl

/-- Is it kept, too, that draws grow? -/
class DKc where
  p : Prop
abbrev DK [i : DKc] : Prop := i.p
/-- The streams are as they were. -/
structure Out [DKc] (w w' : World) : Prop where
  tape : w'.tape = w.tape
  os : w'.os = w.os
  output : w'.output = w.output
  drawn : DK → w.drawn ≤ w'.drawn

theorem Out.refl [DKc] (w : World) : Out w w := ⟨rfl, rfl, rfl, fun _ => Nat.le_refl _⟩
theorem Out.trans [DKc] {a b c : World} (h : Out a b) (k : Out b c) : Out a c := ⟨k.tape.trans h.tape, k.os.trans h.os, k.output.trans h.output, fun d => Nat.le_trans (h.drawn d) (k.drawn d)⟩
theorem Out.drewN [DKc] {a b : World} (d : DK) (h : Out a b) (hh : b.heap = a.heap) : b = a.drewN (b.drawn - a.drawn) := by
  obtain ⟨h1, h2, h3, h4⟩ := h
  have h4 := h4 d
  cases a; cases b
  simp only [World.drewN] at *
  subst hh h1 h2 h3
  congr 1
  omega

/-- What kind of value lies in a cell. -/
inductive Sh where
  | int (k : IntKind) | bool | str | flt (k : FloatKind) | ptr | sl | map | any

def rdS : Sh → Option Value → (Value → Prop) → Prop
  | .int k, c, K => ∃ x : Int, c = some (.int k x) ∧ K (.int k x)
  | .bool, c, K => ∃ x : Bool, c = some (.bool x) ∧ K (.bool x)
  | .str, c, K => ∃ x : ByteArray, c = some (.string x) ∧ K (.string x)
  | .flt k, c, K => ∃ x : Nat, c = some (.float k x) ∧ K (.float k x)
  | .ptr, c, K => ∃ x : Option Addr, c = some (.pointer x) ∧ K (.pointer x)
  | .sl, c, K => ∃ (a : Option Addr) (l n : Nat), c = some (.slice a l n) ∧ K (.slice a l n)
  | .map, c, K => ∃ x : Option Nat, c = some (.map x) ∧ K (.map x)
  | .any, c, K => ∃ x : Value, c = some x ∧ K x

/-- Several cells, from one place on. -/
def rdL : List Sh → Heap → Addr → Nat → (List Value → Prop) → Prop
  | [], _, _, _, K => K []
  | s :: r, h, a, i, K => rdS s (cell h (a.add i)) fun v => rdL r h a (i + 1) fun vs => K (v :: vs)

/-- Several cells of a list, from one place on. -/
def rdF : List Sh → List Value → Nat → (List Value → Prop) → Prop
  | [], _, _, K => K []
  | s :: r, cs, i, K => rdS s cs[i]? fun v => rdF r cs (i + 1) fun vs => K (v :: vs)

def flat : Value → Bool
  | .agg _ | .tuple _ => false
  | _ => true

/-- A store into one cell. -/
def stC (h : Heap) (a : Addr) (v : Value) (K : Heap → Prop) : Prop := ((cell h a).isSome = true ∧ frz h a = false) ∧ K (setC h a v)

def stL : List Value → Heap → Addr → Nat → (Heap → Prop) → Prop
  | [], h, _, _, K => K h
  | v :: r, h, a, i, K => match flat v with
    | true => stC h (a.add i) v fun h' => stL r h' a (i + 1) K
    | false => False

/-- The kinds of a type's cells. -/
def kinds (P : Program) : Nat → TypeId → List Sh
  | 0, _ => []
  | n + 1, t => match P.underlying t with
    | some (.int k) => [.int k]
    | some .bool => [.bool]
    | some .string => [.str]
    | some (.float k) => [.flt k]
    | some (.pointer _) => [.ptr]
    | some (.slice _) => [.sl]
    | some (.map _ _) => [.map]
    | some (.struct fs) => fs.toList.flatMap fun f => kinds P n f.type
    | some (.array len e) => (List.replicate len (kinds P n e)).flatten
    | _ => [.any]

def iteB (b : Bool) (p q : Prop) : Prop := match b with
  | true => p
  | false => q

theorem iteB_decide (c : Prop) [Decidable c] (p q : Prop) : iteB (decide c) p q = if c then p else q := by
  unfold iteB; by_cases h : c <;> simp [h]
theorem iteB_eq (b : Bool) (p q : Prop) : iteB b p q ↔ (b = true → p) ∧ (b = false → q) := by cases b <;> simp [iteB]
@[simp] theorem iteB_true (p q : Prop) : iteB true p q = p := rfl
@[simp] theorem iteB_false (p q : Prop) : iteB false p q = q := rfl

theorem bif_and (b : Bool) (p : Prop) : (bif b then p else False) ↔ b = true ∧ p := by cases b <;> simp

/-- A name for a value. -/
def bindV {α : Type} (x : α) (K : α → Prop) : Prop := K x
theorem bindV_eq {α : Type} (x : α) (K : α → Prop) : bindV x K = K x := rfl
theorem bindV_intro {α : Type} {x : α} {K : α → Prop} (h : ∀ y, y = x → K y) : bindV x K := h x rfl

def chkP (q : Option Addr) (K : Addr → Prop) : Prop := match q with
  | some a => K a
  | none => False
@[simp] theorem chkP_some (a : Addr) (K : Addr → Prop) : chkP (some a) K = K a := rfl
@[simp] theorem chkP_none (K : Addr → Prop) : chkP none K = False := rfl

/-- Slots and what they hold. -/
abbrev Env := List (Nat × Value)

def get : Env → Nat → Option Value
  | [], _ => none
  | (s, v) :: r, t => bif Nat.beq s t then some v else get r t

def put (E : Env) : Option Tmp → Value → Env
  | some d, v => (d, v) :: E
  | none, _ => E

def getAll (E : Env) : List Nat → Option (List Value)
  | [] => some []
  | t :: r => match get E t with
    | some v => match getAll E r with
      | some vs => some (v :: vs)
      | none => none
    | none => none

def ev (E : Env) : Operand → Option Value
  | .tmp t => get E t
  | .const v => some v
  | .global g => some (.pointer (some ⟨g, 0, none⟩))
  | .func f => some (.func (.func f) #[] #[])

def val (v : Option Value) (K : Value → Prop) : Prop := match v with
  | some v => K v
  | none => False

def vals (ρ : Operand → Option Value) : List Operand → (List Value → Prop) → Prop
  | [], K => K []
  | x :: r, K => match ρ x with
    | some v => vals ρ r fun vs => K (v :: vs)
    | none => False

def eqAll : List Bool → Bool
  | [] => true
  | b :: r => b && eqAll r

def eqCell (P : Program) (t : TypeId) (x y : Value) : Option Bool :=
  match P.underlying t, x, y with
  | some (.int _), .int k a, .int k' b => if k = k' then some (a == b) else none
  | some .bool, .bool a, .bool b => some (a == b)
  | some .string, .string a, .string b => some (a.toList == b.toList)
  | _, _, _ => none

/-- '==' of structs whose fields take a cell each: a Bool a field. -/
def eqRow (P : Program) : Nat → List Field → List Value → List Value → Option (List Bool)
  | _, [], [], [] => some []
  | k, f :: fs, x :: xs, y :: ys => bif Nat.beq f.offset k && !(f.name == "_") then (match eqCell P f.type x y with
    | some b => match eqRow P (k + 1) fs xs ys with
      | some bs => some (b :: bs)
      | none => none
    | none => none) else none
  | _, _, _, _ => none

/-- '==' of arrays whose elements take a cell each. -/
def eqArr (P : Program) (e : TypeId) : List Value → List Value → Option (List Bool)
  | [], [] => some []
  | x :: xs, y :: ys => match eqCell P e x y with
    | some b => match eqArr P e xs ys with
      | some bs => some (b :: bs)
      | none => none
    | none => none
  | _, _ => none

def oneB (P : Program) (e : TypeId) : Bool := match P.info? e with
  | some i => Nat.beq i.size 1
  | none => false
def eqAgg (P : Program) (t : TypeId) (xs ys : List Value) : Option (List Bool) :=
  match P.underlying t with
  | some (.struct fs) => bif !P.stoodInHeld t && !P.eqGuardType P.depth t then eqRow P 0 fs.toList xs ys else none
  | some (.array len e) => bif !P.eqGuardType P.depth t && (oneB P e && Nat.beq xs.length len) then eqArr P e xs ys else none
  | _ => none

def intBin (op : BinOp) (k : IntKind) (a b : Int) (K : Value → Prop) : Prop :=
  match op with
  | .add => K (.int k (k.wrap (a + b)))
  | .sub => K (.int k (k.wrap (a - b)))
  | .mul => K (.int k (k.wrap (a * b)))
  | .quo => b ≠ 0 ∧ K (.int k (k.wrap (a.tdiv b)))
  | .rem => b ≠ 0 ∧ K (.int k (a.tmod b))
  | .and | .or | .xor | .andNot => K (.int k (bits op k a b))
  | .eql => K (.bool (a == b))
  | .neq => K (.bool (a != b))
  | .lss => K (.bool (decide (a < b)))
  | .leq => K (.bool (decide (a ≤ b)))
  | .gtr => K (.bool (decide (a > b)))
  | .geq => K (.bool (decide (a ≥ b)))
  | _ => False

def strBin (op : BinOp) (a b : ByteArray) (K : Value → Prop) : Prop :=
  match op with
  | .add => ((a.size + b.size : Nat) : Int) ≤ 9223372036854775807 ∧ K (.string (a ++ b))
  | .eql => K (.bool (a.toList == b.toList))
  | .neq => K (.bool !(a.toList == b.toList))
  | .lss => K (.bool (Op.bytesLess a.toList b.toList))
  | .leq => K (.bool (Op.bytesLess a.toList b.toList || a.toList == b.toList))
  | .gtr => K (.bool !(Op.bytesLess a.toList b.toList || a.toList == b.toList))
  | .geq => K (.bool !(Op.bytesLess a.toList b.toList))
  | _ => False

def fltBin (op : BinOp) (k : FloatKind) (a b : Nat) (K : Value → Prop) : Prop :=
  match op with
  | .eql => K (.bool (k.format.order a b == some .eq))
  | .neq => K (.bool (k.format.order a b != some .eq))
  | .lss => K (.bool (k.format.order a b == some .lt))
  | .leq => K (.bool (k.format.order a b == some .lt || k.format.order a b == some .eq))
  | .gtr => K (.bool (k.format.order a b == some .gt))
  | .geq => K (.bool (k.format.order a b == some .gt || k.format.order a b == some .eq))
  | .add => ∃ r, k.format.add a b = some r ∧ K (.float k r)
  | .sub => ∃ r, k.format.sub a b = some r ∧ K (.float k r)
  | .mul => ∃ r, k.format.mul a b = some r ∧ K (.float k r)
  | .quo => ∃ r, k.format.div a b = some r ∧ K (.float k r)
  | _ => False

def binK (P : Program) (op : BinOp) (t : TypeId) (x y : Value) (K : Value → Prop) : Prop :=
  match op, x, y with
  | .shl, .int k a, .int _ b => 0 ≤ b ∧ K (.int k (k.wrap (a * 2 ^ (min b.toNat k.bits))))
  | .shr, .int k a, .int _ b => 0 ≤ b ∧ K (.int k (a.fdiv (2 ^ (min b.toNat k.bits))))
  | op, .int k a, .int k' b => if k = k' then intBin op k a b K else False
  | op, .string a, .string b => strBin op a b K
  | op, .float k a, .float k' b => if k = k' then fltBin op k a b K else False
  | .eql, .bool a, .bool b => match P.underlying t with | some .bool => K (.bool (a == b)) | _ => False
  | .neq, .bool a, .bool b => match P.underlying t with | some .bool => K (.bool (!(a == b))) | _ => False
  | .eql, .pointer q, .pointer none => match P.underlying t with | some (.pointer _) => K (.bool q.isNone) | _ => False
  | .neq, .pointer q, .pointer none => match P.underlying t with | some (.pointer _) => K (.bool (!q.isNone)) | _ => False
  | .eql, .slice q _ _, .slice none _ _ => match P.underlying t with | some (.slice _) => K (.bool q.isNone) | _ => False
  | .neq, .slice q _ _, .slice none _ _ => match P.underlying t with | some (.slice _) => K (.bool (!q.isNone)) | _ => False
  | .eql, .agg xs, .agg ys => match eqAgg P t xs.toList ys.toList with | some bs => K (.bool (eqAll bs)) | _ => False
  | .neq, .agg xs, .agg ys => match eqAgg P t xs.toList ys.toList with | some bs => K (.bool (!eqAll bs)) | _ => False
  | _, _, _ => False

/-- Which type of element, and how many cells one takes. -/
def elemSize (P : Program) (t : TypeId) : Option (TypeId × Nat) := match P.underlying t with
  | some (.slice e) => match P.info? e with
    | some i => some (e, i.size)
    | none => none
  | _ => none

def sliceK (P : Program) (t : TypeId) (x : Value) (lo hi : Option Value) (K : Value → Prop) : Prop :=
  match P.underlying t, x with
  | some .string, .string s =>
    match hi with
    | none => match lo with
      | none => K (.string (s.extract 0 s.size))
      | some (.int _ l) => (0 ≤ l ∧ l ≤ (s.size : Int)) ∧ K (.string (s.extract l.toNat s.size))
      | _ => False
    | some (.int _ u) => match lo with
      | none => (0 ≤ u ∧ u ≤ (s.size : Int)) ∧ K (.string (s.extract 0 u.toNat))
      | some (.int _ l) => (0 ≤ u ∧ u ≤ (s.size : Int)) ∧ (0 ≤ l ∧ l ≤ (u.toNat : Int)) ∧ K (.string (s.extract l.toNat u.toNat))
      | _ => False
    | _ => False
  | some (.slice e), .slice a len cap =>
    match P.info? e with
    | none => False
    | some i =>
      match hi with
      | none => match lo with
        | none => K (.slice (if cap = 0 then a else a.map (·.add (0 * i.size))) len cap)
        | some (.int _ l) => (0 ≤ l ∧ l ≤ (len : Int)) ∧ K (.slice (if cap = l.toNat then a else a.map (·.add (l.toNat * i.size))) (len - l.toNat) (cap - l.toNat))
        | _ => False
      | some (.int _ u) => match lo with
        | none => (0 ≤ u ∧ u ≤ (cap : Int)) ∧ K (.slice (if cap = 0 then a else a.map (·.add (0 * i.size))) u.toNat cap)
        | some (.int _ l) => (0 ≤ u ∧ u ≤ (cap : Int)) ∧ (0 ≤ l ∧ l ≤ (u.toNat : Int)) ∧
            K (.slice (if cap = l.toNat then a else a.map (·.add (l.toNat * i.size))) (u.toNat - l.toNat) (cap - l.toNat))
        | _ => False
      | _ => False
  | _, _ => False

def min2 : Value → Value → Option Value
  | .int k x, .int _ y => some (.int k (if y < x then y else x))
  | _, _ => none
def max2 : Value → Value → Option Value
  | .int k x, .int _ y => some (.int k (if y > x then y else x))
  | _, _ => none
def foldV (f : Value → Value → Option Value) : Value → List Value → Option Value
  | x, [] => some x
  | x, y :: r => match f x y with
    | some z => foldV f z r
    | none => none

def convK (P : Program) (s d : TypeId) (x : Value) (K : Value → Prop) : Prop :=
  match P.underlying s, P.underlying d, x with
  | some _, some (.int k), .int _ n => K (.int k (k.wrap n))
  | some .string, some .string, .string b => K (.string b)
  | some _, some (.float k), .int _ n => K (.float k (k.nearest n))
  | some _, some (.int k), .float q b => ∃ n, (q.decode b).toInt .zero = some n ∧ (k.min ≤ n ∧ n ≤ k.max) ∧ K (.int k n)
  | _, _, _ => False

/-- The offset of a field, and its type, where it takes a cell. -/
def fieldOf (P : Program) (s : TypeId) (f : Nat) : Option (Nat × TypeId × Nat) := match P.underlying s with
  | some (.struct fs) => match fs[f]? with
    | some g => match P.info? g.type with
      | some i => match i.size with
        | 0 => none
        | n + 1 => some (g.offset, g.type, n + 1)
      | none => none
    | none => none
  | _ => none

def aggB (P : Program) (t : TypeId) : Option Bool := match P.underlying t with
  | some (.struct _) => some true
  | some (.array _ _) => some true
  | some _ => some false
  | none => none

/-- What an operation looks at. -/
def opsOf : Op → List Operand
  | .move x | .assign x | .nilCheck x | .unOp _ _ x | .extract x _ | .fieldAddr _ x _ | .field _ x _ | .convert _ _ x | .makeInterface _ x
  | .load _ x | .box _ x => [x]
  | .pick c a b => [c, a, b]
  | .binOp _ _ x y _ | .indexAddr _ x y | .index _ x y | .store _ x y | .makeSlice _ x y => [x, y]
  | .slice _ x lo hi _ => x :: (lo.toList ++ hi.toList)
  | .makeFunc _ first cap => first.toList ++ cap.toList
  | .build _ ps | .buildSlice _ _ ps => ps.toList.map (·.2)
  | .makeMap _ (some r) => [r]
  | .lookup _ x y _ => [x, y]
  | .mapUpdate _ m k x => [m, k, x]
  | .range _ x | .next x _ | .entry x => [x]
  | .call { callee := .value f, args, .. } => f :: args.toList
  | .call { args, .. } => args.toList
  | _ => []

def zeroRow (zero : List Value) : Nat → List Value
  | 0 => []
  | n + 1 => zero ++ zeroRow zero n

def cellsL : Value → List Value
  | .agg cs => cs.toList
  | v => [v]

/-- Parts laid into a row of cells. -/
def setRow : List Value → Nat → List Value → List Value
  | cs, _, [] => cs
  | cs, i, v :: r => setRow (cs.set i v) (i + 1) r

def fillL (place : Nat → Option (Nat × Nat)) : List Value → List Nat → List Value → Option (List Value)
  | cs, [], [] => some cs
  | cs, i :: r, v :: s => match place i with
    | some (off, size) => bif Nat.beq (cellsL v).length size && Nat.ble (off + (cellsL v).length) cs.length then fillL place (setRow cs off (cellsL v)) r s else none
    | none => none
  | _, _, _ => none

def placeOf (P : Program) (fs : Array Field) (i : Nat) : Option (Nat × Nat) := match fs[i]? with
  | some f => match P.info? f.type with
    | some j => some (f.offset, j.size)
    | none => none
  | none => none

def buildK (P : Program) (t : TypeId) (ixs : List Nat) (vs : List Value) (K : Value → Prop) : Prop :=
  match P.underlying t, P.info? t with
  | some (.struct fs), some { zero := some z, .. } => bif fs.toList.all (fun f => (P.info? f.type).isSome) then (match fillL (placeOf P fs) (cellsL z) ixs vs with
    | some cs => K (.agg cs.toArray)
    | none => False) else False
  | some (.array _ e), some { zero := some z, .. } => match P.info? e with
    | some j => match fillL (fun i => some (i * j.size, j.size)) (cellsL z) ixs vs with
      | some cs => K (.agg cs.toArray)
      | none => False
    | none => False
  | _, _ => False

/-- An interface value held against nil. -/
def isNil : Value → Option Bool
  | .nilIface => some true
  | .iface _ _ => some false
  | _ => none
def nilP (v : Value) (K : Bool → Prop) : Prop := match isNil v with
  | some z => K z
  | none => False
def nilQ (y : Operand) (b : Value) : Bool := match y, b with
  | .const .nilIface, .nilIface => true
  | _, _ => false
def nilK (P : Program) (op : BinOp) (t : TypeId) (a : Value) (K : Value → Prop) : Prop := match op, P.underlying t with
  | .eql, some (.interface _) => nilP a fun z => K (.bool z)
  | .neq, some (.interface _) => nilP a fun z => K (.bool !z)
  | _, _ => False
@[simp] theorem nilP_nil (K : Bool → Prop) : nilP .nilIface K = K true := rfl
@[simp] theorem nilP_iface (t : TypeId) (v : Value) (K : Bool → Prop) : nilP (.iface t v) K = K false := rfl

/-- Operations that only reckon. -/
def pureV (P : Program) (o : Op) (vs : List Value) (K : Value → Prop) : Prop :=
  match o, vs with
  | .move _, [x] => K x
  | .assign _, [x] => K x
  | .pick _ _ _, [.bool t, a, b] => iteB t (K a) (K b)
  | .nilCheck _, [.pointer q] => chkP q fun a => K (.pointer (some a))
  | .nilCheck _, [.func (.func f) first cap] => K (.func (.func f) first cap)
  | .binOp op t _ y _, [a, b] => match nilQ y b with
    | true => nilK P op t a K
    | false => binK P op t a b K
  | .unOp .neg _ _, [.int k n] => K (.int k (k.wrap (0 - n)))
  | .unOp .xor _ _, [.int k n] => K (.int k (bits .xor k (if k.signed then -1 else k.max) n))
  | .unOp .not _ _, [.bool b] => K (.bool !b)
  | .extract _ i, [.tuple ws] => val ws[i]? K
  | .fieldAddr s _ f, [.pointer (some a)] => match fieldOf P s f with
    | some (off, _, _) => K (.pointer (some (a.add off)))
    | none => False
  | .field s _ f, [.agg cs] => match fieldOf P s f with
    | some (off, t, n) => match aggB P t with
      | some true => K (.agg (cs.toList.drop off |>.take n).toArray)
      | some false => val cs[off]? K
      | none => False
    | none => False
  | .indexAddr t _ _, [.slice q len _, .int _ n] => match elemSize P t with
    | some (_, sz) => chkP q fun a => (0 ≤ n ∧ n < (len : Int)) ∧ K (.pointer (some (a.add (n.toNat * sz))))
    | none => False
  | .indexAddr t _ _, [.pointer (some a), .int _ n] => match P.underlying t with
    | some (.array len e) => match P.info? e with
      | some j => (0 ≤ n ∧ n < (len : Int)) ∧ K (.pointer (some (a.add (n.toNat * j.size))))
      | none => False
    | _ => False
  | .index t _ _, [.string s, .int _ n] => match P.underlying t with
    | some .string => 0 ≤ n ∧ ∃ b : UInt8, s[n.toNat]? = some b ∧ K (.int .u8 b.toNat)
    | _ => False
  | .index t _ _, [.agg cs, .int _ n] => match P.underlying t with
    | some (.array len e) => match aggB P e, kinds P 8 e, P.info? e with
      | some false, [sh], some j => bif Nat.beq j.size 1 then (0 ≤ n ∧ n < (len : Int)) ∧ rdS sh cs.toList[n.toNat]? K else False
      | some true, l, some j => bif Nat.beq j.size l.length then (0 ≤ n ∧ n < (len : Int)) ∧ rdF l cs.toList (n.toNat * j.size) fun ws => K (.agg ws.toArray) else False
      | _, _, _ => False
    | _ => False
  | .slice t _ none none none, [v] => sliceK P t v none none K
  | .slice t _ (some _) none none, [v, l] => sliceK P t v (some l) none K
  | .slice t _ none (some _) none, [v, u] => sliceK P t v none (some u) K
  | .slice t _ (some _) (some _) none, [v, l, u] => sliceK P t v (some l) (some u) K
  | .convert s d _, [v] => convK P s d v K
  | .makeInterface t _, [v] => match P.underlying t with
    | some (.interface _) => False
    | some _ => K (.iface t v)
    | none => False
  | .makeFunc f first _, ws => K (.func f (ws.take first.size).toArray (ws.drop first.size).toArray)
  | .build t ps, ws => buildK P t (ps.toList.map (·.1)) ws K
  | .call { callee := .builtin .len, argTypes, .. }, [x] => match argTypes.toList with
    | [t] => match P.underlying t, x with
      | some (.slice _), .slice _ n _ => K (.int .i64 n)
      | some .string, .string s => K (.int .i64 s.size)
      | _, _ => False
    | _ => False
  | .call { callee := .builtin .cap, argTypes, .. }, [x] => match argTypes.toList with
    | [t] => match P.underlying t, x with
      | some (.slice _), .slice _ _ n => K (.int .i64 n)
      | _, _ => False
    | _ => False
  | .call { callee := .builtin .min, .. }, x :: r => val (foldV min2 x r) K
  | .call { callee := .builtin .max, .. }, x :: r => val (foldV max2 x r) K
  | _, _ => False

/-- The bytes that a slice has. -/
def bytesAt (h : Heap) (q : Option Addr) (n : Nat) (l : List UInt8) : Prop := l.length = n ∧ ∀ (j : Nat) (b : UInt8), l[j]? = some b → ∃ a, q = some a ∧ cell h (a.add j) = some (.int .u8 (b.toNat : Int))
/-- A text out of a slice of bytes. -/
def strK (P : Program) (s d : TypeId) (v : Value) (h : Heap) (K : Value → Prop) : Prop :=
  match P.underlying s, P.underlying d, v with
  | some (.slice e), some .string, .slice q n _ => match P.underlying e with
    | some (.int .u8) => ∃ l : List UInt8, bytesAt h q n l ∧ K (.string ⟨l.toArray⟩)
    | _ => False
  | _, _, _ => False
/-- Operations that look at memory and leave it alone. -/
def readV (P : Program) (o : Op) (vs : List Value) (h : Heap) (K : Value → Prop) : Prop :=
  match o, vs with
  | .load t _, [.pointer (some a)] => match aggB P t with
    | some true => rdL (kinds P 8 t) h a 0 fun ws => match P.info? t with
      | some i => bif Nat.beq i.size ws.length then K (.agg ws.toArray) else False
      | none => False
    | some false => match kinds P 8 t with
      | [s] => rdS s (cell h a) K
      | _ => False
    | none => False
  | .convert s d _, [v] => strK P s d v h K
  | _, _ => False

/-- 'n' cells from 'q' on hold these. -/
def cellsAt (h : Heap) (q : Option Addr) (n : Nat) (vs : List Value) : Prop :=
  vs.length = n ∧ ∀ j, j < n → ∃ a, q = some a ∧ cell h (a.add j) = vs[j]?

/-- append: 'news' are the cells that come behind. -/
def appP (e : TypeId) (size bytes : Nat) (zero : List Value) (q : Option Addr) (len cap n : Nat) (news : List Value) (h : Heap)
    (K : Option Addr → Nat → Nat → Heap → Prop) : Prop :=
  (len + n ≤ cap → match q with
    | none => K none (len + n) cap h
    | some a => stL news h (a.add (len * size)) 0 fun h' => K (some a) (len + n) cap h') ∧
  (cap < len + n → (len + n) * bytes ≤ 2 ^ 46 ∧ len + n ≤ 2 ^ 46 ∧ ∃ olds, cellsAt h q (len * size) olds ∧ ∀ c, len + n ≤ c →
    K (some ⟨h.size, 0, none⟩) (len + n) c (h.push (.cells (olds ++ news ++ zeroRow zero (c - (len + n))).toArray e)))

def appK (P : Program) (t : TypeId) (s x : Value) (h : Heap) (K : Value → Heap → Prop) : Prop :=
  match P.underlying t with
  | some (.slice e) => match P.info? e with
    | some { size, bytes, zero := some z, .. } => match s with
      | .slice q len cap => match x with
        | .slice q2 n _ => ∃ news, cellsAt h q2 (n * size) news ∧
            appP e size bytes (cellsL z) q len cap n news h fun q' l' c' h' => K (.slice q' l' c') h'
        | .string b => appP e size bytes (cellsL z) q len cap b.size (b.toList.map fun b => .int .u8 b.toNat) h fun q' l' c' h' => K (.slice q' l' c') h'
        | _ => False
      | _ => False
    | _ => False
  | _ => False

/-- copy: as many as there is room for. -/
def copyP (size : Nat) (q : Option Addr) (len : Nat) (q2 : Option Addr) (n : Nat) (h : Heap) (K : Int → Heap → Prop) : Prop :=
  ∃ news, cellsAt h q2 (Nat.min n len * size) news ∧ match q with
    | none => K (Nat.min n len : Nat) h
    | some a => stL news h a 0 fun h' => K (Nat.min n len : Nat) h'

/-- clear: a slice's elements are zeros. -/
def clearP (zero : List Value) (q : Option Addr) (n : Nat) (h : Heap) (K : Heap → Prop) : Prop :=
  match q with
  | none => K h
  | some a => stL (zeroRow zero n) h a 0 K

/-- A new block. -/
def newP (h : Heap) (o : Obj) (K : Addr → Heap → Prop) : Prop := K ⟨h.size, 0, none⟩ (h.push o)

/-- Operations that write, or make memory. -/
def writeV (P : Program) (o : Op) (vs : List Value) (h : Heap) (K : Value → Heap → Prop) : Prop :=
  match o, vs with
  | .alloc e, [] => match P.info? e with
    | some { zero := some z, .. } => newP h (.cells (cellsL z).toArray e) fun a h' => K (.pointer (some a)) h'
    | _ => False
  | .box e _, [v] => newP h (.cells (cellsL v).toArray e) fun a h' => K (.pointer (some a)) h'
  | .store t _ _, [.pointer (some a), v] => match P.info? t with
    | some i => bif Nat.beq i.size (cellsL v).length then (match cellsL v with
        | [c] => match flat c with
          | true => stC h a c fun h' => K undef h'
          | false => False
        | cs => stL cs h a 0 fun h' => K undef h') else False
    | none => False
  | .buildSlice t len ps, ws => match P.underlying t with
    | some (.slice e) => match P.info? e with
      | some { size, zero := some z, .. } => bif Nat.ble (len * size) 100000 && Nat.beq size (cellsL z).length then (match fillL (fun i => some (i * size, size)) (zeroRow (cellsL z) len) (ps.toList.map (·.1)) ws with
        | some cs => newP h (.cells cs.toArray e) fun a h' => K (.slice (some a) len len) h'
        | none => False) else False
      | _ => False
    | _ => False
  | .makeSlice t _ _, [.int _ l, .int _ c] => match P.underlying t with
    | some (.slice e) => match P.info? e with
      | some { bytes, size, zero := some z, .. } => bif Nat.beq size (cellsL z).length then
          (0 ≤ l ∧ l ≤ c ∧ c * bytes ≤ 2 ^ 47 ∧ c ≤ 2 ^ 47) ∧ newP h (.cells (zeroRow (cellsL z) c.toNat).toArray e) fun a h' => K (.slice (some a) l.toNat c.toNat) h' else False
      | _ => False
    | _ => False
  | .call { callee := .builtin .append, argTypes, .. }, [s, x] => match argTypes.toList with
    | [t, u] => match P.underlying u with
      | some (.int _) => False
      | some _ => appK P t s x h K
      | none => False
    | _ => False
  | .call { callee := .builtin .copy, argTypes, .. }, [.slice q len _, .slice q2 n _] => match argTypes.toList with
    | t :: _ => match elemSize P t with
      | some (_, size) => copyP size q len q2 n h fun m h' => K (.int .i64 m) h'
      | none => False
    | _ => False
  | .call { callee := .builtin .clear, argTypes, .. }, [.slice q n _] => match argTypes.toList with
    | [t] => match P.underlying t with
      | some (.slice e) => match P.info? e with
        | some { zero := some z, .. } => clearP (cellsL z) q n h fun h' => K (.tuple #[]) h'
        | _ => False
      | _ => False
    | _ => False
  | _, _ => False

/-! ### Maps: what has come in, in that order; keys are integers, or two of them -/
abbrev KV := List (Value × Value)
def entriesFrom : Nat → KV → List MapEntry
  | _, [] => []
  | i, e :: r => { key := e.1, val := e.2, born := i } :: entriesFrom (i + 1) r
def mapObj (m : KV) : Obj := .map (entriesFrom 0 m).toArray m.length
def mapAt (h : Heap) (b : Nat) (m : KV) : Prop := h[b]? = some (mapObj m)
def setO (h : Heap) (b : Nat) (o : Obj) : Heap := h.setIfInBounds b o
inductive KK where
  | int (k : IntKind) | two (k : IntKind)
def keyKind (P : Program) (t : TypeId) : Option KK := match P.underlying t with
  | some (.int k) => some (.int k)
  | some (.array n e) => match P.underlying e with
    | some (.int k) => match P.info? e with
      | some i => bif Nat.beq n 2 && Nat.beq i.size 1 then some (.two k) else none
      | none => none
    | _ => none
  | _ => none
def isKey : KK → Value → Bool
  | .int k, .int k' _ => decide (k = k')
  | .two k, .agg ⟨[.int k1 _, .int k2 _]⟩ => decide (k = k1) && decide (k = k2)
  | _, _ => false
def keyEq : Value → Value → Bool
  | .int _ a, .int _ b => a == b
  | .agg ⟨[.int _ a, .int _ b]⟩, .agg ⟨[.int _ c, .int _ d]⟩ => a == c && b == d
  | _, _ => false
def getM (key : Value) : KV → Option Value
  | [] => none
  | e :: r => bif keyEq key e.1 then some e.2 else getM key r
def putM (key v : Value) : KV → KV
  | [] => [(key, v)]
  | e :: r => bif keyEq key e.1 then (key, v) :: r else e :: putM key v r
/-- A map with keys of this kind lies there. -/
def mapIn (kk : KK) (h : Heap) (b : Nat) (m : KV) : Prop := mapAt h b m ∧ ∀ e ∈ m, isKey kk e.1 = true
def chkM (q : Option Nat) (K : Nat → Prop) : Prop := match q with
  | some b => K b
  | none => False
@[simp] theorem chkM_some (b : Nat) (K : Nat → Prop) : chkM (some b) K = K b := rfl

def okV (ok : Bool) (v : Value) (b : Bool) : Value := match ok with
  | true => .tuple #[v, .bool b]
  | false => v
/-- Operations on maps, and iterators. -/
def mapV (P : Program) (o : Op) (vs : List Value) (h : Heap) (K : Value → Heap → Prop) : Prop :=
  match o, vs with
  | .makeMap _ none, [] => newP h (mapObj []) fun a h' => K (.map (some a.block)) h'
  | .lookup t _ _ ok, [.map q, key] => match P.underlying t with
    | some (.map kt et) => match keyKind P kt, kinds P 8 et, P.info? et with
      | some kk, [sh], some { zero := some z, .. } => bif isKey kk key then chkM q fun b => ∃ m, mapIn kk h b m ∧ rdS sh (some ((getM key m).getD z)) fun v => K (okV ok v (getM key m).isSome) h else False
      | _, _, _ => False
    | _ => False
  | .mapUpdate t _ _ _, [.map q, key, v] => match P.underlying t with
    | some (.map kt _) => match keyKind P kt with
      | some kk => bif isKey kk key then chkM q fun b => ∃ m, mapIn kk h b m ∧ K undef (setO h b (mapObj (putM key v m))) else False
      | none => False
    | _ => False
  | .call { callee := .builtin .len, argTypes, .. }, [.map q] => match argTypes.toList with
    | [t] => match P.underlying t with
      | some (.map _ _) => chkM q fun b => ∃ m, mapAt h b m ∧ K (.int .i64 m.length) h
      | _ => False
    | _ => False
  | .range t _, [.map q] => match P.underlying t with
    | some (.map _ _) => chkM q fun b => ∃ m, mapAt h b m ∧ newP h (.mapIter (some b) m.length #[] m.length) fun a h' => K (.pointer (some a)) h'
    | _ => False
  | .next _ false, [.pointer (some a)] => (a.off = 0 ∧ a.spot = none) ∧ ∃ (b : Nat) (m : KV) (seen : List Nat), (h[a.block]? = some (.mapIter (some b) m.length seen.toArray m.length) ∧ mapAt h b m) ∧
      ((∀ i, i < m.length → i ∈ seen) → K (.tuple #[.bool false]) h) ∧
      ∀ i e, m[i]? = some e → i ∉ seen → K (.tuple #[.bool true, e.1, e.2]) (setO h a.block (.mapIter (some b) m.length (seen ++ [i]).toArray m.length))
  | .entry _, [.pointer (some a)] => (a.off = 0 ∧ a.spot = none) ∧ ∃ (b : Nat) (m : KV) (seen : List Nat) (i : Nat) (e : Value × Value), (h[a.block]? = some (.mapIter (some b) m.length (seen ++ [i]).toArray m.length) ∧ mapAt h b m ∧ m[i]? = some e) ∧ ∃ (q : Option Addr) (l c : Nat), e.2 = .slice q l c ∧ K (.tuple #[e.1, .slice q l c]) h   -- (elements are slices: the only such loop here)
  | .range t _, [.string s] => match P.underlying t with
    | some .string => newP h (.stringIter s 0) fun a h' => K (.pointer (some a)) h'
    | _ => False
  | .next _ true, [.pointer (some a)] => (a.off = 0 ∧ a.spot = none) ∧ ∃ (s : ByteArray) (pos : Nat), h[a.block]? = some (.stringIter s pos) ∧
      (¬ pos < s.size → K (.tuple #[.bool false]) h) ∧ (pos < s.size → K (.tuple #[.bool true, .int .i64 (pos : Int), .int .i32 ((Utf8.decode s pos).1 : Int)]) (setO h a.block (.stringIter s (pos + (Utf8.decode s pos).2))))
  | _, _ => False

def isMap : Op → List Value → Bool
  | .makeMap _ _, _ | .lookup _ _ _ _, _ | .mapUpdate _ _ _ _, _ | .range _ _, _ | .next _ _, _ | .entry _, _ => true
  | .call { callee := .builtin .len, .. }, [.map _] => true
  | _, _ => false

/-- 0: it only reckons; 1: it looks at memory; 2: all others. ('quiet' tells, too, from 1000000 on, which types are maps, and from 2000000 on which are slices of bytes.) -/
def cls (quiet : FuncId → Bool) : Op → Nat
  | .move _ | .assign _ | .pick _ _ _ | .nilCheck _ | .binOp _ _ _ _ _ | .unOp _ _ _ | .extract _ _ | .fieldAddr _ _ _ | .field _ _ _ | .indexAddr _ _ _ | .index _ _ _
  | .slice _ _ _ _ _ | .makeInterface _ _ | .makeFunc _ _ _ | .build _ _
  | .call { callee := .builtin .cap, .. } | .call { callee := .builtin .min, .. } | .call { callee := .builtin .max, .. } => 0
  | .call { callee := .builtin .len, argTypes, .. } => match argTypes.toList with
    | [t] => if quiet (1000000 + t) then 2 else 0
    | _ => 0
  | .convert s _ _ => if quiet (2000000 + s) then 1 else 0
  | .load _ _ => 1
  | .call { callee := .value (.func f), .. } => if quiet f then 1 else 2
  | _ => 2

end Go.Hp
