/-
  The frame of my own, part 8: a body, said as what must hold of memory for a post to hold behind it; and that the model's run comes to it.
-/
import Derived.Test.YtokemibmanjpmaaGreatDoorFw7
import Derived.Scope
import Derived.Laws.Externs
namespace Go.Hp
set_option linter.unusedVariables false
set_option linter.unusedSimpArgs false

/-- A function without a body that hands a value back at once. -/
theorem ext_run {P : Program} {f : FuncId} {fn : Func} {e : Array Value → Sem Value} (hf : P.funcs[f]? = some fn) (hname : (fn.name == "runtime.NumGoroutine") = false) (hb : fn.body.isNone = true)
    (hn : Extern.findNext fn = none) (he : Extern.find fn = some e) {args : Array Value} {v : Value} {w : World} (hr : (e args).run P w = .ok v w) : (callFunc f args).run P w = .ok (.value v) w := by
  rw [run_callFunc_extern hf hname hb hn he, hr]; rfl

/-- A float cut to a whole one. (Where it is a NaN that is not quiet, the machine may keep it, or not.) -/
def truncOK (x : Nat) : Prop := match FloatKind.f64.decode x with
  | .nan _ t => FloatKind.f64.format.quiet t = t
  | _ => True
def truncF (x : Nat) : Nat := match FloatKind.f64.decode x with
  | .nan _ _ => x
  | d => FloatKind.f64.encode (d.integral .zero)
def truncM (x : Nat) : Ieee.Datum → Sem Value
  | .nan s t => if FloatKind.f64.format.quiet t = t then pure (.float .f64 x) else do
      let kept ← choose (.extern "math.Floor,Ceil,Trunc,RoundToEven.signallingNaN kept" 2)
      pure (.float .f64 (if kept == 1 then x else FloatKind.f64.encode (.nan s (FloatKind.f64.format.quiet t))))
  | d => pure (.float .f64 (FloatKind.f64.encode (d.integral .zero)))
theorem truncM_eq {n : String} {x : Nat} : Extern.MathFloor.toIntegral n .zero #[.float .f64 x] = truncM x (FloatKind.f64.decode x) := by
  delta Extern.MathFloor.toIntegral
  rfl
theorem trunc_run {P : Program} {w : World} {n : String} {x : Nat} (h : truncOK x) : (Extern.MathFloor.toIntegral n .zero #[.float .f64 x]).run P w = .ok (.float .f64 (truncF x)) w := by
  rw [truncM_eq]
  unfold truncOK at h
  unfold truncF
  cases hd : FloatKind.f64.decode x with
  | nan s t => rw [hd] at h; simp only [truncM]; rw [if_pos h]; rfl
  | number s m i => rfl
  | infinity s => rfl

inductive Ann where
  | auto
  | reg (D : List Nat) (s : Sched)
  | two (a b : Ann)
  | loop (i : Nat) (keep : List Nat) (outs : List (Nat × List Nat)) (body : Ann)
  | jump (l i : Nat) (keep : List Nat) (outs : List (Nat × List Nat)) (first rest : Ann)

def Ann.l : Ann → Ann
  | .two a _ => a
  | _ => .auto
def Ann.r : Ann → Ann
  | .two _ b => b
  | _ => .auto

def eRun (C : Ctx) (o : Oper) (E : Env) (h : Heap) (K : Env → Heap → Prop) : Prop :=
  vals (ev E) (opsOf o.op) fun vs => opK C o.op vs h fun v h' => K (put E o.dst v) h'

def eStep (C : Ctx) (ops : Array Oper) (o : Oper) (E : Env) (h : Heap) (K : Env → Heap → Prop) : Prop :=
  match o.guard with
  | none => eRun C o E h K
  | some (g, want) => match (ops[g]?).bind (·.dst) with
    | none => False
    | some d => match get E d with
      | some (.bool b) => iteB b
          (bif want then eRun C o (put E (some d) (.bool true)) h K else K (put (put E (some d) (.bool true)) o.dst undef) h)
          (bif want then K (put (put E (some d) (.bool false)) o.dst undef) h else eRun C o (put E (some d) (.bool false)) h K)
      | some (.tuple _) => K (put E o.dst undef) h
      | _ => False

def runL (C : Ctx) (ops : Array Oper) (K : Env → Heap → Prop) : List Oper → Env → Heap → Prop
  | [], E, h => K E h
  | o :: r, E, h => eStep C ops o E h (runL C ops K r)

def eOp (C : Ctx) (ops : Array Oper) (i : Nat) (K : Env → Heap → Prop) (E : Env) (h : Heap) : Prop :=
  match ops[i]? with
  | none => K E h
  | some o => eStep C ops o E h K

/-- An operation that is taken early: what it sees must stay. -/
def eWatch (C : Ctx) (o : Oper) (E : Env) (h : Heap) (K : (Heap → Prop) → Env → Prop) : Prop :=
  vals (ev E) (opsOf o.op) fun vs => rdK C o.op vs h fun v => K (fun h' => rdK C o.op vs h' (· = v)) (put E o.dst v)

def eEarly (C : Ctx) (ops : Array Oper) (i : Nat) (E : Env) (h : Heap) (K : (Heap → Prop) → Env → Prop) : Prop :=
  match ops[i]? with
  | none => False
  | some o => match o.guard with
    | none => eWatch C o E h K
    | some (g, want) => match (ops[g]?).bind (·.dst) with
      | none => False
      | some d => match get E d with
        | some (.bool b) => iteB b
            (bif want then eWatch C o (put E (some d) (.bool true)) h K else K (fun _ => True) (put (put E (some d) (.bool true)) o.dst undef))
            (bif want then K (fun _ => True) (put (put E (some d) (.bool false)) o.dst undef) else eWatch C o (put E (some d) (.bool false)) h K)
        | some (.tuple _) => K (fun _ => True) (put E o.dst undef)
        | _ => False

def runS (C : Ctx) (D : List Nat) (ops : Array Oper) (K : Env → Heap → Prop) : Sched → Watch → Env → Heap → Prop
  | .done, _, E, h => K E h
  | .take i s, W, E, h => eOp C ops i (fun E' h' => wK C ops D W i h' fun W' => runS C D ops K s W' E' h') E h
  | .early i s, W, E, h => eEarly C ops i E h fun w E' => runS C D ops K s ((i, w) :: W) E' h
  | .alt i s .noalt, W, E, h => eOp C ops i (fun E' h' => wK C ops D W i h' fun W' => runS C D ops K s W' E' h') E h
  | .alt i s r, W, E, h => eOp C ops i (fun E' h' => wK C ops D W i h' fun W' => runS C D ops K s W' E' h') E h ∧ runS C D ops K r W E h
  | .noalt, _, _, _ => True

def lookN : List (Nat × List Nat) → Nat → List Nat
  | [], _ => []
  | (s, v) :: r, t => bif Nat.beq s t then v else lookN r t

def exitOf : Nat → Exit
  | 0 => .ret
  | 1 => .normal
  | n + 2 => .exit n

/-- What must hold of the slots and of memory, ahead of this code, for Q to hold behind it. -/
def evC (C : Ctx) : Code → Ann → (Exit → Env → Heap → Prop) → Env → Heap → Prop
  | .skip, _, Q, E, h => Q .normal E h
  | .label _, _, Q, E, h => Q .normal E h
  | .region _ ops false, _, Q, E, h => runL C ops (Q .normal) ops.toList E h
  | .region _ ops true, .reg D s, Q, E, h => runS C D ops (Q .normal) s [] E h
  | .seq x y, n, Q, E, h => evC C x n.l (fun e E h => match e with
      | .normal => evC C y n.r Q E h
      | e => Q e E h) E h
  | .cond c x y, n, Q, E, h => match ev E c with
      | some (.bool t) => iteB t (evC C x n.l Q E h) (evC C y n.r Q E h)
      | _ => False
  | .block id c, n, Q, E, h => evC C c n.l (fun e E h => match e with
      | .exit id' => bif Nat.beq id' id then Q .normal E h else Q (.exit id') E h
      | e => Q e E h) E h
  | .loop _, .loop i keep outs _, Q, E, h => match getAll E keep with
      | some vs => C.loop i vs h fun x us h' => Q (exitOf x) ((lookN outs x).zip us) h'
      | none => False
  | .scope c, .jump l i keep outs n _, Q, E, h => evC C c n (fun e E h => match e with
      | .goto l' => bif Nat.beq l' l then (match getAll E keep with
        | some vs => C.loop i vs h fun x us h' => Q (exitOf x) ((lookN outs x).zip us) h'
        | none => False) else False
      | e => Q e E h) E h
  | .scope c, .two n _, Q, E, h => evC C c n (fun e E h => match e with
      | .goto _ => False
      | e => Q e E h) E h
  | .scope c, .auto, Q, E, h => evC C c .auto (fun e E h => match e with
      | .goto _ => False
      | e => Q e E h) E h
  | .exit id, _, Q, E, h => Q (.exit id) E h
  | .goto l, _, Q, E, h => Q (.goto l) E h
  | .ret, _, Q, E, h => Q .ret E h
  | _, _, _, _, _ => False

structure Sat (N : Nat) (E : Env) (a : Act) : Prop where
  defers : a.defers = []
  size : a.tmps.size = N
  at_ : ∀ t v, get E t = some v → t < N ∧ a.tmps[t]? = some v

def lift [DKc] (w0 : World) (N : Nat) (Q : Exit → Env → Heap → Prop) (e : Exit) (a : Act) (w : World) : Prop := ∃ E, Sat N E a ∧ Out w0 w ∧ Q e E w.heap

/-! What a call is, said of the callee's own words: some post of the callee's leads on. -/
def callP0 (F : (Heap → Prop) → Prop) (K : Heap → Prop) : Prop := ∃ R, F R ∧ ∀ h, R h → K h
def callP1 {α0 : Type} (F : (α0 → Heap → Prop) → Prop) (K : α0 → Heap → Prop) : Prop := ∃ R, F R ∧ ∀ x0 h, R x0 h → K x0 h
def callP2 {α0 α1 : Type} (F : (α0 → α1 → Heap → Prop) → Prop) (K : α0 → α1 → Heap → Prop) : Prop := ∃ R, F R ∧ ∀ x0 x1 h, R x0 x1 h → K x0 x1 h
def callP3 {α0 α1 α2 : Type} (F : (α0 → α1 → α2 → Heap → Prop) → Prop) (K : α0 → α1 → α2 → Heap → Prop) : Prop := ∃ R, F R ∧ ∀ x0 x1 x2 h, R x0 x1 x2 h → K x0 x1 x2 h
def callP4 {α0 α1 α2 α3 : Type} (F : (α0 → α1 → α2 → α3 → Heap → Prop) → Prop) (K : α0 → α1 → α2 → α3 → Heap → Prop) : Prop := ∃ R, F R ∧ ∀ x0 x1 x2 x3 h, R x0 x1 x2 x3 h → K x0 x1 x2 x3 h
def callP5 {α0 α1 α2 α3 α4 : Type} (F : (α0 → α1 → α2 → α3 → α4 → Heap → Prop) → Prop) (K : α0 → α1 → α2 → α3 → α4 → Heap → Prop) : Prop := ∃ R, F R ∧ ∀ x0 x1 x2 x3 x4 h, R x0 x1 x2 x3 x4 h → K x0 x1 x2 x3 x4 h
def callP6 {α0 α1 α2 α3 α4 α5 : Type} (F : (α0 → α1 → α2 → α3 → α4 → α5 → Heap → Prop) → Prop) (K : α0 → α1 → α2 → α3 → α4 → α5 → Heap → Prop) : Prop := ∃ R, F R ∧ ∀ x0 x1 x2 x3 x4 x5 h, R x0 x1 x2 x3 x4 x5 h → K x0 x1 x2 x3 x4 x5 h
def callP7 {α0 α1 α2 α3 α4 α5 α6 : Type} (F : (α0 → α1 → α2 → α3 → α4 → α5 → α6 → Heap → Prop) → Prop) (K : α0 → α1 → α2 → α3 → α4 → α5 → α6 → Heap → Prop) : Prop := ∃ R, F R ∧ ∀ x0 x1 x2 x3 x4 x5 x6 h, R x0 x1 x2 x3 x4 x5 x6 h → K x0 x1 x2 x3 x4 x5 x6 h
def callP8 {α0 α1 α2 α3 α4 α5 α6 α7 : Type} (F : (α0 → α1 → α2 → α3 → α4 → α5 → α6 → α7 → Heap → Prop) → Prop) (K : α0 → α1 → α2 → α3 → α4 → α5 → α6 → α7 → Heap → Prop) : Prop := ∃ R, F R ∧ ∀ x0 x1 x2 x3 x4 x5 x6 x7 h, R x0 x1 x2 x3 x4 x5 x6 x7 h → K x0 x1 x2 x3 x4 x5 x6 x7 h
def callP9 {α0 α1 α2 α3 α4 α5 α6 α7 α8 : Type} (F : (α0 → α1 → α2 → α3 → α4 → α5 → α6 → α7 → α8 → Heap → Prop) → Prop) (K : α0 → α1 → α2 → α3 → α4 → α5 → α6 → α7 → α8 → Heap → Prop) : Prop := ∃ R, F R ∧ ∀ x0 x1 x2 x3 x4 x5 x6 x7 x8 h, R x0 x1 x2 x3 x4 x5 x6 x7 x8 h → K x0 x1 x2 x3 x4 x5 x6 x7 x8 h
def callP10 {α0 α1 α2 α3 α4 α5 α6 α7 α8 α9 : Type} (F : (α0 → α1 → α2 → α3 → α4 → α5 → α6 → α7 → α8 → α9 → Heap → Prop) → Prop) (K : α0 → α1 → α2 → α3 → α4 → α5 → α6 → α7 → α8 → α9 → Heap → Prop) : Prop := ∃ R, F R ∧ ∀ x0 x1 x2 x3 x4 x5 x6 x7 x8 x9 h, R x0 x1 x2 x3 x4 x5 x6 x7 x8 x9 h → K x0 x1 x2 x3 x4 x5 x6 x7 x8 x9 h
def callP11 {α0 α1 α2 α3 α4 α5 α6 α7 α8 α9 α10 : Type} (F : (α0 → α1 → α2 → α3 → α4 → α5 → α6 → α7 → α8 → α9 → α10 → Heap → Prop) → Prop) (K : α0 → α1 → α2 → α3 → α4 → α5 → α6 → α7 → α8 → α9 → α10 → Heap → Prop) : Prop := ∃ R, F R ∧ ∀ x0 x1 x2 x3 x4 x5 x6 x7 x8 x9 x10 h, R x0 x1 x2 x3 x4 x5 x6 x7 x8 x9 x10 h → K x0 x1 x2 x3 x4 x5 x6 x7 x8 x9 x10 h
def callP12 {α0 α1 α2 α3 α4 α5 α6 α7 α8 α9 α10 α11 : Type} (F : (α0 → α1 → α2 → α3 → α4 → α5 → α6 → α7 → α8 → α9 → α10 → α11 → Heap → Prop) → Prop) (K : α0 → α1 → α2 → α3 → α4 → α5 → α6 → α7 → α8 → α9 → α10 → α11 → Heap → Prop) : Prop := ∃ R, F R ∧ ∀ x0 x1 x2 x3 x4 x5 x6 x7 x8 x9 x10 x11 h, R x0 x1 x2 x3 x4 x5 x6 x7 x8 x9 x10 x11 h → K x0 x1 x2 x3 x4 x5 x6 x7 x8 x9 x10 x11 h
def qcallP1 {α0 : Type} (h : Heap) (F : (α0 → Heap → Prop) → Prop) (K : α0 → Prop) : Prop := ∃ x0, F (fun y0 h' => y0 = x0 ∧ h' = h) ∧ K x0
def qcallP2 {α0 α1 : Type} (h : Heap) (F : (α0 → α1 → Heap → Prop) → Prop) (K : α0 → α1 → Prop) : Prop := ∃ x0 x1, F (fun y0 y1 h' => y0 = x0 ∧ y1 = x1 ∧ h' = h) ∧ K x0 x1
def qcallP3 {α0 α1 α2 : Type} (h : Heap) (F : (α0 → α1 → α2 → Heap → Prop) → Prop) (K : α0 → α1 → α2 → Prop) : Prop := ∃ x0 x1 x2, F (fun y0 y1 y2 h' => y0 = x0 ∧ y1 = x1 ∧ y2 = x2 ∧ h' = h) ∧ K x0 x1 x2
def qcallP4 {α0 α1 α2 α3 : Type} (h : Heap) (F : (α0 → α1 → α2 → α3 → Heap → Prop) → Prop) (K : α0 → α1 → α2 → α3 → Prop) : Prop := ∃ x0 x1 x2 x3, F (fun y0 y1 y2 y3 h' => y0 = x0 ∧ y1 = x1 ∧ y2 = x2 ∧ y3 = x3 ∧ h' = h) ∧ K x0 x1 x2 x3
def qcallP5 {α0 α1 α2 α3 α4 : Type} (h : Heap) (F : (α0 → α1 → α2 → α3 → α4 → Heap → Prop) → Prop) (K : α0 → α1 → α2 → α3 → α4 → Prop) : Prop := ∃ x0 x1 x2 x3 x4, F (fun y0 y1 y2 y3 y4 h' => y0 = x0 ∧ y1 = x1 ∧ y2 = x2 ∧ y3 = x3 ∧ y4 = x4 ∧ h' = h) ∧ K x0 x1 x2 x3 x4
def qcallP6 {α0 α1 α2 α3 α4 α5 : Type} (h : Heap) (F : (α0 → α1 → α2 → α3 → α4 → α5 → Heap → Prop) → Prop) (K : α0 → α1 → α2 → α3 → α4 → α5 → Prop) : Prop := ∃ x0 x1 x2 x3 x4 x5, F (fun y0 y1 y2 y3 y4 y5 h' => y0 = x0 ∧ y1 = x1 ∧ y2 = x2 ∧ y3 = x3 ∧ y4 = x4 ∧ y5 = x5 ∧ h' = h) ∧ K x0 x1 x2 x3 x4 x5
def qcallP7 {α0 α1 α2 α3 α4 α5 α6 : Type} (h : Heap) (F : (α0 → α1 → α2 → α3 → α4 → α5 → α6 → Heap → Prop) → Prop) (K : α0 → α1 → α2 → α3 → α4 → α5 → α6 → Prop) : Prop := ∃ x0 x1 x2 x3 x4 x5 x6, F (fun y0 y1 y2 y3 y4 y5 y6 h' => y0 = x0 ∧ y1 = x1 ∧ y2 = x2 ∧ y3 = x3 ∧ y4 = x4 ∧ y5 = x5 ∧ y6 = x6 ∧ h' = h) ∧ K x0 x1 x2 x3 x4 x5 x6
def qcallP8 {α0 α1 α2 α3 α4 α5 α6 α7 : Type} (h : Heap) (F : (α0 → α1 → α2 → α3 → α4 → α5 → α6 → α7 → Heap → Prop) → Prop) (K : α0 → α1 → α2 → α3 → α4 → α5 → α6 → α7 → Prop) : Prop := ∃ x0 x1 x2 x3 x4 x5 x6 x7, F (fun y0 y1 y2 y3 y4 y5 y6 y7 h' => y0 = x0 ∧ y1 = x1 ∧ y2 = x2 ∧ y3 = x3 ∧ y4 = x4 ∧ y5 = x5 ∧ y6 = x6 ∧ y7 = x7 ∧ h' = h) ∧ K x0 x1 x2 x3 x4 x5 x6 x7
def qcallP9 {α0 α1 α2 α3 α4 α5 α6 α7 α8 : Type} (h : Heap) (F : (α0 → α1 → α2 → α3 → α4 → α5 → α6 → α7 → α8 → Heap → Prop) → Prop) (K : α0 → α1 → α2 → α3 → α4 → α5 → α6 → α7 → α8 → Prop) : Prop := ∃ x0 x1 x2 x3 x4 x5 x6 x7 x8, F (fun y0 y1 y2 y3 y4 y5 y6 y7 y8 h' => y0 = x0 ∧ y1 = x1 ∧ y2 = x2 ∧ y3 = x3 ∧ y4 = x4 ∧ y5 = x5 ∧ y6 = x6 ∧ y7 = x7 ∧ y8 = x8 ∧ h' = h) ∧ K x0 x1 x2 x3 x4 x5 x6 x7 x8
def qcallP10 {α0 α1 α2 α3 α4 α5 α6 α7 α8 α9 : Type} (h : Heap) (F : (α0 → α1 → α2 → α3 → α4 → α5 → α6 → α7 → α8 → α9 → Heap → Prop) → Prop) (K : α0 → α1 → α2 → α3 → α4 → α5 → α6 → α7 → α8 → α9 → Prop) : Prop := ∃ x0 x1 x2 x3 x4 x5 x6 x7 x8 x9, F (fun y0 y1 y2 y3 y4 y5 y6 y7 y8 y9 h' => y0 = x0 ∧ y1 = x1 ∧ y2 = x2 ∧ y3 = x3 ∧ y4 = x4 ∧ y5 = x5 ∧ y6 = x6 ∧ y7 = x7 ∧ y8 = x8 ∧ y9 = x9 ∧ h' = h) ∧ K x0 x1 x2 x3 x4 x5 x6 x7 x8 x9
def qcallP11 {α0 α1 α2 α3 α4 α5 α6 α7 α8 α9 α10 : Type} (h : Heap) (F : (α0 → α1 → α2 → α3 → α4 → α5 → α6 → α7 → α8 → α9 → α10 → Heap → Prop) → Prop) (K : α0 → α1 → α2 → α3 → α4 → α5 → α6 → α7 → α8 → α9 → α10 → Prop) : Prop := ∃ x0 x1 x2 x3 x4 x5 x6 x7 x8 x9 x10, F (fun y0 y1 y2 y3 y4 y5 y6 y7 y8 y9 y10 h' => y0 = x0 ∧ y1 = x1 ∧ y2 = x2 ∧ y3 = x3 ∧ y4 = x4 ∧ y5 = x5 ∧ y6 = x6 ∧ y7 = x7 ∧ y8 = x8 ∧ y9 = x9 ∧ y10 = x10 ∧ h' = h) ∧ K x0 x1 x2 x3 x4 x5 x6 x7 x8 x9 x10
def qcallP12 {α0 α1 α2 α3 α4 α5 α6 α7 α8 α9 α10 α11 : Type} (h : Heap) (F : (α0 → α1 → α2 → α3 → α4 → α5 → α6 → α7 → α8 → α9 → α10 → α11 → Heap → Prop) → Prop) (K : α0 → α1 → α2 → α3 → α4 → α5 → α6 → α7 → α8 → α9 → α10 → α11 → Prop) : Prop := ∃ x0 x1 x2 x3 x4 x5 x6 x7 x8 x9 x10 x11, F (fun y0 y1 y2 y3 y4 y5 y6 y7 y8 y9 y10 y11 h' => y0 = x0 ∧ y1 = x1 ∧ y2 = x2 ∧ y3 = x3 ∧ y4 = x4 ∧ y5 = x5 ∧ y6 = x6 ∧ y7 = x7 ∧ y8 = x8 ∧ y9 = x9 ∧ y10 = x10 ∧ y11 = x11 ∧ h' = h) ∧ K x0 x1 x2 x3 x4 x5 x6 x7 x8 x9 x10 x11

section
variable {C : Ctx} {N : Nat} {ops : Array Oper}

theorem Sat.put {E : Env} {a : Act} {dst : Option Tmp} {v : Value} (h : Sat N E a) (hd : ∀ d, dst = some d → d < N) : Sat N (put E dst v) (a.put dst v) := by
  cases dst with
  | none => exact h
  | some d =>
    have hd := hd d rfl
    refine ⟨h.defers, by simp [Act.put, h.size], fun t u ht => ?_⟩
    simp only [Hp.put, get] at ht
    cases hb : Nat.beq d t with
    | true =>
      rw [hb] at ht
      simp only [cond_true, Option.some.injEq] at ht
      have := Nat.eq_of_beq_eq_true hb
      subst this; subst ht
      exact ⟨hd, by simp [Act.put, h.size, hd]⟩
    | false =>
      rw [hb] at ht
      have hne : d ≠ t := fun e => by rw [e, Nat.beq_refl] at hb; cases hb
      obtain ⟨h1, h2⟩ := h.at_ t u ht
      exact ⟨h1, by simp [Act.put, Array.getElem?_setIfInBounds_ne hne, h2]⟩

/-- A slot's value said once more. -/
theorem Sat.again {E : Env} {a : Act} {d : Nat} {v : Value} (h : Sat N E a) (hd : get E d = some v) : Sat N (Hp.put E (some d) v) a := by
  refine ⟨h.defers, h.size, fun t u ht => ?_⟩
  simp only [Hp.put, get] at ht
  cases hb : Nat.beq d t with
  | true =>
    rw [hb] at ht
    simp only [cond_true, Option.some.injEq] at ht
    have := Nat.eq_of_beq_eq_true hb
    subst this; subst ht
    exact h.at_ _ _ hd
  | false => rw [hb] at ht; exact h.at_ _ _ ht

theorem Sat.ev {E : Env} {a : Act} {x : Operand} {v : Value} (h : Sat N E a) (hx : ev E x = some v) : a.eval x = v := by
  cases x with
  | tmp t => obtain ⟨h1, h2⟩ := h.at_ t v hx; simp [Act.eval, h2]
  | const u => cases hx; rfl
  | global g => cases hx; rfl
  | func f => cases hx; rfl

theorem Sat.vals {E : Env} {a : Act} (h : Sat N E a) : ∀ {l : List Operand} {K : List Value → Prop}, Hp.vals (Hp.ev E) l K → K (l.map a.eval)
  | [], _, hk => hk
  | x :: r, K, hk => by
    simp only [Hp.vals] at hk
    split at hk
    · rename_i v hx
      have := Sat.vals h hk
      rw [List.map_cons, h.ev hx]; exact this
    · exact hk.elim

theorem Sat.getAll {E : Env} {a : Act} (h : Sat N E a) : ∀ {l : List Nat} {vs : List Value}, Hp.getAll E l = some vs → Sat N (l.zip vs) a
  | [], vs, hk => by cases hk; exact ⟨h.defers, h.size, fun t v ht => by cases ht⟩
  | t :: r, vs, hk => by
    simp only [Hp.getAll] at hk
    split at hk
    · rename_i v hv
      split at hk
      · rename_i us hus
        cases hk
        have ih := Sat.getAll h hus
        refine ⟨h.defers, h.size, fun s u hs => ?_⟩
        simp only [List.zip_cons_cons, get] at hs
        cases hb : Nat.beq t s with
        | true =>
          rw [hb] at hs
          simp only [cond_true, Option.some.injEq] at hs
          have := Nat.eq_of_beq_eq_true hb
          subst this; subst hs
          exact h.at_ _ _ hv
        | false => rw [hb] at hs; exact ih.at_ _ _ hs
      · cases hk
    · cases hk

def dstOK (N : Nat) (o : Oper) : Bool := match o.dst with
  | some d => Nat.blt d N
  | none => true

theorem dstOK_spec {o : Oper} (h : dstOK N o = true) : ∀ d, o.dst = some d → d < N := by
  intro d hd
  simp only [dstOK, hd] at h
  exact (by simpa [Nat.blt] using h : d + 1 ≤ N)

/-- What K says of slots, said of a frame. -/
def ofE (N : Nat) (K : Env → Heap → Prop) (a : Act) (h : Heap) : Prop := ∃ E, Sat N E a ∧ K E h

theorem eRun_sound [DKc] (hC : C.OK) {o : Oper} {E : Env} {h : Heap} {K : Env → Heap → Prop} {a : Act} (hd : dstOK N o = true) (hs : Sat N E a) (hh : eRun C o E h K) :
    opK C o.op ((opsOf o.op).map a.eval) h fun v h' => ofE N K (a.put o.dst v) h' :=
  opK_mono hC (hs.vals hh) fun _ _ hk => ⟨_, hs.put (dstOK_spec hd), hk⟩

theorem eStep_sound [DKc] (hC : C.OK) {i : Nat} {o : Oper} {E : Env} {h : Heap} {K : Env → Heap → Prop} {a : Act} (hi : ops[i]? = some o) (hd : dstOK N o = true) (hs : Sat N E a) (hh : eStep C ops o E h K) :
    aOp C ops i (ofE N K) a h := by
  unfold aOp
  simp only [hi]
  unfold eStep at hh
  split at hh
  · rename_i hg
    rw [if_pos (by simp [Region.wanted, hg])]
    exact eRun_sound hC hd hs hh
  · rename_i g want hg
    split at hh
    · exact hh.elim
    · rename_i d hgd
      split at hh
      · rename_i b hb
        obtain ⟨h1, h2⟩ := hs.at_ _ _ hb
        have hy : yielded ops a.tmps g = some b := by unfold yielded; rw [hgd]; simp [h2]
        cases b with
        | true =>
          have hs' : Sat N (put E (some d) (.bool true)) a := hs.again hb
          simp only [iteB_true] at hh
          cases want with
          | true => rw [if_pos (by simp [Region.wanted, hg, hy])]; exact eRun_sound hC hd hs' hh
          | false => rw [if_neg (by simp [Region.wanted, hg, hy])]; exact ⟨_, hs'.put (dstOK_spec hd), hh⟩
        | false =>
          have hs' : Sat N (put E (some d) (.bool false)) a := hs.again hb
          simp only [iteB_false] at hh
          cases want with
          | true => rw [if_neg (by simp [Region.wanted, hg, hy])]; exact ⟨_, hs'.put (dstOK_spec hd), hh⟩
          | false => rw [if_pos (by simp [Region.wanted, hg, hy])]; exact eRun_sound hC hd hs' hh
      · rename_i vs hb
        obtain ⟨h1, h2⟩ := hs.at_ _ _ hb
        have hy : yielded ops a.tmps g = none := by unfold yielded; rw [hgd]; simp [h2]
        rw [if_neg (by simp [Region.wanted, hg, hy])]
        exact ⟨_, hs.put (dstOK_spec hd), hh⟩
      · exact hh.elim

theorem eOp_sound [DKc] (hC : C.OK) (hd : ops.toList.all (dstOK N) = true) {i : Nat} {E : Env} {h : Heap} {K : Env → Heap → Prop} {a : Act} (hs : Sat N E a) (hh : eOp C ops i K E h) : aOp C ops i (ofE N K) a h := by
  unfold eOp at hh
  split at hh
  · rename_i hi; unfold aOp; simp only [hi]; exact ⟨E, hs, hh⟩
  · rename_i o hi
    exact eStep_sound hC hi ((List.all_eq_true.1 hd) o (Array.mem_toList_iff.2 (Array.mem_of_getElem? hi))) hs hh

/-- The watches of both sides. -/
inductive WRel : Watch → Watch → Prop where
  | nil : WRel [] []
  | cons {i : Nat} {w w' : Heap → Prop} {W W' : Watch} (h : ∀ h', w h' → w' h') (r : WRel W W') : WRel ((i, w) :: W) ((i, w') :: W')
theorem WRel.keep {D : List Nat} {j : Nat} {W W' : Watch} (r : WRel W W') : WRel (keepW D j W) (keepW D j W') := by
  induction r with
  | nil => exact .nil
  | @cons i w w' W W' h r ih =>
    unfold keepW
    cases depB D j i with
    | true => exact ih
    | false => exact .cons h ih
theorem WRel.after {D : List Nat} {j : Nat} {h : Heap} {P P' : Prop} {W W' : Watch} (r : WRel W W') (hp : P → P') (hh : afterW D j W h P) : afterW D j W' h P' := by
  induction r with
  | nil => exact hp hh
  | @cons i w w' W W' hw r ih =>
    unfold afterW at hh ⊢
    cases hd : depB D j i with
    | true => rw [hd] at hh; exact ih hh
    | false => rw [hd] at hh; exact ⟨hw _ hh.1, ih hh.2⟩
theorem WRel.wK {D : List Nat} {j : Nat} {h : Heap} {K K' : Watch → Prop} {W W' : Watch} (r : WRel W W') (hk : ∀ W W', WRel W W' → K W → K' W') (hh : wK C ops D W j h K) : wK C ops D W' j h K' := by
  unfold Hp.wK at hh ⊢
  cases hw : writes C ops j with
  | true => rw [hw] at hh; exact r.after (hk _ _ r.keep) hh
  | false => rw [hw] at hh; exact hk _ _ r hh

theorem eWatch_sound [DKc] (hC : C.OK) {o : Oper} {E : Env} {h : Heap} {K : (Heap → Prop) → Env → Prop} {a : Act} (hd : dstOK N o = true) (hs : Sat N E a) (hw : Region.wanted o (yielded ops a.tmps) = true) (hh : eWatch C o E h K) :
    ∃ v w, vl C ops o a h v ∧ (∀ h', w h' → vl C ops o a h' v) ∧ ∃ E', Sat N E' (a.put o.dst v) ∧ K w E' := by
  have hh := hs.vals hh
  obtain ⟨v, hk, hr⟩ := rdK_val hC hh
  exact ⟨v, _, .inl ⟨hw, hr⟩, fun h' hx => .inl ⟨hw, hx⟩, _, hs.put (dstOK_spec hd), hk⟩

theorem eEarly_sound [DKc] (hC : C.OK) {i : Nat} {o : Oper} {E : Env} {h : Heap} {K : (Heap → Prop) → Env → Prop} {a : Act} (hi : ops[i]? = some o) (hd : dstOK N o = true) (hs : Sat N E a) (hh : eEarly C ops i E h K) :
    ∃ v w, vl C ops o a h v ∧ (∀ h', w h' → vl C ops o a h' v) ∧ ∃ E', Sat N E' (a.put o.dst v) ∧ K w E' := by
  unfold eEarly at hh
  simp only [hi] at hh
  split at hh
  · rename_i hg
    exact eWatch_sound hC hd hs (by simp [Region.wanted, hg]) hh
  · rename_i g want hg
    split at hh
    · exact hh.elim
    · rename_i d hgd
      split at hh
      · rename_i b hb
        obtain ⟨h1, h2⟩ := hs.at_ _ _ hb
        have hy : yielded ops a.tmps g = some b := by unfold yielded; rw [hgd]; simp [h2]
        cases b with
        | true =>
          have hs' : Sat N (put E (some d) (.bool true)) a := hs.again hb
          simp only [iteB_true] at hh
          cases want with
          | true => exact eWatch_sound hC hd hs' (by simp [Region.wanted, hg, hy]) hh
          | false => exact ⟨undef, _, .inr ⟨by simp [Region.wanted, hg, hy], rfl⟩, fun h' _ => .inr ⟨by simp [Region.wanted, hg, hy], rfl⟩, _, hs'.put (dstOK_spec hd), hh⟩
        | false =>
          have hs' : Sat N (put E (some d) (.bool false)) a := hs.again hb
          simp only [iteB_false] at hh
          cases want with
          | true => exact ⟨undef, _, .inr ⟨by simp [Region.wanted, hg, hy], rfl⟩, fun h' _ => .inr ⟨by simp [Region.wanted, hg, hy], rfl⟩, _, hs'.put (dstOK_spec hd), hh⟩
          | false => exact eWatch_sound hC hd hs' (by simp [Region.wanted, hg, hy]) hh
      · rename_i vs hb
        obtain ⟨h1, h2⟩ := hs.at_ _ _ hb
        have hy : yielded ops a.tmps g = none := by unfold yielded; rw [hgd]; simp [h2]
        exact ⟨undef, _, .inr ⟨by simp [Region.wanted, hg, hy], rfl⟩, fun h' _ => .inr ⟨by simp [Region.wanted, hg, hy], rfl⟩, _, hs.put (dstOK_spec hd), hh⟩
      · exact hh.elim

theorem runS_sound [DKc] (hC : C.OK) {D : List Nat} (hd : ops.toList.all (dstOK N) = true) {K : Env → Heap → Prop} : ∀ (s : Sched) {W W' : Watch} {E : Env} {a : Act} {h : Heap}, WRel W W' → Sat N E a → runS C D ops K s W E h → runA C D ops (ofE N K) s W' a h
  | .done, _, _, E, _, _, _, hs, hh => ⟨E, hs, hh⟩
  | .take i s, W, W', E, a, h, hr, hs, hh => by
    show aOp C ops i (fun a' h' => wK C ops D W' i h' fun W' => runA C D ops (ofE N K) s W' a' h') a h
    exact aOp_mono hC (eOp_sound hC hd hs hh) fun _ _ ⟨_, hs', hk⟩ => hr.wK (fun _ _ hr' hk' => runS_sound hC hd s hr' hs' hk') hk
  | .early i s, W, W', E, a, h, hr, hs, hh => by
    cases hi : ops[i]? with
    | none => simp only [runS, eEarly, hi] at hh
    | some o =>
      obtain ⟨v, w, hv, hw, E', hs', hk⟩ := eEarly_sound hC hi ((List.all_eq_true.1 hd) o (Array.mem_toList_iff.2 (Array.mem_of_getElem? hi))) hs hh
      simp only [runA, hi]
      exact ⟨v, w, hv, hw, runS_sound hC hd s (.cons (fun _ hx => hx) hr) hs' hk⟩
  | .alt i s r, W, W', E, a, h, hr, hs, hh => by
    have key : eOp C ops i (fun E' h' => wK C ops D W i h' fun W' => runS C D ops K s W' E' h') E h ∧ runS C D ops K r W E h := by
      cases r with
      | noalt => exact ⟨hh, trivial⟩
      | _ => exact hh
    refine ⟨?_, runS_sound hC hd r hr hs key.2⟩
    show aOp C ops i (fun a' h' => wK C ops D W' i h' fun W' => runA C D ops (ofE N K) s W' a' h') a h
    exact aOp_mono hC (eOp_sound hC hd hs key.1) fun _ _ ⟨_, hs', hk⟩ => hr.wK (fun _ _ hr' hk' => runS_sound hC hd s hr' hs' hk') hk
  | .noalt, _, _, _, _, _, _, _, _ => trivial

theorem runL_sound [DKc] (hC : C.OK) (hd : ops.toList.all (dstOK N) = true) {K : Env → Heap → Prop} {Q : Exit → Act → World → Prop} {w0 : World} (hQ : ∀ E a w, Sat N E a → Out w0 w → K E w.heap → Q .normal a w) :
    ∀ (l : List Oper) (k : Nat) {E : Env} {a : Act} {w : World}, (∀ j, l[j]? = ops[k + j]?) → Sat N E a → Out w0 w → runL C ops K l E w.heap → wpOps C.P ops Q (List.range' k l.length) a w
  | [], _, E, a, w, _, hs, ho, hh => hQ E a w hs ho hh
  | o :: l, k, E, a, w, hl, hs, ho, hh => by
    have h0 : ops[k]? = some o := by simpa using (hl 0).symm
    have hd' : dstOK N o = true := (List.all_eq_true.1 hd) o (Array.mem_toList_iff.2 (Array.mem_of_getElem? h0))
    rw [List.length_cons, List.range'_succ, wpOps_cons]
    refine aOp_wp hC (eStep_sound hC h0 hd' hs hh) rfl ho fun a' w' ho' ⟨E', hs', hk⟩ => ?_
    exact runL_sound hC hd hQ l (k + 1) (fun j => by have := hl (j + 1); simpa [Nat.add_assoc, Nat.add_comm 1 j] using this) hs' ho' hk

/-- What a Bool can see of a body. -/
def seen (quiet : FuncId → Bool) (N : Nat) : Code → Ann → Bool
  | .region _ ops false, _ => ops.toList.all (dstOK N)
  | .region _ ops true, .reg D s => ops.toList.all (dstOK N) && Nat.ble (depth s) ops.size && maskOK .any ops D && checkS quiet .any D ops false s (Array.replicate ops.size false)
  | .seq x y, n => seen quiet N x n.l && seen quiet N y n.r
  | .cond _ x y, n => seen quiet N x n.l && seen quiet N y n.r
  | .block _ c, n => seen quiet N c n.l
  | .loop c, .loop _ _ _ n => seen quiet N c n
  | .scope c, .jump _ _ _ _ n _ => seen quiet N c n
  | .scope c, .two n _ => seen quiet N c n
  | .scope c, .auto => seen quiet N c .auto
  | _, _ => true

/-- A loop is what is said of it. -/
def LoopOK [DKc] (C : Ctx) (N : Nat) (body : Code) (i : Nat) (keep : List Nat) (outs : List (Nat × List Nat)) : Prop :=
  ∀ vs h (K : Nat → List Value → Heap → Prop), C.loop i vs h K → ∀ (w0 : World) (a : Act) (w : World), Sat N (keep.zip vs) a → Out w0 w → w.heap = h →
    (Code.loop body).wp C.P (lift w0 N fun e E h' => ∃ x us, e = exitOf x ∧ E = (lookN outs x).zip us ∧ K x us h') a w

/-- From a label on, round after round: what goes to the label goes on with one round less. -/
def jumps (P : Program) (rest : Code) (l : Nat) (Q : Exit → Act → World → Prop) : Nat → Act → World → Prop
  | 0, _, _ => False
  | n + 1, a, w => rest.wp P (fun e a w => match e with
    | .goto l' => l' = l ∧ jumps P rest l Q n a w
    | e => Q e a w) a w

theorem wp_scope_rounds {P : Program} {c rest : Code} {l : Nat} {Q : Exit → Act → World → Prop} {a : Act} {w : World} (hf : findLabel c l = some rest)
    (first : c.wp P (fun e a w => match e with
      | .goto l' => l' = l ∧ ∃ n, jumps P rest l Q n a w
      | e => Q e a w) a w) : (Code.scope c).wp P Q a w := by
  intro b k cs
  have hg : gotoIn l (.inScope c :: k) = some (.code rest :: .inScope c :: k) := by simp [gotoIn, hf]
  have key : ∀ n a w, jumps P rest l Q n a w → ∃ e a' w', Q e a' w' ∧ Arrives P (lone (b.at a (.code rest :: .inScope c :: k)) cs w) b k cs e a' w' := by
    intro n
    induction n with
    | zero => intro a w h; exact h.elim
    | succ n ih =>
      intro a w h
      obtain ⟨e, a₁, w₁, hq, harr⟩ := h b (.inScope c :: k) cs
      cases e with
      | normal => exact ⟨.normal, a₁, w₁, hq, Steps.trans harr (.one step_inScope)⟩
      | exit id => exact ⟨.exit id, a₁, w₁, hq, fun k' hk => harr k' (by simp [exitTo, hk])⟩
      | goto l' =>
        obtain ⟨rfl, hJ'⟩ := hq
        obtain ⟨e₂, a₂, w₂, hq₂, harr₂⟩ := ih a₁ w₁ hJ'
        exact ⟨e₂, a₂, w₂, hq₂, .of_steps (harr _ hg) harr₂⟩
      | ret => exact ⟨_, a₁, w₁, hq, harr⟩
      | panic ch => exact ⟨_, a₁, w₁, hq, harr⟩
      | outgrown => exact ⟨_, a₁, w₁, hq, harr⟩
  obtain ⟨e, a₁, w₁, hq, harr⟩ := first b (.inScope c :: k) cs
  cases e with
  | normal => exact ⟨.normal, a₁, w₁, hq, .head step_scope (Steps.trans harr (.one step_inScope))⟩
  | exit id => exact ⟨.exit id, a₁, w₁, hq, fun k' hk => .head step_scope (harr k' (by simp [exitTo, hk]))⟩
  | goto l' =>
    obtain ⟨rfl, n, hJ'⟩ := hq
    obtain ⟨e₂, a₂, w₂, hq₂, harr₂⟩ := key n a₁ w₁ hJ'
    exact ⟨e₂, a₂, w₂, hq₂, .of_steps (.head step_scope (harr _ hg)) harr₂⟩
  | ret => exact ⟨_, a₁, w₁, hq, .of_steps (.one step_scope) harr⟩
  | panic ch => exact ⟨_, a₁, w₁, hq, .of_steps (.one step_scope) harr⟩
  | outgrown => exact ⟨_, a₁, w₁, hq, .of_steps (.one step_scope) harr⟩

/-- A label that is gone back to is what is said of it. -/
def JumpOK [DKc] (C : Ctx) (N : Nat) (rest : Code) (l i : Nat) (keep : List Nat) (outs : List (Nat × List Nat)) : Prop :=
  ∀ vs h (K : Nat → List Value → Heap → Prop), C.loop i vs h K → ∀ (w0 : World) (a : Act) (w : World), Sat N (keep.zip vs) a → Out w0 w → w.heap = h →
    ∃ n, jumps C.P rest l (lift w0 N fun e E h' => ∃ x us, e = exitOf x ∧ E = (lookN outs x).zip us ∧ K x us h') n a w

theorem jumps_mono {P : Program} {rest : Code} {l : Nat} {Q Q' : Exit → Act → World → Prop} (hq : ∀ e a w, Q e a w → Q' e a w) : ∀ {n : Nat} {a : Act} {w : World}, jumps P rest l Q n a w → jumps P rest l Q' n a w
  | 0, _, _, h => h.elim
  | n + 1, _, _, h => wp_mono h fun e a w he => by
    cases e with
    | goto l' => exact ⟨he.1, jumps_mono hq he.2⟩
    | _ => exact hq _ _ _ he

def loopsOK [DKc] (C : Ctx) (N : Nat) : Code → Ann → Prop
  | .seq x y, n => loopsOK C N x n.l ∧ loopsOK C N y n.r
  | .cond _ x y, n => loopsOK C N x n.l ∧ loopsOK C N y n.r
  | .block _ c, n => loopsOK C N c n.l
  | .loop c, .loop i keep outs _ => LoopOK C N c i keep outs
  | .scope c, .jump l i keep outs n _ => loopsOK C N c n ∧ ∃ rest, findLabel c l = some rest ∧ JumpOK C N rest l i keep outs
  | .scope c, .two n _ => loopsOK C N c n
  | .scope c, .auto => loopsOK C N c .auto
  | _, _ => True

theorem evC_sound [DKc] (hC : C.OK) : ∀ (c : Code) (n : Ann), seen C.quiet N c n = true → loopsOK C N c n → ∀ {Q : Exit → Env → Heap → Prop} {E : Env} {a : Act} {w0 w : World},
    evC C c n Q E w.heap → Sat N E a → Out w0 w → c.wp C.P (lift w0 N Q) a w
  | .skip, _, _, _, Q, E, a, w0, w, hh, hs, ho => wp_skip ⟨E, hs, ho, hh⟩
  | .label l, _, _, _, Q, E, a, w0, w, hh, hs, ho => wp_label ⟨E, hs, ho, hh⟩
  | .region id ops false, _, hb, _, Q, E, a, w0, w, hh, hs, ho => by
    refine wp_region ?_
    have := runL_sound (Q := lift w0 N Q) hC hb (fun E a w hs ho hk => ⟨E, hs, ho, hk⟩) ops.toList 0 (by simp) hs ho hh
    rw [List.range_eq_range']; simpa using this
  | .region id ops true, .reg D s, hb, _, Q, E, a, w0, w, hh, hs, ho => by
    simp only [seen, Bool.and_eq_true] at hb
    obtain ⟨⟨⟨h1, h2⟩, hm⟩, h3⟩ := hb
    exact wp_sched hC hm (Nat.le_of_ble_eq_true h2) h3 ho (runS_sound hC h1 s .nil hs hh) fun a w ho ⟨E, hs, hk⟩ => ⟨E, hs, ho, hk⟩
  | .region _ _ true, .auto, _, _, _, _, _, _, _, hh, _, _ => hh.elim
  | .region _ _ true, .two _ _, _, _, _, _, _, _, _, hh, _, _ => hh.elim
  | .region _ _ true, .loop _ _ _ _, _, _, _, _, _, _, _, hh, _, _ => hh.elim
  | .region _ _ true, .jump _ _ _ _ _ _, _, _, _, _, _, _, _, hh, _, _ => hh.elim
  | .seq x y, n, hb, hl, Q, E, a, w0, w, hh, hs, ho => by
    simp only [seen, Bool.and_eq_true] at hb
    refine wp_seq (wp_mono (evC_sound hC x n.l hb.1 hl.1 hh hs ho) fun e a w ⟨E, hs, ho, hq⟩ => ?_)
    cases e with
    | normal => exact evC_sound hC y n.r hb.2 hl.2 hq hs ho
    | _ => exact ⟨E, hs, ho, hq⟩
  | .cond c x y, n, hb, hl, Q, E, a, w0, w, hh, hs, ho => by
    simp only [seen, Bool.and_eq_true] at hb
    simp only [evC] at hh
    split at hh
    · rename_i t ht
      refine wp_cond (hs.ev ht) ?_
      cases t with
      | true => exact evC_sound hC x n.l hb.1 hl.1 hh hs ho
      | false => exact evC_sound hC y n.r hb.2 hl.2 hh hs ho
    · exact hh.elim
  | .block id c, n, hb, hl, Q, E, a, w0, w, hh, hs, ho => by
    refine wp_block (wp_mono (evC_sound hC c n.l hb hl hh hs ho) fun e a w ⟨E, hs, ho, hq⟩ => ?_)
    cases e with
    | exit id' =>
      simp only [Exit.inBlock]
      simp only at hq
      cases hid : Nat.beq id' id with
      | true => rw [hid] at hq; rw [if_pos (Nat.eq_of_beq_eq_true hid)]; exact ⟨E, hs, ho, hq⟩
      | false => rw [hid] at hq; rw [if_neg (fun e => by rw [e, Nat.beq_refl] at hid; cases hid)]; exact ⟨E, hs, ho, hq⟩
    | _ => exact ⟨E, hs, ho, hq⟩
  | .loop c, .loop i keep outs n, hb, hl, Q, E, a, w0, w, hh, hs, ho => by
    simp only [evC] at hh
    split at hh
    · rename_i vs hvs
      refine wp_mono (hl vs w.heap _ hh w0 a w (hs.getAll hvs) ho rfl) fun e a w ⟨E, hs, ho, x, us, he, hE, hk⟩ => ?_
      subst he; subst hE
      exact ⟨_, hs, ho, hk⟩
    · exact hh.elim
  | .loop _, .auto, _, _, _, _, _, _, _, hh, _, _ => hh.elim
  | .loop _, .two _ _, _, _, _, _, _, _, _, hh, _, _ => hh.elim
  | .loop _, .reg _ _, _, _, _, _, _, _, _, hh, _, _ => hh.elim
  | .loop _, .jump _ _ _ _ _ _, _, _, _, _, _, _, _, hh, _, _ => hh.elim
  | .scope c, .two n _, hb, hl, Q, E, a, w0, w, hh, hs, ho => by
    refine wp_scope_straight (wp_mono (evC_sound hC c n hb hl hh hs ho) fun e a w ⟨E, hs, ho, hq⟩ => ?_)
    cases e with
    | goto l => exact hq.elim
    | _ => exact ⟨E, hs, ho, hq⟩
  | .scope c, .auto, hb, hl, Q, E, a, w0, w, hh, hs, ho => by
    refine wp_scope_straight (wp_mono (evC_sound hC c .auto hb hl hh hs ho) fun e a w ⟨E, hs, ho, hq⟩ => ?_)
    cases e with
    | goto l => exact hq.elim
    | _ => exact ⟨E, hs, ho, hq⟩
  | .scope c, .jump l i keep outs n _, hb, hl, Q, E, a, w0, w, hh, hs, ho => by
    obtain ⟨hl1, rest, hf, hj⟩ := hl
    refine wp_scope_rounds hf (wp_mono (evC_sound hC c n hb hl1 hh hs ho) fun e a w ⟨E, hs, ho, hq⟩ => ?_)
    cases e with
    | goto l' =>
      simp only at hq
      rw [bif_and] at hq
      obtain ⟨h1, hq⟩ := hq
      refine ⟨Nat.eq_of_beq_eq_true h1, ?_⟩
      split at hq
      · rename_i vs hvs
        obtain ⟨m, hm⟩ := hj vs w.heap _ hq w0 a w (hs.getAll hvs) ho rfl
        refine ⟨m, jumps_mono (fun e a w ⟨E, hs, ho, x, us, he, hE, hk⟩ => ?_) hm⟩
        subst he; subst hE
        exact ⟨_, hs, ho, hk⟩
      · exact hq.elim
    | _ => exact ⟨E, hs, ho, hq⟩
  | .scope _, .reg _ _, _, _, _, _, _, _, _, hh, _, _ => hh.elim
  | .scope _, .loop _ _ _ _, _, _, _, _, _, _, _, hh, _, _ => hh.elim
  | .exit id, _, _, _, Q, E, a, w0, w, hh, hs, ho => wp_exit ⟨E, hs, ho, hh⟩
  | .goto l, _, _, _, Q, E, a, w0, w, hh, hs, ho => wp_goto ⟨E, hs, ho, hh⟩
  | .ret, _, _, _, Q, E, a, w0, w, hh, hs, ho => wp_ret ⟨E, hs, ho, hh⟩
  | .rangeFunc _ _ _ _, _, _, _, _, _, _, _, _, hh, _, _ => hh.elim
  | .refuse _, _, _, _, _, _, _, _, _, hh, _, _ => hh.elim

/-- The typed rounds of a loop: at each round's head the slots 'keep' hold vs. -/
theorem loop_ok [DKc] {body : Code} {n : Ann} {i : Nat} {keep : List Nat} {outs : List (Nat × List Nat)} (hC : C.OK) (hb : seen C.quiet N body n = true) (hl : loopsOK C N body n)
    (L : (Nat → List Value → Heap → Prop) → Nat → List Value → Heap → Prop)
    (h0 : ∀ K vs h, ¬ L K 0 vs h)
    (hS : ∀ K m vs h, L K (m + 1) vs h → evC C body n (fun e E h' => match e with
      | .normal => match getAll E keep with
        | some vs' => L K m vs' h'
        | none => False
      | .ret => match getAll E (lookN outs 0) with
        | some us => K 0 us h'
        | none => False
      | .exit id => match getAll E (lookN outs (id + 2)) with
        | some us => K (id + 2) us h'
        | none => False
      | _ => False) (keep.zip vs) h)
    (hx : ∀ vs h K, C.loop i vs h K → ∃ m, L K m vs h) : LoopOK C N body i keep outs := by
  intro vs h K hh w0 a w hs ho hw
  obtain ⟨m, hm⟩ := hx vs h K hh
  refine wp_loop_rounds m ?_
  clear hh hx
  induction m generalizing vs h a w with
  | zero => exact (h0 _ _ _ hm).elim
  | succ m ih =>
    rw [rounds_succ]
    have := hS K m vs h hm
    rw [← hw] at this
    refine wp_mono (evC_sound hC body n hb hl this hs ho) fun e a' w' ⟨E, hs', ho', hq⟩ => ?_
    cases e with
    | normal =>
      simp only at hq
      split at hq
      · rename_i vs' hvs
        exact ih vs' w'.heap a' w' (hs'.getAll hvs) ho' rfl hq
      · exact hq.elim
    | ret =>
      simp only at hq
      split at hq
      · rename_i us hus
        exact ⟨_, hs'.getAll hus, ho', 0, us, rfl, rfl, hq⟩
      · exact hq.elim
    | exit id =>
      simp only at hq
      split at hq
      · rename_i us hus
        exact ⟨_, hs'.getAll hus, ho', id + 2, us, rfl, rfl, hq⟩
      · exact hq.elim
    | goto l => exact hq.elim
    | panic ch => exact hq.elim
    | outgrown => exact hq.elim

/-- The typed rounds from a label on. -/
theorem jump_ok [DKc] {rest : Code} {n : Ann} {l i : Nat} {keep : List Nat} {outs : List (Nat × List Nat)} (hC : C.OK) (hb : seen C.quiet N rest n = true) (hl : loopsOK C N rest n)
    (L : (Nat → List Value → Heap → Prop) → Nat → List Value → Heap → Prop)
    (h0 : ∀ K vs h, ¬ L K 0 vs h)
    (hS : ∀ K m vs h, L K (m + 1) vs h → evC C rest n (fun e E h' => match e with
      | .goto l' => bif Nat.beq l' l then (match getAll E keep with
        | some vs' => L K m vs' h'
        | none => False) else False
      | .normal => match getAll E (lookN outs 1) with
        | some us => K 1 us h'
        | none => False
      | .ret => match getAll E (lookN outs 0) with
        | some us => K 0 us h'
        | none => False
      | .exit id => match getAll E (lookN outs (id + 2)) with
        | some us => K (id + 2) us h'
        | none => False
      | _ => False) (keep.zip vs) h)
    (hx : ∀ vs h K, C.loop i vs h K → ∃ m, L K m vs h) : JumpOK C N rest l i keep outs := by
  intro vs h K hh w0 a w hs ho hw
  obtain ⟨m, hm⟩ := hx vs h K hh
  refine ⟨m, ?_⟩
  clear hh hx
  induction m generalizing vs h a w with
  | zero => exact (h0 _ _ _ hm).elim
  | succ m ih =>
    have := hS K m vs h hm
    rw [← hw] at this
    refine wp_mono (evC_sound hC rest n hb hl this hs ho) fun e a' w' ⟨E, hs', ho', hq⟩ => ?_
    cases e with
    | goto l' =>
      simp only at hq
      rw [bif_and] at hq
      obtain ⟨h1, hq⟩ := hq
      refine ⟨Nat.eq_of_beq_eq_true h1, ?_⟩
      split at hq
      · rename_i vs' hvs
        exact ih vs' w'.heap a' w' (hs'.getAll hvs) ho' rfl hq
      · exact hq.elim
    | normal =>
      simp only at hq
      split at hq
      · rename_i us hus
        exact ⟨_, hs'.getAll hus, ho', 1, us, rfl, rfl, hq⟩
      · exact hq.elim
    | ret =>
      simp only at hq
      split at hq
      · rename_i us hus
        exact ⟨_, hs'.getAll hus, ho', 0, us, rfl, rfl, hq⟩
      · exact hq.elim
    | exit id =>
      simp only at hq
      split at hq
      · rename_i us hus
        exact ⟨_, hs'.getAll hus, ho', id + 2, us, rfl, rfl, hq⟩
      · exact hq.elim
    | panic ch => exact hq.elim
    | outgrown => exact hq.elim

/-- What a function hands back. -/
def resK (P : Program) (E : Env) (h : Heap) : List ResultVar → (List Value → Prop) → Prop
  | [], K => K []
  | .tmp t :: r, K => match get E t with
    | some v => resK P E h r fun vs => K (v :: vs)
    | none => False
  | .cell p t :: r, K => match get E p with
    | some (.pointer (some a)) => readV P (.load t (.tmp 0)) [.pointer (some a)] h fun v => resK P E h r fun vs => K (v :: vs)
    | _ => False

def oneOrAll : List Value → Value
  | [v] => v
  | vs => .tuple vs.toArray

def numbered : Nat → List Value → Env
  | _, [] => []
  | n, v :: r => (n, v) :: numbered (n + 1) r

def evF (C : Ctx) (fn : Func) (n : Ann) (args : List Value) (h : Heap) (K : Value → Heap → Prop) : Prop :=
  match fn.body with
  | none => False
  | some c => evC C c n (fun e E h' => match e with
    | .normal => resK C.P E h' fn.results.toList fun vs => K (oneOrAll vs) h'
    | .ret => resK C.P E h' fn.results.toList fun vs => K (oneOrAll vs) h'
    | _ => False) (numbered 0 args) h

def resOne (tmps : Array Value) : ResultVar → Sem Value
  | .tmp t => pure (tmps.getD t undef)
  | .cell p t => do loadVar t (← asAddr (tmps.getD p undef))

theorem run_mapM_cons {α β : Type} {P : Program} {f : α → Sem β} {x : α} {r : List α} {y : β} {ys : List β} {w : World} (h : (f x).run P w = .ok y w) (hr : (r.mapM f).run P w = .ok ys w) :
    ((x :: r).mapM f).run P w = .ok (y :: ys) w := by
  simp [List.mapM_cons, h, hr]

theorem resK_run {E : Env} {a : Act} {h : Heap} (hs : Sat N E a) (w : World) (hw : w.heap = h) : ∀ {l : List ResultVar} {K : List Value → Prop}, resK C.P E h l K →
    ∃ vs, K vs ∧ (l.mapM (resOne a.tmps)).run C.P w = .ok vs w
  | [], K, hk => ⟨[], hk, by simp⟩
  | .tmp t :: r, K, hk => by
    simp only [resK] at hk
    split at hk
    · rename_i v hv
      obtain ⟨vs, hk, hr⟩ := resK_run hs w hw hk
      obtain ⟨h1, h2⟩ := hs.at_ _ _ hv
      exact ⟨v :: vs, hk, run_mapM_cons (by simp [resOne, h2]) hr⟩
    · exact hk.elim
  | .cell p t :: r, K, hk => by
    simp only [resK] at hk
    split at hk
    · rename_i q hv
      obtain ⟨v, hk, hrd⟩ := readV_val hk
      obtain ⟨vs, hk, hr⟩ := resK_run hs w hw hk
      obtain ⟨h1, h2⟩ := hs.at_ _ _ hv
      have := readV_run (P := C.P) (ρ := fun _ => .pointer (some q)) (o := { dst := none, op := .load t (.tmp 0), type := 0, pos := "", after := #[], guard := none }) (v := v) (by simpa [opsOf] using hrd) w hw
      simp [execOp, Instr.loadAt, Instr.sureAddr] at this
      refine ⟨v :: vs, hk, run_mapM_cons ?_ hr⟩
      have h3 : (loadVar t q).run C.P w = .ok v w := by
        cases hlv : (loadVar t q).run C.P w with
        | ok x w' => rw [hlv] at this; simpa using this
        | halt x w' => rw [hlv] at this; simp at this
      simp [resOne, h2, asAddr, h3]
    · exact hk.elim

theorem results_eq (fn : Func) (tmps : Array Value) : results fn tmps = (do let vs ← fn.results.mapM (resOne tmps); pure (if h : vs.size = 1 then vs[0] else .tuple vs)) := by
  unfold results
  congr 2

theorem results_run {fn : Func} {tmps : Array Value} {vs : List Value} {w : World} {P : Program} (h : (fn.results.toList.mapM (resOne tmps)).run P w = .ok vs w) :
    (results fn tmps).run P w = .ok (oneOrAll vs) w := by
  rw [results_eq, Array.mapM_eq_mapM_toList]
  simp only [Sem.run_bind, Sem.run_map, h]
  match vs with
  | [] => rfl
  | [v] => rfl
  | v :: u :: r => rfl

theorem numbered_get : ∀ (args : List Value) (n t : Nat) (v : Value), get (numbered n args) t = some v → n ≤ t ∧ args[t - n]? = some v
  | [], _, _, _, h => by cases h
  | u :: r, n, t, v, h => by
    simp only [numbered, get] at h
    cases hb : Nat.beq n t with
    | true =>
      rw [hb] at h
      simp only [cond_true, Option.some.injEq] at h
      have := Nat.eq_of_beq_eq_true hb
      subst this; subst h
      exact ⟨Nat.le_refl _, by simp⟩
    | false =>
      rw [hb] at h
      obtain ⟨h1, h2⟩ := numbered_get r (n + 1) t v h
      refine ⟨by omega, ?_⟩
      rw [show t - n = (t - (n + 1)) + 1 by omega]
      simpa using h2

theorem evF_calls [DKc] (hC : C.OK) {f : FuncId} {fn : Func} {n : Ann} {args : List Value} {h : Heap} {K : Value → Heap → Prop} (hf : C.P.funcs[f]? = some fn) (hn : args.length ≤ fn.ntmps)
    (hb : ∀ c, fn.body = some c → seen C.quiet fn.ntmps c n = true) (hl : ∀ c, fn.body = some c → loopsOK C fn.ntmps c n) (hh : evF C fn n args h K) (w : World) (hw : w.heap = h) :
    Calls C.P f args.toArray w fun e w' => ∃ v, e = .returned v ∧ Out w w' ∧ K v w'.heap := by
  unfold evF at hh
  split at hh
  · exact hh.elim
  · rename_i c hc
    refine calls_of_wp hf hc ?_
    subst hw
    have hs : Sat fn.ntmps (numbered 0 args) { tmps := args.toArray ++ Array.replicate (fn.ntmps - args.toArray.size) undef, defers := [] } := by
      refine ⟨rfl, by simp; omega, fun t v ht => ?_⟩
      obtain ⟨_, h2⟩ := numbered_get args 0 t v ht
      have hlt : t < args.length := by
        rcases Nat.lt_or_ge t args.length with h | h
        · exact h
        · rw [Nat.sub_zero, List.getElem?_eq_none h] at h2; cases h2
      refine ⟨by omega, ?_⟩
      rw [Array.getElem?_append_left (by simpa using hlt)]
      simpa using h2
    have main : ∀ (E : Env) (a : Act) (w' : World), Sat fn.ntmps E a → Out w w' → resK C.P E w'.heap fn.results.toList (fun vs => K (oneOrAll vs) w'.heap) →
        a.defers = [] ∧ ∃ v, (results fn a.tmps).run C.P w' = .ok v w' ∧ ∃ u, Ending.returned v = .returned u ∧ Out w w' ∧ K u w'.heap := by
      intro E a w' hs ho hr
      obtain ⟨vs, hk, hrun⟩ := resK_run hs w' rfl hr
      exact ⟨hs.defers, oneOrAll vs, results_run hrun, _, rfl, ho, hk⟩
    refine wp_mono (evC_sound hC c n (hb c hc) (hl c hc) hh hs (Out.refl w)) fun e a w' ⟨E, hs, ho, hq⟩ => ?_
    cases e with
    | normal => exact main E a w' hs ho hq
    | ret => exact main E a w' hs ho hq
    | exit id => exact hq.elim
    | goto l => exact hq.elim
    | panic ch => exact hq.elim
    | outgrown => exact hq.elim

def sub : Code → List Nat → Code
  | c, [] => c
  | .seq x y, 0 :: p => sub x p
  | .seq x y, _ :: p => sub y p
  | .cond _ x y, 0 :: p => sub x p
  | .cond _ x y, _ :: p => sub y p
  | .block _ c, _ :: p => sub c p
  | .loop c, _ :: p => sub c p
  | .scope c, 0 :: p => sub c p
  | .scope c, (l + 1) :: p => match findLabel c l with
    | some r => sub r p
    | none => .skip
  | c, _ => c

/-- The loops of a body that lie in no other, and the labels that are gone back to. -/
def loopList : Code → Ann → List (Code × Option Nat × Nat × List Nat × List (Nat × List Nat))
  | .seq x y, n => loopList x n.l ++ loopList y n.r
  | .cond _ x y, n => loopList x n.l ++ loopList y n.r
  | .block _ c, n => loopList c n.l
  | .loop c, .loop i keep outs _ => [(c, none, i, keep, outs)]
  | .scope c, .jump l i keep outs n _ => loopList c n ++ [(match findLabel c l with | some r => (r, some l, i, keep, outs) | none => (.skip, some l, i, keep, outs))]
  | .scope c, .two n _ => loopList c n
  | .scope c, .auto => loopList c .auto
  | _, _ => []

def rowOK [DKc] (C : Ctx) (N : Nat) : Code × Option Nat × Nat × List Nat × List (Nat × List Nat) → Prop
  | (c, none, i, keep, outs) => LoopOK C N c i keep outs
  | (c, some l, i, keep, outs) => JumpOK C N c l i keep outs

def allOK [DKc] (C : Ctx) (N : Nat) : List (Code × Option Nat × Nat × List Nat × List (Nat × List Nat)) → Prop
  | [] => True
  | x :: r => rowOK C N x ∧ allOK C N r

theorem allOK_append [DKc] {l r : List (Code × Option Nat × Nat × List Nat × List (Nat × List Nat))} (h : allOK C N (l ++ r)) : allOK C N l ∧ allOK C N r := by
  induction l with
  | nil => exact ⟨trivial, h⟩
  | cons x l ih => exact ⟨⟨h.1, (ih h.2).1⟩, (ih h.2).2⟩

/-- Each label that is gone back to is there. -/
def labels : Code → Ann → Bool
  | .seq x y, n => labels x n.l && labels y n.r
  | .cond _ x y, n => labels x n.l && labels y n.r
  | .block _ c, n => labels c n.l
  | .scope c, .jump l _ _ _ n _ => labels c n && (findLabel c l).isSome
  | .scope c, .two n _ => labels c n
  | .scope c, .auto => labels c .auto
  | _, _ => true

theorem loopList_ok [DKc] : ∀ (c : Code) (n : Ann), labels c n = true → allOK C N (loopList c n) → loopsOK C N c n
  | .seq x y, n, hb, h => by
    simp only [labels, Bool.and_eq_true] at hb
    exact ⟨loopList_ok x n.l hb.1 (allOK_append h).1, loopList_ok y n.r hb.2 (allOK_append h).2⟩
  | .cond _ x y, n, hb, h => by
    simp only [labels, Bool.and_eq_true] at hb
    exact ⟨loopList_ok x n.l hb.1 (allOK_append h).1, loopList_ok y n.r hb.2 (allOK_append h).2⟩
  | .block _ c, n, hb, h => loopList_ok c n.l hb h
  | .loop c, .loop i keep outs _, _, h => h.1
  | .scope c, .jump l i keep outs n m, hb, h => by
    simp only [labels, Bool.and_eq_true] at hb
    obtain ⟨r, hr⟩ := Option.isSome_iff_exists.1 hb.2
    refine ⟨loopList_ok c n hb.1 (allOK_append h).1, r, hr, ?_⟩
    have := (allOK_append h).2.1
    rw [hr] at this
    exact this
  | .scope c, .two n _, hb, h => loopList_ok c n hb h
  | .scope c, .auto, hb, h => loopList_ok c .auto hb h
  | .scope _, .reg _ _, _, _ => trivial
  | .scope _, .loop _ _ _ _, _, _ => trivial
  | .loop _, .auto, _, _ => trivial
  | .loop _, .two _ _, _, _ => trivial
  | .loop _, .reg _ _, _, _ => trivial
  | .loop _, .jump _ _ _ _ _ _, _, _ => trivial
  | .skip, _, _, _ => trivial
  | .region _ _ _, _, _, _ => trivial
  | .rangeFunc _ _ _ _, _, _, _ => trivial
  | .exit _, _, _, _ => trivial
  | .label _, _, _, _ => trivial
  | .goto _, _, _, _ => trivial
  | .ret, _, _, _ => trivial
  | .refuse _, _, _, _ => trivial

theorem loops_ok [DKc] {c : Code} {n : Ann} {l : List (Code × Option Nat × Nat × List Nat × List (Nat × List Nat))} (hl : (labels c n, loopList c n) = (true, l)) (h : allOK C N l) : loopsOK C N c n := by
  simp only [Prod.mk.injEq] at hl
  exact loopList_ok c n hl.1 (by rw [hl.2]; exact h)

theorem fn_calls [DKc] (hC : C.OK) {f : FuncId} {fn : Func} {n : Ann} {args : List Value} {h : Heap} {K : Value → Heap → Prop} {c : Code} (hf : C.P.funcs[f]? = some fn) (hc : fn.body = some c)
    (hname : (fn.name == "runtime.NumGoroutine") = false) (hn : Nat.ble args.length fn.ntmps = true) (hb : seen C.quiet fn.ntmps c n = true) (hl : loopsOK C fn.ntmps c n) (hh : evF C fn n args h K) (w : World) (hw : w.heap = h) :
    (callFunc f args.toArray).run C.P w = .ok (.enter f args.toArray) w ∧ Calls C.P f args.toArray w fun e w' => ∃ v, e = .returned v ∧ Out w w' ∧ K v w'.heap := by
  refine ⟨?_, evF_calls hC hf (Nat.le_of_ble_eq_true hn) (fun c' hc' => by rw [hc] at hc'; cases hc'; exact hb) (fun c' hc' => by rw [hc] at hc'; cases hc'; exact hl) hh w hw⟩
  have hname' : ¬ fn.name = "runtime.NumGoroutine" := by simpa using hname
  simp [callFunc, program, Sem.run, bind, Sem.bind, hf, hname', hc, pure]
end
end Go.Hp
