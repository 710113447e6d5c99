/-
  The frame of my own, part 6: in what order a region's operations come up. A schedule that a program wrote, and that a Bool checks, serves every order.
-/
import Derived.Test.YtokemibmanjpmaaGreatDoorFw5
namespace Go.Hp
set_option linter.unusedVariables false
set_option linter.unusedSimpArgs false

/-- What the walk is told of calls. -/
structure Ctx where
  P : Program
  call : FuncId → List Value → Heap → (Value → Heap → Prop) → Prop
  qcall : FuncId → List Value → Heap → (Value → Prop) → Prop
  quiet : FuncId → Bool
  loop : Nat → List Value → Heap → (Nat → List Value → Heap → Prop) → Prop
  hint : TypeId → Option FuncId := fun _ => none   -- a cell of this type is read only where it holds this function, bound to one pointer

/-- A read; of a cell of a function type, by the hint. -/
def readH (hint : TypeId → Option FuncId) (P : Program) (o : Op) (vs : List Value) (h : Heap) (K : Value → Prop) : Prop :=
  match o, vs with
  | .load t x, [.pointer (some a)] => match hint t with
    | none => readV P (.load t x) [.pointer (some a)] h K
    | some f => match aggB P t, kinds P 8 t with
      | some false, [.any] => ∃ q : Addr, cell h a = some (.func (.func f) #[] #[.pointer (some q)]) ∧ K (.func (.func f) #[] #[.pointer (some q)])
      | _, _ => False
  | _, _ => False

/-- An operation that leaves memory alone. -/
def rdK (C : Ctx) (o : Op) (vs : List Value) (h : Heap) (K : Value → Prop) : Prop :=
  match cls C.quiet o with
  | 0 => pureV C.P o vs K
  | 1 => match o, vs with
    | .load t a, vs => readH C.hint C.P (.load t a) vs h K
    | .convert s d x, vs => readV C.P (.convert s d x) vs h K
    | .call { callee := .value _, .. }, .func (.func f) first cap :: args => C.qcall f (first.toList ++ args ++ cap.toList) h K
    | _, _ => False
  | _ => False

def wrK (C : Ctx) (o : Op) (vs : List Value) (h : Heap) (K : Value → Heap → Prop) : Prop :=
  match o, vs with
  | .call { callee := .value _, .. }, .func (.func f) first cap :: args => C.call f (first.toList ++ args ++ cap.toList) h K
  | o, vs => match isMap o vs with
    | true => mapV C.P o vs h K
    | false => writeV C.P o vs h K

def opK (C : Ctx) (o : Op) (vs : List Value) (h : Heap) (K : Value → Heap → Prop) : Prop :=
  bif Nat.ble (cls C.quiet o) 1 then rdK C o vs h (fun v => K v h) else wrK C o vs h K

structure Ctx.OK [DKc] (C : Ctx) : Prop where
  mixed : C.P.follows .mixedOrders = true
  mono : ∀ {f args h} {K K' : Value → Heap → Prop}, C.call f args h K → (∀ v h', K v h' → K' v h') → C.call f args h K'
  qmono : ∀ {f args h} {K K' : Value → Prop}, C.qcall f args h K → (∀ v, K v → K' v) → C.qcall f args h K'
  qval : ∀ {f args h} {K : Value → Prop}, C.qcall f args h K → ∃ v, K v ∧ C.qcall f args h (· = v)
  call : ∀ {f args h} {K : Value → Heap → Prop}, C.call f args h K → ∀ w : World, w.heap = h → (callFunc f args.toArray).run C.P w = .ok (.enter f args.toArray) w ∧
    Calls C.P f args.toArray w fun e w' => ∃ v, e = .returned v ∧ Out w w' ∧ K v w'.heap
  qcall : ∀ {f args h} {v : Value}, C.qcall f args h (· = v) → ∀ w : World, w.heap = h → ((callFunc f args.toArray).run C.P w = .ok (.enter f args.toArray) w ∧
    Calls C.P f args.toArray w fun e w' => e = .returned v ∧ Out w w' ∧ w'.heap = h) ∨ (callFunc f args.toArray).run C.P w = .ok (.value v) w

section mono
variable {P : Program}
theorem val_mono {o : Option Value} {K K' : Value → Prop} (h : val o K) (hk : ∀ v, K v → K' v) : val o K' := by
  obtain ⟨v, hv, he⟩ := val_val h
  rw [val_eq he]; exact hk v hv

variable {K K' : Value → Prop}
theorem iteB_mono {b : Bool} {u v : Value} (h : iteB b (K u) (K v)) (hk : ∀ v, K v → K' v) : iteB b (K' u) (K' v) := by
  cases b
  · exact hk _ h
  · exact hk _ h

theorem intBin_mono {op : BinOp} {k : IntKind} {a b : Int} (h : intBin op k a b K) (hk : ∀ v, K v → K' v) : intBin op k a b K' := by
  cases op <;> simp only [intBin] at h ⊢ <;> first | exact h.elim | exact hk _ h | exact ⟨h.1, hk _ h.2⟩

theorem strBin_mono {op : BinOp} {a b : ByteArray} (h : strBin op a b K) (hk : ∀ v, K v → K' v) : strBin op a b K' := by
  cases op <;> simp only [strBin] at h ⊢ <;> first | exact h.elim | exact hk _ h | exact ⟨h.1, hk _ h.2⟩

theorem fltBin_mono {op : BinOp} {k : FloatKind} {a b : Nat} (h : fltBin op k a b K) (hk : ∀ v, K v → K' v) : fltBin op k a b K' := by
  cases op <;> simp only [fltBin] at h ⊢ <;> first | exact h.elim | exact hk _ h | (obtain ⟨r, hr, h⟩ := h; exact ⟨r, hr, hk _ h⟩)

theorem binK_mono {op : BinOp} {t : TypeId} {x y : Value} (h : binK P op t x y K) (hk : ∀ v, K v → K' v) : binK P op t x y K' := by
  unfold binK at h ⊢
  split at h
  · exact ⟨h.1, hk _ h.2⟩
  · exact ⟨h.1, hk _ h.2⟩
  · split at h
    · rename_i hk; subst hk; simpa using intBin_mono h hk
    · exact h.elim
  · exact strBin_mono h hk
  · split at h
    · rename_i hq; subst hq; simpa using fltBin_mono h hk
    · exact h.elim
  all_goals first
    | (split at h
       · exact hk _ h
       · exact h.elim)
    | exact h.elim

theorem sliceK_mono {t : TypeId} {x : Value} {lo hi : Option Value} (h : sliceK P t x lo hi K) (hk : ∀ v, K v → K' v) : sliceK P t x lo hi K' := by
  unfold sliceK at h ⊢
  split at h
  · split at h
    · split at h
      · exact hk _ h
      · exact ⟨h.1, hk _ h.2⟩
      · exact h.elim
    · split at h
      · exact ⟨h.1, hk _ h.2⟩
      · exact ⟨h.1, h.2.1, hk _ h.2.2⟩
      · exact h.elim
    · exact h.elim
  · split at h
    · exact h.elim
    split at h
    · split at h
      · exact hk _ h
      · exact ⟨h.1, hk _ h.2⟩
      · exact h.elim
    · split at h
      · exact ⟨h.1, hk _ h.2⟩
      · exact ⟨h.1, h.2.1, hk _ h.2.2⟩
      · exact h.elim
    · exact h.elim
  · exact h.elim

theorem convK_mono {s d : TypeId} {x : Value} (h : convK P s d x K) (hk : ∀ v, K v → K' v) : convK P s d x K' := by
  unfold convK at h ⊢
  split at h
  · exact hk _ h
  · exact hk _ h
  · exact hk _ h
  · obtain ⟨n, h1, h2, h⟩ := h; exact ⟨n, h1, h2, hk _ h⟩
  · exact h.elim

theorem buildK_mono {t : TypeId} {ixs : List Nat} {vs : List Value} (h : buildK P t ixs vs K) (hk : ∀ v, K v → K' v) : buildK P t ixs vs K' := by
  unfold buildK at h ⊢
  split at h
  · rw [bif_and] at h
    obtain ⟨hb, h⟩ := h
    simp only [hb, cond_true]
    split at h
    · exact hk _ h
    · exact h.elim
  · split at h
    · split at h
      · exact hk _ h
      · exact h.elim
    · exact h.elim
  · exact h.elim

theorem nilK_mono {op : BinOp} {t : TypeId} {a : Value} (h : nilK P op t a K) (hk : ∀ v, K v → K' v) : nilK P op t a K' := by
  unfold nilK at h ⊢
  split at h
  · unfold nilP at h ⊢
    split at h
    · exact hk _ h
    · exact h.elim
  · unfold nilP at h ⊢
    split at h
    · exact hk _ h
    · exact h.elim
  · exact h.elim

theorem pureV_mono {o : Op} {vs : List Value} (h : pureV P o vs K) (hk : ∀ v, K v → K' v) : pureV P o vs K' := by
  unfold pureV at h ⊢
  split at h
  · exact hk _ h
  · exact hk _ h
  · exact iteB_mono h hk
  · obtain ⟨a, rfl, h⟩ := chkP_elim h
    exact hk _ h
  · exact hk _ h
  · split at h
    · exact nilK_mono h hk
    · exact binK_mono h hk
  · exact hk _ h
  · exact hk _ h
  · exact hk _ h
  · exact val_mono h hk
  · split at h
    · exact hk _ h
    · exact h.elim
  · split at h
    · split at h
      · exact hk _ h
      · exact val_mono h hk
      · exact h.elim
    · exact h.elim
  · split at h
    · obtain ⟨a, rfl, h⟩ := chkP_elim h
      exact ⟨h.1, hk _ h.2⟩
    · exact h.elim
  · split at h
    · split at h
      · exact ⟨h.1, hk _ h.2⟩
      · exact h.elim
    · exact h.elim
  · split at h
    · obtain ⟨h0, b, hb, hk'⟩ := h
      exact ⟨h0, b, hb, hk _ hk'⟩
    · exact h.elim
  · split at h
    · split at h
      · rw [bif_and] at h ⊢
        obtain ⟨hb, h0, h⟩ := h
        exact ⟨hb, h0, rdS_mono h hk⟩
      · rw [bif_and] at h ⊢
        obtain ⟨hb, h0, h⟩ := h
        exact ⟨hb, h0, rdF_mono h fun ws hw => hk _ hw⟩
      · exact h.elim
    · exact h.elim
  · exact sliceK_mono h hk
  · exact sliceK_mono h hk
  · exact sliceK_mono h hk
  · exact sliceK_mono h hk
  · exact convK_mono h hk
  · split at h
    · exact h.elim
    · exact hk _ h
    · exact h.elim
  · exact hk _ h
  · exact buildK_mono h hk
  · split at h
    · split at h
      · exact hk _ h
      · exact hk _ h
      · exact h.elim
    · exact h.elim
  · split at h
    · split at h
      · exact hk _ h
      · exact h.elim
    · exact h.elim
  · exact val_mono h hk
  · exact val_mono h hk
  · exact h.elim

theorem rdL_mono : ∀ {l : List Sh} {h : Heap} {a : Addr} {i : Nat} {K K' : List Value → Prop}, rdL l h a i K → (∀ x, K x → K' x) → rdL l h a i K'
  | [], _, _, _, _, _, h1, h2 => h2 _ h1
  | _ :: _, _, _, _, _, _, h1, h2 => rdS_mono h1 fun _ hv => rdL_mono hv fun _ hx => h2 _ hx

theorem readV_mono {o : Op} {vs : List Value} {h : Heap} (hh : readV P o vs h K) (hk : ∀ v, K v → K' v) : readV P o vs h K' := by
  unfold readV at hh ⊢
  split at hh
  · split at hh
    · refine rdL_mono hh fun x hx => ?_
      split at hx
      · rw [bif_and] at hx ⊢; exact ⟨hx.1, hk _ hx.2⟩
      · exact hx.elim
    · split at hh
      · exact rdS_mono hh hk
      · exact hh.elim
    · exact hh.elim
  · unfold strK at hh ⊢
    split at hh
    · split at hh
      · obtain ⟨l, h1, h2⟩ := hh; exact ⟨l, h1, hk _ h2⟩
      · exact hh.elim
    · exact hh.elim
  · exact hh.elim

theorem readH_mono {hint : TypeId → Option FuncId} {o : Op} {vs : List Value} {h : Heap} (hh : readH hint P o vs h K) (hk : ∀ v, K v → K' v) : readH hint P o vs h K' := by
  unfold readH at hh ⊢
  split at hh
  · split at hh
    · exact readV_mono hh hk
    · split at hh
      · obtain ⟨q, h1, h2⟩ := hh; exact ⟨q, h1, hk _ h2⟩
      · exact hh.elim
  · exact hh.elim
theorem readH_val {hint : TypeId → Option FuncId} {o : Op} {vs : List Value} {h : Heap} (hh : readH hint P o vs h K) : ∃ v, K v ∧ readH hint P o vs h (· = v) := by
  unfold readH at hh ⊢
  split at hh
  · split at hh
    · exact readV_val hh
    · split at hh
      · obtain ⟨q, h1, h2⟩ := hh; exact ⟨_, h2, q, h1, rfl⟩
      · exact hh.elim
  · exact hh.elim
theorem readH_V {hint : TypeId → Option FuncId} {o : Op} {vs : List Value} {h : Heap} (hh : readH hint P o vs h K) : readV P o vs h K := by
  unfold readH at hh
  split at hh
  · split at hh
    · exact hh
    · split at hh
      · rename_i h1 h2
        obtain ⟨q, h3, h4⟩ := hh
        unfold readV
        simp only [h1, h2]
        exact ⟨_, h3, h4⟩
      · exact hh.elim
  · exact hh.elim

theorem stL_mono : ∀ {vs : List Value} {h : Heap} {a : Addr} {i : Nat} {K K' : Heap → Prop}, stL vs h a i K → (∀ x, K x → K' x) → stL vs h a i K'
  | [], _, _, _, _, _, h1, h2 => h2 _ h1
  | _ :: _, _, _, _, _, _, h1, h2 => by
    simp only [stL] at h1 ⊢
    split at h1
    · exact ⟨h1.1, stL_mono h1.2 h2⟩
    · exact h1.elim

theorem appP_mono {e size bytes : Nat} {zero : List Value} {q : Option Addr} {len cap n : Nat} {news : List Value} {h : Heap} {K K' : Option Addr → Nat → Nat → Heap → Prop}
    (hh : appP e size bytes zero q len cap n news h K) (hk : ∀ a b c d, K a b c d → K' a b c d) : appP e size bytes zero q len cap n news h K' := by
  refine ⟨fun h1 => ?_, fun h2 => ?_⟩
  · have := hh.1 h1
    cases q with
    | none => exact hk _ _ _ _ this
    | some a => exact stL_mono this fun x hx => hk _ _ _ _ hx
  · obtain ⟨a, b, olds, hr, hc⟩ := hh.2 h2
    exact ⟨a, b, olds, hr, fun c hc' => hk _ _ _ _ (hc c hc')⟩

theorem writeV_mono {o : Op} {vs : List Value} {h : Heap} {K K' : Value → Heap → Prop} (hh : writeV P o vs h K) (hk : ∀ v h', K v h' → K' v h') : writeV P o vs h K' := by
  unfold writeV at hh ⊢
  split at hh
  · split at hh
    · exact hk _ _ hh
    · exact hh.elim
  · exact hk _ _ hh
  · split at hh
    · rw [bif_and] at hh ⊢
      refine ⟨hh.1, ?_⟩
      have hh := hh.2
      split at hh
      · split at hh
        · exact ⟨hh.1, hk _ _ hh.2⟩
        · exact hh.elim
      · exact stL_mono hh fun x hx => hk _ _ hx
    · exact hh.elim
  · split at hh
    · split at hh
      · rw [bif_and] at hh ⊢
        refine ⟨hh.1, ?_⟩
        have hh := hh.2
        split at hh
        · exact hk _ _ hh
        · exact hh.elim
      · exact hh.elim
    · exact hh.elim
  · split at hh
    · split at hh
      · rw [bif_and] at hh ⊢
        exact ⟨hh.1, hh.2.1, hk _ _ hh.2.2⟩
      · exact hh.elim
    · exact hh.elim
  · split at hh
    · split at hh
      · exact hh.elim
      · unfold appK at hh ⊢
        split at hh
        · split at hh
          · split at hh
            · split at hh
              · obtain ⟨news, hr, hp⟩ := hh
                exact ⟨news, hr, appP_mono hp fun _ _ _ _ hx => hk _ _ hx⟩
              · exact appP_mono hh fun _ _ _ _ hx => hk _ _ hx
              · exact hh.elim
            · exact hh.elim
          · exact hh.elim
        · exact hh.elim
      · exact hh.elim
    · exact hh.elim
  · split at hh
    · split at hh
      · obtain ⟨news, hr, hp⟩ := hh
        refine ⟨news, hr, ?_⟩
        split at hp
        · exact hk _ _ hp
        · exact stL_mono hp fun x hx => hk _ _ hx
      · exact hh.elim
    · exact hh.elim
  · split at hh
    · split at hh
      · split at hh
        · unfold clearP at hh ⊢
          split at hh
          · exact hk _ _ hh
          · exact stL_mono hh fun x hx => hk _ _ hx
        · exact hh.elim
      · exact hh.elim
    · exact hh.elim
  · exact hh.elim
theorem mapV_mono {o : Op} {vs : List Value} {h : Heap} {K K' : Value → Heap → Prop} (hh : mapV P o vs h K) (hk : ∀ v h', K v h' → K' v h') : mapV P o vs h K' := by
  unfold mapV at hh ⊢
  split at hh
  · exact hk _ _ hh
  · rename_i t x y ok q key
    split at hh
    · split at hh
      · rw [bif_and] at hh ⊢
        refine ⟨hh.1, ?_⟩
        have hh := hh.2
        cases q with
        | none => exact hh.elim
        | some b => obtain ⟨m, h1, h2⟩ := hh; exact ⟨m, h1, rdS_mono h2 fun v hv => hk _ _ hv⟩
      · exact hh.elim
    · exact hh.elim
  · rename_i t x y z q key v
    split at hh
    · split at hh
      · rw [bif_and] at hh ⊢
        refine ⟨hh.1, ?_⟩
        have hh := hh.2
        cases q with
        | none => exact hh.elim
        | some b => obtain ⟨m, h1, h2⟩ := hh; exact ⟨m, h1, hk _ _ h2⟩
      · exact hh.elim
    · exact hh.elim
  · rename_i args tys q
    split at hh
    · split at hh
      · cases q with
        | none => exact hh.elim
        | some b => obtain ⟨m, h1, h2⟩ := hh; exact ⟨m, h1, hk _ _ h2⟩
      · exact hh.elim
    · exact hh.elim
  · rename_i t x q
    split at hh
    · cases q with
      | none => exact hh.elim
      | some b => obtain ⟨m, h1, h2⟩ := hh; exact ⟨m, h1, hk _ _ h2⟩
    · exact hh.elim
  · obtain ⟨h0, b, m, seen, h1, h2, h3⟩ := hh
    exact ⟨h0, b, m, seen, h1, fun h => hk _ _ (h2 h), fun i e hi hn => hk _ _ (h3 i e hi hn)⟩
  · obtain ⟨h0, b, m, seen, i, e, h1, q, l, c, h2, h3⟩ := hh
    exact ⟨h0, b, m, seen, i, e, h1, q, l, c, h2, hk _ _ h3⟩
  · split at hh
    · exact hk _ _ hh
    · exact hh.elim
  · obtain ⟨h0, s, pos, h1, h2, h3⟩ := hh
    exact ⟨h0, s, pos, h1, fun h => hk _ _ (h2 h), fun h => hk _ _ (h3 h)⟩
  · exact hh.elim
end mono
end Go.Hp
