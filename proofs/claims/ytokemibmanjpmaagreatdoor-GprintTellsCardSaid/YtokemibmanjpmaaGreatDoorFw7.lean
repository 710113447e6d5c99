/-
  The frame of my own, part 7: a schedule that a program wrote, and that a Bool checks, serves every order.
-/
import Derived.Test.YtokemibmanjpmaaGreatDoorFw6
namespace Go.Hp
set_option linter.unusedVariables false
set_option linter.unusedSimpArgs false

section
variable {C : Ctx}

theorem rdK_val [DKc] (hC : C.OK) {o : Op} {vs : List Value} {h : Heap} {K : Value → Prop} (hh : rdK C o vs h K) : ∃ v, K v ∧ rdK C o vs h (· = v) := by
  unfold rdK at hh ⊢
  split at hh
  · exact pureV_val hh
  · split at hh
    · exact readH_val hh
    · exact readV_val hh
    · exact hC.qval hh
    · exact hh.elim
  · exact hh.elim

theorem rdK_mono [DKc] (hC : C.OK) {o : Op} {vs : List Value} {h : Heap} {K K' : Value → Prop} (hh : rdK C o vs h K) (hk : ∀ v, K v → K' v) : rdK C o vs h K' := by
  unfold rdK at hh ⊢
  split at hh
  · exact pureV_mono hh hk
  · split at hh
    · exact readH_mono hh hk
    · exact readV_mono hh hk
    · exact hC.qmono hh hk
    · exact hh.elim
  · exact hh.elim

theorem rdK_pure {o : Op} {vs : List Value} {h h' : Heap} {K : Value → Prop} (h0 : cls C.quiet o = 0) (hh : rdK C o vs h K) : rdK C o vs h' K := by
  unfold rdK at hh ⊢
  rw [h0] at hh ⊢
  exact hh

theorem wrK_mono [DKc] (hC : C.OK) {o : Op} {vs : List Value} {h : Heap} {K K' : Value → Heap → Prop} (hh : wrK C o vs h K) (hk : ∀ v h', K v h' → K' v h') : wrK C o vs h K' := by
  unfold wrK at hh ⊢
  split at hh
  · exact hC.mono hh hk
  · split at hh
    · exact mapV_mono hh hk
    · exact writeV_mono hh hk

theorem opK_mono [DKc] (hC : C.OK) {o : Op} {vs : List Value} {h : Heap} {K K' : Value → Heap → Prop} (hh : opK C o vs h K) (hk : ∀ v h', K v h' → K' v h') : opK C o vs h K' := by
  unfold opK at hh ⊢
  cases hb : Nat.ble (cls C.quiet o) 1 with
  | true => rw [hb] at hh; exact rdK_mono hC hh fun v hv => hk v h hv
  | false => rw [hb] at hh; exact wrK_mono hC hh hk

/-- Operation number i comes up. -/
def aOp (C : Ctx) (ops : Array Oper) (i : Nat) (K : Act → Heap → Prop) (a : Act) (h : Heap) : Prop :=
  match ops[i]? with
  | none => K a h
  | some o => if Region.wanted o (yielded ops a.tmps) then opK C o.op ((opsOf o.op).map a.eval) h (fun v h' => K (a.put o.dst v) h') else K (a.put o.dst undef) h

variable {ops : Array Oper} {md : Region.Mode}

theorem aOp_mono [DKc] (hC : C.OK) {i : Nat} {K K' : Act → Heap → Prop} {a : Act} {h : Heap} (hh : aOp C ops i K a h) (hk : ∀ a h, K a h → K' a h) : aOp C ops i K' a h := by
  unfold aOp at hh ⊢
  split at hh
  · exact hk _ _ hh
  · split at hh
    · rename_i hw; rw [if_pos hw]; exact opK_mono hC hh fun v h' hv => hk _ _ hv
    · rename_i hw; rw [if_neg hw]; exact hk _ _ hh

def aAny (C : Ctx) (md : Region.Mode) (ops : Array Oper) (Q : Act → Heap → Prop) : Nat → Array Bool → Act → Heap → Prop
  | 0, listed, a, h => Region.ready md ops listed = [] ∧ Q a h
  | fuel + 1, listed, a, h =>
    (Region.ready md ops listed = [] → Q a h) ∧
    ∀ i ∈ Region.ready md ops listed, aOp C ops i (aAny C md ops Q fuel (listed.setIfInBounds i true)) a h

/-! ### From there to the model's own -/

theorem call_run {P : Program} {ρ : Operand → Value} {o : Oper} {fop : Operand} {args : Array Operand} {tys : Array TypeId} {f : FuncId} {first cap : Array Value} {as : List Value} {w : World} {r : Result Next}
    (hop : o.op = .call { callee := .value fop, args := args, argTypes := tys }) (hvs : (opsOf o.op).map ρ = .func (.func f) first cap :: as)
    (h : (callFunc f (first.toList ++ as ++ cap.toList).toArray).run P w = r) : (execOp ρ o).run P w = r := by
  obtain ⟨dst, op, type, pos, after, guard⟩ := o
  simp only at hop hvs
  subst hop
  simp only [opsOf, List.map_cons, List.cons.injEq] at hvs
  have e : first ++ args.map ρ ++ cap = (first.toList ++ as ++ cap.toList).toArray := by
    rw [← hvs.2]; apply Array.ext'; simp
  simp only [execOp, resolve, hvs.1, Deferred.ofValue]
  simp only [← e] at h
  simp only [bind, Sem.bind, pure, invoke]
  exact h

theorem upon_enter_returned {P : Program} {o : Oper} {a : Act} {next : Act → World → Prop} {Q : Exit → Act → World → Prop} {f : FuncId} {args : Array Value} {w : World} {R : Value → World → Prop}
    (hc : Calls P f args w fun e w' => ∃ v, e = .returned v ∧ R v w') (hk : ∀ v w', R v w' → next (a.put o.dst v) w') : o.upon P a next Q (.ok (.enter f args) w) := by
  rw [Oper.upon_enter]
  refine hc.mono fun e w' ⟨v, he, hR⟩ => ?_
  subst he
  exact hk v w' hR

theorem rdK_wp [DKc] (hC : C.OK) {o : Oper} {a : Act} {h : Heap} {K : Act → Prop} {next : Act → World → Prop} {Q : Exit → Act → World → Prop} {w0 w : World}
    (hh : rdK C o.op ((opsOf o.op).map a.eval) h (fun v => K (a.put o.dst v))) (hw : w.heap = h) (ho : Out w0 w) (hk : ∀ a w', w'.heap = h → Out w0 w' → K a → next a w') : o.wp C.P a w next Q := by
  obtain ⟨v, hv, he⟩ := rdK_val hC hh
  unfold rdK at he
  unfold Oper.wp
  split at he
  · rw [pureV_run he w]; exact hk _ _ hw ho hv
  · split at he
    · rename_i t x hop
      rw [← hop] at he
      rw [readV_run (readH_V he) w hw]; exact hk _ _ hw ho hv
    · rename_i s d x hop
      rw [← hop] at he
      rw [readV_run he w hw]; exact hk _ _ hw ho hv
    · rename_i fop args tys f first cap as hop hvs
      rcases hC.qcall he w hw with ⟨hr, hc⟩ | hr
      rotate_left
      · rw [call_run hop hvs hr]; exact hk _ _ hw ho hv
      rw [call_run hop hvs hr]
      exact upon_enter_returned (R := fun u w' => u = v ∧ Out w w' ∧ w'.heap = h) (hc.mono fun e w' ⟨he, ho', hh'⟩ => ⟨v, he, rfl, ho', hh'⟩)
        fun u w' ⟨hu, ho', hh'⟩ => by subst hu; exact hk _ _ hh' (ho.trans ho') hv
    · exact he.elim
  · exact he.elim

theorem wrK_wp [DKc] (hC : C.OK) {o : Oper} {a : Act} {h : Heap} {K : Act → Heap → Prop} {next : Act → World → Prop} {Q : Exit → Act → World → Prop} {w0 w : World}
    (hh : wrK C o.op ((opsOf o.op).map a.eval) h (fun v h' => K (a.put o.dst v) h')) (hw : w.heap = h) (ho : Out w0 w) (hk : ∀ a w', Out w0 w' → K a w'.heap → next a w') : o.wp C.P a w next Q := by
  unfold wrK at hh
  unfold Oper.wp
  split at hh
  · rename_i fop args tys f first cap as hop hvs
    obtain ⟨hr, hc⟩ := hC.call hh w hw
    rw [call_run hop hvs hr]
    exact upon_enter_returned (R := fun v w' => Out w w' ∧ K (a.put o.dst v) w'.heap) hc fun v w' ⟨ho', hK⟩ => hk _ _ (ho.trans ho') hK
  · obtain ⟨v, nx, w', hr, hn, ho', hK⟩ : ∃ v nx w', (execOp a.eval o).run C.P w = .ok nx w' ∧ (nx = .value v ∨ (nx = .skip ∧ v = undef)) ∧ Out w w' ∧ K (a.put o.dst v) w'.heap := by
      split at hh
      · exact mapV_run hh w hw
      · exact writeV_run hh w hw
    rw [hr]
    rcases hn with rfl | ⟨rfl, rfl⟩
    · exact hk _ _ (ho.trans ho') hK
    · exact hk _ _ (ho.trans ho') hK

theorem opK_wp [DKc] (hC : C.OK) {o : Oper} {a : Act} {h : Heap} {K : Act → Heap → Prop} {next : Act → World → Prop} {Q : Exit → Act → World → Prop} {w0 w : World}
    (hh : opK C o.op ((opsOf o.op).map a.eval) h (fun v h' => K (a.put o.dst v) h')) (hw : w.heap = h) (ho : Out w0 w) (hk : ∀ a w', Out w0 w' → K a w'.heap → next a w') : o.wp C.P a w next Q := by
  unfold opK at hh
  cases hb : Nat.ble (cls C.quiet o.op) 1 with
  | true => rw [hb] at hh; exact rdK_wp (K := fun a => K a h) hC hh hw ho fun a w' hw' ho' hK => hk _ _ ho' (by rw [hw']; exact hK)
  | false => rw [hb] at hh; exact wrK_wp hC hh hw ho hk

theorem aOp_wp [DKc] (hC : C.OK) {i : Nat} {K : Act → Heap → Prop} {a : Act} {h : Heap} {next : Act → World → Prop} {Q : Exit → Act → World → Prop} {w0 w : World}
    (hh : aOp C ops i K a h) (hw : w.heap = h) (ho : Out w0 w) (hk : ∀ a w', Out w0 w' → K a w'.heap → next a w') : wpOp C.P ops Q i next a w := by
  unfold aOp at hh
  unfold wpOp
  split at hh
  · rename_i hi; simp only [hi]; exact hk _ _ ho (by rw [hw]; exact hh)
  · rename_i o hi
    simp only [hi]
    split at hh
    · rename_i hw'; rw [if_pos hw']; exact .inl (opK_wp hC hh hw ho hk)
    · rename_i hw'; rw [if_neg hw']; exact hk _ _ ho (by rw [hw]; exact hh)

theorem aAny_wp [DKc] (hC : C.OK) {Q : Act → Heap → Prop} {Q' : Exit → Act → World → Prop} {w0 : World} (hQ : ∀ a w, Out w0 w → Q a w.heap → Q' .normal a w) :
    ∀ (fuel : Nat) (listed : Array Bool) (a : Act) (w : World), Out w0 w → aAny C md ops Q fuel listed a w.heap → wpAny C.P md ops Q' fuel listed a w
  | 0, _, _, _, ho, h => ⟨h.1, hQ _ _ ho h.2⟩
  | fuel + 1, _, _, _, ho, h => ⟨fun h0 => hQ _ _ ho (h.1 h0), fun i hi => aOp_wp hC (h.2 i hi) rfl ho fun a' w' ho' hK => aAny_wp hC hQ fuel _ a' w' ho' hK⟩

/-! ### Who waits for whom -/

def bitB (m i : Nat) : Bool := Nat.beq (Nat.land (Nat.shiftRight m i) 1) 1
/-- Operation j waits, by whatever chain, for operation i: a table says so. -/
def depB (D : List Nat) (j i : Nat) : Bool := bitB (D.getD j 0) i

def maskOK (md : Region.Mode) (ops : Array Oper) (D : List Nat) : Bool :=
  (List.range ops.size).all fun j => (List.range ops.size).all fun i => !depB D j i || (match ops[j]? with
    | some o => o.after.toList.any fun e => Region.binds md e && Nat.blt e.on j && (Nat.beq e.on i || depB D e.on i)
    | none => false)

def Closed (md : Region.Mode) (ops : Array Oper) (l : Array Bool) : Prop :=
  ∀ j o, ops[j]? = some o → l.getD j false = true → ∀ e ∈ o.after, Region.binds md e = true → l.getD e.on false = true

theorem dep_not {D : List Nat} (hm : maskOK md ops D = true) {i : Nat} {l : Array Bool} (hc : Closed md ops l) (hi : l.getD i false = false) (hlt : i < ops.size) : ∀ (j : Nat), j < ops.size →
    (∀ o, ops[j]? = some o → ∀ e ∈ o.after, Region.binds md e = true → l.getD e.on false = true) → depB D j i = false := by
  intro j
  induction j using Nat.strongRecOn with
  | _ j ih =>
    intro hj hl
    cases hd : depB D j i with
    | false => rfl
    | true =>
      exfalso
      have h := (List.all_eq_true.1 ((List.all_eq_true.1 hm) j (List.mem_range.2 hj))) i (List.mem_range.2 hlt)
      rw [hd] at h
      simp only [Bool.not_true, Bool.false_or] at h
      split at h
      · rename_i o ho
        obtain ⟨e, he, h⟩ := List.any_eq_true.1 h
        simp only [Bool.and_eq_true, Bool.or_eq_true] at h
        obtain ⟨⟨hb, hlt'⟩, h⟩ := h
        have hlt' : e.on < j := Nat.le_of_ble_eq_true hlt'
        have hel := hl o ho e (by simpa using he) hb
        rcases h with h | h
        · rw [Nat.eq_of_beq_eq_true h, hi] at hel; cases hel
        · rw [ih e.on hlt' (by omega) (fun o' ho' => hc e.on o' ho' hel)] at h; cases h
      · cases h

theorem closed_set {l : Array Bool} {j : Nat} (hc : Closed md ops l) (hr : j ∈ Region.ready md ops l) : Closed md ops (l.setIfInBounds j true) := by
  intro k o hk hl e he hb
  have keep : ∀ x, l.getD x false = true → (l.setIfInBounds j true).getD x false = true := fun x hx => getD_set_true hx
  by_cases hkj : k = j
  · subst hkj
    obtain ⟨_, o', ho', hall⟩ := mem_ready.1 hr
    rw [hk] at ho'; cases ho'
    exact keep _ (hall e he hb)
  · rw [getD_set_ne false (Ne.symm hkj)] at hl
    exact keep _ (hc k o hk hl e he hb)

def slotsOf (ops : Array Oper) (o : Oper) : List Tmp :=
  (opsOf o.op).filterMap (fun | .tmp t => some t | _ => none) ++ (match o.guard with
    | some (g, _) => ((ops[g]?).bind (·.dst)).toList
    | none => [])

def apartB (ops : Array Oper) (x y : Oper) : Bool :=
  (match x.dst with
   | some d => !(slotsOf ops y).contains d && (match y.dst with | some d' => !Nat.beq d d' | none => true)
   | none => true) &&
  (match y.dst with
   | some d => !(slotsOf ops x).contains d
   | none => true)

theorem apartB_spec {x y : Oper} (h : apartB ops x y = true) :
    (∀ d, x.dst = some d → d ∉ slotsOf ops y) ∧ (∀ d, x.dst = some d → y.dst ≠ some d) ∧ (∀ d, y.dst = some d → d ∉ slotsOf ops x) := by
  refine ⟨fun d hd => ?_, fun d hd he => ?_, fun d hd => ?_⟩ <;> simp [apartB, hd] at h
  · exact h.1.1
  · simp [he] at h
  · exact h.2

theorem vals_put (o : Oper) (a : Act) (dst : Option Tmp) (v : Value) (h : ∀ d, dst = some d → d ∉ slotsOf ops o) :
    (opsOf o.op).map (a.put dst v).eval = (opsOf o.op).map a.eval := by
  apply List.map_congr_left
  intro x hx
  refine Act.eval_put fun d hd hxd => h d hd ?_
  subst hxd
  exact List.mem_append_left _ (List.mem_filterMap.2 ⟨.tmp d, hx, rfl⟩)

theorem wanted_put' (o : Oper) (a : Act) (dst : Option Tmp) (v : Value) (h : ∀ d, dst = some d → d ∉ slotsOf ops o) :
    Region.wanted o (yielded ops (a.put dst v).tmps) = Region.wanted o (yielded ops a.tmps) := by
  cases dst with
  | none => rfl
  | some d =>
    unfold Region.wanted
    cases hg : o.guard with
    | none => rfl
    | some gw =>
      obtain ⟨g, want⟩ := gw
      have hy : yielded ops (a.put (some d) v).tmps g = yielded ops a.tmps g := by
        unfold yielded
        cases ht : (ops[g]?).bind (·.dst) with
        | none => rfl
        | some t =>
          have hne : d ≠ t := fun e => h d rfl (by subst e; simp [slotsOf, hg, ht])
          simp [Act.put, Array.getElem?_setIfInBounds_ne hne]
      simp only [hy]

/-- In state (a, h) the operation, which leaves memory alone, yields v. -/
def vl (C : Ctx) (ops : Array Oper) (o : Oper) (a : Act) (h : Heap) (v : Value) : Prop :=
  (Region.wanted o (yielded ops a.tmps) = true ∧ rdK C o.op ((opsOf o.op).map a.eval) h (· = v)) ∨ (Region.wanted o (yielded ops a.tmps) = false ∧ v = undef)

theorem vl_put {o : Oper} {a : Act} {h : Heap} {v : Value} (hv : vl C ops o a h v) (dst : Option Tmp) (u : Value) (hd : ∀ d, dst = some d → d ∉ slotsOf ops o) : vl C ops o (a.put dst u) h v := by
  unfold vl at *
  rw [wanted_put' o a dst u hd, vals_put o a dst u hd]
  exact hv

theorem vl_pure {o : Oper} {a : Act} {h h' : Heap} {v : Value} (h0 : cls C.quiet o.op = 0) (hv : vl C ops o a h v) : vl C ops o a h' v :=
  hv.imp (fun ⟨x, y⟩ => ⟨x, rdK_pure h0 y⟩) id

theorem vl_op [DKc] (hC : C.OK) {i : Nat} {o : Oper} {a : Act} {h : Heap} {v : Value} {K : Act → Heap → Prop} (hi : ops[i]? = some o) (hc : Nat.ble (cls C.quiet o.op) 1 = true) (hv : vl C ops o a h v)
    (hK : K (a.put o.dst v) h) : aOp C ops i K a h := by
  unfold aOp
  simp only [hi]
  rcases hv with ⟨hw, hr⟩ | ⟨hw, rfl⟩
  · rw [if_pos hw]
    unfold opK
    rw [hc]
    exact rdK_mono hC hr fun u hu => by subst hu; exact hK
  · rw [if_neg (by rw [hw]; simp)]; exact hK

theorem op_vl [DKc] (hC : C.OK) {i : Nat} {o : Oper} {a : Act} {h : Heap} {K : Act → Heap → Prop} (hi : ops[i]? = some o) (hc : Nat.ble (cls C.quiet o.op) 1 = true) (hh : aOp C ops i K a h) :
    ∃ v, vl C ops o a h v ∧ K (a.put o.dst v) h := by
  unfold aOp at hh
  simp only [hi] at hh
  by_cases hw : Region.wanted o (yielded ops a.tmps) = true
  · rw [if_pos hw] at hh
    unfold opK at hh
    rw [hc] at hh
    obtain ⟨v, hv, hr⟩ := rdK_val hC hh
    exact ⟨v, .inl ⟨hw, hr⟩, hv⟩
  · rw [if_neg hw] at hh
    exact ⟨undef, .inr ⟨by simpa using hw, rfl⟩, hh⟩

/-- The operation j, apart from i: whether i's value is already in its slot makes no difference to it. -/
theorem aOp_put [DKc] (hC : C.OK) {j : Nat} {oi oj : Oper} {v : Value} (hj : ops[j]? = some oj) (hap : apartB ops oi oj = true)
    {K : Act → Heap → Prop} {a : Act} {h : Heap} (hh : aOp C ops j K (a.put oi.dst v) h) :
    aOp C ops j (fun a' h' => (∃ u, a' = a.put oj.dst u) ∧ (Nat.ble (cls C.quiet oj.op) 1 = true → h' = h) ∧ K (a'.put oi.dst v) h') a h := by
  obtain ⟨h1, h2, h3⟩ := apartB_spec hap
  unfold aOp at hh ⊢
  simp only [hj] at hh ⊢
  rw [wanted_put' oj a oi.dst v h1, vals_put oj a oi.dst v h1] at hh
  split at hh
  · rename_i hw
    rw [if_pos hw]
    unfold opK at hh ⊢
    cases hs : Nat.ble (cls C.quiet oj.op) 1 with
    | true =>
      rw [hs] at hh
      exact rdK_mono hC hh fun u hu => ⟨⟨u, rfl⟩, fun _ => rfl, by rw [← Act.put_comm a v u h2]; exact hu⟩
    | false =>
      rw [hs] at hh
      exact wrK_mono hC hh fun u h' hu => ⟨⟨u, rfl⟩, (fun h => by cases h), by rw [← Act.put_comm a v u h2]; exact hu⟩
  · rename_i hw
    rw [if_neg hw]
    exact ⟨⟨undef, rfl⟩, (by intro _; first | rfl | trivial), by rw [← Act.put_comm a v undef h2]; exact hh⟩

/-! ### What was looked at early, and must stay as it was -/

/-- The number of an operation that was taken early, and that memory still gives what it saw. -/
abbrev Watch := List (Nat × (Heap → Prop))
def afterW (D : List Nat) (j : Nat) : Watch → Heap → Prop → Prop
  | [], _, P => P
  | (i, w) :: r, h, P => bif depB D j i then afterW D j r h P else w h ∧ afterW D j r h P
def keepW (D : List Nat) (j : Nat) : Watch → Watch
  | [] => []
  | (i, w) :: r => bif depB D j i then keepW D j r else (i, w) :: keepW D j r

theorem afterW_mono {D : List Nat} {j : Nat} {h : Heap} {P P' : Prop} (hp : P → P') : ∀ {W : Watch}, afterW D j W h P → afterW D j W h P'
  | [], hh => hp hh
  | (i, w) :: r, hh => by
    unfold afterW at hh ⊢
    cases hd : depB D j i with
    | true => rw [hd] at hh; exact afterW_mono hp hh
    | false => rw [hd] at hh; exact ⟨hh.1, afterW_mono hp hh.2⟩

def writes (C : Ctx) (ops : Array Oper) (j : Nat) : Bool := match ops[j]? with
  | some o => !Nat.ble (cls C.quiet o.op) 1
  | none => false

def wK (C : Ctx) (ops : Array Oper) (D : List Nat) (W : Watch) (j : Nat) (h : Heap) (K : Watch → Prop) : Prop :=
  bif writes C ops j then afterW D j W h (K (keepW D j W)) else K W

def wOp (C : Ctx) (ops : Array Oper) (D : List Nat) (W : Watch) (j : Nat) (K : Watch → Act → Heap → Prop) (a : Act) (h : Heap) : Prop :=
  aOp C ops j (fun a' h' => wK C ops D W j h' fun W' => K W' a' h') a h

theorem wOp_mono [DKc] (hC : C.OK) {D : List Nat} {W : Watch} {j : Nat} {K K' : Watch → Act → Heap → Prop} {a : Act} {h : Heap} (hh : wOp C ops D W j K a h) (hk : ∀ W a h, K W a h → K' W a h) : wOp C ops D W j K' a h := by
  refine aOp_mono hC hh fun a' h' h1 => ?_
  unfold wK at h1 ⊢
  cases hw : writes C ops j with
  | true => rw [hw] at h1; exact afterW_mono (hk _ _ _) h1
  | false => rw [hw] at h1; exact hk _ _ _ h1

def wAny (C : Ctx) (md : Region.Mode) (ops : Array Oper) (D : List Nat) (Q : Act → Heap → Prop) : Nat → Watch → Array Bool → Act → Heap → Prop
  | 0, _, listed, a, h => Region.ready md ops listed = [] ∧ Q a h
  | fuel + 1, W, listed, a, h =>
    (Region.ready md ops listed = [] → Q a h) ∧
    ∀ i ∈ Region.ready md ops listed, wOp C ops D W i (fun W' => wAny C md ops D Q fuel W' (listed.setIfInBounds i true)) a h

theorem wAny_nil [DKc] (hC : C.OK) {D : List Nat} {Q : Act → Heap → Prop} : ∀ {fuel : Nat} {listed : Array Bool} {a : Act} {h : Heap}, wAny C md ops D Q fuel [] listed a h → aAny C md ops Q fuel listed a h
  | 0, _, _, _, hh => hh
  | fuel + 1, _, _, _, hh => ⟨hh.1, fun i hi => aOp_mono hC (hh.2 i hi) fun a' h' h1 => by
      unfold wK at h1
      cases hw : writes C ops i with
      | true => rw [hw] at h1; exact wAny_nil hC h1
      | false => rw [hw] at h1; exact wAny_nil hC h1⟩

theorem wAny_less [DKc] (hC : C.OK) {D : List Nat} {Q : Act → Heap → Prop} {x : Nat × (Heap → Prop)} : ∀ {fuel : Nat} {W : Watch} {listed : Array Bool} {a : Act} {h : Heap}, wAny C md ops D Q fuel (x :: W) listed a h → wAny C md ops D Q fuel W listed a h
  | 0, _, _, _, _, hh => hh
  | fuel + 1, W, _, _, _, hh => ⟨hh.1, fun j hj => aOp_mono hC (hh.2 j hj) fun a' h' h1 => by
      unfold wK at h1 ⊢
      cases hw : writes C ops j with
      | false => rw [hw] at h1; exact wAny_less hC h1
      | true =>
        rw [hw] at h1
        obtain ⟨i, w⟩ := x
        simp only [cond_true, afterW, keepW] at h1
        cases hd : depB D j i with
        | true => rw [hd] at h1; exact h1
        | false => rw [hd] at h1; exact afterW_mono (fun hp => wAny_less hC hp) h1.2⟩

theorem wAny_first [DKc] (hC : C.OK) {D : List Nat} (hm : maskOK md ops D = true) {Q : Act → Heap → Prop} {i : Nat} {oi : Oper} {v : Value} {w : Heap → Prop} (hi : ops[i]? = some oi) (hci : Nat.ble (cls C.quiet oi.op) 1 = true) (X : Bool) :
    ∀ (fuel : Nat) (W : Watch) (listed : Array Bool) (a : Act) (h : Heap), Closed md ops listed →
      (∀ j oj, ops[j]? = some oj → j ≠ i → listed.getD j true = false → depB D j i = true ∨ (apartB ops oi oj = true ∧ (X = true ∨ cls C.quiet oi.op = 0 ∨ Nat.ble (cls C.quiet oj.op) 1 = true))) →
      i ∈ Region.ready md ops listed → vl C ops oi a h v → (∀ h', w h' → vl C ops oi a h' v) →
      wAny C md ops D Q fuel (bif X then (i, w) :: W else W) (listed.setIfInBounds i true) (a.put oi.dst v) h → wAny C md ops D Q (fuel + 1) W listed a h := by
  have hwi : writes C ops i = false := by unfold writes; simp only [hi, hci]; rfl
  have self : ∀ (fuel : Nat) (W : Watch) (listed : Array Bool) (a : Act) (h : Heap), vl C ops oi a h v →
      wAny C md ops D Q fuel (bif X then (i, w) :: W else W) (listed.setIfInBounds i true) (a.put oi.dst v) h → wOp C ops D W i (fun W' => wAny C md ops D Q fuel W' (listed.setIfInBounds i true)) a h := by
    intro fuel W listed a h hv H
    refine vl_op hC hi hci hv ?_
    unfold wK
    rw [hwi]
    cases X with
    | true => exact wAny_less hC H
    | false => exact H
  intro fuel
  induction fuel with
  | zero =>
    intro W listed a h _ _ hr hv hw H
    refine ⟨fun h => (by rw [h] at hr; cases hr), fun j hj => ?_⟩
    by_cases hji : j = i
    · subst hji; exact self 0 W listed a h hv H
    · have := ready_mono hj hji
      rw [H.1] at this
      cases this
  | succ fuel ih =>
    intro W listed a h hcl hfree hr hv hw H
    refine ⟨fun h => (by rw [h] at hr; cases hr), fun j hj => ?_⟩
    by_cases hji : j = i
    · subst hji; exact self _ W listed a h hv H
    · have h1 := H.2 j (ready_mono hj hji)
      obtain ⟨hjun, oj, hoj, hall⟩ := mem_ready.1 hj
      have hiun : listed.getD i false = false := by
        have := (mem_ready.1 hr).1
        rcases Nat.lt_or_ge i listed.size with h' | h'
        · simp [h'] at this ⊢; exact this
        · simp [Array.getElem?_eq_none h']
      have hnd : depB D j i = false := dep_not hm hcl hiun (Array.getElem?_eq_some_iff.1 hi).1 j (Array.getElem?_eq_some_iff.1 hoj).1 fun o ho => by rw [hoj] at ho; cases ho; exact hall
      have hap := (hfree j oj hoj hji hjun).resolve_left (by rw [hnd]; simp)
      obtain ⟨_, _, h3⟩ := apartB_spec hap.1
      have h2 := aOp_put hC hoj hap.1 h1
      refine aOp_mono hC h2 fun a' h' ⟨⟨u, hu⟩, hst, hk⟩ => ?_
      have hw' : ∀ h'', w h'' → vl C ops oi a' h'' v := fun h'' hx => by rw [hu]; exact vl_put (hw h'' hx) oj.dst u h3
      have hfree' : ∀ k ok, ops[k]? = some ok → k ≠ i → (listed.setIfInBounds j true).getD k true = false → depB D k i = true ∨ (apartB ops oi ok = true ∧ (X = true ∨ cls C.quiet oi.op = 0 ∨ Nat.ble (cls C.quiet ok.op) 1 = true)) := by
        intro k ok hk hki hun
        refine hfree k ok hk hki ?_
        by_cases hjk : j = k
        · subst hjk; exact hjun
        · rw [getD_set_ne true hjk] at hun; exact hun
      have go : ∀ (W' : Watch), vl C ops oi a' h' v → wAny C md ops D Q fuel (bif X then (i, w) :: W' else W') ((listed.setIfInBounds i true).setIfInBounds j true) (a'.put oi.dst v) h' →
          wAny C md ops D Q (fuel + 1) W' (listed.setIfInBounds j true) a' h' := fun W' hv' hh =>
        ih W' (listed.setIfInBounds j true) a' h' (closed_set hcl hj) hfree' (ready_mono hr (Ne.symm hji)) hv' hw' (by rw [Array.setIfInBounds_comm _ _ hji]; exact hh)
      unfold wK at hk ⊢
      cases hwj : writes C ops j with
      | false =>
        rw [hwj] at hk
        have hcj : Nat.ble (cls C.quiet oj.op) 1 = true := by unfold writes at hwj; simp only [hoj] at hwj; simpa using hwj
        have hh := hst hcj
        subst hh
        exact go W (by rw [hu]; exact vl_put hv oj.dst u h3) hk
      | true =>
        rw [hwj] at hk
        have hcj : Nat.ble (cls C.quiet oj.op) 1 = false := by unfold writes at hwj; simp only [hoj] at hwj; simpa using hwj
        cases X with
        | true =>
          simp only [cond_true, afterW, keepW, hnd, cond_false] at hk
          exact afterW_mono (fun hp => go _ (hw' h' hk.1) hp) hk.2
        | false =>
          have h0 : cls C.quiet oi.op = 0 := by
            rcases hap.2 with h | h | h
            · cases h
            · exact h
            · rw [hcj] at h; cases h
          exact afterW_mono (fun hp => go _ (by rw [hu]; exact vl_pure h0 (vl_put hv oj.dst u h3)) hp) hk

/-! ### Schedules -/
inductive Sched where
  | done
  | take (i : Nat) (s : Sched)
  | early (i : Nat) (s : Sched)
  | alt (i : Nat) (s r : Sched)
  | noalt

def altIdx : Sched → List Nat
  | .alt i _ r => i :: altIdx r
  | _ => []

def depth : Sched → Nat
  | .done => 0
  | .take _ s => depth s + 1
  | .early _ s => depth s + 1
  | .alt _ s r => max (depth s + 1) (depth r)
  | .noalt => 0

def takeable (quiet : FuncId → Bool) (D : List Nat) (ops : Array Oper) (X : Bool) (l : Array Bool) (i : Nat) : Bool :=
  match ops[i]? with
  | none => false
  | some oi => Nat.ble (cls quiet oi.op) 1 && (List.range ops.size).all fun j => Nat.beq j i || l.getD j true || depB D j i || (match ops[j]? with
      | some oj => apartB ops oi oj && (X || Nat.beq (cls quiet oi.op) 0 || Nat.ble (cls quiet oj.op) 1)
      | none => true)

def checkS (quiet : FuncId → Bool) (md : Region.Mode) (D : List Nat) (ops : Array Oper) : Bool → Sched → Array Bool → Bool
  | false, .done, l => (Region.ready md ops l).isEmpty
  | false, .take i s, l => (Region.ready md ops l).contains i && takeable quiet D ops false l i && checkS quiet md D ops false s (l.setIfInBounds i true)
  | false, .early i s, l => (Region.ready md ops l).contains i && takeable quiet D ops true l i && checkS quiet md D ops false s (l.setIfInBounds i true)
  | false, .alt i s r, l => Region.ready md ops l == altIdx (.alt i s r) && checkS quiet md D ops false s (l.setIfInBounds i true) && checkS quiet md D ops true r l
  | true, .alt i s r, l => checkS quiet md D ops false s (l.setIfInBounds i true) && checkS quiet md D ops true r l
  | true, .noalt, _ => true
  | _, _, _ => false

def runA (C : Ctx) (D : List Nat) (ops : Array Oper) (Q : Act → Heap → Prop) : Sched → Watch → Act → Heap → Prop
  | .done, _, a, h => Q a h
  | .take i s, W, a, h => wOp C ops D W i (runA C D ops Q s) a h
  | .early i s, W, a, h => match ops[i]? with
    | some o => ∃ v w, vl C ops o a h v ∧ (∀ h', w h' → vl C ops o a h' v) ∧ runA C D ops Q s ((i, w) :: W) (a.put o.dst v) h
    | none => False
  | .alt i s r, W, a, h => wOp C ops D W i (runA C D ops Q s) a h ∧ runA C D ops Q r W a h
  | .noalt, _, _, _ => True

theorem closed_ready_mem {l : Array Bool} {i : Nat} (h : (Region.ready md ops l).contains i = true) : i ∈ Region.ready md ops l := by simpa using h

theorem takeable_spec {D : List Nat} {X : Bool} {l : Array Bool} {i : Nat} (ht : takeable C.quiet D ops X l i = true) : ∃ oi, ops[i]? = some oi ∧ Nat.ble (cls C.quiet oi.op) 1 = true ∧
    ∀ j oj, ops[j]? = some oj → j ≠ i → l.getD j true = false → depB D j i = true ∨ (apartB ops oi oj = true ∧ (X = true ∨ cls C.quiet oi.op = 0 ∨ Nat.ble (cls C.quiet oj.op) 1 = true)) := by
  unfold takeable at ht
  split at ht
  · cases ht
  · rename_i oi hi
    rw [Bool.and_eq_true] at ht
    obtain ⟨hc, hall⟩ := ht
    refine ⟨oi, hi, hc, ?_⟩
    intro j oj hj hji hun
    have hlt := (Array.getElem?_eq_some_iff.1 hj).1
    have := (List.all_eq_true.1 hall) j (List.mem_range.2 hlt)
    simp only [Bool.or_eq_true, hun, hj, Bool.and_eq_true] at this
    rcases this with ((h1 | h1) | h1) | h1
    · exact absurd (Nat.eq_of_beq_eq_true h1) hji
    · cases h1
    · exact .inl h1
    · refine .inr ⟨h1.1, ?_⟩
      rcases h1.2 with (h | h) | h
      · exact .inl h
      · exact .inr (.inl (Nat.eq_of_beq_eq_true h))
      · exact .inr (.inr h)

theorem runA_any [DKc] (hC : C.OK) {D : List Nat} (hm : maskOK md ops D = true) {Q : Act → Heap → Prop} : ∀ (s : Sched) (alt : Bool) (W : Watch) (l : Array Bool) (a : Act) (h : Heap) (fuel : Nat), depth s ≤ fuel → Closed md ops l →
    checkS C.quiet md D ops alt s l = true → runA C D ops Q s W a h →
    (alt = false → wAny C md ops D Q fuel W l a h) ∧ (alt = true → (∀ i ∈ altIdx s, i ∈ Region.ready md ops l) → ∀ f, fuel = f + 1 → ∀ i ∈ altIdx s, wOp C ops D W i (fun W' => wAny C md ops D Q f W' (l.setIfInBounds i true)) a h)
  | .done, alt, W, l, a, h, fuel, _, _, hk, hr => by
    cases alt with
    | true => cases hk
    | false =>
      refine ⟨fun _ => ?_, fun h => by cases h⟩
      have he : Region.ready md ops l = [] := by simpa [checkS] using hk
      cases fuel with
      | zero => exact ⟨he, hr⟩
      | succ f => exact ⟨fun _ => hr, by rw [he]; simp⟩
  | .take i s, alt, W, l, a, h, fuel, hd, hcl, hk, hr => by
    cases alt with
    | true => cases hk
    | false =>
      refine ⟨fun _ => ?_, fun h => by cases h⟩
      simp only [checkS, Bool.and_eq_true] at hk
      obtain ⟨⟨hmem, ht⟩, hs⟩ := hk
      have hmem := closed_ready_mem hmem
      cases fuel with
      | zero => simp [depth] at hd
      | succ f =>
        obtain ⟨oi, hi, hc, hfree⟩ := takeable_spec ht
        have hr : aOp C ops i (fun a' h' => wK C ops D W i h' fun W' => runA C D ops Q s W' a' h') a h := hr
        obtain ⟨v, hv, hK⟩ := op_vl hC hi hc hr
        have hwi : writes C ops i = false := by unfold writes; simp only [hi, hc]; rfl
        unfold wK at hK
        rw [hwi] at hK
        exact wAny_first (w := fun _ => False) hC hm hi hc false f W l a h hcl hfree hmem hv (fun _ hx => hx.elim) ((runA_any hC hm s false _ _ _ _ f (by simp [depth] at hd; omega) (closed_set hcl hmem) hs hK).1 rfl)
  | .early i s, alt, W, l, a, h, fuel, hd, hcl, hk, hr => by
    cases alt with
    | true => cases hk
    | false =>
      refine ⟨fun _ => ?_, fun h => by cases h⟩
      simp only [checkS, Bool.and_eq_true] at hk
      obtain ⟨⟨hmem, ht⟩, hs⟩ := hk
      have hmem := closed_ready_mem hmem
      cases fuel with
      | zero => simp [depth] at hd
      | succ f =>
        obtain ⟨oi, hi, hc, hfree⟩ := takeable_spec ht
        simp only [runA, hi] at hr
        obtain ⟨v, w, hv, hw, hK⟩ := hr
        exact wAny_first (w := w) hC hm hi hc true f W l a h hcl hfree hmem hv hw ((runA_any hC hm s false _ _ _ _ f (by simp [depth] at hd; omega) (closed_set hcl hmem) hs hK).1 rfl)
  | .alt i s r, alt, W, l, a, h, fuel, hd, hcl, hk, hr => by
    cases alt with
    | true =>
      refine ⟨(fun h => by cases h), fun _ hmem f hf j hj => ?_⟩
      simp only [checkS, Bool.and_eq_true] at hk
      subst hf
      have hd' : depth s + 1 ≤ f + 1 ∧ depth r ≤ f + 1 := by simp [depth] at hd; omega
      simp only [altIdx, List.mem_cons] at hj
      rcases hj with rfl | hj
      · exact wOp_mono hC hr.1 fun W' a' h' hh => (runA_any hC hm s false _ _ _ _ f (by omega) (closed_set hcl (hmem _ (by simp [altIdx]))) hk.1 hh).1 rfl
      · exact (runA_any hC hm r true W l a h (f + 1) hd'.2 hcl hk.2 hr.2).2 rfl (fun k hk' => hmem k (by simp [altIdx, hk'])) f rfl j hj
    | false =>
      refine ⟨fun _ => ?_, fun h => by cases h⟩
      simp only [checkS, Bool.and_eq_true, beq_iff_eq] at hk
      obtain ⟨⟨he, hs⟩, hk⟩ := hk
      cases fuel with
      | zero => simp [depth] at hd
      | succ f =>
        have hd' : depth s + 1 ≤ f + 1 ∧ depth r ≤ f + 1 := by simp [depth] at hd; omega
        refine ⟨fun h0 => by rw [he] at h0; simp [altIdx] at h0, fun j hj => ?_⟩
        have hmem : ∀ k, k ∈ altIdx (.alt i s r) → k ∈ Region.ready md ops l := fun k hk' => by rw [he]; exact hk'
        rw [he] at hj
        simp only [altIdx, List.mem_cons] at hj
        rcases hj with rfl | hj
        · exact wOp_mono hC hr.1 fun W' a' h' hh => (runA_any hC hm s false _ _ _ _ f (by omega) (closed_set hcl (hmem _ (by simp [altIdx]))) hs hh).1 rfl
        · exact (runA_any hC hm r true W l a h (f + 1) hd'.2 hcl hk hr.2).2 rfl (fun k hk' => hmem k (by simp [altIdx, hk'])) f rfl j hj
  | .noalt, alt, W, l, a, h, fuel, _, _, hk, _ => by
    cases alt with
    | true => exact ⟨(fun h => by cases h), fun _ _ _ _ i hi => by simp [altIdx] at hi⟩
    | false => cases hk

theorem closed_none (n : Nat) : Closed md ops (Array.replicate n false) := by
  intro j o _ hl
  simp [Array.getElem?_replicate] at hl
  split at hl <;> simp_all

/-- **A schedule that the Bool has checked serves every order.** -/
theorem wp_sched [DKc] (hC : C.OK) {id : Nat} {D : List Nat} {s : Sched} {Q : Act → Heap → Prop} {Q' : Exit → Act → World → Prop} {a : Act} {w0 w : World} (hm : maskOK .any ops D = true) (hd : depth s ≤ ops.size)
    (hk : checkS C.quiet .any D ops false s (Array.replicate ops.size false) = true) (ho : Out w0 w) (hr : runA C D ops Q s [] a w.heap) (hQ : ∀ a w, Out w0 w → Q a w.heap → Q' .normal a w) :
    (Code.region id ops true).wp C.P Q' a w := by
  refine wp_region_any hC.mixed (aAny_wp hC hQ _ _ _ _ (w0 := w0) ⟨ho.1, ho.2, ho.3, fun d => Nat.le_succ_of_le (ho.4 d)⟩ ?_)
  exact wAny_nil hC ((runA_any hC hm s false [] _ a _ ops.size hd (closed_none _) hk hr).1 rfl)
end
end Go.Hp
