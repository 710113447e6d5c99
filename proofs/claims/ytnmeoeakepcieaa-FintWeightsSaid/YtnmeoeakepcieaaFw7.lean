/-
  The frame of my own, part 7: a schedule that a program wrote, and that a Bool checks, serves every order.
-/
import Derived.Test.YtnmeoeakepcieaaFw6
namespace Go.Hp
set_option linter.unusedVariables false
set_option linter.unusedSimpArgs false

section
variable {C : Ctx}

theorem rdK_val (hC : C.OK) {o : Op} {vs : List Value} {h : Heap} {K : Value → Prop} (hh : rdK C o vs h K) : ∃ v, K v ∧ rdK C o vs h (· = v) := by
  unfold rdK at hh ⊢
  split at hh
  · exact pureV_val hh
  · split at hh
    · exact readV_val hh
    · exact hC.qval hh
    · exact hh.elim
  · exact hh.elim

theorem rdK_mono (hC : C.OK) {o : Op} {vs : List Value} {h : Heap} {K K' : Value → Prop} (hh : rdK C o vs h K) (hk : ∀ v, K v → K' v) : rdK C o vs h K' := by
  unfold rdK at hh ⊢
  split at hh
  · exact pureV_mono hh hk
  · split at hh
    · exact readV_mono hh hk
    · exact hC.qmono hh hk
    · exact hh.elim
  · exact hh.elim

theorem rdK_pure {o : Op} {vs : List Value} {h h' : Heap} {K : Value → Prop} (h0 : cls C.quiet o = 0) (hh : rdK C o vs h K) : rdK C o vs h' K := by
  unfold rdK at hh ⊢
  rw [h0] at hh ⊢
  exact hh

theorem wrK_mono (hC : C.OK) {o : Op} {vs : List Value} {h : Heap} {K K' : Value → Heap → Prop} (hh : wrK C o vs h K) (hk : ∀ v h', K v h' → K' v h') : wrK C o vs h K' := by
  unfold wrK at hh ⊢
  split at hh
  · exact hC.mono hh hk
  · exact writeV_mono hh hk

theorem opK_mono (hC : C.OK) {o : Op} {vs : List Value} {h : Heap} {K K' : Value → Heap → Prop} (hh : opK C o vs h K) (hk : ∀ v h', K v h' → K' v h') : opK C o vs h K' := by
  unfold opK at hh ⊢
  cases hb : Nat.ble (cls C.quiet o) 1 with
  | true => rw [hb] at hh; exact rdK_mono hC hh fun v hv => hk v h hv
  | false => rw [hb] at hh; exact wrK_mono hC hh hk

/-- Operation number i comes up. -/
def aOp (C : Ctx) (ops : Array Oper) (i : Nat) (K : Act → Heap → Prop) (a : Act) (h : Heap) : Prop :=
  match ops[i]? with
  | none => K a h
  | some o => if Region.wanted o (yielded ops a.tmps) then opK C o.op ((opsOf o.op).map a.eval) h (fun v h' => K (a.put o.dst v) h') else K (a.put o.dst undef) h

variable {ops : Array Oper} {md : Region.Mode}

theorem aOp_mono (hC : C.OK) {i : Nat} {K K' : Act → Heap → Prop} {a : Act} {h : Heap} (hh : aOp C ops i K a h) (hk : ∀ a h, K a h → K' a h) : aOp C ops i K' a h := by
  unfold aOp at hh ⊢
  split at hh
  · exact hk _ _ hh
  · split at hh
    · rename_i hw; rw [if_pos hw]; exact opK_mono hC hh fun v h' hv => hk _ _ hv
    · rename_i hw; rw [if_neg hw]; exact hk _ _ hh

def aAny (C : Ctx) (md : Region.Mode) (ops : Array Oper) (Q : Act → Heap → Prop) : Nat → Array Bool → Act → Heap → Prop
  | 0, listed, a, h => Region.ready md ops listed = [] ∧ Q a h
  | fuel + 1, listed, a, h =>
    (Region.ready md ops listed = [] → Q a h) ∧
    ∀ i ∈ Region.ready md ops listed, aOp C ops i (aAny C md ops Q fuel (listed.setIfInBounds i true)) a h

/-! ### From there to the model's own -/

theorem call_run {P : Program} {ρ : Operand → Value} {o : Oper} {fop : Operand} {args : Array Operand} {tys : Array TypeId} {f : FuncId} {first cap : Array Value} {as : List Value} {w : World} {r : Result Next}
    (hop : o.op = .call { callee := .value fop, args := args, argTypes := tys }) (hvs : (opsOf o.op).map ρ = .func (.func f) first cap :: as)
    (h : (callFunc f (first.toList ++ as ++ cap.toList).toArray).run P w = r) : (execOp ρ o).run P w = r := by
  obtain ⟨dst, op, type, pos, after, guard⟩ := o
  simp only at hop hvs
  subst hop
  simp only [opsOf, List.map_cons, List.cons.injEq] at hvs
  have e : first ++ args.map ρ ++ cap = (first.toList ++ as ++ cap.toList).toArray := by
    rw [← hvs.2]; apply Array.ext'; simp
  simp only [execOp, resolve, hvs.1, Deferred.ofValue]
  simp only [← e] at h
  simp only [bind, Sem.bind, pure, invoke]
  exact h

theorem upon_enter_returned {P : Program} {o : Oper} {a : Act} {next : Act → World → Prop} {Q : Exit → Act → World → Prop} {f : FuncId} {args : Array Value} {w : World} {R : Value → World → Prop}
    (hc : Calls P f args w fun e w' => ∃ v, e = .returned v ∧ R v w') (hk : ∀ v w', R v w' → next (a.put o.dst v) w') : o.upon P a next Q (.ok (.enter f args) w) := by
  rw [Oper.upon_enter]
  refine hc.mono fun e w' ⟨v, he, hR⟩ => ?_
  subst he
  exact hk v w' hR

theorem rdK_wp (hC : C.OK) {o : Oper} {a : Act} {h : Heap} {K : Act → Prop} {next : Act → World → Prop} {Q : Exit → Act → World → Prop} {w0 w : World}
    (hh : rdK C o.op ((opsOf o.op).map a.eval) h (fun v => K (a.put o.dst v))) (hw : w.heap = h) (ho : Out w0 w) (hk : ∀ a w', w'.heap = h → Out w0 w' → K a → next a w') : o.wp C.P a w next Q := by
  obtain ⟨v, hv, he⟩ := rdK_val hC hh
  unfold rdK at he
  unfold Oper.wp
  split at he
  · rw [pureV_run he w]; exact hk _ _ hw ho hv
  · split at he
    · rename_i t x hop
      rw [← hop] at he
      rw [readV_run he w hw]; exact hk _ _ hw ho hv
    · rename_i fop args tys f first cap as hop hvs
      rcases hC.qcall he w hw with ⟨hr, hc⟩ | hr
      rotate_left
      · rw [call_run hop hvs hr]; exact hk _ _ hw ho hv
      rw [call_run hop hvs hr]
      exact upon_enter_returned (R := fun u w' => u = v ∧ Out w w' ∧ w'.heap = h) (hc.mono fun e w' ⟨he, ho', hh'⟩ => ⟨v, he, rfl, ho', hh'⟩)
        fun u w' ⟨hu, ho', hh'⟩ => by subst hu; exact hk _ _ hh' (ho.trans ho') hv
    · exact he.elim
  · exact he.elim

theorem wrK_wp (hC : C.OK) {o : Oper} {a : Act} {h : Heap} {K : Act → Heap → Prop} {next : Act → World → Prop} {Q : Exit → Act → World → Prop} {w0 w : World}
    (hh : wrK C o.op ((opsOf o.op).map a.eval) h (fun v h' => K (a.put o.dst v) h')) (hw : w.heap = h) (ho : Out w0 w) (hk : ∀ a w', Out w0 w' → K a w'.heap → next a w') : o.wp C.P a w next Q := by
  unfold wrK at hh
  unfold Oper.wp
  split at hh
  · rename_i fop args tys f first cap as hop hvs
    obtain ⟨hr, hc⟩ := hC.call hh w hw
    rw [call_run hop hvs hr]
    exact upon_enter_returned (R := fun v w' => Out w w' ∧ K (a.put o.dst v) w'.heap) hc fun v w' ⟨ho', hK⟩ => hk _ _ (ho.trans ho') hK
  · obtain ⟨v, nx, w', hr, hn, ho', hK⟩ := writeV_run hh w hw
    rw [hr]
    rcases hn with rfl | ⟨rfl, rfl⟩
    · exact hk _ _ (ho.trans ho') hK
    · exact hk _ _ (ho.trans ho') hK

theorem opK_wp (hC : C.OK) {o : Oper} {a : Act} {h : Heap} {K : Act → Heap → Prop} {next : Act → World → Prop} {Q : Exit → Act → World → Prop} {w0 w : World}
    (hh : opK C o.op ((opsOf o.op).map a.eval) h (fun v h' => K (a.put o.dst v) h')) (hw : w.heap = h) (ho : Out w0 w) (hk : ∀ a w', Out w0 w' → K a w'.heap → next a w') : o.wp C.P a w next Q := by
  unfold opK at hh
  cases hb : Nat.ble (cls C.quiet o.op) 1 with
  | true => rw [hb] at hh; exact rdK_wp (K := fun a => K a h) hC hh hw ho fun a w' hw' ho' hK => hk _ _ ho' (by rw [hw']; exact hK)
  | false => rw [hb] at hh; exact wrK_wp hC hh hw ho hk

theorem aOp_wp (hC : C.OK) {i : Nat} {K : Act → Heap → Prop} {a : Act} {h : Heap} {next : Act → World → Prop} {Q : Exit → Act → World → Prop} {w0 w : World}
    (hh : aOp C ops i K a h) (hw : w.heap = h) (ho : Out w0 w) (hk : ∀ a w', Out w0 w' → K a w'.heap → next a w') : wpOp C.P ops Q i next a w := by
  unfold aOp at hh
  unfold wpOp
  split at hh
  · rename_i hi; simp only [hi]; exact hk _ _ ho (by rw [hw]; exact hh)
  · rename_i o hi
    simp only [hi]
    split at hh
    · rename_i hw'; rw [if_pos hw']; exact .inl (opK_wp hC hh hw ho hk)
    · rename_i hw'; rw [if_neg hw']; exact hk _ _ ho (by rw [hw]; exact hh)

theorem aAny_wp (hC : C.OK) {Q : Act → Heap → Prop} {Q' : Exit → Act → World → Prop} {w0 : World} (hQ : ∀ a w, Out w0 w → Q a w.heap → Q' .normal a w) :
    ∀ (fuel : Nat) (listed : Array Bool) (a : Act) (w : World), Out w0 w → aAny C md ops Q fuel listed a w.heap → wpAny C.P md ops Q' fuel listed a w
  | 0, _, _, _, ho, h => ⟨h.1, hQ _ _ ho h.2⟩
  | fuel + 1, _, _, _, ho, h => ⟨fun h0 => hQ _ _ ho (h.1 h0), fun i hi => aOp_wp hC (h.2 i hi) rfl ho fun a' w' ho' hK => aAny_wp hC hQ fuel _ a' w' ho' hK⟩

/-! ### What may be taken first -/

/-- Operation j waits, by whatever chain, for operation i. -/
def depOn (md : Region.Mode) (ops : Array Oper) : Nat → Nat → Nat → Bool
  | 0, _, _ => false
  | n + 1, j, i => match ops[j]? with
    | none => false
    | some o => o.after.toList.any fun e => Region.binds md e && (Nat.beq e.on i || depOn md ops n e.on i)

def Closed (md : Region.Mode) (ops : Array Oper) (l : Array Bool) : Prop :=
  ∀ j o, ops[j]? = some o → l.getD j false = true → ∀ e ∈ o.after, Region.binds md e = true → l.getD e.on false = true

theorem dep_not : ∀ (n j i : Nat) (l : Array Bool), Closed md ops l → l.getD i false = false →
    (∀ o, ops[j]? = some o → ∀ e ∈ o.after, Region.binds md e = true → l.getD e.on false = true) → depOn md ops n j i = false
  | 0, _, _, _, _, _, _ => rfl
  | n + 1, j, i, l, hc, hi, hj => by
    unfold depOn
    cases ho : ops[j]? with
    | none => rfl
    | some o =>
      simp only []
      rw [List.any_eq_false]
      intro e he
      cases hb : Region.binds md e with
      | false => simp
      | true =>
        have hl := hj o ho e (by simpa using he) hb
        have h1 : Nat.beq e.on i = false := by
          cases hq : Nat.beq e.on i with
          | false => rfl
          | true => rw [Nat.eq_of_beq_eq_true hq, hi] at hl; cases hl
        have h2 := dep_not n e.on i l hc hi fun o' ho' => hc e.on o' ho' hl
        simp [h1, h2]

theorem closed_set {l : Array Bool} {j : Nat} (hc : Closed md ops l) (hr : j ∈ Region.ready md ops l) : Closed md ops (l.setIfInBounds j true) := by
  intro k o hk hl e he hb
  have keep : ∀ x, l.getD x false = true → (l.setIfInBounds j true).getD x false = true := fun x hx => getD_set_true hx
  by_cases hkj : k = j
  · subst hkj
    obtain ⟨_, o', ho', hall⟩ := mem_ready.1 hr
    rw [hk] at ho'; cases ho'
    exact keep _ (hall e he hb)
  · rw [getD_set_ne false (Ne.symm hkj)] at hl
    exact keep _ (hc k o hk hl e he hb)

def slotsOf (ops : Array Oper) (o : Oper) : List Tmp :=
  (opsOf o.op).filterMap (fun | .tmp t => some t | _ => none) ++ (match o.guard with
    | some (g, _) => ((ops[g]?).bind (·.dst)).toList
    | none => [])

def apartB (ops : Array Oper) (x y : Oper) : Bool :=
  (match x.dst with
   | some d => !(slotsOf ops y).contains d && (match y.dst with | some d' => !Nat.beq d d' | none => true)
   | none => true) &&
  (match y.dst with
   | some d => !(slotsOf ops x).contains d
   | none => true)

theorem apartB_spec {x y : Oper} (h : apartB ops x y = true) :
    (∀ d, x.dst = some d → d ∉ slotsOf ops y) ∧ (∀ d, x.dst = some d → y.dst ≠ some d) ∧ (∀ d, y.dst = some d → d ∉ slotsOf ops x) := by
  refine ⟨fun d hd => ?_, fun d hd he => ?_, fun d hd => ?_⟩ <;> simp [apartB, hd] at h
  · exact h.1.1
  · simp [he] at h
  · exact h.2

theorem vals_put (o : Oper) (a : Act) (dst : Option Tmp) (v : Value) (h : ∀ d, dst = some d → d ∉ slotsOf ops o) :
    (opsOf o.op).map (a.put dst v).eval = (opsOf o.op).map a.eval := by
  apply List.map_congr_left
  intro x hx
  refine Act.eval_put fun d hd hxd => h d hd ?_
  subst hxd
  exact List.mem_append_left _ (List.mem_filterMap.2 ⟨.tmp d, hx, rfl⟩)

theorem wanted_put' (o : Oper) (a : Act) (dst : Option Tmp) (v : Value) (h : ∀ d, dst = some d → d ∉ slotsOf ops o) :
    Region.wanted o (yielded ops (a.put dst v).tmps) = Region.wanted o (yielded ops a.tmps) := by
  cases dst with
  | none => rfl
  | some d =>
    unfold Region.wanted
    cases hg : o.guard with
    | none => rfl
    | some gw =>
      obtain ⟨g, want⟩ := gw
      have hy : yielded ops (a.put (some d) v).tmps g = yielded ops a.tmps g := by
        unfold yielded
        cases ht : (ops[g]?).bind (·.dst) with
        | none => rfl
        | some t =>
          have hne : d ≠ t := fun e => h d rfl (by subst e; simp [slotsOf, hg, ht])
          simp [Act.put, Array.getElem?_setIfInBounds_ne hne]
      simp only [hy]

/-- In state (a, h) the operation, which leaves memory alone, yields v. -/
def vl (C : Ctx) (ops : Array Oper) (o : Oper) (a : Act) (h : Heap) (v : Value) : Prop :=
  (Region.wanted o (yielded ops a.tmps) = true ∧ rdK C o.op ((opsOf o.op).map a.eval) h (· = v)) ∨ (Region.wanted o (yielded ops a.tmps) = false ∧ v = undef)

theorem vl_put {o : Oper} {a : Act} {h : Heap} {v : Value} (hv : vl C ops o a h v) (dst : Option Tmp) (u : Value) (hd : ∀ d, dst = some d → d ∉ slotsOf ops o) : vl C ops o (a.put dst u) h v := by
  unfold vl at *
  rw [wanted_put' o a dst u hd, vals_put o a dst u hd]
  exact hv

theorem vl_pure {o : Oper} {a : Act} {h h' : Heap} {v : Value} (h0 : cls C.quiet o.op = 0) (hv : vl C ops o a h v) : vl C ops o a h' v :=
  hv.imp (fun ⟨x, y⟩ => ⟨x, rdK_pure h0 y⟩) id

theorem vl_op (hC : C.OK) {i : Nat} {o : Oper} {a : Act} {h : Heap} {v : Value} {K : Act → Heap → Prop} (hi : ops[i]? = some o) (hc : Nat.ble (cls C.quiet o.op) 1 = true) (hv : vl C ops o a h v)
    (hK : K (a.put o.dst v) h) : aOp C ops i K a h := by
  unfold aOp
  simp only [hi]
  rcases hv with ⟨hw, hr⟩ | ⟨hw, rfl⟩
  · rw [if_pos hw]
    unfold opK
    rw [hc]
    exact rdK_mono hC hr fun u hu => by subst hu; exact hK
  · rw [if_neg (by rw [hw]; simp)]; exact hK

theorem op_vl (hC : C.OK) {i : Nat} {o : Oper} {a : Act} {h : Heap} {K : Act → Heap → Prop} (hi : ops[i]? = some o) (hc : Nat.ble (cls C.quiet o.op) 1 = true) (hh : aOp C ops i K a h) :
    ∃ v, vl C ops o a h v ∧ K (a.put o.dst v) h := by
  unfold aOp at hh
  simp only [hi] at hh
  by_cases hw : Region.wanted o (yielded ops a.tmps) = true
  · rw [if_pos hw] at hh
    unfold opK at hh
    rw [hc] at hh
    obtain ⟨v, hv, hr⟩ := rdK_val hC hh
    exact ⟨v, .inl ⟨hw, hr⟩, hv⟩
  · rw [if_neg hw] at hh
    exact ⟨undef, .inr ⟨by simpa using hw, rfl⟩, hh⟩

/-- The operation j, apart from i: whether i's value is already in its slot makes no difference to it. -/
theorem aOp_put (hC : C.OK) {j : Nat} {oi oj : Oper} {v : Value} (hj : ops[j]? = some oj) (hap : apartB ops oi oj = true) (hs : cls C.quiet oi.op = 0 ∨ Nat.ble (cls C.quiet oj.op) 1 = true)
    {K : Act → Heap → Prop} {a : Act} {h : Heap} (hv : vl C ops oi a h v) (hh : aOp C ops j K (a.put oi.dst v) h) :
    aOp C ops j (fun a' h' => vl C ops oi a' h' v ∧ K (a'.put oi.dst v) h') a h := by
  obtain ⟨h1, h2, h3⟩ := apartB_spec hap
  unfold aOp at hh ⊢
  simp only [hj] at hh ⊢
  rw [wanted_put' oj a oi.dst v h1, vals_put oj a oi.dst v h1] at hh
  split at hh
  · rename_i hw
    rw [if_pos hw]
    rcases hs with hs | hs
    · exact opK_mono hC hh fun u h' hu => ⟨vl_pure hs (vl_put hv oj.dst u h3), by rw [← Act.put_comm a v u h2]; exact hu⟩
    · unfold opK at hh ⊢
      rw [hs] at hh ⊢
      exact rdK_mono hC hh fun u hu => ⟨vl_put hv oj.dst u h3, by rw [← Act.put_comm a v u h2]; exact hu⟩
  · rename_i hw
    rw [if_neg hw]
    exact ⟨vl_put hv oj.dst undef h3, by rw [← Act.put_comm a v undef h2]; exact hh⟩

theorem aAny_first (hC : C.OK) {Q : Act → Heap → Prop} {i : Nat} {oi : Oper} {v : Value} (hi : ops[i]? = some oi) (hci : Nat.ble (cls C.quiet oi.op) 1 = true) (N : Nat) :
    ∀ (fuel : Nat) (listed : Array Bool) (a : Act) (h : Heap), Closed md ops listed →
      (∀ j oj, ops[j]? = some oj → j ≠ i → listed.getD j true = false → depOn md ops N j i = true ∨ (apartB ops oi oj = true ∧ (cls C.quiet oi.op = 0 ∨ Nat.ble (cls C.quiet oj.op) 1 = true))) →
      i ∈ Region.ready md ops listed → vl C ops oi a h v →
      aAny C md ops Q fuel (listed.setIfInBounds i true) (a.put oi.dst v) h → aAny C md ops Q (fuel + 1) listed a h := by
  intro fuel
  induction fuel with
  | zero =>
    intro listed a h _ _ hr hv H
    refine ⟨fun h => (by rw [h] at hr; cases hr), fun j hj => ?_⟩
    by_cases hji : j = i
    · subst hji; exact vl_op hC hi hci hv H
    · have := ready_mono hj hji
      rw [H.1] at this
      cases this
  | succ fuel ih =>
    intro listed a h hcl hfree hr hv H
    refine ⟨fun h => (by rw [h] at hr; cases hr), fun j hj => ?_⟩
    by_cases hji : j = i
    · subst hji; exact vl_op hC hi hci hv H
    · have h1 := H.2 j (ready_mono hj hji)
      obtain ⟨hjun, oj, hoj, hall⟩ := mem_ready.1 hj
      have hiun : listed.getD i false = false := by
        have := (mem_ready.1 hr).1
        rcases Nat.lt_or_ge i listed.size with h' | h'
        · simp [h'] at this ⊢; exact this
        · simp [Array.getElem?_eq_none h']
      have hnd : depOn md ops N j i = false := dep_not N j i listed hcl hiun fun o ho => by rw [hoj] at ho; cases ho; exact hall
      have hap := (hfree j oj hoj hji hjun).resolve_left (by rw [hnd]; simp)
      have h2 := aOp_put hC hoj hap.1 hap.2 hv h1
      refine aOp_mono hC h2 fun a' h' h3 => ih (listed.setIfInBounds j true) a' h' (closed_set hcl hj) ?_ (ready_mono hr (Ne.symm hji)) h3.1 ?_
      · intro k ok hk hki hun
        refine hfree k ok hk hki ?_
        by_cases hjk : j = k
        · subst hjk; exact hjun
        · rw [getD_set_ne true hjk] at hun; exact hun
      · rw [Array.setIfInBounds_comm _ _ hji]
        exact h3.2

/-! ### Schedules -/
inductive Sched where
  | done
  | take (i : Nat) (s : Sched)
  | alt (i : Nat) (s r : Sched)
  | noalt

def altIdx : Sched → List Nat
  | .alt i _ r => i :: altIdx r
  | _ => []

def depth : Sched → Nat
  | .done => 0
  | .take _ s => depth s + 1
  | .alt _ s r => max (depth s + 1) (depth r)
  | .noalt => 0

def takeable (quiet : FuncId → Bool) (md : Region.Mode) (ops : Array Oper) (l : Array Bool) (i : Nat) : Bool :=
  match ops[i]? with
  | none => false
  | some oi => Nat.ble (cls quiet oi.op) 1 && (List.range ops.size).all fun j => Nat.beq j i || l.getD j true || depOn md ops ops.size j i || (match ops[j]? with
      | some oj => apartB ops oi oj && (Nat.beq (cls quiet oi.op) 0 || Nat.ble (cls quiet oj.op) 1)
      | none => true)

def checkS (quiet : FuncId → Bool) (md : Region.Mode) (ops : Array Oper) : Bool → Sched → Array Bool → Bool
  | false, .done, l => (Region.ready md ops l).isEmpty
  | false, .take i s, l => (Region.ready md ops l).contains i && takeable quiet md ops l i && checkS quiet md ops false s (l.setIfInBounds i true)
  | false, .alt i s r, l => Region.ready md ops l == altIdx (.alt i s r) && checkS quiet md ops false s (l.setIfInBounds i true) && checkS quiet md ops true r l
  | true, .alt i s r, l => checkS quiet md ops false s (l.setIfInBounds i true) && checkS quiet md ops true r l
  | true, .noalt, _ => true
  | _, _, _ => false

def runA (C : Ctx) (ops : Array Oper) (Q : Act → Heap → Prop) : Sched → Act → Heap → Prop
  | .done, a, h => Q a h
  | .take i s, a, h => aOp C ops i (runA C ops Q s) a h
  | .alt i s r, a, h => aOp C ops i (runA C ops Q s) a h ∧ runA C ops Q r a h
  | .noalt, _, _ => True

theorem closed_ready_mem {l : Array Bool} {i : Nat} (h : (Region.ready md ops l).contains i = true) : i ∈ Region.ready md ops l := by simpa using h

theorem runA_any (hC : C.OK) {Q : Act → Heap → Prop} : ∀ (s : Sched) (alt : Bool) (l : Array Bool) (a : Act) (h : Heap) (fuel : Nat), depth s ≤ fuel → Closed md ops l →
    checkS C.quiet md ops alt s l = true → runA C ops Q s a h →
    (alt = false → aAny C md ops Q fuel l a h) ∧ (alt = true → (∀ i ∈ altIdx s, i ∈ Region.ready md ops l) → ∀ f, fuel = f + 1 → ∀ i ∈ altIdx s, aOp C ops i (aAny C md ops Q f (l.setIfInBounds i true)) a h)
  | .done, alt, l, a, h, fuel, _, _, hk, hr => by
    cases alt with
    | true => cases hk
    | false =>
      refine ⟨fun _ => ?_, fun h => by cases h⟩
      have he : Region.ready md ops l = [] := by simpa [checkS] using hk
      cases fuel with
      | zero => exact ⟨he, hr⟩
      | succ f => exact ⟨fun _ => hr, by rw [he]; simp⟩
  | .take i s, alt, l, a, h, fuel, hd, hcl, hk, hr => by
    cases alt with
    | true => cases hk
    | false =>
      refine ⟨fun _ => ?_, fun h => by cases h⟩
      simp only [checkS, Bool.and_eq_true] at hk
      obtain ⟨⟨hm, ht⟩, hs⟩ := hk
      have hm := closed_ready_mem hm
      cases fuel with
      | zero => simp [depth] at hd
      | succ f =>
        unfold takeable at ht
        split at ht
        · cases ht
        · rename_i oi hi
          rw [Bool.and_eq_true] at ht
          obtain ⟨hc, hall⟩ := ht
          obtain ⟨v, hv, hK⟩ := op_vl hC hi hc hr
          refine aAny_first hC hi hc ops.size f l a h hcl ?_ hm hv ((runA_any hC s false _ _ _ f (by simp [depth] at hd; omega) (closed_set hcl hm) hs hK).1 rfl)
          intro j oj hj hji hun
          have hlt := (Array.getElem?_eq_some_iff.1 hj).1
          have := (List.all_eq_true.1 hall) j (List.mem_range.2 hlt)
          simp only [Bool.or_eq_true, hun, hj, Bool.and_eq_true] at this
          rcases this with ((h1 | h1) | h1) | h1
          · exact absurd (Nat.eq_of_beq_eq_true h1) hji
          · cases h1
          · exact .inl h1
          · exact .inr ⟨h1.1, h1.2.imp Nat.eq_of_beq_eq_true id⟩
  | .alt i s r, alt, l, a, h, fuel, hd, hcl, hk, hr => by
    cases alt with
    | true =>
      refine ⟨(fun h => by cases h), fun _ hmem f hf j hj => ?_⟩
      simp only [checkS, Bool.and_eq_true] at hk
      subst hf
      have hd' : depth s + 1 ≤ f + 1 ∧ depth r ≤ f + 1 := by simp [depth] at hd; omega
      simp only [altIdx, List.mem_cons] at hj
      rcases hj with rfl | hj
      · exact aOp_mono hC hr.1 fun a' h' hh => (runA_any hC s false _ _ _ f (by omega) (closed_set hcl (hmem _ (by simp [altIdx]))) hk.1 hh).1 rfl
      · exact (runA_any hC r true l a h (f + 1) hd'.2 hcl hk.2 hr.2).2 rfl (fun k hk' => hmem k (by simp [altIdx, hk'])) f rfl j hj
    | false =>
      refine ⟨fun _ => ?_, fun h => by cases h⟩
      simp only [checkS, Bool.and_eq_true, beq_iff_eq] at hk
      obtain ⟨⟨he, hs⟩, hk⟩ := hk
      cases fuel with
      | zero => simp [depth] at hd
      | succ f =>
        have hd' : depth s + 1 ≤ f + 1 ∧ depth r ≤ f + 1 := by simp [depth] at hd; omega
        refine ⟨fun h0 => by rw [he] at h0; simp [altIdx] at h0, fun j hj => ?_⟩
        have hmem : ∀ k, k ∈ altIdx (.alt i s r) → k ∈ Region.ready md ops l := fun k hk' => by rw [he]; exact hk'
        rw [he] at hj
        simp only [altIdx, List.mem_cons] at hj
        rcases hj with rfl | hj
        · exact aOp_mono hC hr.1 fun a' h' hh => (runA_any hC s false _ _ _ f (by omega) (closed_set hcl (hmem _ (by simp [altIdx]))) hs hh).1 rfl
        · exact (runA_any hC r true l a h (f + 1) hd'.2 hcl hk hr.2).2 rfl (fun k hk' => hmem k (by simp [altIdx, hk'])) f rfl j hj
  | .noalt, alt, l, a, h, fuel, _, _, hk, _ => by
    cases alt with
    | true => exact ⟨(fun h => by cases h), fun _ _ _ _ i hi => by simp [altIdx] at hi⟩
    | false => cases hk

theorem closed_none (n : Nat) : Closed md ops (Array.replicate n false) := by
  intro j o _ hl
  simp [Array.getElem?_replicate] at hl
  split at hl <;> simp_all

/-- **A schedule that the Bool has checked serves every order.** -/
theorem wp_sched (hC : C.OK) {id : Nat} {s : Sched} {Q : Act → Heap → Prop} {Q' : Exit → Act → World → Prop} {a : Act} {w0 w : World} (hd : depth s ≤ ops.size)
    (hk : checkS C.quiet .any ops false s (Array.replicate ops.size false) = true) (ho : Out w0 w) (hr : runA C ops Q s a w.heap) (hQ : ∀ a w, Out w0 w → Q a w.heap → Q' .normal a w) :
    (Code.region id ops true).wp C.P Q' a w := by
  refine wp_region_any hC.mixed (aAny_wp hC hQ _ _ _ _ (w0 := w0) ⟨ho.1, ho.2, ho.3⟩ ?_)
  exact (runA_any hC s false _ a _ ops.size hd (closed_none _) hk hr).1 rfl
end
end Go.Hp
