/-
  Sets: the other one; of nil there is nothing.
-/
import Derived.Test.YtmojgekepkpfcaaDoorV5
namespace Go.Proofs.YtmojgekepkpfcaaDoor
set_option linter.unusedVariables false
set_option linter.unusedSimpArgs false
set_option linter.unnecessarySimpa false
open Go Go.Proofs Go.Hp Go.RowKit Go.Shelf
attribute [local go_sem] Oper.semAt_some

theorem room_nil_calls {w : World} {n : Int} (h : n = 0) : Calls Tryd.prog 24 #[.pointer none] w fun e w' => e = .returned (.int .i64 n) ∧ w.grownBy w' none ∧ ∀ B, Below B w w' := by
  have hc := (vset_Set_Room.calls (a1 := none) (h := w.heap) (K := fun r h' => r = n ∧ h' = w.heap) (VRoom_nil ⟨h.symm, rfl⟩) w rfl).2
  refine hc.mono ?_
  rintro e w' ⟨v, rfl, ho, hr⟩
  have hv := vset_Set_Room.ret_elim (K' := fun v h' => v = .int .i64 n ∧ h' = w.heap) (by rintro r h' ⟨rfl, rfl⟩; exact ⟨rfl, rfl⟩) hr
  exact ⟨by rw [hv.1], quiet_grown ho hv.2, fun B => quiet_below B ho hv.2⟩
set_option maxRecDepth 100000 in
set_option maxHeartbeats 2000000 in
theorem all1_nil (k : Nat) (hk : 2 ≤ k) (l Bn n₀ : Nat) (n : Int) (hn0 : n = 0) (hmn : (n + 64 - 1) / 64 = ((0 : Nat) : Int)) (hn : 0 ≤ n ∧ n ≤ 4096) (hbn : Bn < n₀)
    (J Jx : List Int → World → Prop) (W : World) (hJ : AbidesFrom W.heap.size J) (hBn : W.cell? ⟨Bn, 0, none⟩ = some (.pointer none)) (h0 : J [] W) :
    CallsIn Fence.wide k Tryd.prog 34 #[.func (.yield l) #[] #[], .pointer (some ⟨Bn, 0, none⟩)] W fun e W' => (∃ v, e = .returned v) ∧ ((∃ ys, ys = [] ∧ J ys W') ∨ (∃ pre, True ∧ Jx pre W')) := by
  have hk1 : 1 ≤ k - 1 := by omega
  refine callsIn_of_wp Tryd.func34 rfl trivial ?_ rfl
  simp only [Tryd.ntmps34, List.size_toArray, List.length_cons, List.length_nil, Nat.reduceAdd, Nat.reduceSub, Array.replicate_succ, Array.replicate_zero, List.push_toArray, List.append_toArray, List.nil_append, List.cons_append]
  gi_wp2_with (refine ⟨trivial, fun _ => by omega, ?_⟩; gi_at_call 24; refine (callsIn_wide.2 (room_nil_calls hn0)).mono ?_; rintro e w' ⟨rfl, hg1, hb1⟩)
  gi_loopw [10] (fun i wr => i = .int .i64 0 ∧ J [] wr) (fun _ _ => 0)
  case atStart => exact ⟨rfl, hJ _ _ _ none h0 hg1 (by simp)⟩
  case round =>
    obtain ⟨rfl, hJs⟩ := hrel
    gi_wp2
    go_end0
    exact ⟨⟨_, rfl⟩, .inl ⟨_, rfl, hJs⟩⟩

attribute [local irreducible] Go.Hp.iteB Go.Hp.stC Go.Hp.newP
theorem filter_both (p : Nat → Bool) : ∀ l : List Nat, (l.filter p).length + (l.filter fun v => !p v).length = l.length
  | [] => rfl
  | x :: l => by
    have := filter_both p l
    cases h : p x
    · rw [List.filter_cons_of_neg (by simp [h]), List.filter_cons_of_pos (by simp [h])]; simp only [List.length_cons]; omega
    · rw [List.filter_cons_of_pos (by simp [h]), List.filter_cons_of_neg (by simp [h])]; simp only [List.length_cons]; omega
theorem both_len (f : Nat → Bool) (n : Nat) : (memN f n).length + (memN (othF f n) n).length = n := by
  have := filter_both f (List.range n)
  unfold memN
  rw [List.filter_congr (p := othF f n) (q := fun v => !f v) fun v hv => by unfold othF; rw [decide_eq_true (List.mem_range.1 hv)]; rfl]
  rw [this]; simp
theorem oth_oth {f : Nat → Bool} {n : Nat} (h : clean f n) : othF (othF f n) n = f := by
  funext v
  unfold othF
  by_cases c : v < n
  · simp [c]
  · rw [decide_eq_false c, h v (by omega)]; rfl

section
variable {h0 : Base} {R : Rws} {n : Nat} {f : Nat → Bool}
theorem List_nil {h : Heap} {K : Option Addr → Nat → Nat → Heap → Prop} (s : St h0 h R) (hk : ∀ q' c' h', St h0 h' R → K q' 0 c' h') : vset_Set_List none h K := by
  unfold vset_Set_List vset_Set_all
  refine callP1.self (s.new_ fun Bn h1 s1 => ?_)
  refine callP3.self ?_
  unfold slices_Collect_int
  refine callP3.self ?_
  have r0 := s1.rd0
  have z1 : Bn < h1.size := (s1.rows (Bn, [Value.pointer none]) (by simp)).lt
  refine app_leaf (xs := []) (by simp) s1 (fun w hw => ?_) (fun q' c' X h2 o s2 => hk q' c' h2 s2.drop.tail)
  subst hw
  intro l J Jx W hW hJ _ hY hJ0
  refine all1_nil 9 (by omega) l Bn w.heap.size 0 rfl rfl (by omega) z1 J Jx W hJ ?_ hJ0
  refine (hW.cell (p := ⟨Bn, 0, none⟩) z1).trans ?_
  rw [cell_eq]; exact r0 0
theorem Same_nn {h : Heap} {K : Bool → Heap → Prop} (hk : K true h) : vset_Same none none h K := by
  unfold vset_Same; intro j; clear_value j; exact iteB_pos rfl (iteB_pos rfl hk)
theorem Same_sn {h : Heap} {a : VA} {K : Bool → Heap → Prop} (hk : K false h) : vset_Same a.ptr none h K := by
  unfold vset_Same; intro j; clear_value j; exact iteB_neg rfl (iteB_pos rfl (iteB_neg rfl hk))
theorem Same_ns {h : Heap} {a : VA} {K : Bool → Heap → Prop} (hk : K false h) : vset_Same none a.ptr h K := by
  unfold vset_Same; intro j; clear_value j; exact iteB_pos rfl (iteB_pos rfl hk)
end
theorem VOther_of {h : Heap} {m v : Int} {k cl : Nat} {q : Option Addr} {l : List Int} {K : Bool → Heap → Prop} (ht : Tab h) (hl : l.length = k) (vl : valsAt h q (l.map (Value.int .i64)))
    (hk : ∀ h', Ext h h' → K true h') : straitlaw09_VsetOther m q k cl v h K := by
  unfold straitlaw09_VsetOther
  refine iteB_intro (fun c => ?_) (fun c => ?_)
  · exact callP1.self (awake_of (h0 := (h : Base)) ht (St.refl h) fun h2 s2 => hk h2 s2.ext)
  have c := of_decide_eq_false c
  have kl : Keeps (h : Base) [] q (l.map (Value.int .i64)) := Keeps.old vl
  refine callP1.self (VOf_of hl (by omega) kl (St.refl h) fun a h1 s1 => ?_)
  have hn := roomV_le m
  generalize hR : roomV m = n at *
  have hc : clean (putL n l fun _ => false) n := clean_putL (clean_none n)
  generalize hf : putL n l (fun _ => false) = f at *
  refine callP1.self (Other_of (R := vS a n f ++ []) hn (fun x hx => List.mem_append_left _ hx) s1 fun o h2 s2 => ?_)
  intro j
  have J : ∀ h3, St (h : Base) h3 (vS o n (othF f n) ++ (vS a n f ++ [])) → j false h3 := fun h3 s3 => by
    simp -zeta only [j]
    refine iteB_neg rfl ?_
    intro j2
    have J2 : ∀ h4 b, St (h : Base) h4 (vS b n f ++ (vS o n (othF f n) ++ (vS a n f ++ []))) → j2 h4 := fun h4 b s4 => by
      simp -zeta only [j2]
      have va : isV h4 a n f := St.isV s4 fun x hx => List.mem_append_right _ (List.mem_append_right _ (List.mem_append_left _ hx))
      have vo : isV h4 o n (othF f n) := St.isV s4 fun x hx => List.mem_append_right _ (List.mem_append_left _ hx)
      have fin : callP1 (straitlaw09_awake h4) fun x49 h50 => K x49 h50 := callP1.self (awake_of (h0 := (h : Base)) ht s4 fun h5 s5 => hk h5 s5.ext)
      refine iteB_intro (fun d => ?_) (fun d => ?_)
      · have d := of_decide_eq_true d
        refine qcallP1.of _ (fun Q hQ => VRoom_of va hQ) (qcallP1.of _ (fun Q hQ => Has_of hn va hQ) (qcallP1.of _ (fun Q hQ => Has_of hn vo hQ) (iteB_pos ?_ fin)))
        unfold hasV othF
        by_cases e : v < (n : Int)
        · rw [decide_eq_true (show inV v n from ⟨by omega, e⟩), decide_eq_true e, decide_eq_true (show v.toNat < n by omega)]
          cases f v.toNat <;> rfl
        · rw [decide_eq_false (fun h : inV v n => e h.2), decide_eq_false e]; rfl
      · have d := of_decide_eq_false d
        refine qcallP1.of _ (fun Q hQ => Has_of hn va hQ) (qcallP1.of _ (fun Q hQ => Has_of hn vo hQ) (iteB_pos ?_ fin))
        unfold hasV
        rw [decide_eq_false (fun h : inV v n => d h.1)]; rfl
    clear_value j2
    refine iteB_neg rfl (iteB_neg rfl ?_)
    refine callP1.self (Other_of (R := vS o n (othF f n) ++ (vS a n f ++ [])) hn (fun x hx => List.mem_append_left _ hx) s3 fun b h4 s4 => ?_)
    rw [oth_oth hc] at s4
    have vb : isV h4 b n f := St.isV s4 fun x hx => List.mem_append_left _ hx
    have va : isV h4 a n f := St.isV s4 fun x hx => List.mem_append_right _ (List.mem_append_right _ (List.mem_append_left _ hx))
    have vo : isV h4 o n (othF f n) := St.isV s4 fun x hx => List.mem_append_right _ (List.mem_append_left _ hx)
    refine qcallP1.of true (fun Q hQ => VSame_of hn hn hc hc vb va true (by simp) hQ) (iteB_neg rfl ?_)
    refine qcallP1.of _ (fun Q hQ => Len_of hn hc va hQ) (qcallP1.of _ (fun Q hQ => Len_of hn (clean_oth f n) vo hQ) (qcallP1.of _ (fun Q hQ => VRoom_of va hQ) (iteB_neg ?_ (J2 h4 b s4))))
    have := both_len f n
    rw [wrap64 (by omega) (by omega)]
    simp; omega
  clear_value j
  refine qcallP1.of _ (fun Q hQ => VRoom_nil hQ) (iteB_neg rfl ?_)
  refine callP1.self (Put_nil (iteB_neg rfl ?_))
  refine callP1.self (Drop_nil (iteB_neg rfl ?_))
  refine qcallP1.of _ (fun Q hQ => Has_nil hQ) (iteB_neg rfl ?_)
  refine qcallP1.of _ (fun Q hQ => Len_nil hQ) (iteB_neg rfl ?_)
  refine callP3.self (List_nil s2 fun q' c' h3 s3 => iteB_neg rfl ?_)
  refine callP1.self (Other_nil (iteB_neg rfl ?_))
  refine callP1.self (Twin_nil (iteB_neg rfl ?_))
  refine qcallP1.of _ (fun Q hQ => Same_nn hQ) (iteB_neg rfl ?_)
  refine qcallP1.of _ (fun Q hQ => Same_sn hQ) (iteB_neg rfl ?_)
  refine qcallP1.of _ (fun Q hQ => Same_ns hQ) (iteB_neg rfl ?_)
  exact qcallP1.of _ (fun Q hQ => Parts_nil hQ) (J h3 s3)
end Go.Proofs.YtmojgekepkpfcaaDoor
