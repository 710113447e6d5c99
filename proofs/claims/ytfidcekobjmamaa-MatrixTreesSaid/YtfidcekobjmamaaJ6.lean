/-
  Matrices: unlike numbers, awake, and the law of a tree's matrix.
-/
import Derived.Test.YtfidcekobjmamaaJ5
import Derived.Test.YtfidcekobjmamaaRd
namespace Go.Proofs.Ytfidcekobjmamaa
set_option linter.unusedVariables false
set_option linter.unusedSimpArgs false
set_option linter.unnecessarySimpa false
open Go.Hp Go.RowKit
attribute [local irreducible] Go.Hp.iteB Go.Hp.stC Go.Hp.newP

def addK (x : Int) : List Int → List Int
  | [] => [x]
  | k :: r => if x = k then k :: r else k :: addK x r
theorem addK_mem {x y : Int} : ∀ {ks : List Int}, y ∈ addK x ks ↔ y ∈ ks ∨ y = x
  | [] => by simp [addK]
  | k :: r => by
    unfold addK
    split
    · rename_i e
      subst e
      simp only [List.mem_cons]
      constructor
      · intro h; exact .inl h
      · rintro (h | h)
        · exact h
        · exact .inl h
    · rw [List.mem_cons, addK_mem, List.mem_cons, or_assoc]
theorem addK_nodup {x : Int} : ∀ {ks : List Int}, ks.Nodup → (addK x ks).Nodup
  | [], _ => by simp [addK]
  | k :: r, h => by
    obtain ⟨h1, h2⟩ := List.nodup_cons.1 h
    unfold addK
    split
    · exact h
    · rename_i e
      refine List.nodup_cons.2 ⟨fun hm => ?_, addK_nodup h2⟩
      rcases addK_mem.1 hm with hm | hm
      · exact h1 hm
      · exact e hm.symm
theorem addK_len {x : Int} : ∀ {ks : List Int}, (addK x ks).length ≤ ks.length + 1
  | [] => by simp [addK]
  | k :: r => by
    have := addK_len (x := x) (ks := r)
    unfold addK
    split <;> simp only [List.length_cons] <;> omega
theorem putM_kvB {x : Int} : ∀ {ks : List Int}, putM (.int .i64 x) (.bool true) (kvB ks) = kvB (addK x ks)
  | [] => rfl
  | k :: r => by
    have ih := putM_kvB (x := x) (ks := r)
    have e : keyEq (.int .i64 x) (.int .i64 k) = decide (x = k) := by
      show (x == k) = decide (x = k)
      by_cases c : x = k <;> simp [c]
    show (bif keyEq (.int .i64 x) (.int .i64 k) then (Value.int .i64 x, Value.bool true) :: kvB r else (Value.int .i64 k, Value.bool true) :: putM (.int .i64 x) (.bool true) (kvB r)) = kvB (if x = k then k :: r else k :: addK x r)
    rw [e, ih]
    by_cases c : x = k
    · rw [decide_eq_true c, if_pos c, c]; rfl
    · rw [decide_eq_false c, if_neg c]; rfl
theorem kvB_key {ks : List Int} : ∀ e ∈ kvB ks, isKey (.int .i64) e.1 = true := fun e he => by
  obtain ⟨k, _, rfl⟩ := List.mem_map.1 he; rfl
/-- Which places were looked at. -/
def seenM (n u v x y : Nat) : Prop := (x < u ∧ x < y ∧ y < n) ∨ (x = u ∧ x < y ∧ y < v)
structure KeysM (n : Nat) (M : Nat → Nat → Int) (u v : Nat) (ks : List Int) : Prop where
  nd : ks.Nodup
  mem : ∀ k, k ∈ ks ↔ ∃ x y, seenM n u v x y ∧ k = M x y
  len : ks.length ≤ u * n + v
section
variable {h0 : Base} {R : Rws} {n : Nat} {M : Nat → Nat → Int}
theorem KeysM.skip {u v : Nat} {ks : List Int} (k : KeysM n M u v ks) (h : ¬ u < v) : KeysM n M u (v + 1) ks := by
  refine ⟨k.nd, fun x => (k.mem x).trans ⟨?_, ?_⟩, by have := k.len; omega⟩
  · rintro ⟨a, b, h1, h2⟩; exact ⟨a, b, by unfold seenM at *; omega, h2⟩
  · rintro ⟨a, b, h1, h2⟩; exact ⟨a, b, by unfold seenM at *; omega, h2⟩
theorem KeysM.put {u v : Nat} {ks : List Int} (k : KeysM n M u v ks) (h : u < v) : KeysM n M u (v + 1) (addK (M u v) ks) := by
  refine ⟨addK_nodup k.nd, fun x => addK_mem.trans ⟨?_, ?_⟩, by have := k.len; have := addK_len (x := M u v) (ks := ks); omega⟩
  · rintro (h1 | h1)
    · obtain ⟨a, b, h2, h3⟩ := (k.mem x).1 h1
      exact ⟨a, b, by unfold seenM at *; omega, h3⟩
    · exact ⟨u, v, by unfold seenM; omega, h1⟩
  · rintro ⟨a, b, h1, h2⟩
    by_cases c : a = u ∧ b = v
    · rw [c.1, c.2] at h2; exact .inr h2
    · exact .inl ((k.mem x).2 ⟨a, b, by unfold seenM at *; omega, h2⟩)
theorem KeysM.next {u : Nat} {ks : List Int} (k : KeysM n M u n ks) : KeysM n M (u + 1) 0 ks := by
  refine ⟨k.nd, fun x => (k.mem x).trans ⟨?_, ?_⟩, by have := k.len; rw [Nat.add_mul, Nat.one_mul]; omega⟩
  · rintro ⟨a, b, h1, h2⟩; exact ⟨a, b, by unfold seenM at *; omega, h2⟩
  · rintro ⟨a, b, h1, h2⟩; exact ⟨a, b, by unfold seenM at *; omega, h2⟩
theorem ptr_same {q : Option Addr} {c : Nat} : (if c = 0 then q else q.map fun a => a.add (0 * 1)) = q := by
  split
  · rfl
  · cases q <;> rfl
theorem values_l1 {K4 : Heap → Prop} {b u : Nat} {p qr q9 : Option Addr} {c cr l9 c9 : Nat} {c10 c11 : Int} (hn : n ≤ 4096) (hf : h0.free b) (hu : u < n) (kr : Keeps h0 R qr (ints n (M u)))
    (hk : ∀ h' ks, KeysM n M u n ks → St (h0.with b (mapObj (kvB ks))) h' R → K4 h') :
    ∀ (d i : Nat) (h : Heap) (ks : List Int), i + d = n → KeysM n M u i ks → St (h0.with b (mapObj (kvB ks))) h R → matrix_Values.l1 K4 (d + 1) p n c (some b) (u : Int) q9 l9 c9 c10 c11 qr n cr (n : Int) (i : Int) h
  | 0, i, h, ks, hi, k, s => by
    unfold matrix_Values.l1 matrix_Values.b1
    have : i = n := by omega
    subst this
    exact iteB_neg (decide_eq_false (by omega)) (hk h ks k s)
  | d + 1, i, h, ks, hi, k, s => by
    unfold matrix_Values.l1 matrix_Values.b1
    obtain ⟨ar, hr, g1⟩ := ints_at (kr h R s.dropO fun x hx => hx) (j := i) (by omega)
    refine iteB_pos (decide_eq_true (by omega)) ?_
    rw [hr]
    simp -zeta only [chkP_some, Int.toNat_natCast, Nat.mul_one, chkM_some]
    rw [← hr]
    refine ⟨by omega, _, g1, ?_⟩
    rw [wrap64 (by omega) (by omega)]
    refine iteB_intro (fun e => ?_) fun e => ?_
    · have e : u < i := by have := of_decide_eq_true e; omega
      refine ⟨_, ⟨s.mapAt, kvB_key⟩, bindV_intro fun h2 e2 => ?_⟩
      rw [putM_kvB] at e2
      subst e2
      exact values_l1 hn hf hu kr hk d (i + 1) _ (addK (M u i) ks) (by omega) (k.put e) (St.setO hf s rfl)
    · have e : ¬ u < i := by have := of_decide_eq_false e; omega
      exact values_l1 hn hf hu kr hk d (i + 1) h ks (by omega) (k.skip e) s
theorem values_l0 {K2 : Heap → Prop} {b : Nat} {p : Option Addr} {c : Nat} (hn : n ≤ 4096) (hf : h0.free b) (km : MxK h0 R p n M)
    (hk : ∀ h' ks, KeysM n M n 0 ks → St (h0.with b (mapObj (kvB ks))) h' R → K2 h') :
    ∀ (d i : Nat) (h : Heap) (ks : List Int), i + d = n → KeysM n M i 0 ks → St (h0.with b (mapObj (kvB ks))) h R → matrix_Values.l0 K2 (d + 1) p n c (some b) p n c (n : Int) (i : Int) h
  | 0, i, h, ks, hi, k, s => by
    unfold matrix_Values.l0 matrix_Values.b0
    have : i = n := by omega
    subst this
    exact iteB_neg (decide_eq_false (by omega)) (hk h ks k s)
  | d + 1, i, h, ks, hi, k, s => by
    unfold matrix_Values.l0 matrix_Values.b0
    obtain ⟨a1, q1, d1, he, g2, hc, kr⟩ := km.row s.dropO (fun x hx => hx) (i := i) (by omega)
    refine iteB_pos (decide_eq_true (by omega)) ?_
    rw [he]
    simp -zeta only [chkP_some, Int.toNat_natCast, Nat.mul_one]
    rw [← he]
    refine ⟨by omega, _, _, _, g2, bindV_intro fun m hm => ?_⟩
    have hm : m = (n : Int) := by rw [hm]; split <;> omega
    subst hm
    refine ⟨⟨by omega, by omega⟩, n + 1, ?_⟩
    have ep : (if d1 = 0 then q1 else q1.map fun a => a.add 0) = q1 := ptr_same
    rw [ep, Int.toNat_natCast]
    refine values_l1 hn hf (by omega) kr (fun h' ks' k' s' => ?_) n 0 h ks (by omega) k s
    rw [wrap64 (by omega) (by omega)]
    exact values_l0 hn hf km hk d (i + 1) h' ks' (by omega) k'.next s'
theorem Values_of {h : Heap} {p : Option Addr} {c : Nat} {K : Option Addr → Nat → Nat → Heap → Prop} (hn : n ≤ 256) (km : MxK h0 R p n M) (hwf : ∀ x y, x < n → y < n → (Lit.int .i64 (M x y)).wf = true) (s : St h0 h R)
    (hk : ∀ h' q c ks, KeysM n M n 0 ks → valsAt h' q ((sortI ks).map (Value.int .i64)) → St h0 h' R → K q ks.length c h') : matrix_Values p n c h K := by
  unfold matrix_Values
  refine St.newO (o := mapObj []) rfl s fun b h1 hf s1 => ⟨n + 1, ?_⟩
  refine values_l0 (by omega) hf km (fun h2 ks k s2 => callP1.self ?_) n 0 h1 [] (by omega) ⟨List.nodup_nil, fun k => ⟨(fun h => by cases h), (by rintro ⟨x, y, h, _⟩; unfold seenM at h; omega)⟩, by simp⟩ s1
  unfold maps_Keys_map_int64_bool_int64_bool
  refine s2.new_ fun bx h3 s3 => callP3.self (SortedKeys_of (b := b) (ks := ks) (s3.rd0 0) s3.mapAt k.nd (fun x hx => ?_) ?_ fun h4 q c' e4 v4 => ?_)
  · obtain ⟨x, y, h, rfl⟩ := (k.mem x).1 hx
    unfold seenM at h
    exact hwf x y (by omega) (by omega)
  · have := k.len
    have : n * n ≤ 256 * 256 := Nat.mul_le_mul hn hn
    omega
  · exact hk h4 q c' ks k v4 (s3.tail.dropO.ofExt e4)
end
/-! ### Awake -/
def upA : List Int := [-1, 0, 1]
def wA : List Int := [0, 3, 2]
theorem getA : (upA.getD 0 0 = -1 ∧ upA.getD 1 0 = 0 ∧ upA.getD 2 0 = 1) ∧ wA.getD 0 0 = 0 ∧ wA.getD 1 0 = 3 ∧ wA.getD 2 0 = 2 := ⟨⟨rfl, rfl, rfl⟩, rfl, rfl, rfl⟩
theorem deepA : hasD (fun v => upA.getD v 0) 3 0 0 ∧ hasD (fun v => upA.getD v 0) 3 1 1 ∧ hasD (fun v => upA.getD v 0) 3 2 2 := by
  obtain ⟨⟨u0, u1, u2⟩, _⟩ := getA
  have d0 : hasD (fun v => upA.getD v 0) 3 0 0 := ⟨by omega, u0⟩
  have d1 : hasD (fun v => upA.getD v 0) 3 1 1 := ⟨by omega, 0, u1, d0⟩
  exact ⟨d0, d1, by omega, 1, u2, d1⟩
theorem rightA : RightT upA wA := by
  obtain ⟨⟨u0, u1, u2⟩, w0, w1, w2⟩ := getA
  obtain ⟨d0, d1, d2⟩ := deepA
  have hl : upA.length = 3 := rfl
  refine ⟨rfl, by rw [hl]; omega, fun v hv => ?_, rfl, fun v hv => ?_⟩
  · rw [hl] at hv ⊢
    have : v = 0 ∨ v = 1 ∨ v = 2 := by omega
    rcases this with rfl | rfl | rfl
    · rw [u0, w0]; refine ⟨by omega, by omega, by omega, fun _ => rfl⟩
    · rw [u1, w1]; refine ⟨by omega, by omega, by omega, fun h => by omega⟩
    · rw [u2, w2]; refine ⟨by omega, by omega, by omega, fun h => by omega⟩
  · rw [hl] at hv ⊢
    have : v = 0 ∨ v = 1 ∨ v = 2 := by omega
    rcases this with rfl | rfl | rfl
    · exact ⟨0, d0⟩
    · exact ⟨1, d1⟩
    · exact ⟨2, d2⟩
theorem mwA : mW upA wA 0 1 = 3 ∧ mW upA wA 0 2 = 2 ∧ mW upA wA 1 2 = 2 := by decide +kernel
theorem wf_mW {up w : List Int} (hw : ∀ x ∈ w, (Lit.int .i64 x).wf = true) (hl : w.length = up.length) (x y : Nat) : (Lit.int .i64 (mW up w x y)).wf = true := by
  by_cases h : ∃ z, sepP up x y z
  · obtain ⟨z, hz, e⟩ := mW_ex (w := w) h
    rw [e]
    exact hw _ (List.mem_of_getElem? (UU_get0 (by rw [hl]; exact hz.1)))
  · rw [mW_no fun z hz => h ⟨z, hz⟩]; rfl
theorem k11_of {B : Base} {h5 : Heap} {L : Rws} {b9 b11 : Nat} (s5 : St B h5 ((b11, [Value.slice (some ⟨b9, 0, none⟩) 1 1]) :: (b9, ints 1 fun _ => 1) :: L)) : MxV h5 (some ⟨b11, 0, none⟩) 1 (fun _ _ => 1) :=
  ⟨[(some ⟨b9, 0, none⟩, 1, 1)], rfl, (Keeps.row (b := b11) (R := [(b11, sl3 [(some ⟨b9, 0, none⟩, 1, 1)])]) (by simp)) h5 _ s5 (fun x hx => by simp at hx; subst hx; simp [sl3]), fun i x hx => by
    have hi := lt_get hx
    have : i = 0 := by simp at hi; omega
    subst this
    obtain rfl := Option.some.inj hx
    exact ⟨rfl, Nat.le_refl _, (Keeps.row (b := b9) (R := [(b9, ints 1 fun _ => 1)]) (by simp)) h5 _ s5 (fun x hx => by simp at hx; subst hx; simp)⟩⟩
theorem ksA {ks : List Int} (k : KeysM 3 (mW upA wA) 3 0 ks) : sortI ks = [2, 3] ∧ ks.length = 2 := by
  obtain ⟨m1, m2, m3⟩ := mwA
  have hmem : ∀ x, x ∈ ks ↔ x ∈ [2, 3] := fun x => (k.mem x).trans (by
    simp only [List.mem_cons, List.not_mem_nil, or_false]
    constructor
    · rintro ⟨x, y, h, rfl⟩
      unfold seenM at h
      have : (x = 0 ∧ y = 1) ∨ (x = 0 ∧ y = 2) ∨ (x = 1 ∧ y = 2) := by omega
      rcases this with ⟨rfl, rfl⟩ | ⟨rfl, rfl⟩ | ⟨rfl, rfl⟩
      · exact .inr m1
      · exact .inl m2
      · exact .inl m3
    · rintro (rfl | rfl)
      · exact ⟨0, 2, by unfold seenM; omega, m2.symm⟩
      · exact ⟨0, 1, by unfold seenM; omega, m1.symm⟩)
  have hp : ks.Perm [2, 3] := (List.perm_ext_iff_of_nodup k.nd (by decide)).2 hmem
  exact ⟨sortI_one hp (by decide), hp.length_eq⟩
theorem wfA : ∀ x ∈ wA, (Lit.int .i64 x).wf = true := by decide +kernel
theorem awake_of {h : Heap} {K : Bool → Heap → Prop} (hk : ∀ h', Ext h h' → K true h') : straitlaw35_awake h K := by
  unfold straitlaw35_awake
  refine St.new_ (cs := upA.map (Value.int .i64)) (St.refl h) fun b1 h1 s1 => s1.new_ fun b3 h2 s2 => ?_
  have s2 : St (h : Base) h2 ((b3, wA.map (Value.int .i64)) :: (b1, upA.map (Value.int .i64)) :: []) := s2
  refine callP4.self (Of_of (up := upA) (w := wA) (n := 3) rfl rfl (Keeps.row (b := b1) (by simp)) (Keeps.row (b := b3) (by simp)) s2 (fun no => absurd rightA no) (fun _ no => absurd no (by omega)) fun r _ h3 b Y km s3 => ?_)
  refine iteB_pos rfl (qcallP1.of true (fun Q hQ => Ultra_of (mW_ultraM r) (km.at_ s3 fun x hx => by simp [hx]) (by decide) hQ) (iteB_pos rfl ?_))
  refine St.new_ (cs := ints 1 fun _ => 1) s3 fun b9 h4 s4 => s4.new_ fun b11 h5 s5 => ?_
  have k11 := k11_of s5
  refine qcallP1.of false (fun Q hQ => Ultra_no k11 (by decide) hQ) (iteB_pos rfl ?_)
  refine callP3.self (Values_of (n := 3) (by decide) (km.sub fun x hx => by simp [hx]) (fun x y _ _ => wf_mW (up := upA) wfA rfl x y) s5 fun h6 q6 c6 ks k6 v6 s6 => ?_)
  obtain ⟨e1, e2⟩ := ksA k6
  rw [e1] at v6
  rw [e2]
  have vi : valsAt h6 q6 (ints 2 fun i => ([2, 3] : List Int).getD i 0) := v6
  refine St.new_ (cs := ints 2 fun i => ([2, 3] : List Int).getD i 0) (St.refl h6) fun b16 h7 s7 => qcallP1.of true (fun Q hQ => Same4_of (vi.ext s7.ext) ((Keeps.row (b := b16) (by simp)).at0 s7) (by decide) hQ) ?_
  exact hk h7 (s6.ext.trans s7.ext)
/-! ### The law -/
open Classical in
theorem MatrixTells_of {h : Heap} {n m cU cW : Nat} {up w : List Int} {qU qW : Option Addr} {K : Bool → Heap → Prop} (hup : up.length = n) (hw : w.length = m) (hwf : ∀ x ∈ w, (Lit.int .i64 x).wf = true) (vU : valsAt h qU (up.map (Value.int .i64))) (vW : valsAt h qW (w.map (Value.int .i64)))
    (hk : ∀ h', Ext h h' → K true h') : straitlaw35_MatrixTells qU n cU qW m cW h K := by
  unfold straitlaw35_MatrixTells
  refine (St.refl h).new_ fun t h1 s1 => ?_
  intro j
  try simp -zeta (disch := omega) only [chkP_some, iteB_true, iteB_false, add_mk, Nat.zero_add, Nat.add_zero, Nat.mul_one, Nat.reduceAdd, Int.toNat_natCast, ex_int, ex_slice, ex_ptr, ex_bool, ex_str, ex_flt, ex_any, bnd_in, List.getElem?_cons_zero, List.getElem?_cons_succ, List.set_cons_zero, List.set_cons_succ, List.cons_append, List.nil_append, bne_self_eq_false, beq_self_eq_true, Bool.not_true, Bool.not_false, Option.isNone_some, Option.isNone_none, eq_self, true_and, and_true, and_self, s1.rd0]
  refine iteB_intro (fun e => callP1.self (awake_of fun h2 s2 => hk h2 (s1.ext.trans s2))) (fun e => ?_)
  have hn : n ≤ 40 := by have e : (n : Int) ≤ 40 := by simpa using e
                         omega
  refine iteB_intro (fun e => callP1.self (awake_of fun h2 s2 => hk h2 (s1.ext.trans s2))) (fun e => ?_)
  simp -zeta only [j]
  clear j
  try simp -zeta (disch := omega) only [chkP_some, iteB_true, iteB_false, add_mk, Nat.zero_add, Nat.add_zero, Nat.mul_one, Nat.reduceAdd, Int.toNat_natCast, ex_int, ex_slice, ex_ptr, ex_bool, ex_str, ex_flt, ex_any, bnd_in, List.getElem?_cons_zero, List.getElem?_cons_succ, List.set_cons_zero, List.set_cons_succ, List.cons_append, List.nil_append, bne_self_eq_false, beq_self_eq_true, Bool.not_true, Bool.not_false, Option.isNone_some, Option.isNone_none, eq_self, true_and, and_true, and_self, s1.rd0]
  refine callP4.self (Of_of hup hw (.old vU) (.old vW) s1 (fun no h2 Y s2 => ?_) (fun _ no => by omega) (fun r _ h2 b Y km s2 => ?_))
  · have rt : ∀ j, cell h2 ⟨t, j, none⟩ = [.slice qU n cU, .slice qW m cW][j]? := s2.rd (by simp)
    simp -zeta (disch := omega) only [chkP_some, iteB_true, iteB_false, add_mk, Nat.zero_add, Nat.add_zero, Nat.mul_one, Nat.reduceAdd, Int.toNat_natCast, ex_int, ex_slice, ex_ptr, ex_bool, ex_str, ex_flt, ex_any, bnd_in, List.getElem?_cons_zero, List.getElem?_cons_succ, List.set_cons_zero, List.set_cons_succ, List.cons_append, List.nil_append, bne_self_eq_false, beq_self_eq_true, Bool.not_true, Bool.not_false, Option.isNone_some, Option.isNone_none, eq_self, true_and, and_true, and_self, rt]
    refine callP1.self (Right_of hup hw (.old vU) (.old vW) s2 fun h3 s3 => ?_)
    rw [decide_eq_false no]
    exact iteB_pos rfl (iteB_pos (by simp) (callP1.self (awake_of fun h4 s4 => hk h4 (s3.ext.trans s4))))
  · have hm : m = n := by rw [← hw, ← hup]; exact r.len
    subst hm
    have rt : ∀ j, cell h2 ⟨t, j, none⟩ = [.slice qU m cU, .slice qW m cW][j]? := s2.rd (by simp)
    simp -zeta (disch := omega) only [chkP_some, iteB_true, iteB_false, add_mk, Nat.zero_add, Nat.add_zero, Nat.mul_one, Nat.reduceAdd, Int.toNat_natCast, ex_int, ex_slice, ex_ptr, ex_bool, ex_str, ex_flt, ex_any, bnd_in, List.getElem?_cons_zero, List.getElem?_cons_succ, List.set_cons_zero, List.set_cons_succ, List.cons_append, List.nil_append, bne_self_eq_false, beq_self_eq_true, Bool.not_true, Bool.not_false, Option.isNone_some, Option.isNone_none, eq_self, true_and, and_true, and_self, rt]
    refine callP1.self (Right_of hup hw (.old vU) (.old vW) s2 fun h3 s3 => ?_)
    rw [decide_eq_true r]
    refine iteB_neg rfl ?_
    have rt3 : ∀ j, cell h3 ⟨t, j, none⟩ = [.slice qU m cU, .slice qW m cW][j]? := s3.rd (by simp)
    simp -zeta (disch := omega) only [chkP_some, iteB_true, iteB_false, add_mk, Nat.zero_add, Nat.add_zero, Nat.mul_one, Nat.reduceAdd, Int.toNat_natCast, ex_int, ex_slice, ex_ptr, ex_bool, ex_str, ex_flt, ex_any, bnd_in, List.getElem?_cons_zero, List.getElem?_cons_succ, List.set_cons_zero, List.set_cons_succ, List.cons_append, List.nil_append, bne_self_eq_false, beq_self_eq_true, Bool.not_true, Bool.not_false, Option.isNone_some, Option.isNone_none, eq_self, true_and, and_true, and_self, rt3]
    refine callP3.self (ROf_of hup hw (by omega) r (.old vU) (.old vW) s3 fun h4 q4 c4 Y4 km4 s4 => ?_)
    have v1 := km.at_ s4 fun x hx => by simp [hx]
    have v2 := km4.at_ s4 fun x hx => by simp [hx]
    refine callP1.self (Same_of v1 v2 (by omega) (iteB_pos rfl ?_))
    refine qcallP1.of true (fun Q hQ => RSame35_of v1 v2 (by omega) hQ) (iteB_pos rfl ?_)
    refine qcallP1.of true (fun Q hQ => Ultra_of (hup ▸ mW_ultraM r) v1 (by omega) hQ) (iteB_pos rfl ?_)
    refine callP3.self (Values_of (by omega) (km.sub (Z := Y4 ++ (Y ++ [(t, [.slice qU m cU, .slice qW m cW])])) fun x hx => by simp [hx]) (fun x y _ _ => wf_mW hwf r.len x y) s4 fun h5 q5 c5 ks k5 v5 s5 => ?_)
    refine bindV_intro fun m' hm' => iteB_pos (decide_eq_true ?_) ?_
    · have := weights_few r k5.nd fun k hk => by
        obtain ⟨x, y, hs, rfl⟩ := (k5.mem k).1 hk
        unfold seenM at hs
        exact ⟨x, y, by omega, by omega, by omega, rfl⟩
      rw [hup] at this
      rw [hm']
      split <;> omega
    · exact callP1.self (awake_of fun h6 s6 => hk h6 (s5.ext.trans s6))
end Go.Proofs.Ytfidcekobjmamaa
