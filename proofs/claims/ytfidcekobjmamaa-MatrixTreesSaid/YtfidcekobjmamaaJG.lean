/-
  Matrices of any rows: unlike numbers, the walks.
-/
import Derived.Test.YtfidcekobjmamaaJF
namespace Go.Proofs.Ytfidcekobjmamaa
set_option linter.unusedVariables false
set_option linter.unusedSimpArgs false
set_option linter.unnecessarySimpa false
open Go.Hp Go.RowKit
attribute [local irreducible] Go.Hp.iteB Go.Hp.stC Go.Hp.newP
section
variable {h0 : Base} {R : Rws} {L : List (List Int)}
theorem gvalues_l1 {K4 : Heap → Prop} {b u : Nat} {l : List Int} {p qr q9 : Option Addr} {c cr l9 c9 : Nat} {c10 c11 : Int} (hn : L.length ≤ 2 ^ 20) (hf : h0.free b) (hu : L[u]? = some l) (kr : Keeps h0 R qr (l.map (Value.int .i64)))
    (hk : ∀ h' ks, ks.Nodup → KeysL L u (limJ L u) ks → St (h0.with b (mapObj (kvB ks))) h' R → K4 h') :
    ∀ (d i : Nat) (h : Heap) (ks : List Int), i + d = limJ L u → ks.Nodup → KeysL L u i ks → St (h0.with b (mapObj (kvB ks))) h R → matrix_Values.l1 K4 (d + 1) p L.length c (some b) (u : Int) q9 l9 c9 c10 c11 qr (limJ L u) cr (limJ L u : Int) (i : Int) h
  | 0, i, h, ks, hi, nd, k, s => by
    unfold matrix_Values.l1 matrix_Values.b1
    have : i = limJ L u := by omega
    subst this
    exact iteB_neg (decide_eq_false (by omega)) (hk h ks nd k s)
  | d + 1, i, h, ks, hi, nd, k, s => by
    unfold matrix_Values.l1 matrix_Values.b1
    have hl := limJ_of hu
    have hul := lt_get hu
    obtain ⟨ar, hr, g1⟩ := lst_at (kr h R s.dropO fun x hx => hx) (j := i) (by omega)
    rw [← gM_of hu] at g1
    refine iteB_pos (decide_eq_true (by omega)) ?_
    rw [hr]
    simp -zeta only [chkP_some, Int.toNat_natCast, Nat.mul_one, chkM_some]
    rw [← hr]
    refine ⟨by omega, _, g1, ?_⟩
    rw [wrap64 (by omega) (by omega)]
    refine iteB_intro (fun e => ?_) fun e => ?_
    · have e : u < i := by have := of_decide_eq_true e; omega
      refine ⟨_, ⟨s.mapAt, kvB_key⟩, bindV_intro fun h2 e2 => ?_⟩
      rw [putM_kvB] at e2
      subst e2
      exact gvalues_l1 hn hf hu kr hk d (i + 1) _ (addK (gM L u i) ks) (by omega) (addK_nodup nd) (k.put e (fun x => addK_mem) addK_len) (St.setO hf s rfl)
    · have e : ¬ u < i := by have := of_decide_eq_false e; omega
      exact gvalues_l1 hn hf hu kr hk d (i + 1) h ks (by omega) nd (k.skip e) s
theorem gvalues_l0 {K2 : Heap → Prop} {b : Nat} {p : Option Addr} {c : Nat} (hn : L.length ≤ 2 ^ 20) (hf : h0.free b) (j : JagV h0.heap p L)
    (hk : ∀ h' ks, ks.Nodup → KeysL L L.length 0 ks → St (h0.with b (mapObj (kvB ks))) h' R → K2 h') :
    ∀ (d i : Nat) (h : Heap) (ks : List Int), i + d = L.length → ks.Nodup → KeysL L i 0 ks → St (h0.with b (mapObj (kvB ks))) h R → matrix_Values.l0 K2 (d + 1) p L.length c (some b) p L.length c (L.length : Int) (i : Int) h
  | 0, i, h, ks, hi, nd, k, s => by
    unfold matrix_Values.l0 matrix_Values.b0
    have : i = L.length := by omega
    subst this
    exact iteB_neg (decide_eq_false (by omega)) (hk h ks nd k s)
  | d + 1, i, h, ks, hi, nd, k, s => by
    unfold matrix_Values.l0 matrix_Values.b0
    obtain ⟨l, hl⟩ := get_lt (l := L) (i := i) (by omega)
    obtain ⟨_, q0, d0, he0, g0, hc0, v0⟩ := j.row hl
    obtain ⟨a1, q1, d1, he, g2, hc, v1⟩ := (j.ext s.dropO.ext).row hl
    have hlim := limJ_of hl
    have eq01 : q1 = q0 ∧ d1 = d0 := by
      rw [he0] at he
      obtain rfl := Option.some.inj he
      have := s.dropO.ext.cell' g0
      rw [this] at g2
      have := Option.some.inj g2
      injection this with e1 e2 e3
      exact ⟨e1.symm, e3.symm⟩
    obtain ⟨rfl, rfl⟩ := eq01
    refine iteB_pos (decide_eq_true (by omega)) ?_
    rw [he]
    simp -zeta only [chkP_some, Int.toNat_natCast, Nat.mul_one]
    rw [← he]
    refine ⟨by omega, _, _, _, g2, bindV_intro fun m hm => ?_⟩
    have hm : m = (limJ L i : Int) := by rw [hm, hlim]; split <;> omega
    subst hm
    refine ⟨⟨by omega, by omega⟩, limJ L i + 1, ?_⟩
    have ep : (if d1 = 0 then q1 else q1.map fun a => a.add 0) = q1 := ptr_same
    rw [ep, Int.toNat_natCast]
    refine gvalues_l1 hn hf hl (Keeps.old v0) (fun h' ks' nd' k' s' => ?_) (limJ L i) 0 h ks (by omega) nd k s
    rw [wrap64 (by omega) (by omega)]
    exact gvalues_l0 hn hf j hk d (i + 1) h' ks' (by omega) nd' (k'.next (.inl rfl) (by omega)) s'
theorem GValues_of {h : Heap} {p : Option Addr} {c : Nat} {K : Option Addr → Nat → Nat → Heap → Prop} (hn : L.length ≤ 256) (j : JagV h0.heap p L) (hwf : ∀ x y, y < limJ L x → (Lit.int .i64 (gM L x y)).wf = true) (s : St h0 h R)
    (hk : ∀ h' q c ks, ks.Nodup → KeysL L L.length 0 ks → valsAt h' q ((sortI ks).map (Value.int .i64)) → St h0 h' R → K q ks.length c h') : matrix_Values p L.length c h K := by
  unfold matrix_Values
  refine St.newO (o := mapObj []) rfl s fun b h1 hf s1 => ⟨L.length + 1, ?_⟩
  refine gvalues_l0 (by omega) hf j (fun h2 ks nd k s2 => callP1.self ?_) L.length 0 h1 [] (by omega) List.nodup_nil (.zero L) s1
  unfold maps_Keys_map_int64_bool_int64_bool
  refine s2.new_ fun bx h3 s3 => callP3.self (SortedKeys_of (b := b) (ks := ks) (s3.rd0 0) s3.mapAt nd (fun x hx => ?_) ?_ fun h4 q c' e4 v4 => ?_)
  · obtain ⟨x, y, h, rfl⟩ := (k.mem x).1 hx
    unfold seenL at h
    exact hwf x y (by omega)
  · have := k.len
    have : L.length * L.length ≤ 256 * 256 := Nat.mul_le_mul hn hn
    omega
  · exact hk h4 q c' ks nd k v4 (s3.tail.dropO.ofExt e4)
/-! ### The document's -/
theorem rvalues_l1 {K4 : Option Addr → Nat → Nat → Heap → Prop} {u : Nat} {l : List Int} {p : Option Addr} {c : Nat} (hn : L.length ≤ 256) (j : JagV h0.heap p L) (hu : L[u]? = some l) (hll : l.length ≤ 2 ^ 20)
    (hk : ∀ q' c' X' ls' h', KeysL L (u + 1) 0 ls' → Own q' c' (ls'.map (Value.int .i64)) X' → St h0 h' (X' ++ R) → K4 q' ls'.length c' h') :
    ∀ (d i : Nat) (h : Heap) (q : Option Addr) (cq : Nat) (X : Rws) (ls : List Int), i + d = max (u + 1) (limJ L u) → u < i → KeysL L u i ls → Own q cq (ls.map (Value.int .i64)) X → St h0 h (X ++ R) → straitref35_Values.l1 K4 (d + 1) p L.length c q ls.length cq (u : Int) (i : Int) h
  | 0, i, h, q, cq, X, ls, hi, hui, k, o, s => by
    unfold straitref35_Values.l1 straitref35_Values.b1
    obtain ⟨a1, q1, d1, he, g2, hc, v1⟩ := (j.ext s.ext).row hu
    have hlim := limJ_of hu
    have hul := lt_get hu
    intro jn
    have fin : K4 q ls.length cq h := hk q cq X ls h (k.next (by omega) (by omega)) o s
    rw [he]
    simp -zeta only [chkP_some, Int.toNat_natCast, Nat.mul_one]
    refine ⟨by omega, _, _, _, g2, iteB_intro (fun e => iteB_intro (fun e2 => ?_) fun _ => fin) fun _ => fin⟩
    have := of_decide_eq_true e
    have := of_decide_eq_true e2
    omega
  | d + 1, i, h, q, cq, X, ls, hi, hui, k, o, s => by
    unfold straitref35_Values.l1 straitref35_Values.b1
    obtain ⟨a1, q1, d1, he, g2, hc, v1⟩ := (j.ext s.ext).row hu
    have hlim := limJ_of hu
    have hul := lt_get hu
    intro jn
    have Jn : jn := by
      simp -zeta only [jn]
      obtain ⟨ar, hr, g1⟩ := lst_at v1 (j := i) (by omega)
      rw [← gM_of hu] at g1
      rw [he]
      simp -zeta only [chkP_some, Int.toNat_natCast, Nat.mul_one]
      rw [← he]
      refine ⟨by omega, _, _, _, g2, ?_⟩
      rw [hr]
      simp -zeta only [chkP_some, Int.toNat_natCast, Nat.mul_one]
      have hkl := k.len
      have : u * L.length ≤ 256 * 256 := Nat.mul_le_mul (by omega) hn
      refine ⟨by omega, _, g1, Own.push1 o s (by simp) rfl (by simp; omega) fun q2 c3 X2 h2 o2 s2 => ?_⟩
      rw [List.length_map, wrap64 (by omega) (by omega)]
      have e : (ls ++ [gM L u i]).length = ls.length + 1 := by simp
      rw [← e]
      exact rvalues_l1 hn j hu hll hk d (i + 1) h2 q2 c3 X2 (ls ++ [gM L u i]) (by omega) (by omega) (k.put hui (fun x => by simp) (by simp)) (by simpa using o2) s2
    clear_value jn
    rw [he]
    simp -zeta only [chkP_some, Int.toNat_natCast, Nat.mul_one]
    exact ⟨by omega, _, _, _, g2, iteB_pos (decide_eq_true (by omega)) (iteB_pos (decide_eq_true (by omega)) Jn)⟩
theorem rvalues_l0 {K2 : Option Addr → Nat → Nat → Heap → Prop} {p : Option Addr} {c : Nat} (hn : L.length ≤ 256) (j : JagV h0.heap p L) (hll : ∀ l ∈ L, l.length ≤ 2 ^ 20)
    (hk : ∀ q' c' X' ls' h', KeysL L L.length 0 ls' → Own q' c' (ls'.map (Value.int .i64)) X' → St h0 h' (X' ++ R) → K2 q' ls'.length c' h') :
    ∀ (d i : Nat) (h : Heap) (q : Option Addr) (cq : Nat) (X : Rws) (ls : List Int), i + d = L.length → KeysL L i 0 ls → Own q cq (ls.map (Value.int .i64)) X → St h0 h (X ++ R) → straitref35_Values.l0 K2 (d + 1) p L.length c q ls.length cq (i : Int) h
  | 0, i, h, q, cq, X, ls, hi, k, o, s => by
    unfold straitref35_Values.l0 straitref35_Values.b0
    have : i = L.length := by omega
    subst this
    exact iteB_neg (decide_eq_false (by omega)) (hk q cq X ls h k o s)
  | d + 1, i, h, q, cq, X, ls, hi, k, o, s => by
    unfold straitref35_Values.l0 straitref35_Values.b0
    obtain ⟨l, hl⟩ := get_lt (l := L) (i := i) (by omega)
    refine iteB_pos (decide_eq_true (by omega)) ?_
    rw [wrap64 (by omega) (by omega)]
    have k1 : KeysL L i (i + 1) ls := ⟨fun x => (k.mem x).trans ⟨(by rintro ⟨a, b, h1, h2⟩; exact ⟨a, b, by unfold seenL at *; omega, h2⟩), (by rintro ⟨a, b, h1, h2⟩; exact ⟨a, b, by unfold seenL at *; omega, h2⟩)⟩, by have := k.len; omega⟩
    refine ⟨max (i + 1) (limJ L i) - (i + 1) + 1, rvalues_l1 hn j hl (hll l (List.mem_of_getElem? hl)) (fun q' c' X' ls' h' k' o' s' => ?_) _ (i + 1) h q cq X ls (by omega) (by omega) k1 o s⟩
    exact rvalues_l0 hn j hll hk d (i + 1) h' q' c' X' ls' (by omega) k' o' s'
theorem RValues_of {h : Heap} {p : Option Addr} {c : Nat} {K : Option Addr → Nat → Nat → Heap → Prop} (hn : L.length ≤ 256) (j : JagV h0.heap p L) (hll : ∀ l ∈ L, l.length ≤ 2 ^ 20) (s : St h0 h R)
    (hk : ∀ q c X ls h', KeysL L L.length 0 ls → Own q c ((comp (sortI ls) ls.length).map (Value.int .i64)) X → St h0 h' (X ++ R) → K q (comp (sortI ls) ls.length).length c h') : straitref35_Values p L.length c h K := by
  unfold straitref35_Values
  refine ⟨L.length + 1, rvalues_l0 hn j hll (fun q' c' X' ls' h' k' o' s' => ?_) L.length 0 h none 0 [] [] (by omega) (.zero L) Own.nil s⟩
  have hkl := k'.len
  have : L.length * L.length ≤ 256 * 256 := Nat.mul_le_mul hn hn
  refine callP3.self (RDistinct_of rfl (by omega) (o'.keeps (R := X' ++ R) fun x hx => by simp [hx]) s' fun q co X h2 o2 s2 => ?_)
  exact hk q co X ls' h2 k' o2 s2.cut
end
end Go.Proofs.Ytfidcekobjmamaa
