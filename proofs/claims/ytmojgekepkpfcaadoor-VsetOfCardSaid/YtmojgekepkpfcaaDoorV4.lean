/-
  Sets: of a list, how many, the list, the other one, the twin, the same.
-/
import Derived.Test.YtmojgekepkpfcaaDoorV3
namespace Go.Proofs.YtmojgekepkpfcaaDoor
set_option linter.unusedVariables false
set_option linter.unusedSimpArgs false
set_option linter.unnecessarySimpa false
open Go Go.Hp Go.RowKit
attribute [local irreducible] Go.Hp.iteB Go.Hp.stC Go.Hp.newP

def putL (n : Nat) (l : List Int) (f : Nat → Bool) : Nat → Bool := l.foldl (fun f v => putV f n v true) f
theorem putL_snoc (n : Nat) (l : List Int) (v : Int) (f : Nat → Bool) : putL n (l ++ [v]) f = putV (putL n l f) n v true := by unfold putL; rw [List.foldl_append]; rfl
theorem clean_putL {n : Nat} : ∀ {l : List Int} {f : Nat → Bool}, clean f n → clean (putL n l f) n
  | [], f, h => h
  | v :: l, f, h => clean_putL (l := l) (clean_put h)
theorem clean_none (n : Nat) : clean (fun _ => false) n := fun _ _ => rfl

section
variable {h0 : Base} {R : Rws} {a : VA} {n : Nat} {f : Nat → Bool}
theorem vof_l0 {K2 : Heap → Prop} {k cl : Nat} {q : Option Addr} {l : List Int} (hn : n ≤ 4096) (hl : l.length = k) (hb : k < 2 ^ 40) (kl : Keeps h0 R q (l.map (Value.int .i64)))
    (hk : ∀ h', St h0 h' (vS a n (putL n l fun _ => false) ++ R) → K2 h') :
    ∀ (d i : Nat) (h : Heap), i + d = k → St h0 h (vS a n (putL n (l.take i) fun _ => false) ++ R) → vset_Of.l0 K2 (d + 1) a.ptr q k cl (k : Int) (i : Int) h
  | 0, i, h, hi, s => by
    unfold vset_Of.l0 vset_Of.b0
    rw [List.take_of_length_le (by omega)] at s
    exact iteB_neg (decide_eq_false (by omega)) (hk h s)
  | d + 1, i, h, hi, s => by
    unfold vset_Of.l0 vset_Of.b0
    obtain ⟨x, hx⟩ := get_lt (l := l) (i := i) (by omega)
    have vl : valsAt h q (l.map (Value.int .i64)) := kl.app.at0 s
    have v0 := fun {G : Int → Prop} => vals_int (G := G) vl (show (l.map (Value.int .i64))[i]? = some (.int .i64 x) by simp [hx])
    refine iteB_pos (decide_eq_true (by omega)) ?_
    simp -zeta (disch := omega) only [chkP_some, iteB_true, iteB_false, add_mk, Nat.zero_add, Nat.add_zero, Nat.mul_one, Nat.reduceAdd, Int.toNat_natCast, ex_int, ex_slice, ex_ptr, ex_bool, ex_str, ex_flt, ex_any, bnd_in, List.getElem?_cons_zero, List.getElem?_cons_succ, List.set_cons_zero, List.set_cons_succ, List.cons_append, List.nil_append, bne_self_eq_false, beq_self_eq_true, Bool.not_true, Bool.not_false, Option.isNone_some, Option.isNone_none, eq_self, true_and, and_true, and_self, v0]
    refine callP1.self (Put_of hn s fun h2 s2 => ?_)
    rw [wrap64 (by omega) (by omega)]
    refine vof_l0 hn hl hb kl hk d (i + 1) h2 (by omega) ?_
    rw [take_snoc hx, putL_snoc]; exact s2
theorem VOf_of {h : Heap} {m : Int} {k cl : Nat} {q : Option Addr} {l : List Int} {K : Option Addr → Heap → Prop} (hl : l.length = k) (hb : k < 2 ^ 40) (kl : Keeps h0 R q (l.map (Value.int .i64))) (s : St h0 h R)
    (hk : ∀ a h', St h0 h' (vS a (roomV m) (putL (roomV m) l fun _ => false) ++ R) → K a.ptr h') : vset_Of m q k cl h K := by
  unfold vset_Of
  exact callP1.self (VNew_of s fun a h1 s1 => ⟨k + 1, vof_l0 (roomV_le m) hl hb kl (fun h2 s2 => hk a h2 s2) k 0 h1 (by omega) s1⟩)

theorem len_l0 {h : Heap} {K2 : Int → Heap → Prop} {q : Option Addr} {m c : Nat} (hm : m ≤ 64) (hv : valsAt h q (rowF cW m (wd64 f))) (hk : K2 (memN f (m * 64)).length h) :
    ∀ (d i : Nat), i + d = m → vset_Set_Len.l0 K2 (d + 1) ((memN f (i * 64)).length : Int) q m c (m : Int) (i : Int) h
  | 0, i, hi => by
    unfold vset_Set_Len.l0 vset_Set_Len.b0
    rw [show i = m by omega]
    exact iteB_neg (decide_eq_false (by omega)) hk
  | d + 1, i, hi => by
    unfold vset_Set_Len.l0 vset_Set_Len.b0
    refine iteB_pos (decide_eq_true (by omega)) ?_
    have v0 := fun {G : Int → Prop} => vals_int (G := G) (k := .u64) (x := (wd64 f i : Int)) hv (rowF_get (c := cW) (show i < m by omega))
    simp -zeta (disch := omega) only [chkP_some, iteB_true, iteB_false, add_mk, Nat.zero_add, Nat.add_zero, Nat.mul_one, Nat.reduceAdd, Int.toNat_natCast, ex_int, ex_slice, ex_ptr, ex_bool, ex_str, ex_flt, ex_any, bnd_in, List.getElem?_cons_zero, List.getElem?_cons_succ, List.set_cons_zero, List.set_cons_succ, List.cons_append, List.nil_append, bne_self_eq_false, beq_self_eq_true, Bool.not_true, Bool.not_false, Option.isNone_some, Option.isNone_none, eq_self, true_and, and_true, and_self, v0]
    refine qcallP1.of _ (fun Q hQ => Ones_of (wd64_lt f i) hQ) ?_
    have e := memN_words f i
    have b1 : (memN f (i * 64)).length ≤ i * 64 := by unfold memN; exact Nat.le_trans (List.length_filter_le _ _) (by simp)
    have b2 : (memN f ((i + 1) * 64)).length ≤ (i + 1) * 64 := by unfold memN; exact Nat.le_trans (List.length_filter_le _ _) (by simp)
    rw [wrap64 (x := (i : Int) + 1) (by omega) (by omega), wrap64 (by omega) (by omega)]
    rw [show ((memN f (i * 64)).length : Int) + ((cnt 64 (wd64 f i) : Nat) : Int) = ((memN f ((i + 1) * 64)).length : Int) by omega]
    exact len_l0 hm hv hk d (i + 1) (by omega)
theorem nw_le {n : Nat} (h : n ≤ 4096) : nw n ≤ 64 := by unfold nw; omega
theorem nw_room (n : Nat) : n ≤ nw n * 64 := by unfold nw; omega
theorem isV.vals {h : Heap} (hv : isV h a n f) : valsAt h (some ⟨a.2, 0, none⟩) (rowF cW (nw n) (wd64 f)) := fun i v hi => ⟨_, rfl, by rw [add_mk, Nat.zero_add, hv.2, hi]⟩
theorem Len_of {h : Heap} {K : Int → Heap → Prop} (hn : n ≤ 4096) (hc : clean f n) (hv : isV h a n f) (hk : K (memN f n).length h) : vset_Set_Len a.ptr h K := by
  unfold vset_Set_Len VA.ptr
  refine iteB_neg rfl ?_
  simp -zeta (disch := omega) only [chkP_some, iteB_true, iteB_false, add_mk, Nat.zero_add, Nat.add_zero, Nat.mul_one, Nat.reduceAdd, Int.toNat_natCast, ex_int, ex_slice, ex_ptr, ex_bool, ex_str, ex_flt, ex_any, bnd_in, List.getElem?_cons_zero, List.getElem?_cons_succ, List.set_cons_zero, List.set_cons_succ, List.cons_append, List.nil_append, bne_self_eq_false, beq_self_eq_true, Bool.not_true, Bool.not_false, Option.isNone_some, Option.isNone_none, eq_self, true_and, and_true, and_self, hv.1]
  refine ⟨nw n + 1, ?_⟩
  have e : memN f (nw n * 64) = memN f n := memN_more (nw_room n) hc
  exact len_l0 (nw_le hn) hv.vals (by rw [e]; exact hk) (nw n) 0 (by omega)
theorem Len_nil {h : Heap} {K : Int → Heap → Prop} (hk : K 0 h) : vset_Set_Len none h K := by unfold vset_Set_Len; exact iteB_pos rfl hk

theorem all_stops {w : World} {Bn bs bw m cap : Nat} {n : Nat} {ws : List Nat} (hm : ws.length = m) (hmn : ((n : Int) + 64 - 1) / 64 = (m : Int)) (hn : n ≤ 4096) (hw : ∀ x ∈ ws, x < 18446744073709551616) (ht : Tab w.heap)
    (hBn : w.cell? ⟨Bn, 0, none⟩ = some (.pointer (some ⟨bs, 0, none⟩))) (hs0 : w.cell? ⟨bs, 0, none⟩ = some (.int .i64 n)) (hs1 : w.cell? ⟨bs, 1, none⟩ = some (.slice (some ⟨bw, 0, none⟩) m cap)) (hws : ∀ i, i < m → w.cell? ⟨bw, i, none⟩ = some (.int .u64 (ws.getD i 0 : Nat)))
    (b1 : Bn < w.heap.size) (b2 : bs < w.heap.size) (b3 : bw < w.heap.size) :
    SeqStopsK Fence.wide 9 Tryd.prog 34 #[.pointer (some ⟨Bn, 0, none⟩)] (fun x : Int => #[Value.int .i64 x]) (Below w.heap.size) (fun ys => ys = setL ws m) (fun _ => True) (setL ws m).length w := fun l J Jx W hW hJ _ hY h0 => by
  refine all1_in 9 (by omega) l Bn w.heap.size bs bw m cap (setL ws m).length n ws hm hmn (by omega) hw (by omega) b1 b2 b3 (Nat.le_refl _) J Jx hY W hJ ((hW.cell (p := ⟨Bn, 0, none⟩) b1).trans hBn) ((hW.cell (p := ⟨bs, 0, none⟩) b2).trans hs0) ((hW.cell (p := ⟨bs, 1, none⟩) b2).trans hs1) (fun i hi => (hW.cell (p := ⟨bw, i, none⟩) b3).trans (hws i hi)) (ht.below hW (by omega)) h0
/-- What the library's AppendSeq leaves. -/
theorem app_leaf {h : Heap} {Bn : Nat} {xs : List Int} {K : Option Addr → Nat → Nat → Heap → Prop} (hx : xs.length ≤ 8192) (s : St h0 h R)
    (HS : ∀ w : World, w.heap = h → SeqStopsK Fence.wide 9 Tryd.prog 34 #[.pointer (some ⟨Bn, 0, none⟩)] (fun x : Int => #[Value.int .i64 x]) (Below w.heap.size) (fun ys => ys = xs) (fun _ => True) xs.length w)
    (hk : ∀ q' c' X h', Go.Hp.Own q' c' (xs.map (Value.int .i64)) X → St h0 h' (X ++ R) → K q' xs.length c' h') : slices_AppendSeq_Lint_int none 0 0 (.func (.func 34) #[] #[.pointer (some ⟨Bn, 0, none⟩)]) h K := by
  intro w hw
  have HS2 := HS w hw
  clear HS
  subst hw
  refine ⟨enters_of Tryd.func33 (by kernel_rfl) rfl _ _, ?_⟩
  have HC := appendSeq_in 10 (by omega) 34 #[.pointer (some ⟨Bn, 0, none⟩)] (fun args w => enters_of Tryd.func34 (by kernel_rfl) rfl _ _) (fun ys => ys = xs) xs.length (by simp [maxLen]; omega) (by omega) w HS2 (by rintro xs rfl; omega)
  refine (callsIn_wide.1 HC).mono ?_
  rintro e w' ⟨v, xs', rfl, rfl, hrow, hnil, hB⟩
  have hE : Ext w.heap w'.heap := ⟨hB.size, hB.block⟩
  have ho : Out w w' := ⟨hB.tape, hB.os, hB.output, fun d => d.elim⟩
  rcases hrow.2 with ⟨rfl, hz⟩ | ⟨g, cap', cur, rfl, hbase, hg, r1, r2, r3, r4⟩
  · obtain rfl : xs' = [] := List.length_eq_zero_iff.1 hz
    exact ⟨_, rfl, ho, hk none 0 [] _ Go.Hp.Own.nil (s.ofExt hE)⟩
  · refine ⟨_, rfl, ho, ?_⟩
    have e1 : cur.toList = xs'.map (Value.int .i64) ++ cur.toList.drop (xs'.length * 1) := by rw [← r4]; exact (List.take_append_drop _ _).symm
    have r : row w'.heap g (xs'.map (Value.int .i64) ++ cur.toList.drop (xs'.length * 1)) := ⟨3, by rw [← e1]; simpa using hg⟩
    refine hk _ cap' [(g, xs'.map (Value.int .i64) ++ cur.toList.drop (xs'.length * 1))] _ (.inr ⟨g, _, rfl, ?_, rfl⟩) (s.join ⟨hE, ?_, ?_, by simp, fun x hx => by cases hx⟩)
    · rw [← e1]; simp; omega
    · intro x hx; simp only [List.mem_singleton] at hx; subst hx; exact r
    · intro x hx; simp only [List.mem_singleton] at hx; subst hx; exact hbase
theorem memL_len (f : Nat → Bool) (n : Nat) : (memL f n).length ≤ n := by unfold memL memN; rw [List.length_map]; exact Nat.le_trans (List.length_filter_le _ _) (by simp)
theorem List_of {h : Heap} {K : Option Addr → Nat → Nat → Heap → Prop} (ht : Tab h0.heap) (hn : n ≤ 4096) (hc : clean f n) (hs : ∀ x ∈ vS a n f, x ∈ R) (s : St h0 h R)
    (hk : ∀ q' c' X h', Go.Hp.Own q' c' ((memL f n).map (Value.int .i64)) X → St h0 h' (X ++ R) → K q' (memL f n).length c' h') : vset_Set_List a.ptr h K := by
  unfold vset_Set_List vset_Set_all
  refine callP1.self (s.new_ fun Bn h1 s1 => ?_)
  refine callP3.self ?_
  unfold slices_Collect_int
  refine callP3.self ?_
  have hv : isV h1 a n f := St.isV s1 fun x hx => by simp [hs x hx]
  have r0 := s1.rd0
  have z1 : Bn < h1.size := (s1.rows (Bn, [Value.pointer a.ptr]) (by simp)).lt
  have z2 : a.1 < h1.size := (s1.rows (a.1, [.int .i64 (n : Int), .slice (some ⟨a.2, 0, none⟩) (nw n) (nw n)]) (by simp [hs _ (List.mem_cons_self ..)])).lt
  have z3 : a.2 < h1.size := (s1.rows (a.2, rowF cW (nw n) (wd64 f)) (by simp [hs _ (List.mem_cons_of_mem _ (List.mem_cons_self ..))])).lt
  have e : setL (wsF f (nw n)) (nw n) = memL f n := by rw [setL_eq _ (Nat.le_refl _)]; unfold memL; rw [memN_more (nw_room n) hc]
  have hlen := memL_len f n
  refine app_leaf (by omega) s1 (fun w hw => ?_) (fun q' c' X h2 o s2 => hk q' c' X h2 o (s2.mid).tail)
  subst hw
  rw [← e]
  refine all_stops (n := n) (bs := a.1) (bw := a.2) (cap := nw n) (wsF_len f _) (by unfold nw; omega) hn (fun x hx => ?_) (ht.ext s1.ext) ?_ ?_ ?_ (fun i hi => ?_) z1 z2 z3
  · obtain ⟨i, _, rfl⟩ := List.mem_map.1 hx; exact wd64_lt f i
  · rw [cell_eq]; exact r0 0
  · rw [cell_eq]; exact hv.1 0
  · rw [cell_eq]; exact hv.1 1
  · rw [cell_eq, hv.2, rowF_get hi, wsF_getD hi]; rfl

theorem other_l0 {K2 : Heap → Prop} {b : VA} (hn : n ≤ 4096) (ha : ∀ x ∈ vS a n f, x ∈ R)
    (hk : ∀ h', St h0 h' (vS b n (fun v => decide (v < n) && !f v) ++ R) → K2 h') :
    ∀ (d i : Nat) (h : Heap), i + d = n → St h0 h (vS b n (fun v => decide (v < i) && !f v) ++ R) → vset_Set_Other.l0 K2 (d + 1) a.ptr b.ptr (n : Int) (i : Int) h
  | 0, i, h, hi, s => by
    unfold vset_Set_Other.l0 vset_Set_Other.b0
    have : i = n := by omega
    subst this
    exact iteB_neg (decide_eq_false (by omega)) (hk h s)
  | d + 1, i, h, hi, s => by
    unfold vset_Set_Other.l0 vset_Set_Other.b0
    have hv : isV h a n f := St.isV s fun x hx => by simp [ha x hx]
    have c : inV (i : Int) n := ⟨by omega, by omega⟩
    refine iteB_pos (decide_eq_true (by omega)) (qcallP1.of _ (fun Q hQ => Has_of hn hv hQ) ?_)
    have e : hasV f n (i : Int) = f i := by unfold hasV; rw [decide_eq_true c]; simp
    rw [e]
    refine iteB_intro (fun e2 => ?_) (fun e2 => ?_)
    · have e2 : f i = false := by simpa using e2
      refine callP1.self (Put_of hn s fun h2 s2 => ?_)
      rw [wrap64 (by omega) (by omega)]
      refine other_l0 hn ha hk d (i + 1) h2 (by omega) ?_
      have : putV (fun v => decide (v < i) && !f v) n (i : Int) true = fun v => decide (v < i + 1) && !f v := by
        unfold putV; rw [if_pos c]
        funext v
        unfold put
        rw [Int.toNat_natCast]
        by_cases h : v = i
        · subst h; simp [e2]
        · have e9 : decide (v < i) = decide (v < i + 1) := decide_eq_decide.2 (by omega)
          rw [if_neg h]
          show (decide (v < i) && !f v) = _
          rw [e9]
      rw [this] at s2; exact s2
    · have e2 : f i = true := by simpa using e2
      rw [wrap64 (by omega) (by omega)]
      refine other_l0 hn ha hk d (i + 1) h (by omega) ?_
      have : (fun v => decide (v < i) && !f v) = fun v => decide (v < i + 1) && !f v := by
        funext v
        by_cases h : v = i
        · subst h; simp [e2]
        · have e9 : decide (v < i) = decide (v < i + 1) := decide_eq_decide.2 (by omega)
          rw [e9]
      rw [this] at s; exact s
def othF (f : Nat → Bool) (n : Nat) : Nat → Bool := fun v => decide (v < n) && !f v
theorem clean_oth (f : Nat → Bool) (n : Nat) : clean (othF f n) n := fun v hv => by unfold othF; rw [decide_eq_false (by omega)]; rfl
theorem Other_of {h : Heap} {K : Option Addr → Heap → Prop} (hn : n ≤ 4096) (ha : ∀ x ∈ vS a n f, x ∈ R) (s : St h0 h R)
    (hk : ∀ b h', St h0 h' (vS b n (othF f n) ++ R) → K b.ptr h') : vset_Set_Other a.ptr h K := by
  unfold vset_Set_Other
  have hv : isV h a n f := St.isV s ha
  refine iteB_neg rfl ?_
  unfold VA.ptr
  simp -zeta (disch := omega) only [chkP_some, iteB_true, iteB_false, add_mk, Nat.zero_add, Nat.add_zero, Nat.mul_one, Nat.reduceAdd, Int.toNat_natCast, ex_int, ex_slice, ex_ptr, ex_bool, ex_str, ex_flt, ex_any, bnd_in, List.getElem?_cons_zero, List.getElem?_cons_succ, List.set_cons_zero, List.set_cons_succ, List.cons_append, List.nil_append, bne_self_eq_false, beq_self_eq_true, Bool.not_true, Bool.not_false, Option.isNone_some, Option.isNone_none, eq_self, true_and, and_true, and_self, hv.1]
  refine callP1.self (VNew_of s fun b h1 s1 => ?_)
  rw [roomV_self hn] at s1
  have hv : isV h1 a n f := St.isV s1 fun x hx => by simp [ha x hx]
  simp -zeta (disch := omega) only [chkP_some, iteB_true, iteB_false, add_mk, Nat.zero_add, Nat.add_zero, Nat.mul_one, Nat.reduceAdd, Int.toNat_natCast, ex_int, ex_slice, ex_ptr, ex_bool, ex_str, ex_flt, ex_any, bnd_in, List.getElem?_cons_zero, List.getElem?_cons_succ, List.set_cons_zero, List.set_cons_succ, List.cons_append, List.nil_append, bne_self_eq_false, beq_self_eq_true, Bool.not_true, Bool.not_false, Option.isNone_some, Option.isNone_none, eq_self, true_and, and_true, and_self, hv.1]
  refine ⟨n + 1, other_l0 (a := a) hn ha (fun h2 s2 => hk b h2 s2) n 0 h1 (by omega) ?_⟩
  have : (fun v => decide (v < 0) && !f v) = fun _ => false := by funext v; simp
  rw [this]; exact s1
theorem Other_nil {h : Heap} {K : Option Addr → Heap → Prop} (hk : K none h) : vset_Set_Other none h K := by unfold vset_Set_Other; exact iteB_pos rfl hk

theorem put_all {b m : Nat} {K : Heap → Prop} {g : Nat → Nat} (hk : ∀ h', St h0 h' ((b, rowF cW m g) :: R) → K h') :
    ∀ (d i : Nat) (h : Heap) (cs : List Value), i + d = m → cs.length = m → (∀ j, j < i → cs[j]? = some (cW (g j))) → St h0 h ((b, cs) :: R) → stL ((rowF cW m g).drop i) h ⟨b, 0, none⟩ i K
  | 0, i, h, cs, hi, hc, hp, s => by
    rw [List.drop_of_length_le (by rw [rowF_len]; omega)]
    unfold stL
    refine hk h ?_
    have : cs = rowF cW m g := by
      apply List.ext_getElem?
      intro j
      by_cases hj : j < m
      · rw [hp j (by omega), rowF_get hj]
      · rw [List.getElem?_eq_none (by omega), List.getElem?_eq_none (by rw [rowF_len]; omega)]
    rw [← this]; exact s
  | d + 1, i, h, cs, hi, hc, hp, s => by
    rw [drop_cons (rowF_get (show i < m by omega))]
    unfold stL
    simp only [cW, flat, add_mk, Nat.zero_add]
    refine s.st0 (by omega) fun h2 s2 => put_all hk d (i + 1) h2 _ (by omega) (by simpa using hc) (fun j hj => ?_) s2
    rw [List.getElem?_set]
    by_cases e : i = j
    · subst e; rw [if_pos rfl, if_pos (by omega)]; rfl
    · rw [if_neg e]; exact hp j (by omega)
theorem Twin_of {h : Heap} {K : Option Addr → Heap → Prop} (hn : n ≤ 4096) (ha : ∀ x ∈ vS a n f, x ∈ R) (s : St h0 h R)
    (hk : ∀ b h', St h0 h' (vS b n f ++ R) → K b.ptr h') : vset_Set_Twin a.ptr h K := by
  unfold vset_Set_Twin
  have hv : isV h a n f := St.isV s ha
  refine iteB_neg rfl ?_
  unfold VA.ptr
  simp -zeta (disch := omega) only [chkP_some, iteB_true, iteB_false, add_mk, Nat.zero_add, Nat.add_zero, Nat.mul_one, Nat.reduceAdd, Int.toNat_natCast, ex_int, ex_slice, ex_ptr, ex_bool, ex_str, ex_flt, ex_any, bnd_in, List.getElem?_cons_zero, List.getElem?_cons_succ, List.set_cons_zero, List.set_cons_succ, List.cons_append, List.nil_append, bne_self_eq_false, beq_self_eq_true, Bool.not_true, Bool.not_false, Option.isNone_some, Option.isNone_none, eq_self, true_and, and_true, and_self, hv.1]
  refine callP1.self (VNew_of s fun b h1 s1 => ?_)
  rw [roomV_self hn] at s1
  have hv : isV h1 a n f := St.isV s1 fun x hx => by simp [ha x hx]
  have hv2 : isV h1 b n (fun _ => false) := St.isV s1 fun x hx => by simp [hx]
  unfold VA.ptr
  simp -zeta (disch := omega) only [chkP_some, iteB_true, iteB_false, add_mk, Nat.zero_add, Nat.add_zero, Nat.mul_one, Nat.reduceAdd, Int.toNat_natCast, ex_int, ex_slice, ex_ptr, ex_bool, ex_str, ex_flt, ex_any, bnd_in, List.getElem?_cons_zero, List.getElem?_cons_succ, List.set_cons_zero, List.set_cons_succ, List.cons_append, List.nil_append, bne_self_eq_false, beq_self_eq_true, Bool.not_true, Bool.not_false, Option.isNone_some, Option.isNone_none, eq_self, true_and, and_true, and_self, hv.1, hv2.1]
  unfold copyP
  have cv := cellsAt_vals hv.vals
  rw [rowF_len] at cv
  refine ⟨rowF cW (nw n) (wd64 f), by rw [show Nat.min (nw n) (nw n) * 1 = nw n by simp]; exact cv, ?_⟩
  have := put_all (h0 := h0) (R := (b.1, [.int .i64 (n : Int), .slice (some ⟨b.2, 0, none⟩) (nw n) (nw n)]) :: R) (b := b.2) (m := nw n) (g := wd64 f) (K := fun h' => K (some ⟨b.1, 0, none⟩) h') (fun h2 s2 => hk b h2 s2.pull1) (nw n) 0 h1 (rowF cW (nw n) (wd64 fun _ => false)) (by omega) rowF_len (fun j hj => by omega) s1.pull1
  rw [List.drop_zero] at this
  exact this
theorem Twin_nil {h : Heap} {K : Option Addr → Heap → Prop} (hk : K none h) : vset_Set_Twin none h K := by unfold vset_Set_Twin; exact iteB_pos rfl hk

theorem eq_l0 {h : Heap} {K0 : Bool → Heap → Prop} {K2 : Heap → Prop} {p q : Option Addr} {m c1 c2 : Nat} {g : Nat → Bool} (hm : m ≤ 64) (hv : valsAt h p (rowF cW m (wd64 f))) (hv2 : valsAt h q (rowF cW m (wd64 g)))
    (hk0 : (∃ i, i < m ∧ wd64 f i ≠ wd64 g i) → K0 false h) (hk2 : (∀ i, i < m → wd64 f i = wd64 g i) → K2 h) :
    ∀ (d i : Nat), i + d = m → (∀ j, j < i → wd64 f j = wd64 g j) → slices_Equal_Luint64_uint64.l0 K0 K2 (d + 1) p m c1 q m c2 (m : Int) (i : Int) h
  | 0, i, hi, he => by
    unfold slices_Equal_Luint64_uint64.l0 slices_Equal_Luint64_uint64.b0
    exact iteB_neg (decide_eq_false (by omega)) (hk2 fun j hj => he j (by omega))
  | d + 1, i, hi, he => by
    unfold slices_Equal_Luint64_uint64.l0 slices_Equal_Luint64_uint64.b0
    refine iteB_pos (decide_eq_true (by omega)) ?_
    have v0 := fun {G : Int → Prop} => vals_int (G := G) (k := .u64) (x := (wd64 f i : Int)) hv (rowF_get (c := cW) (show i < m by omega))
    have v1 := fun {G : Int → Prop} => vals_int (G := G) (k := .u64) (x := (wd64 g i : Int)) hv2 (rowF_get (c := cW) (show i < m by omega))
    simp -zeta (disch := omega) only [chkP_some, iteB_true, iteB_false, add_mk, Nat.zero_add, Nat.add_zero, Nat.mul_one, Nat.reduceAdd, Int.toNat_natCast, ex_int, ex_slice, ex_ptr, ex_bool, ex_str, ex_flt, ex_any, bnd_in, List.getElem?_cons_zero, List.getElem?_cons_succ, List.set_cons_zero, List.set_cons_succ, List.cons_append, List.nil_append, bne_self_eq_false, beq_self_eq_true, Bool.not_true, Bool.not_false, Option.isNone_some, Option.isNone_none, eq_self, true_and, and_true, and_self, v0, v1]
    refine iteB_intro (fun c => hk0 ⟨i, by omega, fun h => by rw [h] at c; simp at c⟩) (fun c => ?_)
    have c : wd64 f i = wd64 g i := by
      have : (wd64 f i : Int) = (wd64 g i : Int) := by simpa using c
      omega
    rw [wrap64 (by omega) (by omega)]
    exact eq_l0 hm hv hv2 hk0 hk2 d (i + 1) (by omega) fun j hj => by
      by_cases e : j = i
      · subst e; exact c
      · exact he j (by omega)
theorem words_eq {g : Nat → Bool} {n : Nat} (hf : clean f n) (hg : clean g n) : (∀ i, i < nw n → wd64 f i = wd64 g i) ↔ f = g := by
  constructor
  · intro h
    funext v
    by_cases hv : v < n
    · have := h (v / 64) (by unfold nw; omega)
      have t1 := wd64_test (f := f) (i := v / 64) (j := v % 64) (by omega)
      have t2 := wd64_test (f := g) (i := v / 64) (j := v % 64) (by omega)
      rw [this, t2, show v / 64 * 64 + v % 64 = v by omega] at t1
      exact t1.symm
    · rw [hf v (by omega), hg v (by omega)]
  · rintro rfl i _; rfl
theorem VSame_of {h : Heap} {K : Bool → Heap → Prop} {b : VA} {m : Nat} {g : Nat → Bool} (hn : n ≤ 4096) (hm : m ≤ 4096) (hf : clean f n) (hg : clean g m) (hv : isV h a n f) (hv2 : isV h b m g) (r : Bool) (hr : r = true ↔ (n = m ∧ f = g)) (hk : K r h) : vset_Same a.ptr b.ptr h K := by
  unfold vset_Same
  intro j
  have J : j := by
    simp -zeta only [j]
    unfold VA.ptr
    simp -zeta (disch := omega) only [chkP_some, iteB_true, iteB_false, add_mk, Nat.zero_add, Nat.add_zero, Nat.mul_one, Nat.reduceAdd, Int.toNat_natCast, ex_int, ex_slice, ex_ptr, ex_bool, ex_str, ex_flt, ex_any, bnd_in, List.getElem?_cons_zero, List.getElem?_cons_succ, List.set_cons_zero, List.set_cons_succ, List.cons_append, List.nil_append, bne_self_eq_false, beq_self_eq_true, Bool.not_true, Bool.not_false, Option.isNone_some, Option.isNone_none, eq_self, true_and, and_true, and_self, hv.1, hv2.1]
    refine iteB_intro (fun c => ?_) (fun c => ?_)
    · have c : n = m := by
        have : (n : Int) = (m : Int) := by simpa using c
        omega
      subst c
      have we := words_eq hf hg
      have yes : (∀ i, i < nw n → wd64 f i = wd64 g i) → K true h := fun e => by
        have : r = true := hr.2 ⟨rfl, we.1 e⟩
        rw [this] at hk; exact hk
      have no : (∃ i, i < nw n ∧ wd64 f i ≠ wd64 g i) → K false h := fun ⟨i, hi, e⟩ => by
        have : r = false := Bool.eq_false_iff.2 fun e2 => e (we.2 (hr.1 e2).2 i hi)
        rw [this] at hk; exact hk
      have nb := nw_le hn
      by_cases e : ∀ i, i < nw n → wd64 f i = wd64 g i
      · refine qcallP1.of true (fun Q hQ => ?_) (yes e)
        unfold slices_Equal_Luint64_uint64
        exact iteB_neg (by simp) ⟨nw n + 1, eq_l0 nb hv.vals hv2.vals (fun ⟨i, hi, h⟩ => absurd (e i hi) h) (fun _ => hQ) (nw n) 0 (by omega) (fun j hj => by omega)⟩
      · refine qcallP1.of false (fun Q hQ => ?_) (no (by
          refine Classical.byContradiction fun hne => e fun i hi => Classical.byContradiction fun h => hne ⟨i, hi, h⟩))
        unfold slices_Equal_Luint64_uint64
        exact iteB_neg (by simp) ⟨nw n + 1, eq_l0 nb hv.vals hv2.vals (fun _ => hQ) (fun h => absurd h e) (nw n) 0 (by omega) (fun j hj => by omega)⟩
    · have c : ¬ n = m := fun h => by subst h; simp at c
      have : r = false := Bool.eq_false_iff.2 fun e2 => c (hr.1 e2).1
      rw [this] at hk; exact hk
  clear_value j
  exact iteB_neg rfl (iteB_neg rfl J)
end
end Go.Proofs.YtmojgekepkpfcaaDoor
