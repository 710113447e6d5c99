/-
  Numbers in digits: lists, read and printed, the program's and the document's.
-/
import Derived.Test.YtnepdopakngpfaaDoorE10
import Derived.Test.YtnepdopakngpfaaDoorE3
namespace Go.Proofs.YtnepdopakngpfaaDoor
set_option linter.unusedVariables false
set_option linter.unusedSimpArgs false
set_option linter.unnecessarySimpa false
open Go.Proofs Go.Shelf Go.RowKit Go.Hp
attribute [local irreducible] Go.Hp.iteB Go.Hp.stC Go.Hp.newP
def numV (l : List Int) : List Value := l.map (Value.int .i64)
theorem numV_len (l : List Int) : (numV l).length = l.length := by simp [numV]
theorem numV_get {l : List Int} {i : Nat} {x : Int} (h : l[i]? = some x) : (numV l)[i]? = some (.int .i64 x) := by unfold numV; rw [List.getElem?_map, h]; rfl
theorem par_snoc (a : List (List UInt8)) (x : List UInt8) : numV (a.map parN) ++ [Value.int .i64 (parN x)] = numV ((a ++ [x]).map parN) := by simp [numV]
/-- The parts of a text. -/
def ptsL (L : List UInt8) : List (List UInt8) := if L = [] then [] else segA 32 [] L
theorem segA_lens (c : UInt8) (n : Nat) : ∀ (l acc : List UInt8), acc.length + l.length ≤ n → (∀ x ∈ segA c acc l, x.length ≤ n) ∧ (segA c acc l).length ≤ l.length + 1
  | [], acc, h => by simp [segA] at *; omega
  | b :: l, acc, h => by
    rw [segA_cons]
    simp at h
    by_cases e : b = c
    · rw [if_pos e]
      obtain ⟨h1, h2⟩ := segA_lens c n l [] (by simp; omega)
      refine ⟨fun x hx => ?_, by simp; omega⟩
      rcases List.mem_cons.1 hx with rfl | hx
      · omega
      · exact h1 x hx
    · rw [if_neg e]
      obtain ⟨h1, h2⟩ := segA_lens c n l (acc ++ [b]) (by simp; omega)
      exact ⟨h1, by simp; omega⟩
theorem split_eq (L : List UInt8) : Lib.splitB ⟨#[32]⟩ 0 (Lib.countB (str L) ⟨#[32]⟩) (str L) = (segA 32 [] L).map str := by
  have h1 := Lib.splitB_data ⟨#[32]⟩ 0 (Lib.countB (str L) ⟨#[32]⟩) (str L)
  have h2 : Lib.countB (str L) ⟨#[32]⟩ = L.count 32 := Lib.count_one 32 L
  have h3 : (⟨#[32]⟩ : ByteArray).data.toList = [32] := rfl
  have h4 : (str L).data.toList = L := rfl
  rw [h3, h4, h2, splitK_segs 32 _ L rfl] at h1
  rw [h2]
  have h5 := congrArg (List.map str) h1
  rw [List.map_map] at h5
  rw [← h5]
  exact (List.map_id _).symm
theorem pts_len (L : List UInt8) : (ptsL L).length ≤ L.length + 1 := by
  have := (segA_lens 32 L.length L [] (by simp)).2
  unfold ptsL; split
  · simp
  · exact this
section
variable {h0 : Base} {R : Rws}
theorem read_l0 {K0 K2} {ls : List (List UInt8)} {q : Option Addr} {c : Nat} (f : Facts h0.heap) (kq : Keeps h0 R q (strV ls)) (hn : ls.length ≤ 2 ^ 21) (hl : ∀ x ∈ ls, x.length ≤ 2 ^ 21)
    (hbad : ∀ h' X a x r, ls = a ++ x :: r → (∀ y ∈ a, parE y = 0) → parE x ≠ 0 → St h0 h' (X ++ R) → K0 none 0 0 (parE x) (a.length : Int) h')
    (hk : ∀ h' q2 c2 X, (∀ y ∈ ls, parE y = 0) → Own q2 c2 (numV (ls.map parN)) X → St h0 h' (X ++ R) → K2 q2 ls.length c2 h') :
    ∀ (d i : Nat) (q2 : Option Addr) (c2 : Nat) (X : Rws) (h : Heap), i + d = ls.length → (∀ y ∈ ls.take i, parE y = 0) → Own q2 c2 (numV ((ls.take i).map parN)) X → St h0 h (X ++ R) →
      dec_Read.l0 K0 K2 (d + 1) q2 i c2 q ls.length c (ls.length : Int) (i : Int) h
  | 0, i, q2, c2, X, h, hi, ha, o, s => by
    unfold dec_Read.l0 dec_Read.b0
    obtain rfl : i = ls.length := by omega
    rw [List.take_length] at ha o
    exact iteB_neg (decide_eq_false (by omega)) (hk h q2 c2 X ha o s)
  | d + 1, i, q2, c2, X, h, hi, ha, o, s => by
    unfold dec_Read.l0 dec_Read.b0
    obtain ⟨x, hx⟩ := get_lt (l := ls) (i := i) (by omega)
    obtain ⟨a, haq, g⟩ := kq h (X ++ R) s (fun y hy => by simp [hy]) i (.string (str x)) (by unfold strV; rw [List.getElem?_map, hx]; rfl)
    refine iteB_pos (decide_eq_true (by omega)) ?_
    rw [haq]
    simp -zeta only [chkP_some, Int.toNat_natCast, Nat.mul_one]
    rw [← haq]
    refine ⟨by omega, _, g, callP2.self (Parse_of (f.ext s.ext) (Nat.le_trans (hl x (List.mem_of_getElem? hx)) (by decide)) fun h1 e1 => iteB_intro (fun e => ?_) fun e => ?_)⟩
    · have e : parE x ≠ 0 := by simpa using e
      have := hbad h1 X (ls.take i) x (ls.drop (i + 1)) (by rw [← drop_cons hx, List.take_append_drop]) ha e (s.ofExt e1)
      rw [List.length_take, Nat.min_eq_left (by omega)] at this
      exact this
    · have e : parE x = 0 := by simpa using e
      have hlen : (numV ((ls.take i).map parN)).length = i := by rw [numV_len, List.length_map, List.length_take]; omega
      refine Own.push1 o (s.ofExt e1) hlen.symm rfl (by rw [hlen]; omega) fun q3 c3 X3 h3 o3 s3 => ?_
      rw [hlen, wrap64 (by omega) (by omega)]
      refine read_l0 f kq hn hl hbad hk d (i + 1) q3 c3 X3 h3 (by omega) (fun y hy => ?_) (by rw [take_snoc hx, ← par_snoc]; exact o3) s3
      rw [take_snoc hx] at hy
      rcases List.mem_append.1 hy with hy | hy
      · exact ha y hy
      · obtain rfl : y = x := by simpa using hy
        exact e
theorem Read_of {h : Heap} {L : List UInt8} {K : Option Addr → Nat → Nat → Int → Int → Heap → Prop} (f : Facts h0.heap) (hL : L.length ≤ 2 ^ 20) (s : St h0 h R)
    (hk : ∀ h' q c X, Keeps h0 (X ++ R) q (numV (rdL (ptsL L))) → St h0 h' (X ++ R) → K q (rdL (ptsL L)).length c (rdE (ptsL L) 0).1 ((rdE (ptsL L) 0).2 : Int) h') : dec_Read (str L) h K := by
  unfold dec_Read
  rw [toList_nil_iff]
  by_cases c : L = []
  · subst c
    exact iteB_pos rfl (hk h none 0 [] Keeps.nil s)
  · refine iteB_neg (by simp [c]) (callP3.self (Split_of (by rw [str_size]; omega) (f.max.ext s.ext) (by decide) ?_))
    have hlen : Lib.countB (str L) ⟨#[32]⟩ + 1 = (segA 32 [] L).length := by
      have := Lib.splitB_all ⟨#[32]⟩ (by decide) 0 _ (str L) rfl
      rw [split_eq, List.length_map] at this
      exact this.symm
    have hp : ptsL L = segA 32 [] L := by unfold ptsL; rw [if_neg c]
    rw [hlen, split_eq, ← strV_map]
    rw [hp] at hk
    obtain ⟨g1, g2⟩ := segA_lens 32 L.length L [] (by simp)
    refine s.new_ fun b h3 s3 => ⟨(segA 32 [] L).length + 1, ?_⟩
    refine read_l0 (R := (b, strV (segA 32 [] L)) :: R) f (Keeps.row (by simp)) (by omega) (fun x hx => by have := g1 x hx; omega) (fun h4 X a x r he ha hx s4 => ?_) (fun h4 q2 c2 X ha o s4 => ?_) (segA 32 [] L).length 0 none 0 [] h3 (by omega) (by simp) (by simpa [numV] using Own.nil) s3
    · have e1 : rdE (segA 32 [] L) 0 = (parE x, a.length) := by rw [he, rdE_bad hx a r 0 ha, Nat.zero_add]
      have e2 : rdL (segA 32 [] L) = [] := by unfold rdL; rw [e1, if_neg hx]
      have := hk h4 none 0 (X ++ [(b, strV (segA 32 [] L))]) (by rw [e2]; exact Keeps.nil) (by simpa using s4)
      rw [e1, e2] at this
      exact this
    · have e1 := rdE_good _ 0 ha
      have e2 : rdL (segA 32 [] L) = (segA 32 [] L).map parN := by unfold rdL; rw [e1, if_pos rfl]
      have := hk h4 q2 c2 (X ++ [(b, strV (segA 32 [] L))]) (by rw [e2]; exact o.keeps fun y hy => by simp [hy]) (by simpa using s4)
      rw [e1, e2, List.length_map] at this
      exact this
/-! ### The document's -/
theorem rread_l0 {K0 : Heap → Prop} {K2 : Option Addr → Nat → Nat → Heap → Prop} {L : List UInt8} {t : Nat} {v0 : List Value} (hL : L.length ≤ 2 ^ 20) (hne : L ≠ []) (hv0 : v0.length = 3)
    (hbad : ∀ h' X a x r, segA 32 [] L = a ++ x :: r → (∀ y ∈ a, parE y = 0) → parE x ≠ 0 → St h0 h' ((t, [.slice none 0 0, .int .i64 (parE x), .int .i64 (a.length : Int)]) :: (X ++ R)) → K0 h')
    (hk : ∀ h' q cap X Y, (∀ y ∈ segA 32 [] L, parE y = 0) → Own q cap (numV ((segA 32 [] L).map parN)) X → St h0 h' ((t, v0) :: (X ++ (Y ++ R))) → K2 q (segA 32 [] L).length cap h') :
    ∀ (d i f : Nat) (q : Option Addr) (cap : Nat) (X Y : Rws) (done : List (List UInt8)) (h : Heap), i + d = L.length + 1 → done.length ≤ i → (∀ y ∈ done, parE y = 0) →
      ((i ≤ L.length ∧ f ≤ i ∧ done ++ segA 32 ((L.take i).drop f) (L.drop i) = segA 32 [] L) ∨ (i = L.length + 1 ∧ done = segA 32 [] L)) → Own q cap (numV (done.map parN)) X → St h0 h ((t, v0) :: (X ++ (Y ++ R))) →
      straitref06_Read.l0 K0 K2 (d + 1) (str L) ⟨t, 0, none⟩ q done.length cap (f : Int) (i : Int) h := by
  intro d
  induction d with
  | zero =>
    intro i f q cap X Y done h hi hdl hw he o s
    unfold straitref06_Read.l0 straitref06_Read.b0
    intro j
    rw [str_size]
    obtain ⟨_, rfl⟩ := he.resolve_left (by omega)
    exact iteB_neg (decide_eq_false (by omega)) (hk h q cap X Y hw o s)
  | succ d ih =>
    intro i f q cap X Y done h hi hdl hw he o s
    unfold straitref06_Read.l0 straitref06_Read.b0
    obtain ⟨hiL, hf, he⟩ := he.resolve_right (by omega)
    have hpos : 0 < L.length := List.length_pos_iff.2 hne
    intro j
    rw [str_size]
    refine iteB_pos (decide_eq_true (by omega)) (iteB_pos (decide_eq_true (by omega)) ?_)
    simp -zeta only [j]
    clear j
    intro j
    have hseg : ((L.take i).drop f).length ≤ 2 ^ 40 := by simp; omega
    have JT : (∀ rest, segA 32 ((L.take i).drop f) (L.drop i) = ((L.take i).drop f) :: rest → (i = L.length ∧ rest = []) ∨ (i < L.length ∧ rest = segA 32 [] (L.drop (i + 1))) → j true) := fun rest hr hcase => by
      simp -zeta only [j]
      clear j
      refine iteB_pos rfl ?_
      rw [str_size]
      refine ⟨by omega, by omega, ?_⟩
      rw [Int.toNat_natCast, Int.toNat_natCast, extract_str, bytes_str]
      rw [hr] at he
      generalize hx : (L.take i).drop f = x at *
      refine callP2.self (RParse_of hseg fun h1 e1 => (s.ofExt e1).new_ fun g h2 s2 => s2.st0 (by simp) fun h3 s3 => ?_)
      rw [add_mk, Nat.zero_add]
      refine s3.st0 (by simp) fun h4 s4 => ⟨_, s4.rd0 1, iteB_intro (fun e => ?_) fun e => ?_⟩
      · have e : parE x ≠ 0 := by simpa using e
        refine ⟨_, s4.rd0 1, s4.st1 (by omega) fun h5 s5 => ?_⟩
        rw [add_mk, Nat.zero_add]
        refine s5.st1 (by simp; omega) fun h6 s6 => ?_
        rw [add_mk, Nat.zero_add]
        refine s6.st1 (by simp; omega) fun h7 s7 => ?_
        match v0, hv0, s7 with
        | [x0, y0, z0], _, s7 =>
          exact hbad h7 ((g, [.int .i64 (parN x), .int .i64 (parE x)]) :: (X ++ Y)) done x rest he.symm hw e (St.re s7 (by intro a; simp only [cntR_append, cntR_cons, cntR_nil, List.cons_append, List.nil_append, List.set_cons_zero, List.set_cons_succ]; omega))
      · have e : parE x = 0 := by simpa using e
        refine ⟨_, s4.rd0 0, ?_⟩
        have s' : St h0 h4 (X ++ ((t, v0) :: ((g, [.int .i64 (parN x), .int .i64 (parE x)]) :: Y ++ R))) := (St.re s4 (by intro a; simp only [cntR_append, cntR_cons, cntR_nil, List.cons_append, List.nil_append, List.set_cons_zero, List.set_cons_succ]; omega))
        have hlen : (numV (done.map parN)).length = done.length := by rw [numV_len, List.length_map]
        refine Own.push1 o s' hlen.symm rfl (by rw [hlen]; omega) fun q2 c2 X2 h5 o2 s5 => ?_
        rw [hlen, wrap64 (by omega) (by omega)]
        have := ih (i + 1) (i + 1) q2 c2 X2 ((g, [.int .i64 (parN x), .int .i64 (parE x)]) :: Y) (done ++ [x]) h5 (by omega) (by simp; omega) (fun l hl => by
          rcases List.mem_append.1 hl with hl | hl
          · exact hw l hl
          · have : l = x := by simpa using hl
            rw [this]; exact e) (by
          rcases hcase with ⟨h1, rfl⟩ | ⟨h1, rfl⟩
          · exact .inr ⟨by omega, he⟩
          · refine .inl ⟨by omega, Nat.le_refl _, ?_⟩
            rw [← he, List.drop_of_length_le (l := L.take (i + 1)) (i := i + 1) (by simp; omega)]; simp) (by rw [← par_snoc]; exact o2) (St.re s5 (by intro a; simp only [cntR_append, cntR_cons, cntR_nil, List.cons_append, List.nil_append, List.set_cons_zero, List.set_cons_succ]; omega))
        rw [List.length_append] at this
        exact this
    have JF : ∀ b, L[i]? = some b → b ≠ 32 → j false := fun b g hb => by
      simp -zeta only [j]
      refine iteB_neg rfl ?_
      rw [wrap64 (by omega) (by omega)]
      have hd : L.drop i = b :: L.drop (i + 1) := drop_cons g
      have hlt := lt_get g
      refine ih (i + 1) f q cap X Y done h (by omega) (by omega) hw (.inl ⟨by omega, by omega, ?_⟩) o s
      rw [← he, hd, segA_cons, if_neg hb, take_snoc g, List.drop_append_of_le_length (by simp; omega)]
    clear_value j
    refine iteB_intro (fun e => ?_) fun e => ?_
    · have e : i = L.length := by have e : (i : Int) = (L.length : Int) := by simpa [str_size] using e
                                  omega
      exact JT [] (by rw [List.drop_of_length_le (l := L) (i := i) (by omega)]; rfl) (.inl ⟨e, rfl⟩)
    · have e : i < L.length := by have e : ¬ (i : Int) = (L.length : Int) := by simpa [str_size] using e
                                  omega
      obtain ⟨b, g1, g2⟩ := byte_at (s := str L) (i := i) (by rw [str_size]; omega)
      rw [bytes_str] at g2
      refine ⟨by omega, b, by rw [Int.toNat_natCast]; exact g1, ?_⟩
      by_cases hb : b = 32
      · have : ((b.toNat : Int) == 32) = true := by subst hb; rfl
        rw [this]
        refine JT (segA 32 [] (L.drop (i + 1))) ?_ (.inr ⟨e, rfl⟩)
        rw [drop_cons g2, segA_cons, if_pos hb]
      · have : ((b.toNat : Int) == 32) = false := by
          have : ¬ b.toNat = 32 := fun h => hb (UInt8.toNat_inj.1 (show b.toNat = (32 : UInt8).toNat from h))
          simp; omega
        rw [this]
        exact JF b g2 hb
theorem RRead_of {h : Heap} {L : List UInt8} {K : Option Addr → Nat → Nat → Int → Int → Heap → Prop} (hL : L.length ≤ 2 ^ 20) (s : St h0 h R)
    (hk : ∀ h' q c X, Keeps h0 (X ++ R) q (numV (rdL (ptsL L))) → St h0 h' (X ++ R) → K q (rdL (ptsL L)).length c (rdE (ptsL L) 0).1 ((rdE (ptsL L) 0).2 : Int) h') : straitref06_Read (str L) h K := by
  unfold straitref06_Read
  refine s.new_ fun t h1 s1 => ?_
  by_cases c : L = []
  · subst c
    refine ⟨1, ?_⟩
    unfold straitref06_Read.l0 straitref06_Read.b0
    intro j
    clear_value j
    refine iteB_pos rfl (iteB_neg rfl (s1.st0 (by simp) fun h4 s4 => ?_))
    rw [add_mk, Nat.zero_add]
    refine s4.st0 (by simp) fun h5 s5 => ?_
    rw [add_mk, Nat.zero_add]
    exact s5.st0 (by simp) fun h6 s6 => ⟨_, _, _, s6.rd0 0, _, s6.rd0 1, _, s6.rd0 2, hk h6 none 0 [_] Keeps.nil s6⟩
  · have hp : ptsL L = segA 32 [] L := by unfold ptsL; rw [if_neg c]
    rw [hp] at hk
    refine ⟨L.length + 1 + 1, rread_l0 (R := R) (t := t) (v0 := [.slice none 0 0, .int .i64 0, .int .i64 0]) hL c rfl (fun h' X a x r he ha hx s' => ?_) (fun h' q cap X Y ha o s' => ?_) (L.length + 1) 0 0 none 0 [] [] [] h1 (by omega) (by simp) (by simp) (.inl ⟨by omega, Nat.le_refl _, by simp⟩) (by simpa [numV] using Own.nil) s1⟩
    · refine ⟨_, _, _, s'.rd0 0, _, s'.rd0 1, _, s'.rd0 2, ?_⟩
      have e1 : rdE (segA 32 [] L) 0 = (parE x, a.length) := by rw [he, rdE_bad hx a r 0 ha, Nat.zero_add]
      have e2 : rdL (segA 32 [] L) = [] := by unfold rdL; rw [e1, if_neg hx]
      have := hk h' none 0 (_ :: X) (by rw [e2]; exact Keeps.nil) s'
      rw [e1, e2] at this
      exact this
    · refine s'.st0 (by simp) fun h4 s4 => ?_
      rw [add_mk, Nat.zero_add]
      refine s4.st0 (by simp) fun h5 s5 => ?_
      rw [add_mk, Nat.zero_add]
      refine s5.st0 (by simp) fun h6 s6 => ⟨_, _, _, s6.rd0 0, _, s6.rd0 1, _, s6.rd0 2, ?_⟩
      have e1 := rdE_good _ 0 ha
      have e2 : rdL (segA 32 [] L) = (segA 32 [] L).map parN := by unfold rdL; rw [e1, if_pos rfl]
      have := hk h6 q cap ((t, [.slice q (segA 32 [] L).length cap, .int .i64 0, .int .i64 0]) :: (X ++ Y)) (by rw [e2]; exact o.keeps fun y hy => by simp [hy]) (by simpa using s6)
      rw [e1, e2, List.length_map] at this
      exact this
end
/-! ### Lists as texts -/
theorem tailJ_snoc : ∀ (r : List (List UInt8)) (a x : List UInt8), tailJ a (r ++ [x]) = tailJ a r ++ [32] ++ x
  | [], a, x => rfl
  | y :: r, a, x => by rw [List.cons_append, tailJ, tailJ_snoc r, tailJ]
theorem joinB_snoc {a : List (List UInt8)} (x : List UInt8) (h : a ≠ []) : joinB (a ++ [x]) = joinB a ++ [32] ++ x := by
  match a, h with
  | y :: r, _ => rw [List.cons_append, joinB, tailJ_snoc, joinB]
theorem sum_itoa : ∀ (l : List Int), (∀ n ∈ l, inR n = true) → sumL (l.map Lib.itoa) ≤ 20 * l.length
  | [], _ => by simp [sumL]
  | n :: r, h => by
    have := sum_itoa r fun m hm => h m (by simp [hm])
    obtain ⟨h0, h1⟩ := inR_iff.1 (h n (by simp))
    have := itoa_len h0 h1
    rw [List.map_cons, sumL_cons]; simp; omega
theorem list_len {l : List Int} (h : ∀ n ∈ l, inR n = true) (i : Nat) : (joinB ((l.take i).map Lib.itoa)).length ≤ 21 * l.length := by
  have h1 := sumL_join ((l.take i).map Lib.itoa)
  have h2 := sum_itoa (l.take i) fun n hn => h n (List.mem_of_mem_take hn)
  rw [List.length_map] at h1
  have h3 : (l.take i).length ≤ l.length := by rw [List.length_take]; omega
  omega
section
variable {g0 : Heap} {q : Option Addr} {c : Nat}
theorem bldr_new (h : Heap) : BH h.size h.size [] (h.push (.cells #[.pointer none, .slice none 0 0] 75)) := fun w hw =>
  bldr_heap (w := (({ w with heap := h } : World).alloc (.cells #[.pointer none, .slice none 0 0] 75))) hw (Lib.fresh_isBuilder 75 5 { w with heap := h })
theorem list_l0 {K2 : Heap → Prop} {b : Nat} {ls : List Int} (v : valsAt g0 q (numV ls)) (f : Facts g0) (hin : ∀ n ∈ ls, inR n = true) (hb : ls.length ≤ 2 ^ 20)
    (hk : ∀ h', Ext g0 h' → BH g0.size b (joinB (ls.map Lib.itoa)) h' → K2 h') :
    ∀ (d i : Nat) (h : Heap), i + d = ls.length → Ext g0 h → BH g0.size b (joinB ((ls.take i).map Lib.itoa)) h → dec_List.l0 K2 (d + 1) ⟨b, 0, none⟩ q ls.length c (ls.length : Int) (i : Int) h
  | 0, i, h, hi, e, k => by
    unfold dec_List.l0 dec_List.b0
    rw [List.take_of_length_le (by omega)] at k
    exact iteB_neg (decide_eq_false (by omega)) (hk h e k)
  | d + 1, i, h, hi, e, k => by
    unfold dec_List.l0 dec_List.b0
    obtain ⟨n, hn⟩ := get_lt (l := ls) (i := i) (by omega)
    have hi1 := hin n (List.mem_of_getElem? hn)
    obtain ⟨r0, r1⟩ := inR_iff.1 hi1
    have hl := list_len hin i
    have hl2 := itoa_len r0 r1
    obtain ⟨a, ha, g⟩ := (v.ext e) i _ (numV_get hn)
    refine iteB_pos (decide_eq_true (by omega)) ?_
    rw [ha]
    simp -zeta only [chkP_some, Int.toNat_natCast, Nat.mul_one]
    rw [← ha]
    have ht : (ls.take (i + 1)).map Lib.itoa = (ls.take i).map Lib.itoa ++ [Lib.itoa n] := by rw [take_snoc hn, List.map_append]; rfl
    refine ⟨by omega, _, g, iteB_intro (fun e1 => ?_) fun e1 => ?_⟩
    · have e1 := of_decide_eq_true e1
      refine callP1.self (WriteByte_of (c := 32) e k (by omega) fun _ h2 e2 k2 => callP1.self (Print_of (f.ext e2) hi1 fun h3 e3 => callP2.self (WriteString_of (e2.trans e3) (k2.ext e3) (by simp only [List.length_append, List.length_cons, List.length_nil]; omega) fun _ _ h4 e4 k4 => ?_)))
      rw [wrap64 (by omega) (by omega)]
      refine list_l0 v f hin hb hk d (i + 1) h4 (by omega) e4 ?_
      rw [ht, joinB_snoc _ (by intro hh; have := congrArg List.length hh; rw [List.length_map, List.length_take, List.length_nil] at this; omega)]
      exact k4
    · have e1 := of_decide_eq_false e1
      obtain rfl : i = 0 := by omega
      refine callP1.self (Print_of (f.ext e) hi1 fun h3 e3 => callP2.self (WriteString_of (e.trans e3) (k.ext e3) (by omega) fun _ _ h4 e4 k4 => ?_))
      rw [wrap64 (by omega) (by omega)]
      refine list_l0 v f hin hb hk d (0 + 1) h4 (by omega) e4 ?_
      rw [ht]
      exact k4
theorem List_of {h : Heap} {ls : List Int} {K : ByteArray → Heap → Prop} (v : valsAt h q (numV ls)) (f : Facts h) (hin : ∀ n ∈ ls, inR n = true) (hb : ls.length ≤ 2 ^ 20)
    (hk : ∀ h', Ext h h' → K (str (joinB (ls.map Lib.itoa))) h') : dec_List q ls.length c h K := by
  unfold dec_List
  refine new_fresh ⟨ls.length + 1, list_l0 v f hin hb (fun h' e k => ?_) ls.length 0 _ (by omega) ((Ext.refl h).push _) (bldr_new h)⟩
  exact callP1.self (String_of e k fun h2 e2 => hk h2 e2)
theorem rlist_l0 {K2 : ByteArray → Heap → Prop} {ls : List Int} (v : valsAt g0 q (numV ls)) (hin : ∀ n ∈ ls, inR n = true) (hb : ls.length ≤ 2 ^ 20)
    (hk : ∀ h', Ext g0 h' → K2 (str (joinB (ls.map Lib.itoa))) h') :
    ∀ (d i : Nat) (h : Heap), i + d = ls.length → Ext g0 h → straitref06_List.l0 K2 (d + 1) q ls.length c (str (joinB ((ls.take i).map Lib.itoa))) (i : Int) h
  | 0, i, h, hi, e => by
    unfold straitref06_List.l0 straitref06_List.b0
    rw [List.take_of_length_le (by omega)]
    exact iteB_neg (decide_eq_false (by omega)) (hk h e)
  | d + 1, i, h, hi, e => by
    unfold straitref06_List.l0 straitref06_List.b0
    obtain ⟨n, hn⟩ := get_lt (l := ls) (i := i) (by omega)
    have hi1 := hin n (List.mem_of_getElem? hn)
    obtain ⟨r0, r1⟩ := inR_iff.1 hi1
    have hl := list_len hin i
    have hl2 := itoa_len r0 r1
    obtain ⟨a, ha, g⟩ := (v.ext e) i _ (numV_get hn)
    have ht : (ls.take (i + 1)).map Lib.itoa = (ls.take i).map Lib.itoa ++ [Lib.itoa n] := by rw [take_snoc hn, List.map_append]; rfl
    have e32 : (⟨#[32]⟩ : ByteArray) = str [32] := rfl
    rw [ha]
    simp -zeta only [chkP_some, Int.toNat_natCast, Nat.mul_one]
    rw [← ha]
    rw [e32, str_app, str_size, str_size, str_size]
    refine iteB_pos (decide_eq_true (by omega)) (iteB_intro (fun e1 => ⟨by simp only [List.length_append, List.length_cons, List.length_nil]; omega, by omega, _, g, callP1.self (RPrint_of r0 r1 fun h3 e3 => ⟨by rw [str_size]; simp only [List.length_append, List.length_cons, List.length_nil]; omega, ?_⟩)⟩) fun e1 => ⟨by omega, _, g, callP1.self (RPrint_of r0 r1 fun h3 e3 => ⟨by rw [str_size]; omega, ?_⟩)⟩)
    · have e1 := of_decide_eq_true e1
      rw [wrap64 (by omega) (by omega), str_app]
      have := rlist_l0 v hin hb hk d (i + 1) h3 (by omega) (e.trans e3)
      rw [ht, joinB_snoc _ (by intro hh; have := congrArg List.length hh; rw [List.length_map, List.length_take, List.length_nil] at this; omega)] at this
      exact this
    · have e1 := of_decide_eq_false e1
      obtain rfl : i = 0 := by omega
      rw [wrap64 (by omega) (by omega), str_app]
      have := rlist_l0 v hin hb hk d (0 + 1) h3 (by omega) (e.trans e3)
      rw [ht] at this
      exact this
theorem RList_of {h : Heap} {ls : List Int} {K : ByteArray → Heap → Prop} (v : valsAt h q (numV ls)) (hin : ∀ n ∈ ls, inR n = true) (hb : ls.length ≤ 2 ^ 20)
    (hk : ∀ h', Ext h h' → K (str (joinB (ls.map Lib.itoa))) h') : straitref06_List q ls.length c h K := by
  unfold straitref06_List
  exact ⟨ls.length + 1, rlist_l0 v hin hb hk ls.length 0 h (by omega) (Ext.refl h)⟩
end
section
variable {h : Heap} {K0 : Bool → Heap → Prop} {K2 : Heap → Prop} {c1 c2 : Nat} {p1 p2 : Option Addr} {ls : List Int}
theorem same_l0 (v1 : valsAt h p1 (numV ls)) (v2 : valsAt h p2 (numV ls)) (hn : ls.length ≤ 2 ^ 40) (hk : K2 h) : ∀ (d i : Nat), i + d = ls.length → straitref04_Same.l0 K0 K2 (d + 1) p1 ls.length c1 p2 ls.length c2 (i : Int) h
  | 0, i, hi => by
    unfold straitref04_Same.l0 straitref04_Same.b0
    exact iteB_neg (decide_eq_false (by omega)) hk
  | d + 1, i, hi => by
    unfold straitref04_Same.l0 straitref04_Same.b0
    obtain ⟨x, hx⟩ := get_lt (l := ls) (i := i) (by omega)
    obtain ⟨a1, ha1, g1⟩ := v1 i _ (numV_get hx)
    obtain ⟨a2, ha2, g2⟩ := v2 i _ (numV_get hx)
    refine iteB_pos (decide_eq_true (by omega)) ?_
    rw [ha1, ha2]
    simp -zeta only [chkP_some, Int.toNat_natCast, Nat.mul_one]
    rw [← ha1, ← ha2]
    refine ⟨by omega, _, g1, by omega, _, g2, iteB_neg (by simp) ?_⟩
    rw [wrap64 (by omega) (by omega)]
    exact same_l0 v1 v2 hn hk d (i + 1) (by omega)
theorem Same_of {K : Bool → Heap → Prop} (v1 : valsAt h p1 (numV ls)) (v2 : valsAt h p2 (numV ls)) (hn : ls.length ≤ 2 ^ 40) (hk : K true h) : straitref04_Same p1 ls.length c1 p2 ls.length c2 h K := by
  unfold straitref04_Same
  exact iteB_neg (by simp) ⟨ls.length + 1, same_l0 v1 v2 hn hk ls.length 0 (by omega)⟩
end
end Go.Proofs.YtnepdopakngpfaaDoor
