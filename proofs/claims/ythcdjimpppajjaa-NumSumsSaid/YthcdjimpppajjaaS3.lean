/-
  Sums.
-/
import Derived.Test.YthcdjimpppajjaaS2
namespace Go.Proofs.Ythcdjimpppajjaa
set_option linter.unusedVariables false
set_option linter.unusedSimpArgs false
open Go.Hp Go.RowKit

def stepR (p : Int × Bool) (n : Int) : Int × Bool := if p.2 then addR p.1 n else p
def sumR (l : List Int) : Int × Bool := l.foldl stepR (0, true)
theorem sumR_snoc (l : List Int) (n : Int) : sumR (l ++ [n]) = stepR (sumR l) n := by simp [sumR]
theorem addR_fits (a b : Int) : fits (addR a b).1 := by
  unfold addR; split
  · assumption
  · simp [fits]
theorem addR_no {a b : Int} (h : (addR a b).2 = false) : addR a b = (0, false) := by
  unfold addR at *; split at h
  · cases h
  · rename_i hf; simp [hf]
theorem sumR_fits (l : List Int) : fits (sumR l).1 := by
  suffices ∀ p : Int × Bool, fits p.1 → fits (l.foldl stepR p).1 from this _ (by simp [fits])
  induction l with
  | nil => intro p h; exact h
  | cons n l ih =>
    intro p h
    refine ih _ ?_
    unfold stepR; split
    · exact addR_fits _ _
    · exact h
theorem stuck_sum (l : List Int) : l.foldl stepR (0, false) = (0, false) := by
  induction l with
  | nil => rfl
  | cons n l ih => exact ih
theorem sumR_take_no {l : List Int} {k : Nat} (h : sumR (l.take k) = (0, false)) : sumR l = (0, false) := by
  have : sumR l = (l.drop k).foldl stepR (sumR (l.take k)) := by
    unfold sumR; rw [← List.foldl_append, List.take_append_drop]
  rw [this, h]; exact stuck_sum _
theorem take_succ {l : List Int} {k : Nat} {n : Int} (h : l[k]? = some n) : l.take (k + 1) = l.take k ++ [n] := by
  rw [List.take_add_one, h]; rfl

def ints (l : List Int) : List Value := l.map (Value.int .i64)
theorem ints_get {l : List Int} {i : Nat} {n : Int} (h : l[i]? = some n) : (ints l)[i]? = some (.int .i64 n) := by simp [ints, h]

def accV (s : Int) (full : Bool) : List Value := [.int .i64 s, .bool full]

theorem F8_nil {n : Int} {h : Heap} {K : Bool → Heap → Prop} (hk : K false h) : F8 none n h K := by unfold F8; exact iteB_pos rfl hk

theorem F8_of {p : Nat} {s n : Int} {full : Bool} {h : Heap} {K : Bool → Heap → Prop} (hr : row h p (accV s full)) (hs : fits s) (hn : fits n) (h1 : full = true → K false h)
    (h2 : full = false → ∀ h', Chg (· = p) h h' → h'.size = h.size → row h' p (accV (addR s n).1 (!(addR s n).2)) → K (addR s n).2 h') : F8 (some ⟨p, 0, none⟩) n h K := by
  unfold F8
  refine iteB_neg rfl ?_
  simp only [chkP_some, add_mk, Nat.zero_add]
  refine ⟨full, by rw [hr.cell]; rfl, ?_⟩
  refine iteB_intro h1 fun e => ?_
  subst e
  refine ⟨s, by rw [hr.cell]; rfl, ?_⟩
  refine qcallP2.of _ _ (fun R => F12_of hs hn) ?_
  refine stC_row hr (by simp [accV]) (stC_row (hr.set 0 _) (by simp [accV]) ?_)
  refine h2 rfl _ ?_ (by simp) ((hr.set 0 _).set 1 _)
  exact (Chg.setC (fun x => x = p) h (p := ⟨p, 0, none⟩) rfl _).trans (Chg.setC (fun x => x = p) _ (p := ⟨p, 1, none⟩) rfl _)

theorem F9_nil {h : Heap} {K : Int → Bool → Heap → Prop} (hk : K 0 false h) : F9 none h K := by unfold F9; exact iteB_pos rfl hk
theorem F9_of {p : Nat} {s : Int} {full : Bool} {h : Heap} {K : Int → Bool → Heap → Prop} (hr : row h p (accV s full)) (hk : K (if full then 0 else s) (!full) h) : F9 (some ⟨p, 0, none⟩) h K := by
  unfold F9
  refine iteB_neg rfl ?_
  simp only [chkP_some, add_mk, Nat.zero_add]
  refine ⟨full, by rw [hr.cell]; rfl, iteB_intro (fun e => by subst e; exact hk) fun e => ?_⟩
  subst e
  exact ⟨s, by rw [hr.cell]; rfl, hk⟩

theorem F11_loop {h0 : Heap} {q : Option Addr} {l : List Int} {cap p : Nat} {K0 : Int → Bool → Heap → Prop} {K1 : Heap → Prop} (hq : valsAt h0 q (ints l)) (hl : ∀ n ∈ l, fits n) (hlen : l.length ≤ 1000000000000000) (hp : h0.size ≤ p)
    (k0 : ∀ h', Ext h0 h' → sumR l = (0, false) → K0 0 false h') (k1 : ∀ h', Ext h0 h' → (sumR l).2 = true → row h' p (accV (sumR l).1 false) → K1 h') :
    ∀ (d i : Nat) (h : Heap), i + d = l.length → Ext h0 h → (sumR (l.take i)).2 = true → row h p (accV (sumR (l.take i)).1 false) → ∀ m, d < m →
      F11.l0 K0 K1 m ⟨p, 0, none⟩ ⟨p, 0, none⟩ q l.length cap (l.length : Int) (i : Int) h := by
  intro d
  induction d with
  | zero =>
    intro i h hi he hs hr m hm
    obtain ⟨m, rfl⟩ : ∃ k, m = k + 1 := ⟨m - 1, by omega⟩
    show F11.b0 _ _ _ _ _ _ _ _ _ _ _
    have : l.take i = l := List.take_of_length_le (by omega)
    rw [this] at hs hr
    exact iteB_neg (by simp; omega) (k1 h he hs hr)
  | succ d ih =>
    intro i h hi he hs hr m hm
    obtain ⟨m, rfl⟩ : ∃ k, m = k + 1 := ⟨m - 1, by omega⟩
    show F11.b0 _ _ _ _ _ _ _ _ _ _ _
    have hlt : i < l.length := by omega
    obtain ⟨n, hn⟩ : ∃ n, l[i]? = some n := ⟨l[i], by simp [hlt]⟩
    obtain ⟨a, ha, hc⟩ := hq i _ (ints_get hn)
    subst ha
    refine iteB_pos (by simpa using hlt) ?_
    refine ⟨⟨by omega, by omega⟩, n, ?_, callP1.self (F8_of hr (sumR_fits _) (hl n (List.mem_of_getElem? hn)) (fun e => by cases e) fun _ h' hcg hsz hr' => ?_)⟩
    · simp only [Int.toNat_natCast, Nat.mul_one]; exact he.cell' hc
    · have he' : Ext h0 h' := he.chg_trans hcg (fun j hj => by omega)
      have hstep : sumR (l.take (i + 1)) = addR (sumR (l.take i)).1 n := by rw [take_succ hn, sumR_snoc, stepR, hs]; rfl
      refine iteB_intro (fun e => k0 h' he' ?_) fun e => ?_
      · refine sumR_take_no (k := i + 1) ?_
        rw [hstep]; exact addR_no (by simpa using e)
      · have e : (addR (sumR (l.take i)).1 n).2 = true := by simpa using e
        rw [wrap_id (by omega) (by omega)]
        refine ih (i + 1) h' (by omega) he' (by rw [hstep]; exact e) ?_ m (by omega)
        rw [hstep]; rw [e] at hr'; exact hr'

theorem F11_of {h : Heap} {q : Option Addr} {l : List Int} {cap : Nat} {K : Int → Bool → Heap → Prop} (hq : valsAt h q (ints l)) (hl : ∀ n ∈ l, fits n) (hlen : l.length ≤ 1000000000000000)
    (hk : ∀ h', Ext h h' → K (sumR l).1 (sumR l).2 h') : F11 q l.length cap h K := by
  unfold F11
  refine newP_intro fun p h3 hp hs he hr => ?_
  subst hp
  refine ⟨l.length + 1, F11_loop hq hl hlen (Nat.le_refl _) ?_ ?_ l.length 0 h3 (by omega) he rfl hr _ (by omega)⟩
  · intro h' he' hs; have := hk h' he'; rw [hs] at this; exact this
  · intro h' he' hs hr'
    refine qcallP2.of _ _ (fun R => F9_of hr') ?_
    have := hk h' he'; rw [hs] at this; exact this

theorem F7_loop {h0 : Heap} {q : Option Addr} {l : List Int} {cap p p2 : Nat} {K1 : Heap → Prop} (hq : valsAt h0 q (ints l)) (hl : ∀ n ∈ l, fits n) (hlen : l.length ≤ 1000000000000000) (hp : h0.size ≤ p)
    (hp2 : h0.size ≤ p2) (hne : p2 ≠ p) (k1 : ∀ h', Ext h0 h' → (∃ c, row h' p2 c ∧ c.length = 2) → row h' p [.int .i64 (sumR l).1, .bool (sumR l).2] → K1 h') :
    ∀ (d i : Nat) (h : Heap), i + d = l.length → Ext h0 h → (∃ c, row h p2 c ∧ c.length = 2) → row h p [.int .i64 (sumR (l.take i)).1, .bool (sumR (l.take i)).2] → ∀ m, d < m →
      F7.l0 K1 m q l.length cap ⟨p2, 0, none⟩ ⟨p, 0, none⟩ (i : Int) h := by
  intro d
  induction d with
  | zero =>
    intro i h hi he hr2 hr m hm
    obtain ⟨m, rfl⟩ : ∃ k, m = k + 1 := ⟨m - 1, by omega⟩
    show F7.b0 _ _ _ _ _ _ _ _ _
    have : l.take i = l := List.take_of_length_le (by omega)
    rw [this] at hr
    exact iteB_neg (by simp; omega) (k1 h he hr2 hr)
  | succ d ih =>
    intro i h hi he hr2 hr m hm
    obtain ⟨m, rfl⟩ : ∃ k, m = k + 1 := ⟨m - 1, by omega⟩
    show F7.b0 _ _ _ _ _ _ _ _ _
    have hlt : i < l.length := by omega
    obtain ⟨n, hn⟩ : ∃ n, l[i]? = some n := ⟨l[i], by simp [hlt]⟩
    obtain ⟨a, ha, hc⟩ := hq i _ (ints_get hn)
    subst ha
    refine iteB_pos (by simpa using hlt) ⟨(sumR (l.take i)).2, by rw [add_mk, hr.cell]; rfl, iteB_intro (fun e => ?_) (fun e => ?_)⟩
    · refine ⟨(sumR (l.take i)).1, by rw [hr.cell]; rfl, ⟨by omega, by omega⟩, n, ?_, callP2.self (F15_of (sumR_fits _) (hl n (List.mem_of_getElem? hn)) fun h' he2 => ?_)⟩
      · simp only [Int.toNat_natCast, Nat.mul_one]; exact he.cell' hc
      · have hr' := hr.ext he2
        have hstep : sumR (l.take (i + 1)) = addR (sumR (l.take i)).1 n := by rw [take_succ hn, sumR_snoc, stepR, e]; rfl
        refine stC_row hr' (by simp) ?_
        rw [add_mk]
        refine stC_row (hr'.set 0 _) (by simp) ?_
        rw [wrap_id (by omega) (by omega)]
        obtain ⟨c, hc2, hc3⟩ := hr2
        refine ih (i + 1) _ (by omega) (((he.trans he2).setC hp _).setC hp _) ⟨c, ((hc2.ext he2).other (p := ⟨p, 0, none⟩) (fun e => hne e.symm) _).other (p := ⟨p, 0 + 1, none⟩) (fun e => hne e.symm) _, hc3⟩ ?_ m (by omega)
        rw [hstep]
        exact (hr'.set 0 _).set 1 _
    · have hz : sumR (l.take i) = (0, false) := by
        rcases hq : sumR (l.take i) with ⟨x, y⟩
        rw [hq] at e
        have e : y = false := e
        subst e
        suffices ∀ (k : List Int) (p : Int × Bool), (p.2 = false → p = (0, false)) → ((k.foldl stepR p).2 = false → k.foldl stepR p = (0, false)) from by
          have := this (l.take i) (0, true) (fun h => by cases h)
          unfold sumR at hq; rw [hq] at this; exact this rfl
        intro k
        induction k with
        | nil => intro p h; exact h
        | cons n k ih => intro p h; exact ih _ (by
            unfold stepR; split
            · exact addR_no
            · exact h)
      have hall := sumR_take_no hz
      refine k1 h he hr2 ?_
      rw [hall]; rw [hz] at hr; exact hr

theorem F7_of {h : Heap} {q : Option Addr} {l : List Int} {cap : Nat} {K : Int → Bool → Heap → Prop} (hq : valsAt h q (ints l)) (hl : ∀ n ∈ l, fits n) (hlen : l.length ≤ 1000000000000000)
    (hk : ∀ h', Ext h h' → K (sumR l).1 (sumR l).2 h') : F7 q l.length cap h K := by
  unfold F7
  refine newP_intro fun p2 h3 hp2 hs he hr2 => ?_
  refine newP_intro fun p h5 hp hs5 he5 hr => ?_
  subst hp2 hp
  simp only [add_mk, Nat.zero_add]
  refine stC_row hr (by simp) (stC_row (hr.set 0 _) (by simp) ?_)
  have hle : h.size ≤ h3.size := he.size
  refine ⟨l.length + 1, F7_loop hq hl hlen hle (Nat.le_refl _) (by omega) ?_ l.length 0 _ (by omega) ((((he.trans he5)).setC hle _).setC hle _)
    ⟨_, ((hr2.ext he5).other (p := ⟨h3.size, 0, none⟩) (by show h3.size ≠ h.size; omega) _).other (p := ⟨h3.size, 1, none⟩) (by show h3.size ≠ h.size; omega) _, rfl⟩ ((hr.set 0 _).set 1 _) _ (by omega)⟩
  intro h' he' hr2' hr'
  obtain ⟨c, hc, hc2⟩ := hr2'
  refine ⟨_, by rw [hr'.cell]; rfl, _, by rw [hr'.cell]; rfl, ?_⟩
  obtain ⟨c0, c1, rfl⟩ : ∃ c0 c1, c = [c0, c1] := by
    match c, hc2 with
    | [a, b], _ => exact ⟨a, b, rfl⟩
  exact pair_end hc (Nat.le_refl _) he' hk
end Go.Proofs.Ythcdjimpppajjaa
