/-
  Bridges: what is found by the walk are the bridges: the plain law.
-/
import Derived.Test.YtbhndlpjfncliaaGreatM7
namespace Go.Proofs.YtbhndlpjfncliaaGreat
set_option linter.unusedVariables false
set_option linter.unusedSimpArgs false
set_option linter.unnecessarySimpa false
open Go.Hp Go.RowKit

/-! ### What holds on the way -/
abbrev nb (N : List (List Nat)) (v : Nat) : List Nat := N.getD v []
abbrev WyT := List (Nat × Int × List Nat)
def ChainB : WyT → Prop
  | [] => True
  | [a] => a.2.1 < 0
  | a :: b :: r => a.2.1 = (b.1 : Int) ∧ ChainB (b :: r)
theorem ChainB.tail : ∀ {a : Nat × Int × List Nat} {r : WyT}, ChainB (a :: r) → ChainB r
  | _, [], _ => trivial
  | _, _ :: _, h => h.2
theorem ChainB.cong {v : Nat} {f : Int} {l l' : List Nat} : ∀ {r : WyT}, ChainB ((v, f, l) :: r) → ChainB ((v, f, l') :: r)
  | [], h => h
  | _ :: _, h => h
def RegB (N : List (List Nat)) (met low : Nat → Nat) : Nat → WyT → Prop
  | _, [] => True
  | b, a :: ws => (∀ w u, met a.1 ≤ met w → met w < b → u ∈ nb N w → 0 < met u → met u < met a.1 → (w = a.1 ∧ (u ∈ a.2.2 ∨ (u : Int) = a.2.1)) ∨ low a.1 ≤ met u) ∧ RegB N met low (met a.1) ws
theorem RegB.mono {N : List (List Nat)} {met low low' : Nat → Nat} (h : ∀ v, low' v ≤ low v) : ∀ {b : Nat} {ws : WyT}, RegB N met low b ws → RegB N met low' b ws
  | _, [], _ => trivial
  | b, a :: ws, r => ⟨fun w u h1 h2 h3 h4 h5 => (r.1 w u h1 h2 h3 h4 h5).imp id fun x => Nat.le_trans (h _) x, RegB.mono h r.2⟩
theorem RegB.opened {N : List (List Nat)} {met low : Nat → Nat} {t u : Nat} (hu : met u = 0) (ht : ∀ w, met w ≤ t) : ∀ {b : Nat} {ws : WyT}, b ≤ t + 1 → (∀ a ∈ ws, 0 < met a.1) → RegB N met low b ws → RegB N (upd met u (t + 1)) (upd low u (t + 1)) b ws
  | _, [], _, _, _ => trivial
  | b, a :: ws, hb, hm, r => by
    have ha := hm a (by simp)
    have hne : a.1 ≠ u := by intro e; rw [e] at ha; omega
    have ea : upd met u (t + 1) a.1 = met a.1 := upd_ne _ _ hne
    have la : upd low u (t + 1) a.1 = low a.1 := upd_ne _ _ hne
    have hat := ht a.1
    refine ⟨fun w x h1 h2 h3 h4 h5 => ?_, ?_⟩
    · rw [ea] at h1 h5
      have hw : w ≠ u := by rintro rfl; rw [upd_same] at h2; omega
      have hx : x ≠ u := by rintro rfl; rw [upd_same] at h5; omega
      rw [upd_ne _ _ hw] at h1 h2
      rw [upd_ne _ _ hx] at h4 h5
      rw [upd_ne _ _ hx, la]
      exact r.1 w x h1 h2 h3 h4 h5
    · rw [ea]
      exact RegB.opened hu ht (by omega) (fun b hb => hm b (by simp [hb])) r.2
/-- A bridge: on one side of it are some vertices that nothing else leads out of. -/
def Brg (N : List (List Nat)) (p v : Nat) : Prop := ∃ S : Nat → Prop, S v ∧ ¬ S p ∧ ∀ w u, u ∈ nb N w → S w → ¬ S u → w = v ∧ u = p
/-- Names that are the same along each edge but one. -/
def GoodC (N : List (List Nat)) (x y : Nat) (C : Nat → Nat) : Prop := ∀ w u, u ∈ nb N w → ¬ (w = x ∧ u = y) → ¬ (w = y ∧ u = x) → C w = C u
def GdB (F : List (Nat × Nat)) (x y : Nat) (C : Nat → Nat) : Prop := C x = C y ∨ (x, y) ∈ F ∨ (y, x) ∈ F
theorem GdB.more {F G : List (Nat × Nat)} {x y : Nat} {C : Nat → Nat} (h : GdB F x y C) (hs : ∀ q ∈ F, q ∈ G) : GdB G x y C := h.imp id (Or.imp (hs _) (hs _))
def Ph0 (t0 : Nat) (s : BSt) (C : Nat → Nat) : Prop := ∀ u w, t0 < s.met u → t0 < s.met w → C u = C w
structure Ph1 (t0 : Nat) (s : BSt) (C : Nat → Nat) (p v : Nat) : Prop where
  onv : ∃ r, (v, (p : Int), r) ∈ s.way
  onp : ∃ b ∈ s.way, b.1 = p
  lt : s.met p < s.met v
  one : ∀ u, t0 < s.met u → s.met u < s.met v → C u = C p
  two : ∀ u, s.met v ≤ s.met u → C u = C v
  low : ∀ u, s.met v ≤ s.met u → s.low u < s.met v → C p = C v
def PhB (t0 : Nat) (s : BSt) (x y : Nat) (C : Nat → Nat) : Prop := GdB s.found x y C ∨ Ph0 t0 s C ∨ ∃ p v, ((p = x ∧ v = y) ∨ (p = y ∧ v = x)) ∧ Ph1 t0 s C p v
structure BInv (N : List (List Nat)) (t0 : Nat) (s : BSt) : Prop where
  tm : ∀ w, s.met w ≤ s.time
  tt : t0 ≤ s.time
  old : ∀ w, 0 < s.met w → s.met w ≤ t0 → ∀ u ∈ nb N w, 0 < s.met u ∧ s.met u ≤ t0
  way : ∀ a ∈ s.way, t0 < s.met a.1 ∧ ∀ u ∈ a.2.2, u ∈ nb N a.1
  srt : s.way.Pairwise fun a b => s.met b.1 < s.met a.1
  chn : ChainB s.way
  opn : ∀ w, 0 < s.met w → ∀ u ∈ nb N w, s.met u = 0 → ∃ a ∈ s.way, a.1 = w ∧ u ∈ a.2.2
  fin : ∀ z, 0 < s.met z → (∀ a ∈ s.way, a.1 ≠ z) → ∀ a ∈ s.way, s.met z < s.met a.1 → ∀ w ∈ nb N z, s.met w < s.met a.1
  reg : RegB N s.met s.low (s.time + 1) s.way
  brg : ∀ q ∈ s.found, Brg N q.1 q.2
  gdo : ∀ x y C, y ∈ nb N x → 0 < s.met x → s.met x ≤ t0 → GoodC N x y C → GdB s.found x y C
  ph : ∀ x y C, y ∈ nb N x → GoodC N x y C → PhB t0 s x y C
section
variable {N : List (List Nat)} {t0 : Nat} {met low : Nat → Nat} {t : Nat} {F : List (Nat × Nat)}
/-- The way is shorter by one that is met already. -/
theorem BInv.shrink {v u : Nat} {fr : Int} {rest : List Nat} {r : WyT} {low' : Nat → Nat} (sym : ∀ u w, u ∈ nb N w → w ∈ nb N u) (I : BInv N t0 ⟨met, low, t, F, (v, fr, u :: rest) :: r⟩) (hu : 0 < met u) (hl : ∀ w, low' w ≤ low w) (hlo : ∀ w, w ≠ v → low' w = low w) (h : ((u : Int) = fr ∧ low' v = low v) ∨ ((u : Int) ≠ fr ∧ low' v = min (low v) (met u))) :
    BInv N t0 ⟨met, low', t, F, (v, fr, rest) :: r⟩ := by
  have hmem : ∀ a ∈ (v, fr, rest) :: r, ∃ b ∈ (v, fr, u :: rest) :: r, b.1 = a.1 := fun a ha => by
    rcases List.mem_cons.1 ha with rfl | ha
    · exact ⟨_, List.mem_cons_self, rfl⟩
    · exact ⟨a, List.mem_cons_of_mem _ ha, rfl⟩
  have hv := I.way (v, fr, u :: rest) List.mem_cons_self
  simp only at hv
  have huv : u ∈ nb N v := hv.2 u List.mem_cons_self
  have srt := I.srt
  simp only at srt
  obtain ⟨s1, s2⟩ := List.pairwise_cons.1 srt
  simp only at s1
  refine ⟨I.tm, I.tt, I.old, fun a ha => ?_, List.pairwise_cons.2 ⟨s1, s2⟩, ChainB.cong I.chn, fun w hw x hx hx0 => ?_, fun z hz hn a ha hlt w hw => ?_, ⟨fun w x h1 h2 h3 h4 h5 => ?_, RegB.mono hl I.reg.2⟩, I.brg, I.gdo, fun x y C hxy hC => ?_⟩
  · rcases List.mem_cons.1 ha with rfl | ha
    · exact ⟨hv.1, fun x hx => hv.2 x (by simp [hx])⟩
    · exact I.way a (by simp [ha])
  · obtain ⟨a, ha, e, hm⟩ := I.opn w hw x hx hx0
    rcases List.mem_cons.1 ha with rfl | ha
    · simp only at e hm
      rcases List.mem_cons.1 hm with rfl | hm
      · have : met x = 0 := hx0
        omega
      · exact ⟨_, List.mem_cons_self, e, hm⟩
    · exact ⟨a, by simp [ha], e, hm⟩
  · obtain ⟨b, hb, e⟩ := hmem a ha
    have := I.fin z hz (fun c hc => ?_) b hb (by rw [e]; exact hlt) w hw
    · rw [e] at this; exact this
    · rcases List.mem_cons.1 hc with rfl | hc
      · exact hn (v, fr, rest) (by simp)
      · exact hn c (by simp [hc])
  · simp only at h1 h2 h3 h4 h5 ⊢
    rcases I.reg.1 w x h1 h2 h3 h4 h5 with ⟨e, h6⟩ | h6
    · simp only at e h6
      rcases h6 with h6 | h6
      · rcases List.mem_cons.1 h6 with rfl | h6
        · rcases h with ⟨h, _⟩ | ⟨_, h⟩
          · exact .inl ⟨e, .inr h⟩
          · exact .inr (by rw [h]; exact Nat.min_le_right _ _)
        · exact .inl ⟨e, .inl h6⟩
      · exact .inl ⟨e, .inr h6⟩
    · exact .inr (Nat.le_trans (hl _) h6)
  · rcases I.ph x y C hxy hC with g | g | ⟨p, q, hpq, P⟩
    · exact .inl g
    · exact .inr (.inl g)
    · obtain ⟨⟨r1, o1⟩, ⟨b, ob, eb⟩, plt, one, two, lw⟩ := P
      simp only at o1 ob plt one two lw
      have onv : ∃ r', (q, (p : Int), r') ∈ (v, fr, rest) :: r := by
        rcases List.mem_cons.1 o1 with e | o1
        · cases e; exact ⟨rest, by simp⟩
        · exact ⟨r1, by simp [o1]⟩
      have onp : ∃ b ∈ (v, fr, rest) :: r, b.1 = p := by
        rcases List.mem_cons.1 ob with e | ob
        · exact ⟨_, List.mem_cons_self, by rw [← eb, e]⟩
        · exact ⟨b, by simp [ob], eb⟩
      have key : met q ≤ met v := by
        rcases List.mem_cons.1 o1 with e | o1
        · cases e; exact Nat.le_refl _
        · exact Nat.le_of_lt (s1 _ o1)
      by_cases hc : C p = C q
      · refine .inl (.inl ?_)
        rcases hpq with ⟨rfl, rfl⟩ | ⟨rfl, rfl⟩
        · exact hc
        · exact hc.symm
      · refine .inr (.inr ⟨p, q, hpq, onv, onp, plt, one, two, fun z hz hzl => ?_⟩)
        simp only at hz hzl
        by_cases ez : z = v
        · subst ez
          rcases h with ⟨_, h⟩ | ⟨hne, h⟩
          · rw [h] at hzl; exact lw z hz hzl
          · rw [h] at hzl
            by_cases hl2 : low z < met q
            · exact lw z hz hl2
            · have hmu : met u < met q := by
                rcases Nat.le_total (low z) (met u) with h | h
                · rw [Nat.min_eq_left h] at hzl; omega
                · rw [Nat.min_eq_right h] at hzl; exact hzl
              have ht : t0 < met u := by
                rcases Nat.lt_or_ge t0 (met u) with h | h
                · exact h
                · have := (I.old u hu h z (sym _ _ huv)).2
                  have h9 := hv.1
                  have : met z ≤ t0 := this
                  omega
              have e1 : C z = C u := by
                have n1 : ¬ (z = q ∧ u = p) := by
                  rintro ⟨rfl, rfl⟩
                  rcases List.mem_cons.1 o1 with e | o1
                  · cases e; exact hne rfl
                  · have := s1 _ o1; simp only at this; omega
                have n2 : ¬ (z = p ∧ u = q) := by rintro ⟨rfl, rfl⟩; omega
                rcases hpq with ⟨rfl, rfl⟩ | ⟨rfl, rfl⟩
                · exact hC z u huv n2 n1
                · exact hC z u huv n1 n2
              rw [← one u ht hmu, ← e1]; exact two z hz
        · rw [hlo z ez] at hzl; exact lw z hz hzl
theorem BInv.pop {v p : Nat} {g : Int} {q : List Nat} {r : WyT} (sym : ∀ u w, u ∈ nb N w → w ∈ nb N u) (I : BInv N t0 ⟨met, low, t, F, (v, (p : Int), []) :: (p, g, q) :: r⟩) :
    BInv N t0 ⟨met, upd low p (min (low p) (low v)), t, (if upd low p (min (low p) (low v)) v > met p then F ++ [(p, v)] else F), (p, g, q) :: r⟩ := by
  have srt := I.srt
  simp only at srt
  obtain ⟨s1, s2⟩ := List.pairwise_cons.1 srt
  have hpv : met p < met v := s1 (p, g, q) (by simp)
  have hne : v ≠ p := by rintro rfl; omega
  have lv : upd low p (min (low p) (low v)) v = low v := upd_ne _ _ hne
  have hle : ∀ w, upd low p (min (low p) (low v)) w ≤ low w := fun w => by
    by_cases e : w = p
    · subst e; rw [upd_same]; exact Nat.min_le_left _ _
    · rw [upd_ne _ _ e]; exact Nat.le_refl _
  rw [lv]
  have hF : ∀ x ∈ F, x ∈ (if low v > met p then F ++ [(p, v)] else F) := fun x hx => by split <;> simp [hx]
  obtain ⟨r1, r2, r3⟩ := I.reg
  simp only at r1 r2 r3
  refine ⟨I.tm, I.tt, I.old, fun a ha => I.way a (List.mem_cons_of_mem _ ha), s2, I.chn.2, fun w hw x hx hx0 => ?_, fun z hz hn a ha hlt w hw => ?_, ⟨fun w x h1 h2 h3 h4 h5 => ?_, RegB.mono hle r3⟩, fun x hx => ?_, fun x y C h1 h2 h3 h4 => (I.gdo x y C h1 h2 h3 h4).more hF, fun x y C hxy hC => ?_⟩
  · obtain ⟨a, ha, e, hm⟩ := I.opn w hw x hx hx0
    rcases List.mem_cons.1 ha with rfl | ha
    · simp at hm
    · exact ⟨a, ha, e, hm⟩
  · refine I.fin z hz (fun c hc => ?_) a (List.mem_cons_of_mem _ ha) hlt w hw
    rcases List.mem_cons.1 hc with rfl | hc
    · rintro rfl
      have := s1 a ha
      simp only at this hlt; omega
    · exact hn c hc
  · simp only at h1 h2 h3 h4 h5 ⊢
    rw [upd_same]
    by_cases c : met w < met v
    · rcases r2 w x h1 c h3 h4 h5 with h | h
      · exact .inl h
      · exact .inr (Nat.le_trans (Nat.min_le_left _ _) h)
    · rcases r1 w x (by omega) h2 h3 h4 (by omega) with ⟨_, h⟩ | h
      · rcases h with h | h
        · simp at h
        · have : x = p := by omega
          subst this; omega
      · exact .inr (Nat.le_trans (Nat.min_le_right _ _) h)
  · simp only at hx
    by_cases c : low v > met p
    · rw [if_pos c] at hx
      rcases List.mem_append.1 hx with hx | hx
      · exact I.brg x hx
      · obtain rfl := List.mem_singleton.1 hx
        refine ⟨fun w => met v ≤ met w, Nat.le_refl _, by simp only; omega, fun w u hu hw hnu => ?_⟩
        simp only at hw hnu ⊢
        have hv0 := (I.way (v, (p : Int), []) (by simp)).1
        simp only at hv0
        have hmu : 0 < met u := by
          rcases Nat.eq_zero_or_pos (met u) with h | h
          · obtain ⟨a, ha, e, hm⟩ := I.opn w (by show 0 < met w; omega) u hu h
            rcases List.mem_cons.1 ha with rfl | ha
            · simp at hm
            · have := s1 a ha; rw [e] at this; simp only at this; omega
          · exact h
        have htm : met w ≤ t := I.tm w
        rcases r1 w u hw (by omega) hu hmu (by omega) with ⟨e, h⟩ | h
        · rcases h with h | h
          · simp at h
          · exact ⟨e, by omega⟩
        · have := I.fin u hmu (fun a ha => ?_) (v, (p : Int), []) (by simp) (by show met u < met v; omega) w (sym _ _ hu)
          · have : met w < met v := this
            omega
          · rintro rfl
            rcases List.mem_cons.1 ha with rfl | ha
            · simp only at hnu; omega
            · rcases List.mem_cons.1 ha with rfl | ha
              · simp only at h; omega
              · have := (List.pairwise_cons.1 s2).1 a ha
                simp only at this; omega
    · rw [if_neg c] at hx; exact I.brg x hx
  · rcases I.ph x y C hxy hC with g | g | ⟨p', v', hpq, P⟩
    · exact .inl (g.more hF)
    · exact .inr (.inl g)
    · obtain ⟨⟨l1, o1⟩, ⟨b, ob, eb⟩, plt, one, two, lw⟩ := P
      simp only at o1 ob plt one two lw
      by_cases ev : v' = v
      · subst ev
        have ep : p' = p := by
          rcases List.mem_cons.1 o1 with e | o1
          · cases e; rfl
          · have := s1 _ o1; simp only at this; omega
        subst ep
        refine .inl ?_
        show GdB (if low v' > met p' then F ++ [(p', v')] else F) x y C
        by_cases c : low v' > met p'
        · rw [if_pos c]
          rcases hpq with ⟨rfl, rfl⟩ | ⟨rfl, rfl⟩
          · exact .inr (.inl (by simp))
          · exact .inr (.inr (by simp))
        · have e := lw v' (Nat.le_refl _) (by omega)
          rcases hpq with ⟨rfl, rfl⟩ | ⟨rfl, rfl⟩
          · exact .inl e
          · exact .inl e.symm
      · have o2 : (v', (p' : Int), l1) ∈ (p, g, q) :: r := by
          rcases List.mem_cons.1 o1 with e | o1
          · cases e; exact absurd rfl ev
          · exact o1
        have hvv := s1 _ o2
        simp only at hvv
        have ob2 : b ∈ (p, g, q) :: r := by
          rcases List.mem_cons.1 ob with e | ob
          · subst e; simp only at eb; subst eb; omega
          · exact ob
        have hpp : met v' ≤ met p := by
          rcases List.mem_cons.1 o2 with e | o2
          · cases e; exact Nat.le_refl _
          · exact Nat.le_of_lt ((List.pairwise_cons.1 s2).1 _ o2)
        refine .inr (.inr ⟨p', v', hpq, ⟨l1, o2⟩, ⟨b, ob2, eb⟩, plt, one, two, fun z hz hzl => ?_⟩)
        simp only at hz hzl
        by_cases ez : z = p
        · subst ez
          rw [upd_same] at hzl
          rcases Nat.le_total (low z) (low v) with h | h
          · rw [Nat.min_eq_left h] at hzl; exact lw z hz hzl
          · rw [Nat.min_eq_right h] at hzl; exact lw v (by omega) hzl
        · rw [upd_ne _ _ ez] at hzl; exact lw z hz hzl
theorem BInv.end_ {v : Nat} {fr : Int} (I : BInv N t0 ⟨met, low, t, F, [(v, fr, [])]⟩) : BInv N t0 ⟨met, low, t, F, []⟩ := by
  have hfr : fr < 0 := I.chn
  refine ⟨I.tm, I.tt, I.old, fun a ha => by simp at ha, List.Pairwise.nil, trivial, fun w hw x hx hx0 => ?_, fun z hz hn a ha => by simp at ha, trivial, I.brg, I.gdo, fun x y C hxy hC => ?_⟩
  · obtain ⟨a, ha, e, hm⟩ := I.opn w hw x hx hx0
    obtain rfl := List.mem_singleton.1 ha
    simp at hm
  · rcases I.ph x y C hxy hC with g | g | ⟨p', v', hpq, P⟩
    · exact .inl g
    · exact .inr (.inl g)
    · obtain ⟨l1, o1⟩ := P.onv
      have e := List.mem_singleton.1 o1
      cases e
      omega
theorem BInv.open_ {v u : Nat} {fr : Int} {rest : List Nat} {r : WyT} (sym : ∀ u w, u ∈ nb N w → w ∈ nb N u) (I : BInv N t0 ⟨met, low, t, F, (v, fr, u :: rest) :: r⟩) (hu : met u = 0) :
    BInv N t0 ⟨upd met u (t + 1), upd low u (t + 1), t + 1, F, (u, (v : Int), nb N u) :: (v, fr, rest) :: r⟩ := by
  have tm : ∀ w, met w ≤ t := I.tm
  have ht0 : t0 ≤ t := I.tt
  have eu : ∀ w, 0 < met w → upd met u (t + 1) w = met w := fun w hw => upd_ne _ _ (by rintro rfl; omega)
  have en : ∀ w, w ≠ u → upd met u (t + 1) w = met w := fun w hw => upd_ne _ _ hw
  have hway : ∀ a ∈ (v, fr, u :: rest) :: r, t0 < met a.1 := fun a ha => (I.way a ha).1
  have hv : t0 < met v := hway (v, fr, u :: rest) (by simp)
  have huv : u ∈ nb N v := (I.way (v, fr, u :: rest) (by simp)).2 u (by simp)
  have hvu : v ≠ u := by rintro rfl; omega
  have srt := I.srt
  simp only at srt
  obtain ⟨s1, s2⟩ := List.pairwise_cons.1 srt
  simp only at s1
  have hmem : ∀ a ∈ (v, fr, rest) :: r, ∃ b ∈ (v, fr, u :: rest) :: r, b.1 = a.1 := fun a ha => by
    rcases List.mem_cons.1 ha with rfl | ha
    · exact ⟨_, List.mem_cons_self, rfl⟩
    · exact ⟨a, List.mem_cons_of_mem _ ha, rfl⟩
  have hpos : ∀ a ∈ (v, fr, rest) :: r, t0 < met a.1 := fun a ha => by
    obtain ⟨b, hb, e⟩ := hmem a ha
    rw [← e]; exact hway b hb
  have hsame : ∀ a ∈ (v, fr, rest) :: r, upd met u (t + 1) a.1 = met a.1 := fun a ha => eu _ (by have := hpos a ha; omega)
  refine ⟨fun w => ?_, by show t0 ≤ t + 1; omega, fun w h1 h2 x hx => ?_, fun a ha => ?_, ?_, ⟨rfl, ChainB.cong I.chn⟩, fun w hw x hx hx0 => ?_, fun z hz hn a ha hlt w hw => ?_, ⟨fun w x h1 h2 h3 h4 h5 => ?_, ?_⟩, I.brg, fun x y C h1 h2 h3 h4 => ?_, fun x y C hxy hC => ?_⟩
  · show upd met u (t + 1) w ≤ t + 1
    by_cases e : w = u
    · subst e; rw [upd_same]; exact Nat.le_refl _
    · rw [en w e]; have := tm w; omega
  · simp only at h1 h2 ⊢
    have e : w ≠ u := by rintro rfl; rw [upd_same] at h2; omega
    rw [en w e] at h1 h2
    obtain ⟨h3, h4⟩ := I.old w h1 h2 x hx
    rw [eu x h3]; exact ⟨h3, h4⟩
  · rcases List.mem_cons.1 ha with rfl | ha
    · exact ⟨by show t0 < upd met u (t + 1) u; rw [upd_same]; omega, fun x hx => hx⟩
    · refine ⟨by show t0 < upd met u (t + 1) a.1; rw [hsame a ha]; exact hpos a ha, ?_⟩
      rcases List.mem_cons.1 ha with rfl | ha
      · exact fun x hx => (I.way (v, fr, u :: rest) (by simp)).2 x (by simp [hx])
      · exact (I.way a (by simp [ha])).2
  · refine List.pairwise_cons.2 ⟨fun a ha => ?_, ?_⟩
    · show upd met u (t + 1) a.1 < upd met u (t + 1) u
      rw [hsame a ha, upd_same]; have := tm a.1; omega
    · refine List.Pairwise.imp_of_mem (fun {a b} ha hb h => ?_) (List.pairwise_cons.2 ⟨s1, s2⟩ : ((v, fr, rest) :: r).Pairwise fun a b => met b.1 < met a.1)
      show upd met u (t + 1) b.1 < upd met u (t + 1) a.1
      rw [hsame a ha, hsame b hb]; exact h
  · simp only at hw hx0
    have hxu : x ≠ u := by rintro rfl; rw [upd_same] at hx0; omega
    rw [en x hxu] at hx0
    by_cases e : w = u
    · subst e; exact ⟨_, List.mem_cons_self, rfl, hx⟩
    · rw [en w e] at hw
      obtain ⟨a, ha, e2, hm⟩ := I.opn w hw x hx hx0
      rcases List.mem_cons.1 ha with rfl | ha
      · simp only at e2 hm
        rcases List.mem_cons.1 hm with rfl | hm
        · exact absurd rfl hxu
        · exact ⟨(v, fr, rest), by simp, e2, hm⟩
      · exact ⟨a, by simp [ha], e2, hm⟩
  · simp only at hz hn ha hlt ⊢
    have hzu : z ≠ u := by rintro rfl; exact hn _ List.mem_cons_self rfl
    rw [en z hzu] at hz hlt
    have hnz : ∀ c ∈ (v, fr, u :: rest) :: r, c.1 ≠ z := fun c hc => by
      rcases List.mem_cons.1 hc with rfl | hc
      · exact hn (v, fr, rest) (by simp)
      · exact hn c (by simp [hc])
    have hwu : w ≠ u := by
      rintro rfl
      obtain ⟨a, ha, e, _⟩ := I.opn z hz w hw hu
      exact hnz a ha e
    rw [en w hwu]
    rcases List.mem_cons.1 ha with rfl | ha
    · show met w < upd met u (t + 1) u
      rw [upd_same]; have := tm w; omega
    · rw [hsame a ha] at hlt ⊢
      obtain ⟨b, hb, e⟩ := hmem a ha
      rw [← e] at hlt ⊢
      exact I.fin z hz hnz b hb hlt w hw
  · simp only at h1 h2 h3 h4 h5 ⊢
    rw [upd_same] at h1
    have : w = u := by
      rcases Nat.decEq w u with e | e
      · rw [en w e] at h1; have := tm w; omega
      · exact e
    subst this
    exact .inl ⟨rfl, .inl h3⟩
  · show RegB N (upd met u (t + 1)) (upd low u (t + 1)) (upd met u (t + 1) u) ((v, fr, rest) :: r)
    rw [upd_same]
    obtain ⟨g1, g2⟩ := I.reg
    simp only at g1 g2
    have ev : upd met u (t + 1) v = met v := en v hvu
    refine ⟨fun w x h1 h2 h3 h4 h5 => ?_, ?_⟩
    · simp only at h1 h2 h3 h4 h5 ⊢
      rw [ev] at h1 h5
      have htv := tm v
      have hw : w ≠ u := by rintro rfl; rw [upd_same] at h2; omega
      have hx : x ≠ u := by rintro rfl; rw [upd_same] at h5; omega
      rw [en w hw] at h1 h2
      rw [en x hx] at h4 h5
      rw [en x hx, show upd low u (t + 1) v = low v from upd_ne _ _ hvu]
      rcases g1 w x h1 h2 h3 h4 h5 with ⟨e, h⟩ | h
      · refine .inl ⟨e, ?_⟩
        rcases h with h | h
        · rcases List.mem_cons.1 h with h | h
          · exact absurd h hx
          · exact .inl h
        · exact .inr h
      · exact .inr h
    · simp only
      rw [ev]
      exact RegB.opened hu tm (by have := tm v; omega) (fun a ha => by have := hpos a (by simp [ha]); omega) g2
  · simp only at h2 h3
    have e : x ≠ u := by rintro rfl; rw [upd_same] at h3; omega
    rw [en x e] at h2 h3
    exact I.gdo x y C h1 h2 h3 h4
  · rcases I.ph x y C hxy hC with g | g | ⟨p', v', hpq, P⟩
    · exact .inl g
    · by_cases c : (v = x ∧ u = y) ∨ (v = y ∧ u = x)
      · refine .inr (.inr ⟨v, u, c, ⟨_, List.mem_cons_self⟩, ⟨(v, fr, rest), by simp, rfl⟩, ?_, fun z h1 h2 => ?_, fun z h1 => ?_, fun z h1 h2 => ?_⟩)
        · show upd met u (t + 1) v < upd met u (t + 1) u
          rw [en v hvu, upd_same]; have := tm v; omega
        · simp only at h1 h2
          have hz : z ≠ u := by rintro rfl; omega
          rw [en z hz] at h1
          exact g z v h1 hv
        · simp only at h1
          rw [upd_same] at h1
          have : z = u := by
            rcases Nat.decEq z u with e | e
            · rw [en z e] at h1; have := tm z; omega
            · exact e
          rw [this]
        · simp only at h1 h2
          rw [upd_same] at h1 h2
          have : z = u := by
            rcases Nat.decEq z u with e | e
            · rw [en z e] at h1; have := tm z; omega
            · exact e
          subst this
          rw [upd_same] at h2; omega
      · have euv : C v = C u := hC v u huv (fun h => c (.inl h)) fun h => c (.inr h)
        have cv : ∀ z, t0 < upd met u (t + 1) z → C z = C v := fun z hz => by
          by_cases e : z = u
          · rw [e, euv]
          · rw [en z e] at hz; exact g z v hz hv
        exact .inr (.inl fun a b ha hb => by rw [cv a ha, cv b hb])
    · obtain ⟨⟨l1, o1⟩, ⟨b, ob, eb⟩, plt, one, two, lw⟩ := P
      simp only at o1 ob plt one two lw
      have hv' : 0 < met v' := by have := hway _ o1; simp only at this; omega
      have hp' : 0 < met p' := by have := hway b ob; rw [eb] at this; omega
      have v'u : v' ≠ u := by rintro rfl; omega
      have p'u : p' ≠ u := by rintro rfl; omega
      have hvv : met v' ≤ met v := by
        rcases List.mem_cons.1 o1 with e | o1
        · cases e; exact Nat.le_refl _
        · exact Nat.le_of_lt (s1 _ o1)
      have euv : C v = C u := by
        refine hC v u huv (fun h => ?_) fun h => ?_
        · rcases hpq with ⟨rfl, rfl⟩ | ⟨rfl, rfl⟩
          · exact v'u h.2.symm
          · exact p'u h.2.symm
        · rcases hpq with ⟨rfl, rfl⟩ | ⟨rfl, rfl⟩
          · exact p'u h.2.symm
          · exact v'u h.2.symm
      refine .inr (.inr ⟨p', v', hpq, ?_, ?_, ?_, fun z h1 h2 => ?_, fun z h1 => ?_, fun z h1 h2 => ?_⟩)
      · rcases List.mem_cons.1 o1 with e | o1
        · cases e; exact ⟨rest, by simp⟩
        · exact ⟨l1, by simp [o1]⟩
      · rcases List.mem_cons.1 ob with e | ob
        · exact ⟨(v, fr, rest), by simp, by rw [← eb, e]⟩
        · exact ⟨b, by simp [ob], eb⟩
      · show upd met u (t + 1) p' < upd met u (t + 1) v'
        rw [en _ p'u, en _ v'u]; exact plt
      · simp only at h1 h2
        rw [en _ v'u] at h2
        have hz : z ≠ u := by rintro rfl; rw [upd_same] at h2; have := tm v'; omega
        rw [en z hz] at h1 h2
        exact one z h1 h2
      · simp only at h1
        rw [en _ v'u] at h1
        by_cases e : z = u
        · rw [e, ← euv]; exact two v hvv
        · rw [en z e] at h1; exact two z h1
      · simp only at h1 h2
        rw [en _ v'u] at h1 h2
        by_cases e : z = u
        · subst e; rw [upd_same] at h2; have := tm v'; omega
        · rw [en z e] at h1; rw [upd_ne _ _ e] at h2; exact lw z h1 h2
theorem BInv.step {s : BSt} (sym : ∀ u w, u ∈ nb N w → w ∈ nb N u) (I : BInv N t0 s) : BInv N t0 (stepB N s) := by
  obtain ⟨met, low, t, F, way⟩ := s
  match way, I with
  | [], I => exact I
  | (v, fr, []) :: [], I =>
    have h : fr < 0 := I.chn
    have e : stepB N ⟨met, low, t, F, [(v, fr, [])]⟩ = ⟨met, low, t, F, []⟩ := by
      unfold stepB; simp only; rw [if_neg (by omega)]
    rw [e]; exact I.end_
  | (v, fr, []) :: (p, g, q) :: r, I =>
    have h : fr = (p : Int) := I.chn.1
    subst h
    have e : stepB N ⟨met, low, t, F, (v, (p : Int), []) :: (p, g, q) :: r⟩ = ⟨met, upd low p (min (low p) (low v)), t, (if upd low p (min (low p) (low v)) v > met p then F ++ [(p, v)] else F), (p, g, q) :: r⟩ := by
      unfold stepB; simp only; rw [if_pos (by omega)]; simp only [Int.toNat_natCast]
    rw [e]; exact I.pop sym
  | (v, fr, u :: rest) :: r, I =>
    unfold stepB
    simp only
    by_cases c : (u : Int) = fr
    · rw [if_pos c]
      refine I.shrink sym ?_ (fun w => Nat.le_refl _) (fun w _ => rfl) (.inl ⟨c, rfl⟩)
      match r, I with
      | [], I => have h : fr < 0 := I.chn; omega
      | b :: r, I =>
        have h : fr = (b.1 : Int) := I.chn.1
        have : u = b.1 := by omega
        have hb := (I.way b (by simp)).1
        simp only at hb
        rw [this]; omega
    · rw [if_neg c]
      by_cases c2 : met u > 0
      · rw [if_pos c2]
        refine I.shrink sym c2 (fun w => ?_) (fun w hw => upd_ne _ _ hw) (.inr ⟨c, upd_same _ _ _⟩)
        by_cases e : w = v
        · subst e; rw [upd_same]; exact Nat.min_le_left _ _
        · rw [upd_ne _ _ e]; exact Nat.le_refl _
      · rw [if_neg c2]; exact I.open_ sym (by omega)
theorem BInv.run (sym : ∀ u w, u ∈ nb N w → w ∈ nb N u) : ∀ {m : Nat} {s s' : BSt}, BInv N t0 s → runB N m s = some s' → BInv N t0 s' ∧ s'.way = []
  | 0, s, s', I, h => by
    unfold runB at h
    split at h
    · rename_i hw; obtain rfl := Option.some.inj h; exact ⟨I, hw⟩
    · cases h
  | m + 1, s, s', I, h => by
    unfold runB at h
    split at h
    · rename_i hw; obtain rfl := Option.some.inj h; exact ⟨I, hw⟩
    · exact BInv.run sym (I.step sym) h
end
/-! ### All of it -/
structure BOut (N : List (List Nat)) (s : BSt) : Prop where
  tm : ∀ w, s.met w ≤ s.time
  way : s.way = []
  cls : ∀ w, 0 < s.met w → ∀ u ∈ nb N w, 0 < s.met u
  brg : ∀ q ∈ s.found, Brg N q.1 q.2
  gd : ∀ x y C, y ∈ nb N x → 0 < s.met x → GoodC N x y C → GdB s.found x y C
section
variable {N : List (List Nat)}
theorem BOut.opened {s : BSt} {v : Nat} (O : BOut N s) (hv : s.met v = 0) : BInv N s.time (openB N v s) := by
  obtain ⟨met, low, t, F, way⟩ := s
  obtain ⟨tm, ew, cls, brg, gd⟩ := O
  simp only at hv tm ew cls brg gd
  subst ew
  have en : ∀ w, w ≠ v → upd met v (t + 1) w = met w := fun w hw => upd_ne _ _ hw
  have big : ∀ z, t < upd met v (t + 1) z → z = v := fun z hz => by
    rcases Nat.decEq z v with e | e
    · rw [en z e] at hz; have := tm z; omega
    · exact e
  unfold openB
  refine ⟨fun w => ?_, by simp, fun w h1 h2 x hx => ?_, fun a ha => ?_, by simp, by show (-1 : Int) < 0; omega, fun w hw x hx hx0 => ?_, fun z hz hn a ha hlt w hw => ?_, ⟨fun w x h1 h2 h3 h4 h5 => ?_, trivial⟩, brg, fun x y C h1 h2 h3 h4 => ?_, fun x y C hxy hC => ?_⟩
  · show upd met v (t + 1) w ≤ t + 1
    by_cases e : w = v
    · subst e; rw [upd_same]; exact Nat.le_refl _
    · rw [en w e]; have := tm w; omega
  · simp only at h1 h2 ⊢
    have e : w ≠ v := by rintro rfl; rw [upd_same] at h2; omega
    rw [en w e] at h1
    have h := cls w h1 x hx
    have hxv : x ≠ v := by rintro rfl; omega
    rw [en x hxv]; exact ⟨h, tm x⟩
  · obtain rfl := List.mem_singleton.1 ha
    exact ⟨by show t < upd met v (t + 1) v; rw [upd_same]; omega, fun u hu => hu⟩
  · simp only at hw hx0
    have hxv : x ≠ v := by rintro rfl; rw [upd_same] at hx0; omega
    rw [en x hxv] at hx0
    by_cases e : w = v
    · subst e; exact ⟨_, List.mem_cons_self, rfl, hx⟩
    · rw [en w e] at hw; have := cls w hw x hx; omega
  · obtain rfl := List.mem_singleton.1 ha
    have hzv : z ≠ v := fun e => hn _ List.mem_cons_self e.symm
    simp only at hz hlt ⊢
    rw [en z hzv] at hz
    have h := cls z hz w hw
    have hwv : w ≠ v := by rintro rfl; omega
    rw [en w hwv, upd_same]; have := tm w; omega
  · simp only at h1 h2 h3 h4 h5 ⊢
    rw [upd_same] at h1
    obtain rfl := big w (by omega)
    exact .inl ⟨rfl, .inl h3⟩
  · simp only at h2 h3
    have e : x ≠ v := by rintro rfl; rw [upd_same] at h3; omega
    rw [en x e] at h2
    exact gd x y C h1 h2 h4
  · refine .inr (.inl fun a b ha hb => ?_)
    rw [big a ha, big b hb]
theorem BInv.closed {s : BSt} {t0 : Nat} (sym : ∀ u w, u ∈ nb N w → w ∈ nb N u) (I : BInv N t0 s) (hw : s.way = []) : BOut N s := by
  have cls : ∀ w, 0 < s.met w → ∀ u ∈ nb N w, 0 < s.met u := fun w h u hu => by
    rcases Nat.eq_zero_or_pos (s.met u) with e | e
    · obtain ⟨a, ha, _⟩ := I.opn w h u hu e
      rw [hw] at ha; cases ha
    · exact e
  refine ⟨I.tm, hw, cls, I.brg, fun x y C hxy hx hC => ?_⟩
  rcases Nat.lt_or_ge t0 (s.met x) with h | h
  · rcases I.ph x y C hxy hC with g | g | ⟨p, v, _, P⟩
    · exact g
    · have hy := cls x hx y hxy
      rcases Nat.lt_or_ge t0 (s.met y) with h2 | h2
      · exact .inl (g x y h h2)
      · have := (I.old y hy h2 x (sym _ _ hxy)).2; omega
    · obtain ⟨r, hr⟩ := P.onv
      rw [hw] at hr; cases hr
  · exact I.gdo x y C hxy hx h hC
theorem step_met {s : BSt} {w : Nat} (h : 0 < s.met w) : 0 < (stepB N s).met w := by
  obtain ⟨met, low, t, F, way⟩ := s
  simp only at h
  unfold stepB
  split
  · exact h
  · split <;> exact h
  · split
    · exact h
    · split
      · exact h
      · rename_i u _ _ _ _ _ _
        show 0 < upd met _ (t + 1) w
        unfold upd
        split
        · omega
        · exact h
theorem run_met {w : Nat} : ∀ {m : Nat} {s s' : BSt}, runB N m s = some s' → 0 < s.met w → 0 < s'.met w
  | 0, s, s', h, hw => by
    unfold runB at h
    split at h
    · obtain rfl := Option.some.inj h; exact hw
    · cases h
  | m + 1, s, s', h, hw => by
    unfold runB at h
    split at h
    · obtain rfl := Option.some.inj h; exact hw
    · exact run_met h (step_met hw)
/-! ### It ends -/
def sumB (f : Nat → Nat) : Nat → Nat
  | 0 => 0
  | n + 1 => sumB f n + f n
theorem sumB_le {f g : Nat → Nat} (h : ∀ i, f i ≤ g i) : ∀ n, sumB f n ≤ sumB g n
  | 0 => Nat.le_refl _
  | n + 1 => Nat.add_le_add (sumB_le h n) (h n)
theorem sumB_cut {f g : Nat → Nat} {u : Nat} (h : ∀ i, i ≠ u → g i = f i) (hu : g u = 0) : ∀ n, u < n → sumB g n + f u = sumB f n
  | 0, hn => by omega
  | n + 1, hn => by
    unfold sumB
    by_cases e : u = n
    · subst e
      have : ∀ k, k ≤ u → sumB g k = sumB f k := fun k => by
        induction k with
        | zero => intro _; rfl
        | succ k ih => intro hk; unfold sumB; rw [ih (by omega), h k (by omega)]
      rw [this u (Nat.le_refl _), hu, Nat.add_zero]
    · have := sumB_cut h hu n (by omega)
      rw [h n (fun e2 => e e2.symm)]; omega
def unm (N : List (List Nat)) (n : Nat) (met : Nat → Nat) : Nat := sumB (fun v => if met v = 0 then (nb N v).length + 1 else 0) n
def wyL : WyT → Nat
  | [] => 0
  | a :: r => a.2.2.length + 1 + wyL r
theorem unm_upd {n u t : Nat} {met : Nat → Nat} (hu : met u = 0) (hn : u < n) : unm N n (upd met u (t + 1)) + ((nb N u).length + 1) = unm N n met := by
  unfold unm
  have := sumB_cut (f := fun v => if met v = 0 then (nb N v).length + 1 else 0) (g := fun v => if upd met u (t + 1) v = 0 then (nb N v).length + 1 else 0) (u := u) (fun i hi => by rw [upd_ne _ _ hi]) (by rw [upd_same]; exact if_neg (by omega)) n hn
  simp only [if_pos hu] at this
  exact this
theorem run_ends {n : Nat} (hb : ∀ w, ∀ u ∈ nb N w, u < n) : ∀ {m : Nat} {s : BSt}, (∀ a ∈ s.way, ∀ u ∈ a.2.2, u < n) → wyL s.way + unm N n s.met ≤ m → ∃ s', runB N m s = some s'
  | 0, s, h, hm => by
    have : s.way = [] := by
      cases e : s.way with
      | nil => rfl
      | cons a r => rw [e] at hm; unfold wyL at hm; omega
    exact ⟨s, by unfold runB; rw [if_pos this]⟩
  | m + 1, s, h, hm => by
    unfold runB
    by_cases e : s.way = []
    · exact ⟨s, by rw [if_pos e]⟩
    · rw [if_neg e]
      obtain ⟨met, low, t, F, way⟩ := s
      simp only at h hm e
      refine run_ends hb ?_ ?_
      · match way, h with
        | [], _ => exact absurd rfl e
        | (v, fr, []) :: r, h =>
          unfold stepB; simp only
          split <;> exact fun a ha => h a (by simp [ha])
        | (v, fr, u :: rest) :: r, h =>
          have h2 : ∀ a ∈ (v, fr, rest) :: r, ∀ u ∈ a.2.2, u < n := fun a ha => by
            rcases List.mem_cons.1 ha with rfl | ha
            · exact fun x hx => h (v, fr, u :: rest) (by simp) x (by simp [hx])
            · exact h a (by simp [ha])
          unfold stepB; simp only
          split
          · exact h2
          · split
            · exact h2
            · intro a ha
              rcases List.mem_cons.1 ha with rfl | ha
              · exact fun x hx => hb u x hx
              · exact h2 a ha
      · match way, h with
        | [], _ => exact absurd rfl e
        | (v, fr, []) :: r, h =>
          simp only [wyL, List.length_nil] at hm
          unfold stepB; simp only
          split <;> (simp only; omega)
        | (v, fr, u :: rest) :: r, h =>
          simp only [wyL, List.length_cons] at hm
          unfold stepB; simp only
          split
          · simp only [wyL]; omega
          · split
            · simp only [wyL]; omega
            · have := unm_upd (N := N) (t := t) (met := met) (u := u) (n := n) (by omega) (h (v, fr, u :: rest) (by simp) u (by simp))
              have e : (nb N u).length = (N.getD u []).length := rfl
              rw [e] at this
              simp only [wyL]; omega
theorem out_all {n : Nat} (sym : ∀ u w, u ∈ nb N w → w ∈ nb N u) (hb : ∀ w, ∀ u ∈ nb N w, u < n) {m : Nat} (hm : sumB (fun v => (nb N v).length + 1) n ≤ m) : ∀ {vs : List Nat} {s : BSt}, (∀ v ∈ vs, v < n) → BOut N s → ∃ s', outB N m vs s = some s' ∧ BOut N s' ∧ (∀ v ∈ vs, 0 < s'.met v) ∧ ∀ v, 0 < s.met v → 0 < s'.met v
  | [], s, _, O => ⟨s, rfl, O, by simp, fun v h => h⟩
  | v :: vs, s, hv, O => by
    unfold outB
    by_cases e : s.met v = 0
    · rw [if_pos e]
      have hvn := hv v (by simp)
      obtain ⟨s1, h1⟩ := run_ends (N := N) hb (m := m) (s := openB N v s) (fun a ha => by
        obtain rfl := List.mem_singleton.1 ha
        exact fun u hu => hb v u hu) (by
          have h2 := unm_upd (N := N) (t := s.time) (met := s.met) (u := v) (n := n) e hvn
          have h3 : unm N n s.met ≤ sumB (fun v => (nb N v).length + 1) n := sumB_le (fun i => by split <;> omega) n
          unfold openB
          simp only [wyL]
          have : (nb N v).length = (N.getD v []).length := rfl
          omega)
      rw [h1]
      simp only
      obtain ⟨I, ew⟩ := (O.opened e).run sym h1
      obtain ⟨s', g1, g2, g3, g4⟩ := out_all (vs := vs) sym hb hm (fun x hx => hv x (List.mem_cons_of_mem _ hx)) (I.closed sym ew)
      have hvm : 0 < s1.met v := run_met h1 (by unfold openB; simp only; rw [upd_same]; omega)
      refine ⟨s', g1, g2, fun x hx => ?_, fun x hx => g4 x (run_met h1 ?_)⟩
      · rcases List.mem_cons.1 hx with rfl | hx
        · exact g4 _ hvm
        · exact g3 x hx
      · unfold openB; simp only; unfold upd; split <;> omega
    · rw [if_neg e]
      obtain ⟨s', g1, g2, g3, g4⟩ := out_all (vs := vs) sym hb hm (fun x hx => hv x (List.mem_cons_of_mem _ hx)) O
      refine ⟨s', g1, g2, fun x hx => ?_, g4⟩
      rcases List.mem_cons.1 hx with rfl | hx
      · exact g4 _ (by omega)
      · exact g3 x hx
/-- What is found are the bridges. -/
theorem found_are {n m : Nat} (sym : ∀ u w, u ∈ nb N w → w ∈ nb N u) (hb : ∀ w, ∀ u ∈ nb N w, u < n) (hm : sumB (fun v => (nb N v).length + 1) n ≤ m) :
    ∃ st', outB N m (List.range n) ⟨fun _ => 0, fun _ => 0, 0, [], []⟩ = some st' ∧ (∀ q ∈ st'.found, Brg N q.1 q.2) ∧ ∀ x y C, x < n → y ∈ nb N x → GoodC N x y C → GdB st'.found x y C := by
  obtain ⟨s', g1, g2, g3, _⟩ := out_all (N := N) (s := ⟨fun _ => 0, fun _ => 0, 0, [], []⟩) sym hb hm (fun v hv => List.mem_range.1 hv) ⟨fun w => Nat.le_refl _, rfl, fun w h => by simp at h, fun q hq => by simp at hq, fun x y C _ h => by simp at h⟩
  exact ⟨s', g1, g2.brg, fun x y C hx hxy hC => g2.gd x y C hxy (g3 x (List.mem_range.2 hx)) hC⟩
end
end Go.Proofs.YtbhndlpjfncliaaGreat
