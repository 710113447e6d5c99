/-
  Edges in memory: rows of threes that grow.
-/
import Derived.Test.YtbhndlpjfncliaaGreatMp
namespace Go.Hp
set_option linter.unusedVariables false
set_option linter.unusedSimpArgs false
set_option linter.unnecessarySimpa false

/-- Cells appended, some a thing. -/
theorem app_k {h0 : Base} {h : Heap} {q : Option Addr} {len cap k : Nat} {l news : List Value} {X R : Rws} {e : TypeId} {size bytes n : Nat} {zero : List Value} {K : Option Addr → Nat → Nat → Heap → Prop}
    (o : (q = none ∧ cap = 0 ∧ l = [] ∧ X = []) ∨ ∃ (b : Nat) (z : List Value), q = some ⟨b, 0, none⟩ ∧ (l ++ z).length = cap * k ∧ X = [(b, l ++ z)]) (s : St h0 h (X ++ R)) (hk0 : 0 < k) (hs : size = k) (hl : l.length = len * k) (hn : news.length = n * k) (hz : zero.length = k) (hf : ∀ v ∈ news, flat v = true) (hb : (len + n) * bytes ≤ 2 ^ 46 ∧ len + n ≤ 2 ^ 46)
    (hk : ∀ q' c' X' h', ((q' = none ∧ c' = 0 ∧ l ++ news = [] ∧ X' = []) ∨ ∃ (b : Nat) (z : List Value), q' = some ⟨b, 0, none⟩ ∧ (l ++ news ++ z).length = c' * k ∧ X' = [(b, l ++ news ++ z)]) → St h0 h' (X' ++ R) → K q' (len + n) c' h') : appP e size bytes zero q len cap n news h K := by
  subst hs
  have grow : ∀ olds, olds = l → ∀ c, len + n ≤ c →
      K (some ⟨h.size, 0, none⟩) (len + n) c (h.push (.cells (olds ++ news ++ zeroRow zero (c - (len + n))).toArray e)) := by
    rintro olds rfl c hc
    have s2 : St h0 h R := s.drop
    have := St.new_ (K := fun a h' => ∀ b, a = ⟨b, 0, none⟩ → St h0 h' ((b, olds ++ news ++ zeroRow zero (c - (len + n))) :: R)) (t := e) s2 (fun b h' s3 b' hb' => by cases hb'; exact s3)
    refine hk _ _ [(h.size, olds ++ news ++ zeroRow zero (c - (len + n)))] _ (.inr ⟨h.size, zeroRow zero (c - (len + n)), rfl, ?_, rfl⟩) (this h.size rfl)
    simp only [List.length_append, length_zeroRow, hz, hl, hn]
    rw [← Nat.add_mul, ← Nat.add_mul]; congr 1; omega
  rcases o with ⟨rfl, rfl, rfl, rfl⟩ | ⟨b, z, rfl, hcap, rfl⟩
  · have hl0 : len = 0 := by
      have : len * size = 0 := by simpa using hl.symm
      rcases Nat.mul_eq_zero.1 this with h | h
      · exact h
      · omega
    subst hl0
    refine ⟨fun hc => ?_, fun hc => ⟨hb.1, hb.2, [], ⟨by simp, fun j hj => absurd hj (by simp)⟩, grow _ rfl⟩⟩
    have hn0 : n = 0 := by omega
    subst hn0
    have hnn : news = [] := List.length_eq_zero_iff.1 (by simpa using hn)
    subst hnn
    exact hk none 0 [] h (.inl ⟨rfl, rfl, rfl, rfl⟩) s
  · refine ⟨fun hc => ?_, fun hc => ⟨hb.1, hb.2, l, ?_, grow _ rfl⟩⟩
    · show stL news h ((⟨b, 0, none⟩ : Addr).add (len * size)) 0 _
      rw [add_mk, Nat.zero_add, ← hl]
      have hzl : news.length ≤ z.length := by
        have h1 := Nat.mul_le_mul_right size hc
        rw [Nat.add_mul, ← hl, ← hn, ← hcap, List.length_append] at h1; omega
      have go : ∀ (ns l' z' : List Value) (h' : Heap) (i : Nat), i = l'.length → (∀ v ∈ ns, flat v = true) → ns.length ≤ z'.length → St h0 h' ((b, l ++ l' ++ z') :: R) → (l ++ l' ++ z').length = cap * size → l' ++ ns = news →
          stL ns h' ⟨b, l.length, none⟩ i (fun h'' => K (some ⟨b, 0, none⟩) (len + n) cap h'') := by
        intro ns
        induction ns with
        | nil =>
          intro l' z' h' i hi _ _ s' hlen hnews
          rw [List.append_nil] at hnews; subst hnews
          refine hk _ _ [(b, l ++ l' ++ z')] h' (.inr ⟨b, z', rfl, hlen, rfl⟩) s'
        | cons v ns ih =>
          intro l' z' h' i hi hfl hle s' hlen hnews
          obtain ⟨u, z'', rfl⟩ : ∃ u z'', z' = u :: z'' := by
            cases z' with
            | nil => simp at hle
            | cons u z'' => exact ⟨u, z'', rfl⟩
          unfold stL
          rw [hfl v (by simp)]
          simp only [add_mk]
          refine St.st0 s' (by simp; omega) fun h'' s'' => ih (l' ++ [v]) z'' h'' (i + 1) (by simp; omega) (fun x hx => hfl x (by simp [hx])) (by simpa using hle) ?_ ?_ (by simpa using hnews)
          · have : (l ++ l' ++ u :: z'').set (l.length + i) v = l ++ (l' ++ [v]) ++ z'' := by
              subst hi; simp [List.set_append]
            rw [this] at s''; exact s''
          · simpa using hlen
      exact go news [] z h 0 rfl hf hzl (by simpa using s) (by simpa using hcap) (by simp)
    · refine ⟨hl, fun j hj => ⟨_, rfl, ?_⟩⟩
      rw [add_mk, (s.rows (b, l ++ z) (by simp)).cell, Nat.zero_add, List.getElem?_append_left (by omega)]

/-! ### Edges -/
abbrev Ed := Int × Int × Int
def Ed.vs (e : Ed) : List Value := [.int .i64 e.1, .int .i64 e.2.1, .int .i64 e.2.2]
def eV (l : List Ed) : List Value := l.flatMap Ed.vs
theorem eV_len : ∀ l : List Ed, (eV l).length = l.length * 3
  | [] => rfl
  | e :: l => by
    have := eV_len l
    simp only [eV, List.flatMap_cons, List.length_append, List.length_cons, Ed.vs] at *
    simp only [List.length_nil]; omega
theorem eV_app (l m : List Ed) : eV (l ++ m) = eV l ++ eV m := by simp [eV]
theorem eV_one (e : Ed) : eV [e] = Ed.vs e := by simp [eV]
theorem eV_get : ∀ {l : List Ed} {i o : Nat} {e : Ed}, l[i]? = some e → o < 3 → (eV l)[i * 3 + o]? = (Ed.vs e)[o]?
  | [], i, o, e, h, ho => by simp at h
  | e0 :: l, 0, o, e, h, ho => by
    have h : e0 = e := by simpa using h
    subst h
    simp only [eV, List.flatMap_cons]
    rw [Nat.zero_mul, Nat.zero_add, List.getElem?_append_left (by simpa [Ed.vs] using ho)]
  | e0 :: l, i + 1, o, e, h, ho => by
    have h : l[i]? = some e := by simpa using h
    have ih := eV_get h ho
    show (Ed.vs e0 ++ eV l)[(i + 1) * 3 + o]? = _
    rw [List.getElem?_append_right (by simp [Ed.vs]; omega)]
    rw [show (i + 1) * 3 + o - (Ed.vs e0).length = i * 3 + o by simp [Ed.vs]; omega]
    exact ih
theorem eV_get0 {l : List Ed} {i : Nat} {u v w : Int} (h : l[i]? = some (u, v, w)) : (eV l)[i * 3]? = some (.int .i64 u) := eV_get (o := 0) h (by omega)
theorem eV_get1 {l : List Ed} {i : Nat} {u v w : Int} (h : l[i]? = some (u, v, w)) : (eV l)[i * 3 + 1]? = some (.int .i64 v) := eV_get (o := 1) h (by omega)
theorem eV_get2 {l : List Ed} {i : Nat} {u v w : Int} (h : l[i]? = some (u, v, w)) : (eV l)[i * 3 + 2]? = some (.int .i64 w) := eV_get (o := 2) h (by omega)
theorem eV_set3 {A B : List Ed} {e e' : Ed} {i : Nat} (hi : A.length = i) (z : List Value) : ((((eV (A ++ e :: B) ++ z).set (i * 3) (.int .i64 e'.1)).set (i * 3 + 1) (.int .i64 e'.2.1)).set (i * 3 + 2) (.int .i64 e'.2.2)) = eV (A ++ e' :: B) ++ z := by
  have hA : (eV A).length = i * 3 := by rw [eV_len, hi]
  have e1 : ∀ x : Ed, eV (A ++ x :: B) ++ z = eV A ++ (Value.int .i64 x.1 :: Value.int .i64 x.2.1 :: Value.int .i64 x.2.2 :: (eV B ++ z)) := fun x => by
    rw [eV_app, show x :: B = [x] ++ B from rfl, eV_app, eV_one]; simp [Ed.vs]
  rw [e1, e1]
  rw [List.set_append_right _ _ (by omega), show i * 3 - (eV A).length = 0 by omega, List.set_cons_zero]
  rw [List.set_append_right _ _ (by omega), show i * 3 + 1 - (eV A).length = 1 by omega]
  rw [List.set_append_right _ _ (by omega), show i * 3 + 2 - (eV A).length = 2 by omega]
  rfl
theorem eV_setW {A B : List Ed} {u v w w' : Int} {i : Nat} (hi : A.length = i) (z : List Value) : ((eV (A ++ (u, v, w) :: B) ++ z).set (i * 3 + 2) (.int .i64 w')) = eV (A ++ (u, v, w') :: B) ++ z := by
  have hA : (eV A).length = i * 3 := by rw [eV_len, hi]
  have e1 : ∀ x : Ed, eV (A ++ x :: B) ++ z = eV A ++ (Value.int .i64 x.1 :: Value.int .i64 x.2.1 :: Value.int .i64 x.2.2 :: (eV B ++ z)) := fun x => by
    rw [eV_app, show x :: B = [x] ++ B from rfl, eV_app, eV_one]; simp [Ed.vs]
  rw [e1, e1]
  rw [List.set_append_right _ _ (by omega), show i * 3 + 2 - (eV A).length = 2 by omega]
  rfl
theorem eV_flat (l : List Ed) : ∀ v ∈ eV l, flat v = true := by
  intro v hv
  obtain ⟨e, _, hv⟩ := List.mem_flatMap.1 hv
  simp only [Ed.vs, List.mem_cons, List.not_mem_nil, or_false] at hv
  rcases hv with rfl | rfl | rfl <;> rfl

theorem addr_add (a : Addr) (m n : Nat) : (a.add m).add n = a.add (m + n) := by
  unfold Addr.add
  by_cases h : m = 0
  · subst h; simp
  · by_cases h2 : n = 0
    · subst h2; simp
    · rw [if_neg h, if_neg h2, if_neg (by omega)]; simp [Nat.add_assoc]
section
variable {h : Heap} {q : Option Addr} {l : List Ed} {i : Nat}
theorem vals_edge {u v w : Int} {G : Int → Int → Int → Prop} (hv : valsAt h q (eV l)) (hx : l[i]? = some (u, v, w)) :
    (chkP q fun a => ∃ x : Int, cell h (a.add (i * 3)) = some (.int .i64 x) ∧ ∃ y : Int, cell h ((a.add (i * 3)).add 1) = some (.int .i64 y) ∧ ∃ z : Int, cell h ((a.add (i * 3)).add 2) = some (.int .i64 z) ∧ G x y z) = G u v w := by
  obtain ⟨a, rfl, h0⟩ := hv _ _ (eV_get0 hx)
  obtain ⟨a1, ha1, h1⟩ := hv _ _ (eV_get1 hx)
  obtain ⟨a2, ha2, h2⟩ := hv _ _ (eV_get2 hx)
  cases ha1; cases ha2
  rw [chkP_some, addr_add, addr_add, h0, h1, h2]
  simp
theorem vals_edge2 {u v w : Int} {G : Int → Prop} (hv : valsAt h q (eV l)) (hx : l[i]? = some (u, v, w)) :
    (chkP q fun a => ∃ z : Int, cell h ((a.add (i * 3)).add 2) = some (.int .i64 z) ∧ G z) = G w := by
  obtain ⟨a2, rfl, h2⟩ := hv _ _ (eV_get2 hx)
  rw [chkP_some, addr_add, h2]
  simp
end

/-- A slice of edges of one's own. -/
def Own3 (q : Option Addr) (cap : Nat) (l : List Ed) (X : Rws) : Prop :=
  (q = none ∧ cap = 0 ∧ l = [] ∧ X = []) ∨ ∃ (b : Nat) (z : List Value), q = some ⟨b, 0, none⟩ ∧ (eV l ++ z).length = cap * 3 ∧ X = [(b, eV l ++ z)]
theorem Own3.nil : Own3 none 0 [] [] := .inl ⟨rfl, rfl, rfl, rfl⟩
theorem Own3.keeps {h0 : Base} {q : Option Addr} {cap : Nat} {l : List Ed} {X R : Rws} (o : Own3 q cap l X) (hs : ∀ x ∈ X, x ∈ R) : Keeps h0 R q (eV l) := by
  rcases o with ⟨rfl, rfl, rfl, rfl⟩ | ⟨b, z, rfl, _, rfl⟩
  · exact Keeps.nil
  · exact Keeps.own (z := z) (hs _ (by simp))
theorem Own3.vals {h0 : Base} {h : Heap} {q : Option Addr} {cap : Nat} {l : List Ed} {X R : Rws} (o : Own3 q cap l X) (s : St h0 h (X ++ R)) : valsAt h q (eV l) := (o.keeps (R := X) fun x hx => hx).at0 s.keep
/-- One edge appended, out of a box. -/
theorem Own3.push1 {h0 : Base} {h : Heap} {q : Option Addr} {len cap : Nat} {l : List Ed} {u v w : Int} {X R : Rws} {t e : TypeId} {K : Option Addr → Nat → Nat → Heap → Prop}
    (o : Own3 q cap l X) (s : St h0 h (X ++ R)) (hl : len = l.length) (hb : len < 2 ^ 40)
    (hk : ∀ q' c' X' h', Own3 q' c' (l ++ [(u, v, w)]) X' → St h0 h' (X' ++ R) → K q' (len + 1) c' h') :
    newP h (.cells #[.int .i64 u, .int .i64 v, .int .i64 w] t) fun a h2 => ∃ n, cellsAt h2 (some a) (1 * 3) n ∧ appP e 3 24 [.int .i64 0, .int .i64 0, .int .i64 0] q len cap 1 n h2 K := by
  refine St.new_ (cs := Ed.vs (u, v, w)) s fun b h2 s2 => ⟨Ed.vs (u, v, w), ⟨rfl, fun j hj => ⟨_, rfl, ?_⟩⟩, ?_⟩
  · rw [add_mk, s2.rd0, Nat.zero_add]
  · refine app_k (k := 3) (l := eV l) (news := Ed.vs (u, v, w)) ?_ s2.tail (by omega) rfl (by rw [eV_len, hl]) rfl rfl (fun x hx => eV_flat [(u, v, w)] x (by rw [eV_one]; exact hx)) (by omega) fun q' c' X' h' o' s' => hk q' c' X' h' ?_ s'
    · rcases o with ⟨rfl, rfl, rfl, rfl⟩ | o
      · exact .inl ⟨rfl, rfl, rfl, rfl⟩
      · exact .inr o
    · have e1 : eV l ++ Ed.vs (u, v, w) = eV (l ++ [(u, v, w)]) := by rw [eV_app, eV_one]
      rw [e1] at o'
      rcases o' with ⟨_, _, h, _⟩ | o'
      · have := congrArg List.length h; rw [eV_len] at this; simp at this
      · exact .inr o'
end Go.Hp
