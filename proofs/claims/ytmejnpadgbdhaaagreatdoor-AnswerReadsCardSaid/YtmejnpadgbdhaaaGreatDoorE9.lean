/-
  Numbers in digits: the document's digits.
-/
import Derived.Test.YtmejnpadgbdhaaaGreatDoorE8
import Derived.Test.YtmejnpadgbdhaaaGreatDoorE7
import Derived.Test.YtmejnpadgbdhaaaGreatDoorE4
namespace Go.Proofs.YtmejnpadgbdhaaaGreatDoor
set_option linter.unusedVariables false
set_option linter.unusedSimpArgs false
set_option linter.unnecessarySimpa false
open Go.Proofs Go.Shelf Go.RowKit Go.Hp
attribute [local irreducible] Go.Hp.iteB Go.Hp.stC
theorem u8wrap {x : Int} (h0 : 0 ≤ x) (h1 : x < 256) : IntKind.u8.wrap x = x := by rw [IntKind.wrap_u8]; omega
theorem u64wrap {x : Int} (h0 : 0 ≤ x) (h1 : x < 18446744073709551616) : IntKind.u64.wrap x = x := by rw [wrap_u64]; omega
theorem byte_at {s : ByteArray} {i : Nat} (h : i < s.size) : ∃ b : UInt8, s[i]? = some b ∧ (bytes s)[i]? = some b := ⟨s[i]'h, getElem?_pos s i h, Lib.data_getElem? s i h⟩
theorem toList_nil_iff {l : List UInt8} : ((str l).toList == (⟨#[]⟩ : ByteArray).toList) = decide (l = []) := by
  have e : (⟨#[]⟩ : ByteArray).toList = [] := toList_str []
  rw [toList_str, e]
  cases l <;> simp
/-- One byte in memory. -/
theorem one_byte {h : Heap} {c : UInt8} {t : Nat} : bytesAt (h.push (.cells #[.int .u8 (c.toNat : Int)] t)) (some ⟨h.size, 0, none⟩) 1 [c] :=
  ⟨rfl, fun j b hj => by
    match j, hj with
    | 0, hj =>
      obtain rfl : c = b := by simpa using hj
      exact ⟨_, rfl, by simp [cell]⟩⟩
theorem Rec_of {n : Int} {h : Heap} {K : ByteArray → Heap → Prop} (hh : straitref06_digits n h K) : straitref06_digits_rec n h K := by
  intro w hw
  obtain ⟨g1, g2⟩ := straitref06_digits.calls hh w hw
  exact ⟨g1, g2.mono fun e w' ⟨v, he, ho, hr⟩ => ⟨v, he, ho, straitref06_digits.ret_elim (fun r h hk => hk) hr⟩⟩
theorem digits_of : ∀ (n : Nat), n < 18446744073709551616 → ∀ {h : Heap} {K : ByteArray → Heap → Prop}, (∀ h', Ext h h' → K (str (Lib.decDigits n)) h') → straitref06_digits (n : Int) h K := by
  intro n
  induction n using Nat.strongRecOn with
  | _ n ih =>
    intro hn h K hk
    unfold straitref06_digits
    refine iteB_intro (fun e => ?_) fun e => ?_
    · have e : n < 10 := by have e := of_decide_eq_true e; omega
      rw [u64wrap (by omega) (by omega), u8wrap (by omega) (by omega)]
      have hd : Lib.decDigits n = [UInt8.ofNat (48 + n)] := by rw [Lib.decDigits, dif_pos e]
      rw [hd] at hk
      have hc : (48 + (n : Int)) = ((UInt8.ofNat (48 + n)).toNat : Int) := by rw [dig_nat e]; omega
      refine bindV_intro fun m hm => ?_
      rw [hm, hc]
      exact new_fresh ⟨[UInt8.ofNat (48 + n)], one_byte, hk _ ((Ext.refl h).push _)⟩
    · have e : ¬ n < 10 := fun hl => by have := of_decide_eq_false e; omega
      have hm : n % 10 < 10 := by omega
      have hd : Lib.decDigits n = Lib.decDigits (n / 10) ++ [UInt8.ofNat (48 + n % 10)] := by rw [Lib.decDigits, dif_neg e]
      have hl : (Lib.decDigits (n / 10)).length ≤ 20 := dec_len 19 _ (by omega)
      have t1 : (n : Int).tmod 10 = ((n % 10 : Nat) : Int) := by rw [Int.tmod_eq_emod_of_nonneg (by omega)]; omega
      have t2 : (n : Int).tdiv 10 = ((n / 10 : Nat) : Int) := by rw [Int.tdiv_eq_ediv_of_nonneg (by omega)]; omega
      rw [t1, t2, u64wrap (by omega) (by omega), u64wrap (by omega) (by omega), u8wrap (by omega) (by omega)]
      have hc : (48 + ((n % 10 : Nat) : Int)) = ((UInt8.ofNat (48 + n % 10)).toNat : Int) := by rw [dig_nat hm]; omega
      rw [hd] at hk
      refine ⟨by decide, by decide, bindV_intro fun m hm' => ?_⟩
      rw [hm', hc]
      generalize hcc : UInt8.ofNat (48 + n % 10) = c at *
      have hs : ∀ x : List UInt8, x.length ≤ 20 → ((((str x).size + (str [c]).size : Nat) : Int) ≤ 9223372036854775807) := fun x hx => by rw [str_size, str_size]; simp; omega
      refine ⟨callP1.self (Rec_of (ih (n / 10) (by omega) (by omega) fun h1 e1 => ?_)), ?_⟩
      · refine new_fresh ⟨[c], one_byte, hs _ hl, ?_⟩
        have := hk _ (e1.push (.cells #[.int .u8 (c.toNat : Int)] 5))
        rw [← str_app] at this
        exact this
      · refine new_fresh ⟨[c], one_byte, callP1.self (Rec_of (ih (n / 10) (by omega) (by omega) fun h1 e1 => ⟨⟨[c], ⟨rfl, fun j b hj => ?_⟩, rfl⟩, hs _ hl, ?_⟩))⟩
        · obtain ⟨a, ha, hca⟩ := (one_byte (h := h) (c := c) (t := 5)).2 j b hj
          exact ⟨a, ha, e1.cell' hca⟩
        · have := hk _ (((Ext.refl h).push _).trans e1)
          rw [← str_app] at this
          exact this
theorem RPrint_of {n : Int} {h : Heap} {K : ByteArray → Heap → Prop} (h0 : -9223372036854775808 ≤ n) (h1 : n ≤ 9223372036854775807) (hk : ∀ h', Ext h h' → K (str (Lib.itoa n)) h') : straitref06_Print n h K := by
  unfold straitref06_Print
  refine iteB_intro (fun e => ?_) fun e => ?_
  · have e := of_decide_eq_true e
    obtain ⟨u, hu, rfl⟩ : ∃ u : Nat, 1 ≤ u ∧ n = -(u : Int) := ⟨n.natAbs, by omega, by omega⟩
    rw [Lib.itoa_neg u hu] at hk
    rw [wrap64 (x := -(u : Int) + 1) (by omega) (by omega), wrap64 (by omega) (by omega)]
    refine bindV_intro fun m hm => bindV_intro fun m2 hm2 => ?_
    rw [hm, u64wrap (x := 0 - (-(u : Int) + 1)) (by omega) (by omega), u64wrap (by omega) (by omega)] at hm2
    obtain rfl : m2 = (u : Int) := by omega
    refine callP1.self (digits_of u (by omega) fun h1 e1 => ⟨?_, ?_⟩)
    · have := dec_len 18 u (by omega)
      have e45 : (⟨#[45]⟩ : ByteArray).size = 1 := rfl
      rw [str_size, e45]; omega
    · have := hk h1 e1
      have e2 : str (45 :: Lib.decDigits u) = (⟨#[45]⟩ : ByteArray) ++ str (Lib.decDigits u) := (str_app [45] (Lib.decDigits u)).symm
      rw [e2] at this
      exact this
  · have e := of_decide_eq_false e
    obtain ⟨u, rfl⟩ : ∃ u : Nat, n = (u : Int) := ⟨n.toNat, by omega⟩
    rw [Lib.itoa_nonneg u] at hk
    rw [u64wrap (by omega) (by omega)]
    exact callP1.self (digits_of u (by omega) hk)
theorem n45 {b : UInt8} : ((b.toNat : Int) == 45) = (b == 45) := by
  by_cases h : b = 45
  · subst h; rfl
  · have : ¬ b.toNat = 45 := fun e => h (UInt8.toNat_inj.1 e)
    have h1 : ((b.toNat : Int) == 45) = false := by simp; omega
    have h2 : (b == 45) = false := by simp [h]
    rw [h1, h2]
end Go.Proofs.YtmejnpadgbdhaaaGreatDoor
