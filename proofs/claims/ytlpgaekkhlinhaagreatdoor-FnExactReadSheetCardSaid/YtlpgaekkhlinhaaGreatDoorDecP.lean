/- The plain law of decimal texts: a number is read back from its digits. -/
import Derived.Lib.ItoaNum
import Derived.Lib.ItoaMem
import Derived.Lib.ParseIntBCases
namespace Go.Fl
open Go.Lib
/-- a text's digits as a number, other bytes passed over -/
def dStep (n : Nat) (c : UInt8) : Nat := if 48 ≤ c.toNat ∧ c.toNat ≤ 57 then 10 * n + (c.toNat - 48) else n
def dVal (l : List UInt8) : Nat := l.foldl dStep 0
theorem dVal_snoc (l : List UInt8) (c : UInt8) : dVal (l ++ [c]) = dStep (dVal l) c := by simp [dVal]
theorem dVal_lt : ∀ k (l : List UInt8), l.length = k → dVal l < 10 ^ k
  | 0, l, h => by
    obtain rfl := List.length_eq_zero_iff.1 h
    decide
  | k + 1, l, h => by
    have hne : l ≠ [] := fun e => by rw [e] at h; simp at h
    rw [show l = l.dropLast ++ [l.getLast hne] from (List.dropLast_concat_getLast hne).symm, dVal_snoc]
    have h1 := dVal_lt k l.dropLast (by rw [List.length_dropLast]; omega)
    have hc := (l.getLast hne).toNat_lt
    have hp : 10 ^ (k + 1) = 10 * 10 ^ k := Nat.pow_succ'
    unfold dStep
    split <;> omega
theorem dec_step (n : Nat) : decDigits n = if n < 10 then [UInt8.ofNat (48 + n)] else decDigits (n / 10) ++ [UInt8.ofNat (48 + n % 10)] := by rw [decDigits]; split <;> rfl
theorem dig_nat {d : Nat} (h : d < 10) : (UInt8.ofNat (48 + d)).toNat = 48 + d := by rw [UInt8.toNat_ofNat']; omega
theorem dStep_dig {n d : Nat} (h : d < 10) : dStep n (UInt8.ofNat (48 + d)) = 10 * n + d := by
  unfold dStep
  rw [dig_nat h, if_pos (by omega)]; omega
theorem dVal_dec : ∀ n, dVal (decDigits n) = n := fun n => by
  induction n using Nat.strongRecOn with
  | ind n ih =>
    rw [dec_step]
    by_cases h : n < 10
    · rw [if_pos h]
      show dStep 0 _ = n
      rw [dStep_dig h]; omega
    · rw [if_neg h, dVal_snoc, ih (n / 10) (by omega), dStep_dig (by omega)]; omega
theorem dec_head : ∀ n, ∃ c r, decDigits n = c :: r ∧ 48 ≤ c.toNat ∧ c.toNat ≤ 57 := fun n => by
  induction n using Nat.strongRecOn with
  | ind n ih =>
    rw [dec_step]
    by_cases h : n < 10
    · rw [if_pos h]
      exact ⟨_, _, rfl, by rw [dig_nat h]; omega, by rw [dig_nat h]; omega⟩
    · rw [if_neg h]
      obtain ⟨c, r, e, h1⟩ := ih (n / 10) (by omega)
      exact ⟨c, r ++ [_], by rw [e]; rfl, h1⟩
theorem dec_parse (M : Nat) : ∀ n, n ≤ M → n ≤ 1000000000000000000 → ∀ l : List UInt8, parseUintM M 0 (decDigits n ++ l) = parseUintM M n l := fun n => by
  induction n using Nat.strongRecOn with
  | ind n ih =>
    intro hm hn l
    rw [dec_step]
    by_cases h : n < 10
    · rw [if_pos h, List.singleton_append, parseUintM, dig_nat h, if_pos (by omega), if_neg (by omega), if_neg (by omega)]
      congr 1; omega
    · rw [if_neg h, List.append_assoc, ih (n / 10) (by omega) (by omega) (by omega), List.singleton_append, parseUintM, dig_nat (by omega), if_pos (by omega), if_neg (by omega), if_neg (by omega)]
      congr 1; omega
theorem dec_ne (n : Nat) : decDigits n ≠ [] := by
  obtain ⟨c, r, e, _⟩ := dec_head n
  rw [e]; simp
theorem dec_uint (n : Nat) (h : n ≤ 1000000000000000) : parseUintB 64 (decDigits n) = .ok n := by
  unfold parseUintB
  rw [if_neg (dec_ne n)]
  have := dec_parse (2 ^ 64 - 1) n (by omega) (by omega) []
  rw [List.append_nil] at this
  rw [this]; rfl
theorem itoa_parse (n : Int) (h0 : -1000000000000000 ≤ n) (h1 : n ≤ 1000000000000000) : parseIntB 64 (itoa n) = .ok n := by
  by_cases hn : 0 ≤ n
  · obtain ⟨m, rfl⟩ := Int.eq_ofNat_of_zero_le hn
    obtain ⟨c, r, e, hc, hc2⟩ := dec_head m
    rw [itoa_nonneg, e, parseIntB_plain _ _ _ (by omega) (by omega), ← e, dec_uint m (by omega), signlessC, if_neg (by omega)]
  · obtain ⟨m, hm⟩ := Int.eq_ofNat_of_zero_le (show 0 ≤ -n by omega)
    obtain rfl : n = -(m : Int) := by omega
    rw [itoa_neg m (by omega), parseIntB_minus, dec_uint m (by omega), signedC, if_neg (by omega)]
/-- the number that the reference's loop finds -/
def sVal (l : List UInt8) : Int := if l.head? = some 45 then -(dVal l : Int) else dVal l
theorem sVal_itoa (n : Int) : sVal (itoa n) = n := by
  by_cases hn : 0 ≤ n
  · obtain ⟨m, rfl⟩ := Int.eq_ofNat_of_zero_le hn
    obtain ⟨c, r, e, hc, hc2⟩ := dec_head m
    rw [itoa_nonneg, sVal, if_neg, dVal_dec]
    rw [e]
    intro h
    simp only [List.head?_cons, Option.some.injEq] at h
    subst h
    exact absurd hc (by decide)
  · obtain ⟨m, hm⟩ := Int.eq_ofNat_of_zero_le (show 0 ≤ -n by omega)
    obtain rfl : n = -(m : Int) := by omega
    rw [itoa_neg m (by omega), sVal, if_pos (show (45 :: decDigits m).head? = some 45 from rfl)]
    have : dVal (45 :: decDigits m) = dVal (decDigits m) := rfl
    rw [this, dVal_dec]
theorem nDigits_le : ∀ k n, n < 10 ^ (k + 1) → nDigits n ≤ k + 1
  | 0, n, h => by rw [nDigits_small (by omega)]; decide
  | k + 1, n, h => by
    by_cases h1 : n < 10
    · rw [nDigits_small h1]; omega
    · rw [nDigits_big h1]
      have := nDigits_le k (n / 10) (by rw [Nat.pow_succ'] at h; omega)
      omega
theorem itoa_size (n : Int) (h0 : -1000000000000000 ≤ n) (h1 : n ≤ 1000000000000000) : 1 ≤ (itoa n).length ∧ (itoa n).length ≤ 17 := by
  by_cases hn : 0 ≤ n
  · obtain ⟨m, rfl⟩ := Int.eq_ofNat_of_zero_le hn
    have := nDigits_le 15 m (by omega)
    have := List.length_pos_iff.2 (dec_ne m)
    rw [itoa_nonneg, decDigits_length]
    rw [decDigits_length] at this
    omega
  · obtain ⟨m, hm⟩ := Int.eq_ofNat_of_zero_le (show 0 ≤ -n by omega)
    obtain rfl : n = -(m : Int) := by omega
    have := nDigits_le 15 m (by omega)
    rw [itoa_neg m (by omega), List.length_cons, decDigits_length]
    omega
/-- a text tells a number in range -/
def RdInt (l : List UInt8) (n : Int) : Prop := -1000000000000000 ≤ n ∧ n ≤ 1000000000000000 ∧ l = itoa n
theorem RdInt.unique {l : List UInt8} {n m : Int} (h : RdInt l n) (k : RdInt l m) : n = m := by
  have := congrArg sVal (h.2.2.symm.trans k.2.2)
  rwa [sVal_itoa, sVal_itoa] at this
theorem RdInt.val {l : List UInt8} {n : Int} (h : RdInt l n) : sVal l = n := by rw [h.2.2, sVal_itoa]
end Go.Fl
