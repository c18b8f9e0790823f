/- Errors in proportion. Plain Lean. -/
import Derived.Test.YtfpkdnopbnppmaaPnA
namespace Go.Fl
open Ieee
/-- two to the n, as a rational number -/
def twoR (n : Nat) : Rat := ((2 ^ n : Nat) : Int)
theorem twoR_pos (n : Nat) : 0 < twoR n := cast_pos (Nat.two_pow_pos _)
theorem twoR_succ (n : Nat) : twoR (n + 1) = 2 * twoR n := by
  unfold twoR
  rw [Nat.pow_succ, Nat.mul_comm, Int.natCast_mul, Rat.intCast_mul]; rfl
theorem twoR_add (m n : Nat) : twoR (m + n) = twoR m * twoR n := by
  unfold twoR
  rw [Nat.pow_add, Int.natCast_mul, Rat.intCast_mul]
theorem pow_find (y : Rat) : ∀ n, y ≤ twoR n → ∃ j, y ≤ twoR j ∧ j ≤ n ∧ (j = 0 ∨ ∃ i, j = i + 1 ∧ twoR i < y)
  | 0, h => ⟨0, h, Nat.le_refl _, .inl rfl⟩
  | n + 1, h => by
    by_cases c : y ≤ twoR n
    · obtain ⟨j, h1, h2, h3⟩ := pow_find y n c
      exact ⟨j, h1, by omega, h3⟩
    · exact ⟨n + 1, h, Nat.le_refl _, .inr ⟨n, rfl, Rat.not_le.1 c⟩⟩
theorem twoR_mono {i j : Nat} (h : i ≤ j) : twoR i ≤ twoR j := by
  unfold twoR
  exact Rat.intCast_le_intCast.2 (Int.ofNat_le.2 (Nat.pow_le_pow_right (by decide) h))
/-- the error of a rounding is small against any bound of what is rounded -/
theorem Rnd.sc {r : Nat} {q c : Rat} (h : Rnd .f32 r q) (c0 : 1 / 1000000000 ≤ c) (c1 : c ≤ 1000000) (h1 : -c ≤ q) (h2 : q ≤ c) : q - c / 4194304 ≤ R .f32 r ∧ R .f32 r ≤ q + c / 4194304 := by
  have hu := uR_pos .f32
  have e0 : uR .f32 = twoR 149 := rfl
  have a30 : (1 : Rat) / 1000000000 * twoR 30 ≥ 1 := by decide +kernel
  have e1 : twoR 149 = twoR 30 * (twoR 95 * twoR 24) := by rw [← twoR_add, ← twoR_add]
  have a20 : (1000000 : Rat) ≤ twoR 20 := by decide +kernel
  have p20 := twoR_pos 149
  have up : c * uR .f32 ≤ twoR 169 := by
    rw [e0, show (169 : Nat) = 20 + 149 from rfl, twoR_add]
    exact (le_mulR p20).2 (Rat.le_trans c1 a20)
  have lo : twoR 24 ≤ c * uR .f32 := by
    have l1 : (1 : Rat) / 1000000000 * uR .f32 ≤ c * uR .f32 := (le_mulR hu).2 c0
    have l2 : twoR 24 ≤ (1 : Rat) / 1000000000 * uR .f32 := by rw [e0]; decide +kernel
    exact Rat.le_trans l2 l1
  obtain ⟨j, g1, _, g3⟩ := pow_find _ 169 up
  rcases g3 with rfl | ⟨i, rfl, g3⟩
  · exfalso
    have := Rat.le_trans lo g1
    exact absurd this (by decide +kernel)
  have hi : 23 ≤ i := by
    rcases Nat.lt_or_ge i 23 with h9 | h9
    · exfalso
      have := Rat.le_trans lo (Rat.le_trans g1 (twoR_mono (show i + 1 ≤ 23 by omega)))
      exact absurd this (by decide +kernel)
    · exact h9
  obtain ⟨k, rfl⟩ : ∃ k, i = 23 + k := ⟨i - 23, by omega⟩
  have g4 := h.err (k + 1) (by show -(twoR (23 + (k + 1))) ≤ _; rw [show 23 + (k + 1) = 23 + k + 1 by omega]; have := (le_mulR hu).2 h1; grind)
    (by show _ ≤ twoR (23 + (k + 1)); rw [show 23 + (k + 1) = 23 + k + 1 by omega]; have := (le_mulR hu).2 h2; grind)
  have e2 : (((2 ^ (k + 1) : Nat) : Int) : Rat) = 2 * twoR k := twoR_succ k
  rw [e2] at g4
  rw [twoR_add] at g3
  have e3 : twoR 23 = 8388608 := by decide +kernel
  rw [e3] at g3
  have b : 2 * twoR k ≤ c / 4194304 * uR .f32 := by grind
  have g5 := Rat.le_trans g4.2 b
  have g6 : -(c / 4194304 * uR .f32) ≤ (R .f32 r - q) * uR .f32 := by grind
  rw [← Rat.neg_mul, le_mulR hu] at g6
  rw [le_mulR hu] at g5
  constructor <;> grind
/-- what is a float is not rounded -/
theorem Rnd.exact {K : FloatKind} {r y : Nat} {q : Rat} (h : Rnd K r q) (hy : isN K y = true) (e : R K y = q) : R K r = q := by
  have a := h.le y hy (by rw [e]; exact Rat.le_refl)
  have b := h.ge y hy (by rw [e]; exact Rat.le_refl)
  rw [e] at a b
  exact Rat.le_antisymm a b
theorem Rnd.zero {r : Nat} {q : Rat} (h : Rnd .f32 r q) (e : q = 0) : R .f32 r = 0 := by
  have := h.exact zero_N.1 (by rw [e]; exact R_zero)
  rw [this, e]
/-- what is not below zero stays so -/
theorem Rnd.pos {r : Nat} {q : Rat} (h : Rnd .f32 r q) (e : 0 ≤ q) : 0 ≤ R .f32 r := by
  have := h.ge 0 zero_N.1 (by rw [R_zero]; exact e)
  rwa [R_zero] at this
/-- an error grows by a time -/
theorem tms {x y d A B s : Rat} (h : y - d * A ≤ x ∧ x ≤ y + d * A) (d0 : 0 ≤ d) (s0 : 0 ≤ s) (hs : A * s ≤ B) : y * s - d * B ≤ x * s ∧ x * s ≤ y * s + d * B := by
  have p1 := Rat.mul_nonneg (a := x - y + d * A) (b := s) (by grind) s0
  have p2 := Rat.mul_nonneg (a := y + d * A - x) (b := s) (by grind) s0
  have p3 := Rat.mul_nonneg (a := d) (b := B - A * s) d0 (by grind)
  constructor <;> grind
end Go.Fl
