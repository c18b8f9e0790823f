/- Square roots of floats as rational numbers; errors relative to what is rounded. Plain Lean. -/
import Derived.Test.YtkbikfifnaihlaaRr
namespace Go.Fl
open Ieee
theorem Rnd.n32 {r : Nat} {q : Rat} (h : Rnd .f32 r q) (m : Nat) (hm : m ≤ 60) {B : Rat} (hB : B = (((2 ^ m : Nat) : Int) : Rat)) (h1 : -B ≤ q) (h2 : q ≤ B) : q - B / 8388608 ≤ R .f32 r ∧ R .f32 r ≤ q + B / 8388608 :=
  h.near m hm hB (by show B / 8388608 * 8388608 = B; grind) h1 h2
theorem Rnd.n64 {r : Nat} {q : Rat} (h : Rnd .f64 r q) (m : Nat) (hm : m ≤ 60) {B : Rat} (hB : B = (((2 ^ m : Nat) : Int) : Rat)) (h1 : -B ≤ q) (h2 : q ≤ B) : q - B / 4503599627370496 ≤ R .f64 r ∧ R .f64 r ≤ q + B / 4503599627370496 :=
  h.near m hm hB (by show B / 4503599627370496 * 4503599627370496 = B; grind) h1 h2
theorem mul_bd {x y B C : Rat} (h1 : -B ≤ x) (h2 : x ≤ B) (k1 : -C ≤ y) (k2 : y ≤ C) : -(B * C) ≤ x * y ∧ x * y ≤ B * C := by
  have a1 := Rat.mul_nonneg (a := B - x) (b := C - y) (by grind) (by grind)
  have a2 := Rat.mul_nonneg (a := B + x) (b := C + y) (by grind) (by grind)
  have a3 := Rat.mul_nonneg (a := B - x) (b := C + y) (by grind) (by grind)
  have a4 := Rat.mul_nonneg (a := B + x) (b := C - y) (by grind) (by grind)
  constructor <;> grind
/-- products of what is not below zero -/
theorem mul_up {x y B C : Rat} (h1 : 0 ≤ x) (h2 : x ≤ B) (k1 : 0 ≤ y) (k2 : y ≤ C) : 0 ≤ x * y ∧ x * y ≤ B * C := by
  have a1 := Rat.mul_nonneg h1 k1
  have a2 := Rat.mul_nonneg (a := B - x) (b := y) (by grind) k1
  have a3 := Rat.mul_nonneg (a := B) (b := C - y) (by grind) (by grind)
  constructor <;> grind
theorem nat_root (n : Nat) : ∃ s, s * s ≤ n ∧ n < (s + 1) * (s + 1) := by
  induction n with
  | zero => exact ⟨0, by decide, by decide⟩
  | succ n ih =>
    obtain ⟨s, h1, h2⟩ := ih
    by_cases h : (s + 1) * (s + 1) ≤ n + 1
    · refine ⟨s + 1, h, ?_⟩
      have : (s + 1 + 1) * (s + 1 + 1) = (s + 1) * (s + 1) + 2 * (s + 1) + 1 := by rw [Nat.add_mul, Nat.mul_add]; omega
      omega
    · exact ⟨s, by omega, by omega⟩
theorem isN_of_fix (s : Nat) (hs : s < 9007199254740992) : ∃ y, isN .f64 y = true ∧ R .f64 y * 1099511627776 = ((s : Int) : Rat) := by
  have q0 := Q.ofInt .f64 (s : Int) (by show (s : Int).natAbs < 2 ^ 53; omega)
  have h1 : FloatKind.f64.format.read 4787326403894837248 = .number false (2 ^ FB .f64) (((40 : Nat) : Int) - FB .f64) := by decide
  have q1 := Q.half (e := 0) (d := 40) q0 h1 (by show (s : Int).natAbs < 2 ^ 53; omega) (by decide)
  refine ⟨_, q1.num, ?_⟩
  rw [q1.R]
  have : (((2 ^ (0 + 40) : Nat) : Int) : Rat) = 1099511627776 := rfl
  rw [this]
  grind
/-- the root of a number of 64 bits, between two rational numbers -/
theorem root64 {x : Nat} (hx : isN .f64 x = true) (h0 : 0 < R .f64 x) (h1 : R .f64 x ≤ 10000) : ∃ r, FloatKind.f64.format.sqrt x = some r ∧ isN .f64 r = true ∧ ∃ s : Rat, 0 ≤ s ∧ s * s ≤ R .f64 x ∧ R .f64 x ≤ (s + 1 / 1099511627776) * (s + 1 / 1099511627776) ∧ s ≤ R .f64 r ∧ R .f64 r ≤ s + 1 / 1099511627776 := by
  have hv : 0 < V .f64 x := by
    have h9 : R .f64 0 = 0 := R_zero_iff.2 (by decide +kernel)
    have h8 : V .f64 0 = 0 := by decide +kernel
    rw [← h9, R_lt, h8] at h0
    exact h0
  obtain ⟨X, hX⟩ : ∃ X : Nat, V .f64 x = (X : Int) := ⟨(V .f64 x).toNat, by omega⟩
  have hu := uR_pos .f64
  have hbig : X ≤ 2 ^ (100 + LP .f64) := by
    have := million .f64 (q := R .f64 x) (by grind) (by grind) Nat.one_pos (X := V .f64 x) (by rw [show (((1 : Nat) : Int) : Rat) = 1 from rfl, Rat.mul_one, R_mul])
    rw [hX, Nat.mul_one] at this
    simpa using this
  obtain ⟨r, hr, hn, hp, hle, hge⟩ := near_root hx hX hbig (fun h => by omega)
  refine ⟨r, hr, hn, ?_⟩
  -- n = X * 2 ^ 80 / 2 ^ 1074, cut; s its root
  obtain ⟨n, hnn⟩ : ∃ n, n = X * 2 ^ 80 / 2 ^ LP .f64 := ⟨_, rfl⟩
  obtain ⟨s, s1, s2⟩ := nat_root n
  have hD : (0 : Nat) < 2 ^ LP .f64 := Nat.two_pow_pos _
  have n1 : n * 2 ^ LP .f64 ≤ X * 2 ^ 80 := by rw [hnn]; exact Nat.div_mul_le_self _ _
  have n2 : X * 2 ^ 80 < (n + 1) * 2 ^ LP .f64 := by rw [hnn]; exact Nat.lt_mul_of_div_lt (Nat.lt_succ_self _) hD
  have eX : R .f64 x * uR .f64 = ((X : Int) : Rat) := by rw [R_mul, hX]
  have c1 : (((s * s : Nat) : Int) : Rat) ≤ R .f64 x * (((2 ^ 80 : Nat) : Int) : Rat) := by
    rw [← le_mulR hu]
    have e : R .f64 x * (((2 ^ 80 : Nat) : Int) : Rat) * uR .f64 = ((((X * 2 ^ 80 : Nat) : Int)) : Rat) := by
      rw [Int.natCast_mul, Rat.intCast_mul, ← eX]; grind
    have e2 : (((s * s : Nat) : Int) : Rat) * uR .f64 = (((s * s * 2 ^ LP .f64 : Nat) : Int) : Rat) := by
      rw [Int.natCast_mul (s * s), Rat.intCast_mul]; rfl
    rw [e, e2, Rat.intCast_le_intCast]
    exact Int.ofNat_le.2 (Nat.le_trans (Nat.mul_le_mul_right _ s1) n1)
  have c2 : R .f64 x * (((2 ^ 80 : Nat) : Int) : Rat) ≤ ((((s + 1) * (s + 1) : Nat) : Int) : Rat) := by
    rw [← le_mulR hu]
    have e : R .f64 x * (((2 ^ 80 : Nat) : Int) : Rat) * uR .f64 = ((((X * 2 ^ 80 : Nat) : Int)) : Rat) := by
      rw [Int.natCast_mul, Rat.intCast_mul, ← eX]; grind
    have e2 : ((((s + 1) * (s + 1) : Nat) : Int) : Rat) * uR .f64 = ((((s + 1) * (s + 1) * 2 ^ LP .f64 : Nat) : Int) : Rat) := by
      rw [Int.natCast_mul ((s + 1) * (s + 1)), Rat.intCast_mul]; rfl
    rw [e, e2, Rat.intCast_le_intCast]
    exact Int.ofNat_le.2 (Nat.le_trans (Nat.le_of_lt n2) (Nat.mul_le_mul_right _ (by omega)))
  have p80 : (((2 ^ 80 : Nat) : Int) : Rat) = 1099511627776 * 1099511627776 := by
    rw [show (2 ^ 80 : Nat) = 1099511627776 * 1099511627776 from rfl, Int.natCast_mul, Rat.intCast_mul]; rfl
  rw [p80] at c1 c2
  rw [Int.natCast_mul, Rat.intCast_mul] at c1 c2
  have es : (((s + 1 : Nat) : Int) : Rat) = ((s : Int) : Rat) + 1 := by rw [Int.natCast_add, Rat.intCast_add]; rfl
  rw [es] at c2
  obtain ⟨S, hS⟩ : ∃ S, S = ((s : Int) : Rat) := ⟨_, rfl⟩
  rw [← hS] at c1 c2 es
  have S0 : 0 ≤ S := by rw [hS]; exact Rat.intCast_nonneg.2 (Int.natCast_nonneg _)
  -- s is small
  have hs9 : s < 9007199254740990 := by
    rcases Nat.lt_or_ge s 9007199254740990 with h | h
    · exact h
    · exfalso
      have h2 : (9007199254740990 : Rat) ≤ S := by
        rw [hS]
        have : ((9007199254740990 : Int) : Rat) ≤ ((s : Int) : Rat) := Rat.intCast_le_intCast.2 (by omega)
        exact this
      have := Rat.mul_nonneg (a := S - 9007199254740990) (b := S + 9007199254740990) (by grind) (by grind)
      grind
  obtain ⟨y1, m1, e1⟩ := isN_of_fix s (by omega)
  obtain ⟨y2, m2, e2⟩ := isN_of_fix (s + 1) (by omega)
  rw [← hS] at e1
  rw [es] at e2
  -- the root's bounds
  have key : ∀ y, isN .f64 y = true → 0 ≤ R .f64 y → (R .f64 y * R .f64 y ≤ R .f64 x → R .f64 y ≤ R .f64 r) ∧ (R .f64 x ≤ R .f64 y * R .f64 y → R .f64 r ≤ R .f64 y) := fun y hy hy0 => by
    obtain ⟨k, a, hk, hvy⟩ := isN_form hy
    have hy9 : 0 ≤ V .f64 y := by
      have h9 : R .f64 0 = 0 := R_zero_iff.2 (by decide +kernel)
      have h8 : V .f64 0 = 0 := by decide +kernel
      rw [← h9, R_le, h8] at hy0
      exact hy0
    have hk0 : 0 ≤ k := by
      rcases Int.lt_or_le k 0 with h | h
      · have := Int.mul_neg_of_neg_of_pos h (pow_pos_i a); omega
      · exact h
    have hvn : V .f64 y = ((k.natAbs * 2 ^ a : Nat) : Int) := by rw [hvy, Int.natCast_mul, pow_i, show ((k.natAbs : Nat) : Int) = k by omega]
    have sq : ∀ Y : Nat, V .f64 y = (Y : Int) → R .f64 y * R .f64 y * uR .f64 * uR .f64 = (((Y * Y : Nat) : Int) : Rat) := fun Y hY => by
      have : R .f64 y * uR .f64 = ((Y : Int) : Rat) := by rw [R_mul, hY]
      rw [Int.natCast_mul, Rat.intCast_mul, ← this]; grind
    have sqx : R .f64 x * uR .f64 * uR .f64 = (((X * 2 ^ LP .f64 : Nat) : Int) : Rat) := by
      rw [Int.natCast_mul, Rat.intCast_mul, ← eX]; rfl
    refine ⟨fun h => ?_, fun h => ?_⟩
    · rw [R_le, hvn]
      refine hge k.natAbs a hk ?_
      rw [← le_mulR hu, ← le_mulR hu, sq _ hvn, sqx, Rat.intCast_le_intCast] at h
      exact Int.ofNat_le.1 h
    · rw [R_le, hvn]
      refine hle k.natAbs a hk ?_
      rw [← le_mulR hu, ← le_mulR hu, sq _ hvn, sqx, Rat.intCast_le_intCast] at h
      exact Int.ofNat_le.1 h
  have z1 : R .f64 y1 = S / 1099511627776 := by grind
  have z2 : R .f64 y2 = S / 1099511627776 + 1 / 1099511627776 := by grind
  obtain ⟨k1, _⟩ := key y1 m1 (by rw [z1]; grind)
  obtain ⟨_, k2⟩ := key y2 m2 (by rw [z2]; grind)
  refine ⟨S / 1099511627776, by grind, by grind, by grind, ?_, ?_⟩
  · rw [← z1]; exact k1 (by rw [z1]; grind)
  · rw [← z2]; exact k2 (by rw [z2]; grind)
end Go.Fl
