/- Half a number: divided by 2 or times 0.5, it is the same. -/
import Derived.Test.YtfpkdnopbnppmaaPl
namespace Go.Fl
open Ieee

theorem log2_scale (m a : Nat) (hm : m ≠ 0) : (m * 2 ^ a).log2 = m.log2 + a := by
  have h1 : 2 ^ m.log2 ≤ m := Nat.log2_self_le hm
  have h2 : m < 2 ^ (m.log2 + 1) := Nat.lt_log2_self
  have hp : 0 < 2 ^ a := Nat.two_pow_pos a
  have h3 : 2 ^ (m.log2 + a) ≤ m * 2 ^ a := by rw [Nat.pow_add]; exact Nat.mul_le_mul_right _ h1
  have h4 : m * 2 ^ a < 2 ^ (m.log2 + a + 1) := by
    rw [show m.log2 + a + 1 = (m.log2 + 1) + a by omega, Nat.pow_add]; exact Nat.mul_lt_mul_of_pos_right h2 hp
  have hne : m * 2 ^ a ≠ 0 := by
    have : 0 < m * 2 ^ a := Nat.mul_pos (by omega) hp
    omega
  have h5 : (m * 2 ^ a).log2 < m.log2 + a + 1 := (Nat.log2_lt hne).2 h4
  have h6 : m.log2 + a ≤ (m * 2 ^ a).log2 := (Nat.le_log2 hne).2 h3
  omega

theorem cut_even (s : Bool) (n d : Nat) : Toward.even.cut s n d = n / 2 ^ (min d (n.log2 + 2)) + (decide (2 ^ (min d (n.log2 + 2)) < 2 * (n % 2 ^ (min d (n.log2 + 2)))) || (2 ^ (min d (n.log2 + 2)) == 2 * (n % 2 ^ (min d (n.log2 + 2))) && n / 2 ^ (min d (n.log2 + 2)) % 2 == 1)).toNat := by
  unfold Toward.cut
  rw [Nat.one_shiftLeft]

theorem cut_scale (s : Bool) (n d a : Nat) (hn : n ≠ 0) : Toward.even.cut s (n * 2 ^ a) (d + a) = Toward.even.cut s n d := by
  rw [cut_even, cut_even, log2_scale n a hn]
  have e : min (d + a) (n.log2 + a + 2) = min d (n.log2 + 2) + a := by omega
  rw [e]
  generalize min d (n.log2 + 2) = g
  have hp : 0 < 2 ^ a := Nat.two_pow_pos a
  have e1 : n * 2 ^ a / 2 ^ (g + a) = n / 2 ^ g := by rw [Nat.pow_add, Nat.mul_div_mul_right _ _ hp]
  have e2 : n * 2 ^ a % 2 ^ (g + a) = n % 2 ^ g * 2 ^ a := by rw [Nat.pow_add, Nat.mul_mod_mul_right]
  rw [e1, e2, Nat.pow_add]
  have e3 : decide (2 ^ g * 2 ^ a < 2 * (n % 2 ^ g * 2 ^ a)) = decide (2 ^ g < 2 * (n % 2 ^ g)) := by
    rw [← Nat.mul_assoc]
    exact decide_eq_decide.2 ⟨fun h => Nat.lt_of_mul_lt_mul_right h, fun h => Nat.mul_lt_mul_of_pos_right h hp⟩
  have e4 : (2 ^ g * 2 ^ a == 2 * (n % 2 ^ g * 2 ^ a)) = (2 ^ g == 2 * (n % 2 ^ g)) := by
    rw [← Nat.mul_assoc, Bool.eq_iff_iff]
    simp only [beq_iff_eq]
    exact ⟨fun h => Nat.eq_of_mul_eq_mul_right hp h, fun h => congrArg (· * 2 ^ a) h⟩
  rw [e3, e4]

theorem cut_zero (s : Bool) (n : Nat) : Toward.even.cut s n 0 = n := by
  rw [cut_even]
  simp [Nat.mod_one]

theorem nearest_scale (f : Format) (s : Bool) (m a : Nat) (p : Int) : f.nearest s (m * 2 ^ a) (p - a) = f.nearest s m p := by
  rcases Nat.eq_zero_or_pos m with rfl | hpos
  · simp [Format.nearest]
  have hm : m ≠ 0 := by omega
  have hp : 0 < 2 ^ a := Nat.two_pow_pos a
  have hne : m * 2 ^ a ≠ 0 := by
    have : 0 < m * 2 ^ a := Nat.mul_pos hpos hp
    omega
  unfold Format.nearest
  rw [if_neg hm, if_neg hne]
  simp only
  rw [log2_scale m a hm]
  have e : p - (a : Int) + ((m.log2 + a : Nat) : Int) - f.fractionBits = p + m.log2 - f.fractionBits := by omega
  rw [e]
  generalize max (p + m.log2 - f.fractionBits) f.leastPlace = last
  have hc : Toward.even.cut s ((m * 2 ^ a) <<< (p - a - last).toNat) (last - (p - a)).toNat = Toward.even.cut s (m <<< (p - last).toNat) (last - p).toNat := by
    by_cases h1 : last ≤ p
    · have e1 : (last - p).toNat = 0 := by omega
      rw [e1, cut_zero]
      by_cases h2 : last ≤ p - a
      · have e2 : (last - (p - a)).toNat = 0 := by omega
        rw [e2, cut_zero, Nat.shiftLeft_eq, Nat.shiftLeft_eq, Nat.mul_assoc, ← Nat.pow_add]
        congr 2; omega
      · have e2 : (p - a - last).toNat = 0 := by omega
        rw [e2, Nat.shiftLeft_zero, Nat.shiftLeft_eq]
        have e3 : m * 2 ^ a = (m * 2 ^ (p - last).toNat) * 2 ^ (last - (p - a)).toNat := by
          rw [Nat.mul_assoc, ← Nat.pow_add]; congr 2; omega
        have hne2 : m * 2 ^ (p - last).toNat ≠ 0 := by
          have : 0 < m * 2 ^ (p - last).toNat := Nat.mul_pos hpos (Nat.two_pow_pos _)
          omega
        rw [e3]
        have := cut_scale s (m * 2 ^ (p - last).toNat) 0 (last - (p - a)).toNat hne2
        rw [Nat.zero_add] at this
        rw [this, cut_zero]
    · have e1 : (p - last).toNat = 0 := by omega
      have e2 : (p - a - last).toNat = 0 := by omega
      have e3 : (last - (p - a)).toNat = (last - p).toNat + a := by omega
      rw [e1, e2, e3, Nat.shiftLeft_zero, Nat.shiftLeft_zero, cut_scale s m _ a hm]
  rw [hc]

theorem half_eq (x : Nat) : fdiv x 1073741824 = fmul 1056964608 x := by
  have r2 : FloatKind.f32.format.read 1073741824 = .number false (2 ^ 23) (-22) := by decide +kernel
  have rh : FloatKind.f32.format.read 1056964608 = .number false (2 ^ 23) (-24) := by decide +kernel
  unfold fdiv fmul fop floatBits Format.div Format.mul
  rw [r2, rh]
  cases hx : FloatKind.f32.format.read x with
  | nan s f => rfl
  | infinity s => cases s <;> rfl
  | number s m i =>
    have hm := (read_number .f32 x hx).1
    have hl := log2_lt (n := 23) hm
    have hlog : (2 ^ 23 : Nat).log2 = 23 := by decide
    simp only [Datum.quotient, Datum.product, hlog, Option.map_some, Option.getD_some]
    rw [if_neg (by decide)]
    simp only [Option.map_some, Option.getD_some]
    show FloatKind.f32.format.nearest _ _ _ = FloatKind.f32.format.nearest _ _ _
    have hmore : FloatKind.f32.format.fractionBits + 2 + 23 - m.log2 = 48 - m.log2 := rfl
    rw [hmore]
    have e1 : m <<< (48 - m.log2) = (m * 2 ^ (25 - m.log2)) * 2 ^ 23 := by
      rw [Nat.shiftLeft_eq, Nat.mul_assoc, ← Nat.pow_add]; congr 2; omega
    rw [e1, Nat.mul_div_cancel _ (by decide), Nat.mul_mod_left]
    have e2 : 2 * (m * 2 ^ (25 - m.log2)) + ((0 : Nat) != 0).toNat = m * 2 ^ (26 - m.log2) := by
      rw [show 26 - m.log2 = (25 - m.log2) + 1 by omega, Nat.pow_succ]
      simp only [bne_self_eq_false, Bool.toNat_false, Nat.add_zero]
      rw [Nat.mul_comm 2 (m * 2 ^ (25 - m.log2)), Nat.mul_assoc]
    rw [e2]
    have e3 : i - (-22) - ((48 - m.log2 : Nat) : Int) - 1 = (i - 1) - ((26 - m.log2 : Nat) : Int) := by omega
    rw [e3, nearest_scale]
    have e4 : (-24 : Int) + i = (i - 1) - ((23 : Nat) : Int) := by omega
    rw [e4, Nat.mul_comm (2 ^ 23) m, nearest_scale]
    cases s <;> rfl
end Go.Fl
