/- Bounds on float32 that are not exact: finite, no greater than. Plain Lean. -/
import Derived.Test.YtgghhnglnklmbaaGSo
namespace Go.Fl
open Ieee
/-- x is a number no greater than 2 ^ B -/
def Mag (x : Nat) (B : Nat) : Prop := isN .f32 x = true ∧ (V .f32 x).natAbs ≤ 2 ^ (149 + B)
theorem Mag.of_q {x : Nat} {k : Int} {e B : Nat} (h : Q .f32 x k e) (hk : k.natAbs ≤ 2 ^ (e + B)) : Mag x B := by
  refine ⟨h.num, ?_⟩
  rw [h.val, natAbs_pow]
  have he := h.le
  have h1 : LP .f32 = 149 := rfl
  rw [h1] at he ⊢
  have e1 : 149 + B = (e + B) + (149 - e) := by omega
  rw [e1, Nat.pow_add]
  exact Nat.mul_le_mul_right _ hk
theorem near_bound (s : Bool) (m : Nat) (p : Int) (B b : Nat) (hB : B ≤ 100) (hp : -(b : Int) ≤ p) (h : m * 2 ^ (p + b).toNat ≤ 2 ^ (B + b)) : Mag (FloatKind.f32.format.nearest s m p) (B + 3) := by
  rcases Nat.eq_zero_or_pos m with rfl | hm
  · have := near_exact .f32 s 0 p 0 0 (b + 149) (by decide) (by decide) (by show 149 ≤ b + 149; omega) (by omega) (by rw [Nat.zero_mul, Nat.zero_mul])
    refine ⟨this.1, ?_⟩
    rw [this.2, signed_natAbs, Nat.zero_mul]
    exact Nat.zero_le _
  · have hl : m.log2 + (p + b).toNat ≤ B + b := by
      have h1 : 2 ^ m.log2 ≤ m := Nat.log2_self_le (by omega)
      have h2 : 2 ^ (m.log2 + (p + b).toNat) ≤ 2 ^ (B + b) := by
        rw [Nat.pow_add]; exact Nat.le_trans (Nat.mul_le_mul_right _ h1) h
      exact (Nat.pow_le_pow_iff_right (by decide)).1 h2
    have lp : FloatKind.f32.format.leastPlace = -149 := by decide
    have fb : FloatKind.f32.format.fractionBits = 23 := rfl
    obtain ⟨m', e, h1, h2, h3⟩ := read_nearest .f32 s m p (B + 126) (by omega) (by rw [lp, fb]; omega) (by
      have e1 : FloatKind.f32.format.binade = 8388608 := by decide
      have e2 : FloatKind.f32.format.infRung = 255 * 8388608 := by decide
      rw [e1, e2, fb]
      have : (2 : Nat) ^ (23 + 1) = 16777216 := by decide
      rw [this]; omega)
    rw [fb] at h2
    rw [lp] at h3
    unfold Mag isN V
    rw [h1]
    refine ⟨rfl, ?_⟩
    show (signed s m' (e + LP .f32).toNat).natAbs ≤ _
    rw [signed_natAbs]
    have h4 : (e + (LP .f32 : Nat)).toNat ≤ B + 128 := by have : LP .f32 = 149 := rfl; omega
    have h5 : 2 ^ (149 + (B + 3)) = 2 ^ (23 + 1) * 2 ^ (B + 128) := by rw [← Nat.pow_add]; congr 1; omega
    rw [h5]
    exact Nat.mul_le_mul (Nat.le_of_lt h2) (Nat.pow_le_pow_right (by decide) h4)
theorem Mag.read {x B : Nat} (h : Mag x B) : ∃ s m i, FloatKind.f32.format.read x = .number s m i ∧ -149 ≤ i ∧ i ≤ 104 ∧ m * 2 ^ (i + 149).toNat ≤ 2 ^ (149 + B) ∧ V .f32 x = signed s m (i + 149).toNat := by
  obtain ⟨s, m, i, h1, h2, h3⟩ := isN_read h.1
  have h4 := (read_number .f32 x h1).2.2
  have lp : FloatKind.f32.format.leastPlace = -149 := by decide
  have xb : FloatKind.f32.format.exponentBits = 8 := rfl
  rw [lp, xb] at h4
  refine ⟨s, m, i, h1, h2, by omega, ?_, h3⟩
  have := h.2
  rw [h3, signed_natAbs] at this
  exact this
theorem Mag.mul {x y A B : Nat} (hx : Mag x A) (hy : Mag y B) (h : A + B ≤ 100) : Mag (fmul x y) (A + B + 3) := by
  obtain ⟨s, m, i, hr, hi, _, hm, _⟩ := hx.read
  obtain ⟨t, n, j, hq, hj, _, hn, _⟩ := hy.read
  have hop : fmul x y = FloatKind.f32.format.nearest (s ^^ t) (m * n) (i + j) := by
    show ((FloatKind.f32.format.read x).product (FloatKind.f32.format.read y) |>.map FloatKind.f32.format.write).getD _ = _
    rw [hr, hq]; rfl
  rw [hop]
  refine near_bound _ _ _ (A + B) 298 h (by omega) ?_
  have e1 : (i + j + ((298 : Nat) : Int)).toNat = (i + 149).toNat + (j + 149).toNat := by omega
  have e2 : A + B + 298 = (149 + A) + (149 + B) := by omega
  rw [e1, e2, Nat.pow_add, Nat.pow_add]
  calc m * n * (2 ^ (i + 149).toNat * 2 ^ (j + 149).toNat) = (m * 2 ^ (i + 149).toNat) * (n * 2 ^ (j + 149).toNat) := by ac_rfl
    _ ≤ 2 ^ (149 + A) * 2 ^ (149 + B) := Nat.mul_le_mul hm hn
theorem Mag.add {x y B : Nat} (hx : Mag x B) (hy : Mag y B) (h : B + 1 ≤ 100) : Mag (fadd x y) (B + 4) := by
  obtain ⟨s, m, i, hr, hi, _, hm, hv⟩ := hx.read
  obtain ⟨t, n, j, hq, hj, _, hn, hw⟩ := hy.read
  obtain ⟨base, hbase⟩ : ∃ c, c = min i j := ⟨_, rfl⟩
  obtain ⟨total, htot⟩ : ∃ c, c = signed s m (i - base).toNat + signed t n (j - base).toNat := ⟨_, rfl⟩
  have hop : fadd x y = FloatKind.f32.format.nearest (if total = 0 then s && t else decide (total < 0)) total.natAbs base := by
    show ((FloatKind.f32.format.read x).sum (FloatKind.f32.format.read y) |>.map FloatKind.f32.format.write).getD _ = _
    rw [hr, hq, htot, hbase]; rfl
  have hT : total * 2 ^ (base + 149).toNat = V .f32 x + V .f32 y := by
    rw [htot, Int.add_mul, hv, hw, ← signed_up, ← signed_up]
    congr 2 <;> omega
  rw [hop]
  refine near_bound _ _ _ (B + 1) 149 h (by omega) ?_
  have h1 : total.natAbs * 2 ^ (base + 149).toNat = (V .f32 x + V .f32 y).natAbs := by rw [← natAbs_pow, hT]
  have e1 : (base + ((149 : Nat) : Int)).toNat = (base + 149).toNat := rfl
  rw [e1, h1]
  have h2 := hx.2
  have h3 := hy.2
  have e2 : 2 ^ (B + 1 + 149) = 2 ^ (149 + B) + 2 ^ (149 + B) := by rw [show B + 1 + 149 = (149 + B) + 1 by omega, Nat.pow_succ]; omega
  rw [e2]; omega
/-- a quotient of small numbers by one no smaller than 1/32 -/
theorem mag_div {x y : Nat} {k l : Int} (hx : Q .f32 x k 5) (hy : Q .f32 y l 5) (hk : k.natAbs ≤ 1024) (hl : l ≠ 0) : Mag (fdiv x y) 14 := by
  have hmx : Mag x 5 := Mag.of_q hx (by have : (2 : Nat) ^ (5 + 5) = 1024 := by decide
                                        omega)
  obtain ⟨s, m, i, hr, hi, _, hm, _⟩ := hmx.read
  obtain ⟨t, n, j, hq, hj, hw⟩ := isN_read hy.num
  have hj2 : j ≤ 104 := by
    have h4 := (read_number .f32 y hq).2.2
    have lp : FloatKind.f32.format.leastPlace = -149 := by decide
    have xb : FloatKind.f32.format.exponentBits = 8 := rfl
    rw [lp, xb] at h4; omega
  have hLP : LP .f32 = 149 := rfl
  have hn : 2 ^ 144 ≤ n * 2 ^ (j + 149).toNat := by
    have h1 : n * 2 ^ (j + LP .f32).toNat = l.natAbs * 2 ^ (LP .f32 - 5) := by rw [← signed_natAbs t, ← hw, hy.val, natAbs_pow]
    rw [hLP] at h1
    have e : (j + ((149 : Nat) : Int)).toNat = (j + 149).toNat := rfl
    rw [e] at h1
    rw [h1]
    exact Nat.le_mul_of_pos_left _ (by omega)
  have hn0 : n ≠ 0 := fun h => by rw [h, Nat.zero_mul] at hn; have := Nat.two_pow_pos 144; omega
  have fb : FloatKind.f32.format.fractionBits = 23 := rfl
  have hmL : m.log2 ≤ 23 := log2_lt (by have := (read_number .f32 x hr).1; rw [fb] at this; exact this)
  have hnL : n.log2 ≤ 23 := log2_lt (by have := (read_number .f32 y hq).1; rw [fb] at this; exact this)
  obtain ⟨more, hmore⟩ : ∃ c, c = 23 + 2 + n.log2 - m.log2 := ⟨_, rfl⟩
  have hop : fdiv x y = FloatKind.f32.format.nearest (s ^^ t) (2 * (m * 2 ^ more / n) + (m * 2 ^ more % n != 0).toNat) (i - j - more - 1) := by
    show ((FloatKind.f32.format.read x).quotient (FloatKind.f32.format.fractionBits + 2) (FloatKind.f32.format.read y) |>.map FloatKind.f32.format.write).getD _ = _
    rw [hr, hq]
    show Option.getD (Option.map FloatKind.f32.format.write (if n = 0 then _ else _)) _ = _
    rw [if_neg hn0]
    simp only [fb, ← hmore, Nat.shiftLeft_eq]
    rfl
  rw [hop]
  obtain ⟨X, hX⟩ : ∃ c, c = m * 2 ^ more / n := ⟨_, rfl⟩
  obtain ⟨R, hR⟩ : ∃ c, c = (m * 2 ^ more % n != 0).toNat := ⟨_, rfl⟩
  rw [← hX, ← hR]
  have hXn : X * n ≤ m * 2 ^ more := by rw [hX]; exact Nat.div_mul_le_self _ _
  have hR1 : R ≤ X := by
    have hR2 : R ≤ 1 := by rw [hR]; cases (m * 2 ^ more % n != 0) <;> decide
    rcases Nat.eq_zero_or_pos m with h0 | h0
    · have : R = 0 := by rw [hR, h0, Nat.zero_mul, Nat.zero_mod]; rfl
      omega
    · have h1 : n ≤ m * 2 ^ more := by
        have a1 : 2 ^ m.log2 ≤ m := Nat.log2_self_le (by omega)
        have a2 : n < 2 ^ (n.log2 + 1) := Nat.lt_log2_self
        have a3 : 2 ^ (n.log2 + 1) ≤ 2 ^ m.log2 * 2 ^ more := by rw [← Nat.pow_add]; exact Nat.pow_le_pow_right (by decide) (by omega)
        have a4 : 2 ^ m.log2 * 2 ^ more ≤ m * 2 ^ more := Nat.mul_le_mul_right _ a1
        omega
      have : 1 ≤ X := by rw [hX]; exact Nat.div_pos h1 (by omega)
      omega
  have hXb : X * 2 ^ ((i + 149).toNat + 144) ≤ 2 ^ (154 + more + (j + 149).toNat) := by
    have b1 : X * 2 ^ 144 ≤ m * 2 ^ more * 2 ^ (j + 149).toNat := by
      calc X * 2 ^ 144 ≤ X * (n * 2 ^ (j + 149).toNat) := Nat.mul_le_mul_left _ hn
        _ = X * n * 2 ^ (j + 149).toNat := by ac_rfl
        _ ≤ m * 2 ^ more * 2 ^ (j + 149).toNat := Nat.mul_le_mul_right _ hXn
    have b2 : (154 : Nat) = 149 + 5 := rfl
    calc X * 2 ^ ((i + 149).toNat + 144) = X * 2 ^ 144 * 2 ^ (i + 149).toNat := by rw [Nat.pow_add]; ac_rfl
      _ ≤ m * 2 ^ more * 2 ^ (j + 149).toNat * 2 ^ (i + 149).toNat := Nat.mul_le_mul_right _ b1
      _ = (m * 2 ^ (i + 149).toNat) * (2 ^ more * 2 ^ (j + 149).toNat) := by ac_rfl
      _ ≤ 2 ^ (149 + 5) * (2 ^ more * 2 ^ (j + 149).toNat) := Nat.mul_le_mul_right _ hm
      _ = 2 ^ (154 + more + (j + 149).toNat) := by rw [b2, Nat.pow_add 2 (149 + 5 + more), Nat.pow_add 2 (149 + 5)]; ac_rfl
  refine near_bound _ _ _ 11 600 (by decide) (by omega) ?_
  have e1 : (i - j - (more : Int) - 1 + ((600 : Nat) : Int)).toNat = ((i + 149).toNat + 144) + (455 - more - (j + 149).toNat) := by omega
  rw [e1, Nat.pow_add]
  have b3 : 2 * X + R ≤ 4 * X := by omega
  calc (2 * X + R) * (2 ^ ((i + 149).toNat + 144) * 2 ^ (455 - more - (j + 149).toNat)) ≤ 4 * X * (2 ^ ((i + 149).toNat + 144) * 2 ^ (455 - more - (j + 149).toNat)) := Nat.mul_le_mul_right _ b3
    _ = 4 * (X * 2 ^ ((i + 149).toNat + 144)) * 2 ^ (455 - more - (j + 149).toNat) := by rw [← Nat.mul_assoc, Nat.mul_assoc 4 X]
    _ ≤ 4 * 2 ^ (154 + more + (j + 149).toNat) * 2 ^ (455 - more - (j + 149).toNat) := Nat.mul_le_mul_right _ (Nat.mul_le_mul_left _ hXb)
    _ = 2 ^ (11 + 600) := by
      have e4 : (4 : Nat) = 2 ^ 2 := rfl
      rw [e4, ← Nat.pow_add, ← Nat.pow_add]; congr 1; omega
end Go.Fl
