/- The plan of a jerk: at full speed, or drawn in. Plain Lean. -/
import Derived.Test.YtfpkdnopbnppmaaPnJ
namespace Go.Fl
open Ieee Go.Proofs.Ytfpkdnopbnppmaa
theorem one_N : isN .f32 1065353216 = true ∧ R .f32 1065353216 = 1 := by
  have q : Q .f32 1065353216 1 0 := ⟨by decide +kernel, by decide +kernel, by decide⟩
  exact ⟨q.num, by rw [q.R]; decide +kernel⟩
theorem fle_R {x y : Nat} (hx : isN .f32 x = true) (hy : isN .f32 y = true) : fle x y = decide (R .f32 x ≤ R .f32 y) := by
  unfold fle
  rw [lt_R hx hy, eq_R hx hy]
  by_cases a : R .f32 x < R .f32 y
  · simp [a, Rat.le_of_lt a]
  · by_cases b : R .f32 x = R .f32 y
    · simp [b]
    · have : ¬ R .f32 x ≤ R .f32 y := by grind
      simp [a, b, this]
structure JIn (lw mw rw jw : Nat) : Prop where
  nl : isN .f32 lw = true
  nm : isN .f32 mw = true
  nr : isN .f32 rw = true
  nj : isN .f32 jw = true
  l0 : 1 / 4 ≤ R .f32 lw
  l9 : R .f32 lw ≤ 8
  m0 : 1 / 2 ≤ R .f32 mw
  m9 : R .f32 mw ≤ 4
  r0 : 1 / 2 ≤ R .f32 rw
  r9 : R .f32 rw ≤ 4
  j0 : 1 / 2 ≤ R .f32 jw
  j9 : R .f32 jw ≤ 4
  sq : isN .f32 (fmul rw rw) = true ∧ R .f32 (fmul rw rw) = R .f32 rw * R .f32 rw
  gap : R .f32 rw * R .f32 rw ≤ R .f32 mw * R .f32 jw ∨ R .f32 mw * R .f32 jw + 1 / 4 ≤ R .f32 rw * R .f32 rw
  hold : R .f32 rw * R .f32 rw ≤ R .f32 mw * R .f32 jw → 0 ≤ R .f32 (fsub (fdiv mw rw) (fdiv rw jw))
/-- a quotient of two numbers in bounds -/
theorem quo_N {x y : Nat} (nx : isN .f32 x = true) (ny : isN .f32 y = true) (x0 : 0 ≤ R .f32 x) (x9 : R .f32 x ≤ 16) (y0 : 1 / 2 ≤ R .f32 y) : ∃ q, q * R .f32 y = R .f32 x ∧ 0 ≤ q ∧ q ≤ 32 ∧ Rnd .f32 (fdiv x y) q := by
  have hne : R .f32 y ≠ 0 := by grind
  obtain ⟨q, hq⟩ : ∃ q, q = R .f32 x / R .f32 y := ⟨_, rfl⟩
  have e : q * R .f32 y = R .f32 x := by rw [hq]; exact Rat.div_mul_cancel hne
  have q0 : 0 ≤ q := by
    rcases Rat.le_total (a := 0) (b := q) with h | h
    · exact h
    · have := Rat.mul_nonneg (a := -q) (b := R .f32 y - 1 / 2) (by grind) (by grind); grind
  have q9 : q ≤ 32 := by
    rcases Rat.le_total (a := q) (b := 32) with h | h
    · exact h
    · have := Rat.mul_nonneg (a := q - 32) (b := R .f32 y - 1 / 2) (by grind) (by grind); grind
  exact ⟨q, e, q0, q9, rnd_div nx ny hne e (by grind) (by grind)⟩
/-- the plan at full speed -/
theorem full_plan {lw mw rw jw : Nat} (H : JIn lw mw rw jw) : isN .f32 (jkRise mw rw jw) = true ∧ isN .f32 (jkHold mw rw jw) = true ∧ 1 / 9 ≤ R .f32 (jkRise mw rw jw) ∧ R .f32 (jkRise mw rw jw) ≤ 29 / 10 ∧
    0 ≤ R .f32 (jkHold mw rw jw) ∧ R .f32 (jkHold mw rw jw) ≤ 801 / 100 ∧ R .f32 jw * R .f32 (jkRise mw rw jw) ≤ R .f32 rw + 1 / 10000 ∧
    Er (R .f32 jw * R .f32 (jkRise mw rw jw) * (R .f32 (jkRise mw rw jw) + R .f32 (jkHold mw rw jw))) (R .f32 mw) (1 / 1000) := by
  obtain ⟨nl, nm, nr, nj, l0, l9, m0, m9, r0, r9, j0, j9, ⟨nsq, esq⟩, gap, hold⟩ := H
  unfold jkRise jkHold
  have rr := mul_up (x := R .f32 rw) (y := R .f32 rw) (B := 4) (C := 4) (by grind) r9 (by grind) r9
  obtain ⟨qa, ea, a0, a9, ha⟩ := quo_N nsq nj (by rw [esq]; grind) (by rw [esq]; grind) j0
  have fa : Rnd .f32 (jkA rw jw) qa := ha
  rw [fgt_R fa.num nm]
  rw [esq] at ea
  generalize hM : R .f32 mw = M at *
  generalize hS : R .f32 rw = S at *
  generalize hJ : R .f32 jw = J at *
  rcases gap with gap | gap
  · -- rise rules
    have hle : R .f32 (jkA rw jw) ≤ M := by
      rw [← hM]
      refine fa.le mw nm ?_
      rw [hM]
      rcases Rat.le_total (a := qa) (b := M) with h | h
      · exact h
      · have := Rat.mul_nonneg (a := qa - M) (b := J - 1 / 2) (by grind) (by grind)
        have : qa = M := by grind
        grind
    have hno : ¬ M < R .f32 (jkA rw jw) := by grind
    rw [decide_eq_false hno]
    simp only [Bool.false_eq_true, if_false]
    have hold := hold gap
    obtain ⟨q1, e1, b0, b9, h1⟩ := quo_N nr nj (by grind) (by grind) (by grind)
    obtain ⟨q2, e2, c0, c9, h2⟩ := quo_N nm nr (by grind) (by grind) (by grind)
    rw [hS, hJ] at e1
    rw [hM, hS] at e2
    -- the first quotient is below 2.85
    have b2 : q1 ≤ 285 / 100 := by
      rcases Rat.le_total (a := q1) (b := 285 / 100) with h | h
      · exact h
      · exfalso
        have p1 := Rat.mul_nonneg (a := q1 * J - 285 / 100 * J) (b := q1 * J + 285 / 100 * J) (by have := Rat.mul_nonneg (a := q1 - 285 / 100) (b := J) (by grind) (by grind); grind) (by have := Rat.mul_nonneg (a := q1) (b := J) (by grind) (by grind); grind)
        have p2 := Rat.mul_nonneg (a := 4 - M) (b := J) (by grind) (by grind)
        have p3 := Rat.mul_nonneg (a := J) (b := J - 1 / 2) (by grind) (by grind)
        rw [e1] at p1
        grind
    have c8 : q2 ≤ 8 := by
      rcases Rat.le_total (a := q2) (b := 8) with h | h
      · exact h
      · have := Rat.mul_nonneg (a := q2 - 8) (b := S - 1 / 2) (by grind) (by grind)
        grind
    have b1 : 1 / 8 ≤ q1 := by
      rcases Rat.le_total (a := 1 / 8) (b := q1) with h | h
      · exact h
      · have := Rat.mul_nonneg (a := 4 - J) (b := q1) (by grind) b0
        grind
    have f1 := h1.n32 3 (by decide) (B := 8) rfl (by grind) (by grind)
    have f2 := h2.n32 3 (by decide) (B := 8) rfl (by grind) (by grind)
    have h3 : Rnd .f32 (fsub (fdiv mw rw) (fdiv rw jw)) _ := rnd_sub h2.num h1.num (by grind) (by grind)
    have f3 := h3.n32 4 (by decide) (B := 16) rfl (by grind) (by grind)
    generalize R .f32 (fdiv rw jw) = x at *
    generalize R .f32 (fdiv mw rw) = y at *
    generalize R .f32 (fsub (fdiv mw rw) (fdiv rw jw)) = z at *
    have d1 := muld (x := J) (y := J) (s := x) (t := q1) (d := 0) (e := 1 / 1000000) (B := 4) (C := 3) ⟨by grind, by grind⟩ ⟨by grind, by grind⟩ (by grind) (by grind) (by grind) (by grind)
    obtain ⟨d2, d3⟩ := d1
    have e3 : J * q1 = S := by grind
    have d4 := muld (x := J * x) (y := S) (s := x + z) (t := q2) (d := 1 / 200000) (e := 1 / 200000) (B := 5) (C := 8) ⟨by grind, by grind⟩ ⟨by grind, by grind⟩ (by grind) (by grind) (by grind) (by grind)
    obtain ⟨d5, d6⟩ := d4
    exact ⟨h1.num, h3.num, by grind, by grind, hold, by grind, by grind, by grind, by grind⟩
  · -- the greatest speed rules
    have hgt : M < R .f32 (jkA rw jw) := by
      have q1 : M + 1 / 16 ≤ qa := by
        rcases Rat.le_total (a := M + 1 / 16) (b := qa) with h | h
        · exact h
        · have := Rat.mul_nonneg (a := M + 1 / 16 - qa) (b := J - 1 / 2) (by grind) (by grind)
          grind
      have f := fa.n32 5 (by decide) (B := 32) rfl (by grind) (by grind)
      grind
    rw [decide_eq_true hgt]
    simp only [if_true]
    obtain ⟨q1, e1, b0, b9, h1⟩ := quo_N nm nj (by grind) (by grind) (by grind)
    rw [hM, hJ] at e1
    have b8 : q1 ≤ 8 := by
      rcases Rat.le_total (a := q1) (b := 8) with h | h
      · exact h
      · have := Rat.mul_nonneg (a := q1 - 8) (b := J - 1 / 2) (by grind) (by grind)
        grind
    have b1 : 1 / 8 ≤ q1 := by
      rcases Rat.le_total (a := 1 / 8) (b := q1) with h | h
      · exact h
      · have := Rat.mul_nonneg (a := 4 - J) (b := q1) (by grind) b0
        grind
    have f1 := h1.n32 3 (by decide) (B := 8) rfl (by grind) (by grind)
    obtain ⟨n2, s0, s9, s1, s2⟩ := fsqrt_facts h1.num (by grind) (by grind)
    generalize R .f32 (fdiv mw jw) = x at *
    generalize R .f32 (fsqrt (fdiv mw jw)) = y at *
    have yl : 1 / 9 ≤ y := by
      rcases Rat.le_total (a := 1 / 9) (b := y) with h | h
      · exact h
      · have := mul_up s0 h s0 h
        grind
    have yu : y ≤ 29 / 10 := by
      rcases Rat.le_total (a := y) (b := 29 / 10) with h | h
      · exact h
      · have := Rat.mul_nonneg (a := y - 29 / 10) (b := y + 29 / 10) (by grind) (by grind)
        grind
    have k1 := Rat.mul_nonneg (a := J) (b := q1 + 1 / 5000 - y * y) (by grind) (by grind)
    have k2 := Rat.mul_nonneg (a := J) (b := y * y - (q1 - 1 / 5000)) (by grind) (by grind)
    have jy : J * y ≤ S := by
      rcases Rat.le_total (a := J * y) (b := S) with h | h
      · exact h
      · exfalso
        have k3 := Rat.mul_nonneg (a := J * y - S) (b := J * y + S) (by grind) (by grind)
        have k4 := Rat.mul_nonneg (a := 4 - J) (b := J * (q1 + 1 / 5000 - y * y)) (by grind) k1
        have k5 := Rat.mul_nonneg (a := J) (b := J * (q1 + 1 / 5000 - y * y)) (by grind) k1
        have k6 := (mul_up (x := J) (y := J) (B := 4) (C := 4) (by grind) j9 (by grind) j9).2
        have k7 : J * J * q1 = M * J := by rw [← e1]; grind
        have k8 : J * J * (y * y) ≤ M * J + 16 / 5000 := by
          have : J * (J * (q1 + 1 / 5000 - y * y)) = J * J * q1 + J * J / 5000 - J * J * (y * y) := by grind
          rw [this, k7] at k5
          grind
        have k9 : S * S ≤ J * J * (y * y) := by
          have : (J * y - S) * (J * y + S) = J * J * (y * y) - S * S := by grind
          rw [this] at k3
          grind
        clear k1 k2 k3 k4 k5 k7 rr
        grind
    rw [R_zero]
    exact ⟨n2, zero_N.1, yl, yu, Rat.le_refl, by grind, by grind, by grind, by grind⟩
end Go.Fl
