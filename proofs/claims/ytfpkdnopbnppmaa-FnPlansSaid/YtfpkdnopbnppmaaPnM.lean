/- The plan of a jerk is good. Plain Lean. -/
import Derived.Test.YtfpkdnopbnppmaaPnL
namespace Go.Fl
open Ieee Go.Proofs.Ytfpkdnopbnppmaa
structure GoodPlan (lw mw rw jw r h c : Nat) : Prop where
  pw : PlW jw r h c
  rise : R .f32 jw * R .f32 r ≤ R .f32 rw + 1 / 2000
  most : R .f32 jw * R .f32 r * (R .f32 r + R .f32 h) ≤ R .f32 mw + 1 / 200
  long : Er (pfW (R .f32 jw) (R .f32 r) (R .f32 h) (R .f32 c)) (R .f32 lw) (1 / 100)
theorem plan_good {lw mw rw jw : Nat} (H : JIn lw mw rw jw) : GoodPlan lw mw rw jw (jkPlan lw mw rw jw).1 (jkPlan lw mw rw jw).2.1 (jkPlan lw mw rw jw).2.2 := by
  obtain ⟨nR, nH, r0, r9, h0, h9, hA, ⟨hV1, hV2⟩⟩ := full_plan H
  obtain ⟨nl, nm, nr, nj, l0, l9, m0, m9, s0, s9, j0, j9, _, _, _⟩ := H
  unfold jkPlan
  generalize jkRise mw rw jw = Rw at *
  generalize jkHold mw rw jw = Hw at *
  have A9 : R .f32 jw * R .f32 Rw ≤ 5 := by grind
  have V9 : R .f32 jw * R .f32 Rw * (R .f32 Rw + R .f32 Hw) ≤ 5 := by grind
  obtain ⟨⟨np, p1, p2⟩, nw, w1, w2⟩ := way_err nj nR nH (by grind) j9 (by grind) (by grind) h0 (by grind) A9 V9
  rw [fle_R nw nl]
  have w0 : 0 ≤ way0 (R .f32 jw) (R .f32 Rw) (R .f32 Hw) := by
    unfold way0
    exact Rat.mul_nonneg (Rat.mul_nonneg (Rat.mul_nonneg (by grind) (by grind)) (by grind)) (by grind)
  by_cases c : R .f32 (jkWay jw Rw Hw) ≤ R .f32 lw
  · rw [if_pos (by simpa using c)]
    simp only
    have m1 : Rnd .f32 (fsub lw (jkWay jw Rw Hw)) _ := rnd_sub nl nw (by grind) (by grind)
    have g1 := m1.pos (by grind)
    have f1 : R .f32 lw - R .f32 (jkWay jw Rw Hw) - 1 / 100000 ≤ R .f32 (fsub lw (jkWay jw Rw Hw)) ∧ R .f32 (fsub lw (jkWay jw Rw Hw)) ≤ R .f32 lw - R .f32 (jkWay jw Rw Hw) + 1 / 100000 := by
      have := m1.n32 4 (by decide) (B := 16) rfl (by grind) (by grind)
      constructor <;> grind
    have hW : pfW (R .f32 jw) (R .f32 Rw) (R .f32 Hw) (R .f32 (fdiv (fsub lw (jkWay jw Rw Hw)) (jkPeak jw Rw Hw))) = way0 (R .f32 jw) (R .f32 Rw) (R .f32 Hw) + R .f32 jw * R .f32 Rw * (R .f32 Rw + R .f32 Hw) * R .f32 (fdiv (fsub lw (jkWay jw Rw Hw)) (jkPeak jw Rw Hw)) := rfl
    generalize hVV : R .f32 jw * R .f32 Rw * (R .f32 Rw + R .f32 Hw) = V at *
    -- the quotient
    have hne : R .f32 (jkPeak jw Rw Hw) ≠ 0 := by grind
    obtain ⟨q, hq⟩ : ∃ q, q = R .f32 (fsub lw (jkWay jw Rw Hw)) / R .f32 (jkPeak jw Rw Hw) := ⟨_, rfl⟩
    have e : q * R .f32 (jkPeak jw Rw Hw) = R .f32 (fsub lw (jkWay jw Rw Hw)) := by rw [hq]; exact Rat.div_mul_cancel hne
    have q0 : 0 ≤ q := by
      rcases Rat.le_total (a := 0) (b := q) with h | h
      · exact h
      · have := Rat.mul_nonneg (a := -q) (b := R .f32 (jkPeak jw Rw Hw) - 1 / 4) (by grind) (by grind); grind
    have q9 : q ≤ 18 := by
      rcases Rat.le_total (a := q) (b := 18) with h | h
      · exact h
      · have := Rat.mul_nonneg (a := q - 18) (b := R .f32 (jkPeak jw Rw Hw) - 48 / 100) (by grind) (by grind); grind
    have m2 : Rnd .f32 (fdiv (fsub lw (jkWay jw Rw Hw)) (jkPeak jw Rw Hw)) q := rnd_div m1.num np hne e (by grind) (by grind)
    have g2 := m2.pos q0
    have f2 := m2.n32 5 (by decide) (B := 32) rfl (by grind) (by grind)
    generalize hcc : R .f32 (fdiv (fsub lw (jkWay jw Rw Hw)) (jkPeak jw Rw Hw)) = cc at *
    have d := muld (x := V) (y := R .f32 (jkPeak jw Rw Hw)) (s := cc) (t := q) (d := 1 / 30000) (e := 1 / 200000) (B := 5) (C := 18) ⟨by grind, by grind⟩ ⟨by grind, by grind⟩ (by grind) (by grind) (by grind) (by grind)
    obtain ⟨d1, d2⟩ := d
    refine ⟨⟨nj, nR, nH, m2.num, ?_⟩, by grind, by rw [hVV]; grind, ?_⟩
    · rw [hcc]; exact ⟨j0, j9, by grind, by grind, h0, by grind, g2, by grind, A9, by rw [hVV]; exact V9, by rw [hW]; grind, by rw [hW]; grind⟩
    · rw [hcc, hW]; exact ⟨by grind, by grind⟩
  · rw [if_neg (by simpa using c)]
    simp only
    obtain ⟨n1, n2, i1, i2, i3, i4, ⟨c1, c2⟩, i5, x, y, x0, x9, y0, y9, ⟨x1, x2⟩, ⟨y1, y2⟩, i6⟩ := bis_to nj nR nH nl j0 j9 r0 r9 h0 h9 A9 V9 (by grind) (by grind) 30
    generalize (jkTo jw Rw Hw lw 30).1 = lo at *
    generalize (jkTo jw Rw Hw lw 30).2 = hi at *
    obtain ⟨q1, q2, q3, q4, q5, q6, ⟨q7, q7'⟩, ⟨q8, q8'⟩, q9, qa⟩ := part nj nR nH n1 j0 j9 r0 r9 h0 h9 A9 V9 i1 i2
    have hf : halfs 30 ≤ 1 / 1000000000 := by decide +kernel
    have b1 := mul_bd (x := R .f32 hi - R .f32 lo) (y := R .f32 Rw) (B := 1 / 2080000) (C := 29 / 10) (by grind) (by grind) (by grind) (by grind)
    have b2 := mul_bd (x := R .f32 hi - R .f32 lo) (y := R .f32 Hw) (B := 1 / 2080000) (C := 801 / 100) (by grind) (by grind) (by grind) (by grind)
    obtain ⟨b1, b1'⟩ := b1
    obtain ⟨b2, b2'⟩ := b2
    have hc := way_close (J := R .f32 jw) (r := R .f32 (fmul lo Rw)) (h := R .f32 (fmul lo Hw)) (x := x) (y := y) (by grind) j9 q3 (by grind) q5 (by grind) x0 x9 y0 y9 (by grind) (by grind) ⟨by grind, by grind⟩ ⟨by grind, by grind⟩
    obtain ⟨hc1, hc2⟩ := hc
    have hW : pfW (R .f32 jw) (R .f32 (fmul lo Rw)) (R .f32 (fmul lo Hw)) (R .f32 0) = way0 (R .f32 jw) (R .f32 (fmul lo Rw)) (R .f32 (fmul lo Hw)) := by
      rw [R_zero]
      unfold pfW way0
      grind
    have hr : 1 / 100 ≤ R .f32 (fmul lo Rw) := by
      rcases Rat.le_total (a := 1 / 100) (b := R .f32 (fmul lo Rw)) with h | h
      · exact h
      · exfalso
        have k1 := Rat.mul_nonneg (a := R .f32 lo) (b := R .f32 Rw - 1 / 9) i1 (by grind)
        have k2 := Rat.mul_nonneg (a := R .f32 lo) (b := 801 / 100 - R .f32 Hw) i1 (by grind)
        have hh : R .f32 (fmul lo Hw) ≤ 73 / 100 := by grind
        have k3 := mul_up (x := R .f32 jw) (y := R .f32 (fmul lo Rw)) (B := 4) (C := 1 / 100) (by grind) j9 q3 h
        have k4 := mul_up (x := R .f32 jw * R .f32 (fmul lo Rw)) (y := R .f32 (fmul lo Rw) + R .f32 (fmul lo Hw)) (B := 4 / 100) (C := 74 / 100) k3.1 (by grind) (by grind) (by grind)
        have k5 := mul_up (x := R .f32 jw * R .f32 (fmul lo Rw) * (R .f32 (fmul lo Rw) + R .f32 (fmul lo Hw))) (y := 2 * R .f32 (fmul lo Rw) + R .f32 (fmul lo Hw)) (B := 296 / 10000) (C := 75 / 100) k4.1 (by grind) (by grind) (by grind)
        have k6 : way0 (R .f32 jw) (R .f32 (fmul lo Rw)) (R .f32 (fmul lo Hw)) ≤ 296 / 10000 * (75 / 100) := k5.2
        grind
    refine ⟨⟨nj, q1, q2, zero_N.1, ?_⟩, by grind, by grind, ?_⟩
    · exact ⟨j0, j9, hr, by grind, q5, by grind, by rw [R_zero]; grind, by rw [R_zero]; grind, by grind, by grind, by rw [hW]; grind, by rw [hW]; grind⟩
    · rw [hW]; exact ⟨by grind, by grind⟩
end Go.Fl
