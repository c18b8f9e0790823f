/- The plan drawn in by halving; the plan of a jerk. Plain Lean. -/
import Derived.Test.YtfpkdnopbnppmaaPnK
namespace Go.Fl
open Ieee Go.Proofs.Ytfpkdnopbnppmaa
def halfs : Nat → Rat | 0 => 1 | k + 1 => halfs k / 2
structure Bis (jw Rw Hw : Nat) (L : Rat) (k : Nat) (lo hi : Nat) : Prop where
  nl : isN .f32 lo = true
  nh : isN .f32 hi = true
  l0 : 0 ≤ R .f32 lo
  l1 : R .f32 lo ≤ 1
  h0 : 0 ≤ R .f32 hi
  h1 : R .f32 hi ≤ 1
  cl : Er (R .f32 hi) (R .f32 lo) (halfs k + 1 / 2097152)
  low : way0 (R .f32 jw) (R .f32 (fmul lo Rw)) (R .f32 (fmul lo Hw)) ≤ L + 1 / 1500
  high : ∃ x y, 0 ≤ x ∧ x ≤ 3 ∧ 0 ≤ y ∧ y ≤ 9 ∧ Er x (R .f32 hi * R .f32 Rw) (1 / 2000000) ∧ Er y (R .f32 hi * R .f32 Hw) (1 / 500000) ∧ L - 1 / 1500 ≤ way0 (R .f32 jw) x y
/-- a part of the full plan -/
theorem part {jw Rw Hw f : Nat} (nj : isN .f32 jw = true) (nR : isN .f32 Rw = true) (nH : isN .f32 Hw = true) (nf : isN .f32 f = true) (J0 : 1 / 2 ≤ R .f32 jw) (J9 : R .f32 jw ≤ 4)
    (r0 : 1 / 9 ≤ R .f32 Rw) (r9 : R .f32 Rw ≤ 29 / 10) (h0 : 0 ≤ R .f32 Hw) (h9 : R .f32 Hw ≤ 801 / 100) (A9 : R .f32 jw * R .f32 Rw ≤ 5) (V9 : R .f32 jw * R .f32 Rw * (R .f32 Rw + R .f32 Hw) ≤ 5)
    (f0 : 0 ≤ R .f32 f) (f1 : R .f32 f ≤ 1) : isN .f32 (fmul f Rw) = true ∧ isN .f32 (fmul f Hw) = true ∧ 0 ≤ R .f32 (fmul f Rw) ∧ R .f32 (fmul f Rw) ≤ R .f32 Rw ∧ 0 ≤ R .f32 (fmul f Hw) ∧ R .f32 (fmul f Hw) ≤ R .f32 Hw ∧
      Er (R .f32 (fmul f Rw)) (R .f32 f * R .f32 Rw) (1 / 2000000) ∧ Er (R .f32 (fmul f Hw)) (R .f32 f * R .f32 Hw) (1 / 500000) ∧
      R .f32 jw * R .f32 (fmul f Rw) ≤ R .f32 jw * R .f32 Rw ∧ R .f32 jw * R .f32 (fmul f Rw) * (R .f32 (fmul f Rw) + R .f32 (fmul f Hw)) ≤ R .f32 jw * R .f32 Rw * (R .f32 Rw + R .f32 Hw) := by
  have a1 := mul_up (x := R .f32 f) (y := R .f32 Rw) (B := 1) (C := R .f32 Rw) f0 f1 (by grind) Rat.le_refl
  have a2 := mul_up (x := R .f32 f) (y := R .f32 Hw) (B := 1) (C := R .f32 Hw) f0 f1 (by grind) Rat.le_refl
  have m1 : Rnd .f32 (fmul f Rw) _ := rnd_mul nf nR (by grind) (by grind)
  have m2 : Rnd .f32 (fmul f Hw) _ := rnd_mul nf nH (by grind) (by grind)
  have p1 := m1.pos a1.1
  have p2 := m2.pos a2.1
  have u1 := m1.le Rw nR (by grind)
  have u2 := m2.le Hw nH (by grind)
  have e1 := m1.n32 2 (by decide) (B := 4) rfl (by grind) (by grind)
  have e2 := m2.n32 4 (by decide) (B := 16) rfl (by grind) (by grind)
  generalize R .f32 (fmul f Rw) = x at *
  generalize R .f32 (fmul f Hw) = y at *
  have g1 := mul_up (x := R .f32 jw) (y := x) (B := R .f32 jw) (C := R .f32 Rw) (by grind) Rat.le_refl p1 u1
  have g2 := mul_up (x := R .f32 jw * x) (y := x + y) (B := R .f32 jw * R .f32 Rw) (C := R .f32 Rw + R .f32 Hw) g1.1 g1.2 (by grind) (by grind)
  exact ⟨m1.num, m2.num, p1, u1, p2, u2, ⟨by grind, by grind⟩, ⟨by grind, by grind⟩, g1.2, g2.2⟩
theorem mid_facts {lo hi : Nat} (nl : isN .f32 lo = true) (nh : isN .f32 hi = true) (l0 : 0 ≤ R .f32 lo) (l1 : R .f32 lo ≤ 1) (h0 : 0 ≤ R .f32 hi) (h1 : R .f32 hi ≤ 1) :
    isN .f32 (fmul 1056964608 (fadd lo hi)) = true ∧ 0 ≤ R .f32 (fmul 1056964608 (fadd lo hi)) ∧ R .f32 (fmul 1056964608 (fadd lo hi)) ≤ 1 ∧ Er (R .f32 (fmul 1056964608 (fadd lo hi))) ((R .f32 lo + R .f32 hi) / 2) (1 / 4194304) := by
  have m1 : Rnd .f32 (fadd lo hi) _ := rnd_add nl nh (by grind) (by grind)
  have p1 := m1.pos (by grind)
  have u1 := m1.le 1073741824 two_N.1 (by rw [two_N.2]; grind)
  rw [two_N.2] at u1
  have e1 := m1.n32 1 (by decide) (B := 2) rfl (by grind) (by grind)
  have m2 : Rnd .f32 (fmul 1056964608 (fadd lo hi)) _ := rnd_mul half_N.1 m1.num (by rw [half_N.2]; grind) (by rw [half_N.2]; grind)
  rw [half_N.2] at m2
  have p2 := m2.pos (by grind)
  have u2 := m2.le 1065353216 one_N.1 (by rw [one_N.2]; grind)
  rw [one_N.2] at u2
  have e2 := m2.n32 0 (by decide) (B := 1) rfl (by grind) (by grind)
  exact ⟨m2.num, p2, u2, by grind, by grind⟩
theorem bis_to {jw Rw Hw lw : Nat} (nj : isN .f32 jw = true) (nR : isN .f32 Rw = true) (nH : isN .f32 Hw = true) (nlw : isN .f32 lw = true) (J0 : 1 / 2 ≤ R .f32 jw) (J9 : R .f32 jw ≤ 4)
    (r0 : 1 / 9 ≤ R .f32 Rw) (r9 : R .f32 Rw ≤ 29 / 10) (h0 : 0 ≤ R .f32 Hw) (h9 : R .f32 Hw ≤ 801 / 100) (A9 : R .f32 jw * R .f32 Rw ≤ 5) (V9 : R .f32 jw * R .f32 Rw * (R .f32 Rw + R .f32 Hw) ≤ 5)
    (L0 : 0 ≤ R .f32 lw) (hfar : R .f32 lw < R .f32 (jkWay jw Rw Hw)) : ∀ k, Bis jw Rw Hw (R .f32 lw) k (jkTo jw Rw Hw lw k).1 (jkTo jw Rw Hw lw k).2
  | 0 => by
    show Bis jw Rw Hw (R .f32 lw) 0 0 1065353216
    obtain ⟨z1, z2⟩ := zmul (x := 0) (z := Rw) zero_N.1 nR (.inl R_zero)
    obtain ⟨z3, z4⟩ := zmul (x := 0) (z := Hw) zero_N.1 nH (.inl R_zero)
    obtain ⟨_, _, w⟩ := way_err nj nR nH (by grind) J9 (by grind) (by grind) h0 (by grind) A9 V9
    refine ⟨zero_N.1, one_N.1, by rw [R_zero]; grind, by rw [R_zero]; grind, by rw [one_N.2]; grind, by rw [one_N.2]; grind, ?_, ?_, R .f32 Rw, R .f32 Hw, by grind, by grind, h0, by grind, ?_, ?_, ?_⟩
    · rw [one_N.2, R_zero]; exact ⟨by show (0 : Rat) - (1 + 1 / 2097152) ≤ 1; grind, by show (1 : Rat) ≤ 0 + (1 + 1 / 2097152); grind⟩
    · rw [z2, z4]; unfold way0; grind
    · rw [one_N.2]; exact ⟨by grind, by grind⟩
    · rw [one_N.2]; exact ⟨by grind, by grind⟩
    · have := w.2; grind
  | k + 1 => by
    have ih := bis_to nj nR nH nlw J0 J9 r0 r9 h0 h9 A9 V9 L0 hfar k
    show Bis jw Rw Hw (R .f32 lw) (k + 1) (jkStep jw Rw Hw lw (jkTo jw Rw Hw lw k)).1 (jkStep jw Rw Hw lw (jkTo jw Rw Hw lw k)).2
    unfold jkStep
    generalize (jkTo jw Rw Hw lw k).1 = lo at *
    generalize (jkTo jw Rw Hw lw k).2 = hi at *
    obtain ⟨n1, n2, i1, i2, i3, i4, ⟨c1, c2⟩, i5, i6⟩ := ih
    obtain ⟨m0, m1, m2, m3, m4⟩ := mid_facts n1 n2 i1 i2 i3 i4
    generalize fmul 1056964608 (fadd lo hi) = mid at *
    obtain ⟨q1, q2, q3, q4, q5, q6, q7, q8, q9, qa⟩ := part nj nR nH m0 J0 J9 r0 r9 h0 h9 A9 V9 m1 m2
    obtain ⟨_, nw, w1, w2⟩ := way_err nj q1 q2 (by grind) J9 q3 (by grind) q5 (by grind) (by grind) (by grind)
    rw [fle_R nw nlw]
    have ek : halfs (k + 1) = halfs k / 2 := rfl
    by_cases c : R .f32 (jkWay jw (fmul mid Rw) (fmul mid Hw)) ≤ R .f32 lw
    · rw [if_pos (by simpa using c)]
      refine ⟨m0, n2, m1, m2, i3, i4, ?_, by grind, i6⟩
      rw [ek]
      exact ⟨by grind, by grind⟩
    · rw [if_neg (by simpa using c)]
      refine ⟨n1, m0, i1, i2, m1, m2, ?_, i5, R .f32 (fmul mid Rw), R .f32 (fmul mid Hw), q3, by grind, q5, by grind, q7, q8, by grind⟩
      rw [ek]
      exact ⟨by grind, by grind⟩
end Go.Fl
