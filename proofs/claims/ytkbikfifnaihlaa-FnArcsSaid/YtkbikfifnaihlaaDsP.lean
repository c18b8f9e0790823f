/- Dashes: how long a point is, and pieces of a segment, as floats and as rational numbers. Plain Lean. -/
import Derived.Test.YtkbikfifnaihlaaDsL
namespace Go.Fl
open Ieee Go.RowKit

theorem sqrt_zero {x : Nat} (hx : isN .f64 x = true) (h0 : R .f64 x = 0) : ∃ r, FloatKind.f64.format.sqrt x = some r ∧ isN .f64 r = true ∧ R .f64 r = 0 := by
  obtain ⟨s, m, i, hr, hi, hv⟩ := isN_read hx
  have hm : m = 0 := by
    have h1 : V .f64 x = 0 := R_zero_iff.1 h0
    have h2 := signed_natAbs s m (i + LP .f64).toNat
    rw [← hv, h1] at h2
    rcases Nat.mul_eq_zero.1 h2.symm with h | h
    · exact h
    · exact absurd h (Nat.ne_of_gt (Nat.two_pow_pos _))
  subst hm
  have e : FloatKind.f64.format.nearest s 0 i = FloatKind.f64.format.word s 0 := by unfold Format.nearest; rw [if_pos rfl]
  refine ⟨FloatKind.f64.format.nearest s 0 i, ?_, ?_⟩
  · show ((FloatKind.f64.format.read x).root _).map _ = _
    rw [hr]; rfl
  · rw [e]
    cases s
    · exact ⟨by decide +kernel, R_zero_iff.2 (by decide +kernel)⟩
    · exact ⟨by decide +kernel, R_zero_iff.2 (by decide +kernel)⟩
/-- the length of a point of numbers -/
structure LongN (z : Cx) : Prop where
  pw : PowN z
  root : FloatKind.f64.format.sqrt (powF z) = some (sqrtK (powF z))
  rnum : isN .f64 (sqrtK (powF z)) = true
  num : isN .f32 (longF z) = true
  val : ∃ s : Rat, 0 ≤ s ∧ s * s ≤ R .f32 z.1 * R .f32 z.1 + R .f32 z.2 * R .f32 z.2 + 1 / 100000000000 ∧ R .f32 z.1 * R .f32 z.1 + R .f32 z.2 * R .f32 z.2 - 1 / 100000000000 ≤ (s + 1 / 1000000000000) * (s + 1 / 1000000000000) ∧
    s - 1 / 1000000 ≤ R .f32 (longF z) ∧ R .f32 (longF z) ≤ s + 1 / 1000000
  nn : 0 ≤ R .f32 (longF z)
theorem sq_lt {s b : Rat} (h : s * s ≤ b * b) (hb : 0 ≤ b) : s ≤ b := by
  refine Rat.not_lt.1 fun k : b < s => ?_
  have := Rat.mul_pos (a := s - b) (b := s - b) (by grind) (by grind)
  have := Rat.mul_nonneg (a := b) (b := s - b) hb (by grind)
  grind
theorem long_near {z : Cx} (h : nN z) (x1 : -5 ≤ R .f32 z.1) (x2 : R .f32 z.1 ≤ 5) (y1 : -5 ≤ R .f32 z.2) (y2 : R .f32 z.2 ≤ 5) : LongN z := by
  have hp := pow_near h (by grind) (by grind) (by grind) (by grind)
  have b1 := mul_bd x1 x2 x1 x2
  have b2 := mul_bd y1 y2 y1 y2
  have hge := hp.ge
  have hle := hp.le
  have hnn := hp.nn
  by_cases h0 : 0 < R .f64 (powF z)
  · obtain ⟨r, hr, hn, s, s0, s1, s2, s3, s4⟩ := root64 hp.num h0 (by grind)
    have hs : sqrtK (powF z) = r := by unfold sqrtK; rw [hr]; rfl
    have sb : s ≤ 7 + 1 / 2 := sq_lt (by grind) (by grind)
    have hnr := narrow hn (by grind) (by grind)
    have f := hnr.n32 3 (by decide) (B := 8) rfl (by grind) (by grind)
    have hl : longF z = fcv .f64 .f32 r := by unfold longF; rw [hs]
    refine ⟨hp, by rw [hs]; exact hr, by rw [hs]; exact hn, by rw [hl]; exact hnr.num, ⟨s, s0, by grind, ?_, by rw [hl]; grind, by rw [hl]; grind⟩, by rw [hl]; exact hnr.nn32 (by grind)⟩
    have : 0 ≤ 2 * s * (1 / 1000000000000 - 1 / 1099511627776) := Rat.mul_nonneg (by grind) (by grind)
    grind
  · have hz : R .f64 (powF z) = 0 := by grind
    obtain ⟨r, hr, hn, r0⟩ := sqrt_zero hp.num hz
    have hs : sqrtK (powF z) = r := by unfold sqrtK; rw [hr]; rfl
    have hnr := narrow hn (by grind) (by grind)
    have f := hnr.n32 3 (by decide) (B := 8) rfl (by grind) (by grind)
    have hl : longF z = fcv .f64 .f32 r := by unfold longF; rw [hs]
    exact ⟨hp, by rw [hs]; exact hr, by rw [hs]; exact hn, by rw [hl]; exact hnr.num, ⟨0, by grind, by grind, by grind, by rw [hl]; grind, by rw [hl]; grind⟩, by rw [hl]; exact hnr.nn32 (by grind)⟩
end Go.Fl
