/- How far a plan goes, as the float computes it; the plan at full speed. Plain Lean. -/
import Derived.Test.YtfpkdnopbnppmaaPnI
import Derived.Test.YtfpkdnopbnppmaaJerk
namespace Go.Fl
open Ieee Go.Proofs.Ytfpkdnopbnppmaa
theorem muld {x y s t d e B C : Rat} (h : Er x y d) (k : Er s t e) (x1 : -B ≤ x) (x2 : x ≤ B) (t1 : -C ≤ t) (t2 : t ≤ C) : Er (x * s) (y * t) (B * e + C * d) := by
  obtain ⟨h1, h2⟩ := h
  obtain ⟨k1, k2⟩ := k
  obtain ⟨a1, a2⟩ := mul_bd (x := x) (y := s - t) (B := B) (C := e) x1 x2 (by grind) (by grind)
  obtain ⟨b1, b2⟩ := mul_bd (x := t) (y := x - y) (B := C) (C := d) t1 t2 (by grind) (by grind)
  constructor <;> grind
/-- how far at the least: exactly -/
def way0 (J r h : Rat) : Rat := J * r * (r + h) * (2 * r + h)
theorem way_err {j r h : Nat} (nj : isN .f32 j = true) (nr : isN .f32 r = true) (nh : isN .f32 h = true) (J0 : 0 ≤ R .f32 j) (J9 : R .f32 j ≤ 4) (r0 : 0 ≤ R .f32 r) (r9 : R .f32 r ≤ 3) (h0 : 0 ≤ R .f32 h) (h9 : R .f32 h ≤ 9)
    (A9 : R .f32 j * R .f32 r ≤ 5) (V9 : R .f32 j * R .f32 r * (R .f32 r + R .f32 h) ≤ 5) :
    (isN .f32 (jkPeak j r h) = true ∧ Er (R .f32 (jkPeak j r h)) (R .f32 j * R .f32 r * (R .f32 r + R .f32 h)) (1 / 30000)) ∧ isN .f32 (jkWay j r h) = true ∧ Er (R .f32 (jkWay j r h)) (way0 (R .f32 j) (R .f32 r) (R .f32 h)) (1 / 1500) := by
  unfold way0
  have A0 := Rat.mul_nonneg J0 r0
  have V0 := Rat.mul_nonneg (a := R .f32 j * R .f32 r) (b := R .f32 r + R .f32 h) A0 (by grind)
  have m1 : Rnd .f32 (fmul j r) _ := rnd_mul nj nr (by grind) (by grind)
  have f1 := m1.n32 3 (by decide) (B := 8) rfl (by grind) (by grind)
  have m2 : Rnd .f32 (fadd r h) _ := rnd_add nr nh (by grind) (by grind)
  have f2 := m2.n32 4 (by decide) (B := 16) rfl (by grind) (by grind)
  generalize hA : R .f32 (fmul j r) = A at *
  generalize hS : R .f32 (fadd r h) = S at *
  generalize R .f32 j * R .f32 r = a at *
  have d3 := muld (x := A) (y := a) (s := S) (t := R .f32 r + R .f32 h) (d := 1 / 1000000) (e := 1 / 500000) (B := 6) (C := 12) ⟨by grind, by grind⟩ ⟨by grind, by grind⟩ (by grind) (by grind) (by grind) (by grind)
  obtain ⟨g3, g4⟩ := d3
  generalize hV : a * (R .f32 r + R .f32 h) = v at *
  have m3 : Rnd .f32 (jkPeak j r h) (R .f32 (fmul j r) * R .f32 (fadd r h)) := rnd_mul m1.num m2.num (by rw [hA, hS]; grind) (by rw [hA, hS]; grind)
  rw [hA, hS] at m3
  have f3 := m3.n32 3 (by decide) (B := 8) rfl (by grind) (by grind)
  have m4 : Rnd .f32 (fmul 1073741824 r) (R .f32 1073741824 * R .f32 r) := rnd_mul two_N.1 nr (by rw [two_N.2]; grind) (by rw [two_N.2]; grind)
  rw [two_N.2] at m4
  have f4 := m4.n32 3 (by decide) (B := 8) rfl (by grind) (by grind)
  have m5 : Rnd .f32 (fadd (fmul 1073741824 r) h) _ := rnd_add m4.num nh (by grind) (by grind)
  have f5 := m5.n32 4 (by decide) (B := 16) rfl (by grind) (by grind)
  have d6 := muld (x := R .f32 (jkPeak j r h)) (y := v) (s := R .f32 (fadd (fmul 1073741824 r) h)) (t := 2 * R .f32 r + R .f32 h) (d := 1 / 30000) (e := 3 / 1000000) (B := 6) (C := 16) ⟨by grind, by grind⟩ ⟨by grind, by grind⟩ (by grind) (by grind) (by grind) (by grind)
  obtain ⟨w1, w2⟩ := mul_bd (x := R .f32 (jkPeak j r h)) (y := R .f32 (fadd (fmul 1073741824 r) h)) (B := 6) (C := 16) (by grind) (by grind) (by grind) (by grind)
  have m6 : Rnd .f32 (jkWay j r h) _ := rnd_mul m3.num m5.num (by grind) (by grind)
  have f6 := m6.n32 7 (by decide) (B := 128) rfl (by grind) (by grind)
  obtain ⟨d7, d8⟩ := d6
  exact ⟨⟨m3.num, by grind, by grind⟩, m6.num, by grind, by grind⟩
/-- a little more or less of the times: a little more or less of the way -/
theorem way_close {J r h x y : Rat} (J0 : 0 ≤ J) (J9 : J ≤ 4) (r0 : 0 ≤ r) (r9 : r ≤ 3) (h0 : 0 ≤ h) (h9 : h ≤ 9) (x0 : 0 ≤ x) (x9 : x ≤ 3) (y0 : 0 ≤ y) (y9 : y ≤ 9)
    (A9 : J * r ≤ 5) (V9 : J * r * (r + h) ≤ 5) (hx : Er r x (1 / 300000)) (hy : Er h y (1 / 100000)) : Er (way0 J r h) (way0 J x y) (1 / 200) := by
  unfold way0
  have A0 := Rat.mul_nonneg J0 r0
  have V0 := Rat.mul_nonneg (a := J * r) (b := r + h) A0 (by grind)
  obtain ⟨hx1, hx2⟩ := hx
  obtain ⟨hy1, hy2⟩ := hy
  have d1 := muld (x := J) (y := J) (s := r) (t := x) (d := 0) (e := 1 / 300000) (B := 4) (C := 3) ⟨by grind, by grind⟩ ⟨hx1, hx2⟩ (by grind) (by grind) (by grind) (by grind)
  have d2 := muld (x := J * r) (y := J * x) (s := r + h) (t := x + y) (d := 4 / 300000) (e := 1 / 75000) (B := 5) (C := 12) ⟨by have := d1.1; grind, by have := d1.2; grind⟩ ⟨by grind, by grind⟩ (by grind) (by grind) (by grind) (by grind)
  have d3 := muld (x := J * r * (r + h)) (y := J * x * (x + y)) (s := 2 * r + h) (t := 2 * x + y) (d := 1 / 4000) (e := 1 / 60000) (B := 5) (C := 15) ⟨by have := d2.1; grind, by have := d2.2; grind⟩ ⟨by grind, by grind⟩ (by grind) (by grind) (by grind) (by grind)
  exact d3.up (by grind)
end Go.Fl
