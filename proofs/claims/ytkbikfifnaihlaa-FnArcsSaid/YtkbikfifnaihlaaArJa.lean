/- Arcs: floats of 64 bits between two rational numbers. Plain Lean. Arcs: the sine and the angle, as the program takes them: functions of words, one step at a time. Plain Lean. Arcs: the sine near the sixteenths of a turn. Written by mkarn.py. Plain Lean. Arcs: the angle, near the sixteenths of a turn. Written by mkarn.py. Plain Lean. Arcs: the absolute value, the opposite, the whole part of a number of 64 bits. Plain Lean. Arcs: phasors near the sixteenths of a turn. Plain Lean. Arcs: the angle of what lies near a sixteenth of a turn. Plain Lean. -/
import Derived.Test.YtkbikfifnaihlaaDsL
import Derived.Laws.FloatArith
namespace Go.Fl
open Ieee
/-- x is a number from a to b -/
def In (x : Nat) (a b : Rat) : Prop := isN .f64 x = true ∧ a ≤ R .f64 x ∧ R .f64 x ≤ b
theorem In.mono {x : Nat} {a b c d : Rat} (h : In x a b) (h1 : c ≤ a) (h2 : b ≤ d) : In x c d := ⟨h.1, Rat.le_trans h1 h.2.1, Rat.le_trans h.2.2 h2⟩
/-- the greatest error of one step -/
def eps : Rat := 1 / 1000000000000
theorem eps_pos : 0 < eps ∧ eps ≤ 1 := by unfold eps; decide +kernel
theorem In.rnd {x : Nat} {q a b c d : Rat} (h : Rnd .f64 x q) (h1 : a ≤ q) (h2 : q ≤ b) (ha : -64 ≤ a) (hb : b ≤ 64) (hc : c + eps ≤ a) (hd : b + eps ≤ d) : In x c d := by
  unfold eps at hc hd
  have f := h.n64 6 (by decide) (B := 64) rfl (by grind) (by grind)
  exact ⟨h.num, by grind, by grind⟩
theorem In.add {x y : Nat} {a b c d lo hi : Rat} (hx : In x a b) (hy : In y c d) (h1 : -64 ≤ a + c) (h2 : b + d ≤ 64) (h3 : lo + eps ≤ a + c) (h4 : b + d + eps ≤ hi) : In (fop .add .f64 x y) lo hi := by
  obtain ⟨x0, x1, x2⟩ := hx
  obtain ⟨y0, y1, y2⟩ := hy
  exact In.rnd (rnd_add x0 y0 (by grind) (by grind)) (a := a + c) (b := b + d) (by grind) (by grind) h1 h2 h3 h4
theorem In.sub {x y : Nat} {a b c d lo hi : Rat} (hx : In x a b) (hy : In y c d) (h1 : -64 ≤ a - d) (h2 : b - c ≤ 64) (h3 : lo + eps ≤ a - d) (h4 : b - c + eps ≤ hi) : In (fop .sub .f64 x y) lo hi := by
  obtain ⟨x0, x1, x2⟩ := hx
  obtain ⟨y0, y1, y2⟩ := hy
  exact In.rnd (rnd_sub x0 y0 (by grind) (by grind)) (a := a - d) (b := b - c) (by grind) (by grind) h1 h2 h3 h4
theorem In.rndP {x : Nat} {q a b c d : Rat} (h : Rnd .f64 x q) (q0 : 0 ≤ q) (h1 : a ≤ q) (h2 : q ≤ b) (hb : b ≤ 64) (hc : c + eps ≤ a ∨ c ≤ 0) (hd : b + eps ≤ d) : In x c d := by
  have hn := h.nn64 q0
  unfold eps at hc hd
  have f := h.n64 6 (by decide) (B := 64) rfl (by grind) (by grind)
  refine ⟨h.num, ?_, by grind⟩
  rcases hc with hc | hc <;> grind
/-- a product of numbers that are not below zero -/
theorem In.mul {x y : Nat} {a b c d lo hi : Rat} (hx : In x a b) (hy : In y c d) (ha : 0 ≤ a) (hc : 0 ≤ c) (h2 : b * d ≤ 64) (h3 : lo + eps ≤ a * c ∨ lo ≤ 0) (h4 : b * d + eps ≤ hi) : In (fop .mul .f64 x y) lo hi := by
  obtain ⟨x0, x1, x2⟩ := hx
  obtain ⟨y0, y1, y2⟩ := hy
  have m1 := Rat.mul_nonneg (a := R .f64 x - a) (b := c) (by grind) hc
  have m2 := Rat.mul_nonneg (a := R .f64 x) (b := R .f64 y - c) (by grind) (by grind)
  have m3 := Rat.mul_nonneg (a := b - R .f64 x) (b := R .f64 y) (by grind) (by grind)
  have m4 := Rat.mul_nonneg (a := b) (b := d - R .f64 y) (by grind) (by grind)
  have m5 := Rat.mul_nonneg ha hc
  exact In.rndP (rnd_mul x0 y0 (by grind) (by grind)) (by grind) (a := a * c) (b := b * d) (by grind) (by grind) h2 h3 h4
/-- a quotient of positive numbers -/
theorem In.div {x y : Nat} {a b c d lo hi : Rat} (hx : In x a b) (hy : In y c d) (ha : 0 ≤ a) (hc : 0 < c) (hh : hi ≤ 64) (h3 : (lo + eps) * d ≤ a ∨ lo ≤ 0) (h4 : b ≤ (hi - eps) * c) : In (fop .quo .f64 x y) lo hi := by
  obtain ⟨x0, x1, x2⟩ := hx
  obtain ⟨y0, y1, y2⟩ := hy
  have hy0 : 0 < R .f64 y := by grind
  have hq : R .f64 x / R .f64 y * R .f64 y = R .f64 x := Rat.div_mul_cancel (by grind)
  obtain ⟨q, hqq⟩ : ∃ q, q = R .f64 x / R .f64 y := ⟨_, rfl⟩
  rw [← hqq] at hq
  clear hqq
  obtain ⟨ep, ep1⟩ := eps_pos
  have q0 : 0 ≤ q := by
    refine Rat.not_lt.1 fun k => ?_
    have m1 := Rat.mul_pos (a := -q) (b := R .f64 y) (by grind) hy0
    grind
  have q1 : lo + eps ≤ q ∨ lo ≤ 0 := by
    by_cases l0 : lo ≤ 0
    · exact .inr l0
    · left
      have h3 : (lo + eps) * d ≤ a := by rcases h3 with h | h <;> grind
      refine Rat.not_lt.1 fun k => ?_
      have m1 := Rat.mul_pos (a := lo + eps - q) (b := R .f64 y) (by grind) hy0
      have m2 := Rat.mul_nonneg (a := lo + eps) (b := d - R .f64 y) (by grind) (by grind)
      grind
  have q2 : q ≤ hi - eps := by
    refine Rat.not_lt.1 fun k => ?_
    have m1 := Rat.mul_pos (a := q - (hi - eps)) (b := R .f64 y) (by grind) hy0
    have h5 : 0 ≤ hi - eps := by
      refine Rat.not_lt.1 fun k2 => ?_
      have := Rat.mul_pos (a := -(hi - eps)) (b := c) (by grind) hc
      grind
    have m2 := Rat.mul_nonneg (a := hi - eps) (b := R .f64 y - c) h5 (by grind)
    grind
  refine In.rndP (rnd_div (q := q) x0 y0 (by grind) hq (by grind) (by grind)) q0 (Rat.le_refl) q2 (by grind) q1 (by grind)
theorem In.sqrt {x : Nat} {a b lo hi : Rat} (hx : In x a b) (ha : 0 < a) (hb : b ≤ 64) (hl : 0 ≤ lo) (hh : 0 ≤ hi) (h3 : (lo + eps + eps) * (lo + eps + eps) ≤ a) (h4 : b ≤ (hi - eps) * (hi - eps)) (hhe : eps ≤ hi) : FloatKind.f64.format.sqrt x = some (sqrtK x) ∧ In (sqrtK x) lo hi := by
  obtain ⟨x0, x1, x2⟩ := hx
  obtain ⟨r, hr, hn, s, s0, s1, s2, s3, s4⟩ := root64 x0 (by grind) (by grind)
  have e0 : eps = 1 / 1000000000000 := rfl
  have hs : sqrtK x = r := by unfold sqrtK; rw [hr]; rfl
  rw [hs]
  rw [e0] at h3 h4 hhe
  refine ⟨hr, hn, ?_, ?_⟩
  · refine Rat.not_lt.1 fun k => ?_
    have k2 : s + 1 / 1099511627776 < lo + 1 / 1000000000000 + 1 / 1000000000000 := by grind
    have := Rat.mul_pos (a := lo + 1 / 1000000000000 + 1 / 1000000000000 - (s + 1 / 1099511627776)) (b := lo + 1 / 1000000000000 + 1 / 1000000000000 + (s + 1 / 1099511627776)) (by grind) (by grind)
    grind
  · refine Rat.not_lt.1 fun k => ?_
    have k2 : hi - 1 / 1000000000000 < s := by grind
    have := Rat.mul_pos (a := s - (hi - 1 / 1000000000000)) (b := s + (hi - 1 / 1000000000000)) (by grind) (by grind)
    grind
theorem In.of {x : Nat} {k : Int} {e : Nat} (h : Q .f64 x k e) {a b : Rat} (ha : a * (((2 ^ e : Nat) : Int) : Rat) ≤ (k : Rat)) (hb : (k : Rat) ≤ b * (((2 ^ e : Nat) : Int) : Rat)) : In x a b := by
  have hp : (0 : Rat) < (((2 ^ e : Nat) : Int) : Rat) := cast_pos (Nat.two_pow_pos _)
  have hr := h.R
  have hm : Go.Fl.R .f64 x * (((2 ^ e : Nat) : Int) : Rat) = (k : Rat) := by rw [hr]; exact Rat.div_mul_cancel (Rat.ne_of_gt hp)
  exact ⟨h.num, (le_mulR hp).1 (by rw [hm]; exact ha), (le_mulR hp).1 (by rw [hm]; exact hb)⟩
end Go.Fl

namespace Go.Fl
open Ieee
def oneB : Nat := 4607182418800017408
def twoB : Nat := 4611686018427387904
def eightB : Nat := 4620693217682128896
def halfB : Nat := 4602678819172646912
def quarB : Nat := 4598175219545276416
def fullB : Nat := 4618760256179416344
def fiftB : Nat := 4624633867356078080
theorem one_In : In oneB 1 1 := In.of (k := 1) (e := 0) ⟨by decide +kernel, by decide +kernel, by decide⟩ (by decide +kernel) (by decide +kernel)
theorem two_In : In twoB 2 2 := In.of (k := 2) (e := 0) ⟨by decide +kernel, by decide +kernel, by decide⟩ (by decide +kernel) (by decide +kernel)
theorem eight_In : In eightB 8 8 := In.of (k := 8) (e := 0) ⟨by decide +kernel, by decide +kernel, by decide⟩ (by decide +kernel) (by decide +kernel)
theorem half_In : In halfB (1 / 2) (1 / 2) := In.of (k := 1) (e := 1) ⟨by decide +kernel, by decide +kernel, by decide⟩ (by decide +kernel) (by decide +kernel)
theorem quar_In : In quarB (1 / 4) (1 / 4) := In.of (k := 1) (e := 2) ⟨by decide +kernel, by decide +kernel, by decide⟩ (by decide +kernel) (by decide +kernel)
theorem full_In : In fullB (6283185307179 / 1000000000000) (6283185307180 / 1000000000000) := In.of (k := 7074237752028440) (e := 50) ⟨by decide +kernel, by decide +kernel, by decide⟩ (by decide +kernel) (by decide +kernel)
/-- the program's counter in the sine: 8, 7, .. -/
def kSB : Nat → Nat
  | 0 => eightB
  | i + 1 => fop .sub .f64 (kSB i) oneB
def denI (i : Nat) : Nat := fop .mul .f64 (fop .mul .f64 twoB (kSB i)) (fop .add .f64 (fop .mul .f64 twoB (kSB i)) oneB)
def denS (i : Nat) : Nat := floatOfInt .f64 (2 * (8 - (i : Int)) * (2 * (8 - (i : Int)) + 1))
def denQ (i : Nat) : Int := 2 * (8 - (i : Int)) * (2 * (8 - (i : Int)) + 1)
def DenOk (den : Nat → Nat) : Prop := ∀ i, i < 8 → Q .f64 (den i) (denQ i) 0
theorem den_dec (den : Nat → Nat) (h : (List.range 8).all (fun i => isN .f64 (den i) && decide (V .f64 (den i) = denQ i * 2 ^ (LP .f64 - 0))) = true) : DenOk den := fun i hi => by
  have := List.all_eq_true.1 h i (List.mem_range.2 hi)
  simp only [Bool.and_eq_true, decide_eq_true_eq] at this
  exact ⟨this.1, this.2, Nat.zero_le _⟩
theorem denI_ok : DenOk denI := den_dec denI (by decide +kernel)
theorem denS_ok : DenOk denS := den_dec denS (by decide +kernel)
def hornS (den : Nat → Nat) (u : Nat) : Nat → Nat
  | 0 => oneB
  | i + 1 => fop .sub .f64 oneB (fop .quo .f64 (fop .mul .f64 u (hornS den u i)) (den i))
def sinZ (f : Nat) : Nat := fop .mul .f64 f fullB
def sineF (den : Nat → Nat) (f : Nat) : Nat := fop .mul .f64 (sinZ f) (hornS den (fop .mul .f64 (sinZ f) (sinZ f)) 8)
structure StepS (den : Nat → Nat) (u i : Nat) : Prop where
  m : isN .f64 (fop .mul .f64 u (hornS den u i)) = true
  q : isN .f64 (fop .quo .f64 (fop .mul .f64 u (hornS den u i)) (den i)) = true
  p : isN .f64 (hornS den u (i + 1)) = true
theorem In.hs {den : Nat → Nat} {u i : Nat} {a b c d e lo hi : Rat} (hd : DenOk den) (hi8 : i < 8) (he : e = ((denQ i : Int) : Rat)) (he6 : 6 ≤ e) (hu : In u a b) (hp : In (hornS den u i) c d) (ha : 0 ≤ a) (hc : 0 ≤ c) (hb : b * d ≤ 60)
    (c2 : b * d + eps ≤ (1 - lo - eps) * e) (c3 : (1 - hi + eps) * e ≤ a * c - eps ∨ 1 + eps ≤ hi) : StepS den u i ∧ In (hornS den u (i + 1)) lo hi := by
  have c3' := Lib.hid c3
  clear c3
  obtain ⟨u0, u1, u2⟩ := hu
  unfold eps at c2
  obtain ⟨p0, p1, p2⟩ := hp
  have hD := hd i hi8
  have hDR : Go.Fl.R .f64 (den i) = e := by rw [hD.R, he]; show ((denQ i : Int) : Rat) / 1 = _; grind
  have m1 := Rat.mul_nonneg (a := Go.Fl.R .f64 u - a) (b := c) (by grind) hc
  have m2 := Rat.mul_nonneg (a := Go.Fl.R .f64 u) (b := Go.Fl.R .f64 (hornS den u i) - c) (by grind) (by grind)
  have m3 := Rat.mul_nonneg (a := b - Go.Fl.R .f64 u) (b := Go.Fl.R .f64 (hornS den u i)) (by grind) (by grind)
  have m4 := Rat.mul_nonneg (a := b) (b := d - Go.Fl.R .f64 (hornS den u i)) (by grind) (by grind)
  have m5 := Rat.mul_nonneg ha hc
  have r1 := rnd_mul u0 p0 (by grind) (by grind)
  have f1 := r1.n64 6 (by decide) (B := 64) rfl (by grind) (by grind)
  have z1 := r1.nn64 (by grind)
  obtain ⟨M, hM⟩ : ∃ M, M = fop .mul .f64 u (hornS den u i) := ⟨_, rfl⟩
  have hMn : isN .f64 M = true := by rw [hM]; exact r1.num
  rw [← hM] at f1 z1
  have hq : Go.Fl.R .f64 M / e * e = Go.Fl.R .f64 M := Rat.div_mul_cancel (by grind)
  obtain ⟨q, hqq⟩ : ∃ q, q = Go.Fl.R .f64 M / e := ⟨_, rfl⟩
  rw [← hqq] at hq
  clear hqq
  have q0 : 0 ≤ q := by
    refine Rat.not_lt.1 fun k => ?_
    have := Rat.mul_pos (a := -q) (b := e) (by grind) (by grind)
    grind
  have q1 : q ≤ 1 - lo - 1 / 1000000000000 := by
    refine Rat.not_lt.1 fun k => ?_
    have := Rat.mul_pos (a := q - (1 - lo - 1 / 1000000000000)) (b := e) (by grind) (by grind)
    grind
  have q9 : q ≤ 11 := by
    refine Rat.not_lt.1 fun k => ?_
    have := Rat.mul_pos (a := q - 11) (b := e) (by grind) (by grind)
    grind
  have c3 := c3'.out
  unfold eps at c3
  have q2 : 1 - hi + 1 / 1000000000000 ≤ q ∨ 1 + 1 / 1000000000000 ≤ hi := by
    rcases c3 with c3 | c3
    · left
      refine Rat.not_lt.1 fun k => ?_
      have := Rat.mul_pos (a := (1 - hi + 1 / 1000000000000) - q) (b := e) (by grind) (by grind)
      grind
    · exact .inr c3
  have r2 := rnd_div (q := q) hMn hD.num (by rw [hDR]; grind) (by rw [hDR]; exact hq) (by grind) (by grind)
  have f2 := r2.n64 6 (by decide) (B := 64) rfl (by grind) (by grind)
  have z2 := r2.nn64 q0
  obtain ⟨o0, o1, o2⟩ := one_In
  have r3 := rnd_sub o0 r2.num (by grind) (by grind)
  have f3 := r3.n64 6 (by decide) (B := 64) rfl (by grind) (by grind)
  have ex : hornS den u (i + 1) = fop .sub .f64 oneB (fop .quo .f64 M (den i)) := by rw [hM]; rfl
  have hn : isN .f64 (hornS den u (i + 1)) = true := by rw [ex]; exact r3.num
  refine ⟨⟨by rw [← hM]; exact hMn, by rw [← hM]; exact r2.num, hn⟩, hn, ?_, ?_⟩
  · rw [ex]; grind
  · rw [ex]; rcases q2 with q2 | q2 <;> grind
/-- one half of an angle: its tangent -/
def stepR (t : Nat) : Nat := fop .add .f64 oneB (fop .mul .f64 t t)
def stepF (t : Nat) : Nat := fop .quo .f64 t (fop .add .f64 oneB (sqrtK (stepR t)))
structure StepT (t : Nat) : Prop where
  m : isN .f64 (fop .mul .f64 t t) = true
  a : isN .f64 (stepR t) = true
  s : FloatKind.f64.format.sqrt (stepR t) = some (sqrtK (stepR t))
  b : isN .f64 (fop .add .f64 oneB (sqrtK (stepR t))) = true
  q : isN .f64 (stepF t) = true
theorem In.step {t : Nat} {a b s1 s2 lo hi : Rat} (ht : In t a b) (ha : 0 ≤ a) (hb : b ≤ 2) (h1 : 1 ≤ s1) (h2 : 1 ≤ s2) (h3 : (s1 + eps + eps) * (s1 + eps + eps) ≤ 1 + a * a - 3 * eps ∨ (s1 = 1 ∧ a = 0)) (h4 : 1 + b * b + 3 * eps ≤ (s2 - eps) * (s2 - eps)) (h4b : s2 ≤ 60) (h5 : (lo + eps) * (1 + s2 + eps) ≤ a ∨ lo ≤ 0) (h6 : b ≤ (hi - eps) * (s1 + 1 - 3 * eps)) (h7 : hi ≤ 64) : StepT t ∧ In (stepF t) lo hi := by
  have h5' := Lib.hid h5
  have h6' := Lib.hid h6
  have h3' := Lib.hid h3
  clear h5 h6 h3
  unfold eps at h4
  obtain ⟨t0, t1, t2⟩ := ht
  have m1 := Rat.mul_nonneg (a := R .f64 t - a) (b := R .f64 t + a) (by grind) (by grind)
  have m2 := Rat.mul_nonneg (a := b - R .f64 t) (b := b + R .f64 t) (by grind) (by grind)
  have m3 := Rat.mul_nonneg (a := R .f64 t) (b := R .f64 t) (by grind) (by grind)
  have m4 := Rat.mul_nonneg (a := 2 - b) (b := 2 + b) (by grind) (by grind)
  have r1 := rnd_mul t0 t0 (by grind) (by grind)
  have f1 := r1.n64 6 (by decide) (B := 64) rfl (by grind) (by grind)
  have z1 := r1.nn64 m3
  obtain ⟨o0, o1, o2⟩ := one_In
  have r2 := rnd_add o0 r1.num (by grind) (by grind)
  have f2 := r2.n64 6 (by decide) (B := 64) rfl (by grind) (by grind)
  have g2 := r2.ge oneB o0 (by grind)
  have hR : R .f64 (stepR t) = R .f64 (fop .add .f64 oneB (fop .mul .f64 t t)) := rfl
  obtain ⟨r, hr, hn, s, s0, k1, k2, k3, k4⟩ := root64 r2.num (by grind) (by grind)
  have hr : FloatKind.f64.format.sqrt (stepR t) = some r := hr
  have hs : sqrtK (stepR t) = r := by unfold sqrtK; rw [hr]; rfl
  have h3 := h3'.out
  unfold eps at h3
  have sl : s1 - 2 * (1 / 1000000000000) ≤ R .f64 r := by
    refine Rat.not_lt.1 fun k => ?_
    have k5 : s + 1 / 1099511627776 < s1 - 1 / 1000000000000 := by grind
    have k6 := Rat.mul_pos (a := s1 - 1 / 1000000000000 - (s + 1 / 1099511627776)) (b := s1 - 1 / 1000000000000 + (s + 1 / 1099511627776)) (by grind) (by grind)
    rcases h3 with h3 | ⟨h3, _⟩
    · have := Rat.mul_nonneg (a := s1 + 1 / 1000000000000 + 1 / 1000000000000 - (s1 - 1 / 1000000000000)) (b := s1 + 1 / 1000000000000 + 1 / 1000000000000 + (s1 - 1 / 1000000000000)) (by grind) (by grind)
      grind
    · clear m1 m2 m3 m4 f1 z1 hb h1 h2 h4 h4b h5' h6' h3' t1 t2 ha
      subst h3
      obtain ⟨Z, hZ⟩ : ∃ Z, Z = R .f64 (fop .add .f64 oneB (fop .mul .f64 t t)) := ⟨_, rfl⟩
      rw [← hZ] at g2 k1 k2
      clear hZ f2 hR r1 r2
      obtain ⟨s', hs'⟩ : ∃ s', s' = s + 1 / 1099511627776 := ⟨_, rfl⟩
      rw [← hs'] at k2 k5 k6
      grind
  have su : R .f64 r ≤ s2 := by
    refine Rat.not_lt.1 fun k => ?_
    have k5 : s2 - 1 / 1000000000000 < s := by grind
    have k6 := Rat.mul_pos (a := s - (s2 - 1 / 1000000000000)) (b := s + (s2 - 1 / 1000000000000)) (by grind) (by grind)
    grind
  have r3 := rnd_add o0 hn (by grind) (by grind)
  have f3 := r3.n64 6 (by decide) (B := 64) rfl (by grind) (by grind)
  clear h3 m1 m2 m3 m4 k1 k2 h4
  have c1 : s1 + 1 - 3 * (1 / 1000000000000) ≤ R .f64 (fop .add .f64 oneB r) := by grind
  have c2 : R .f64 (fop .add .f64 oneB r) ≤ 1 + s2 + 1 / 1000000000000 := by grind
  have hd := In.div (x := t) (y := fop .add .f64 oneB r) (a := a) (b := b) (c := s1 + 1 - 3 * eps) (d := 1 + s2 + eps) (lo := lo) (hi := hi) ⟨t0, t1, t2⟩ ⟨r3.num, c1, c2⟩ ha (by unfold eps; grind) h7 h5'.out h6'.out
  have es : stepF t = fop .quo .f64 t (fop .add .f64 oneB r) := by unfold stepF; rw [hs]
  refine ⟨⟨r1.num, r2.num, by rw [hs]; exact hr, by rw [hs]; exact r3.num, by rw [es]; exact hd.1⟩, ?_⟩
  rw [es]; exact hd
/-- the program's counter in the angle: 15, 13, .. -/
def kAB : Nat → Nat
  | 0 => fiftB
  | i + 1 => fop .sub .f64 (kAB i) twoB
theorem kAB_ok : (List.range 9).all (fun i => isN .f64 (kAB i) && decide (V .f64 (kAB i) = (15 - 2 * (i : Int)) * 2 ^ (LP .f64 - 0))) = true := by decide +kernel
theorem kAB_Q {i : Nat} (hi : i ≤ 8) : Q .f64 (kAB i) (15 - 2 * (i : Int)) 0 := by
  have := List.all_eq_true.1 kAB_ok i (List.mem_range.2 (by omega))
  simp only [Bool.and_eq_true, decide_eq_true_eq] at this
  exact ⟨this.1, this.2, Nat.zero_le _⟩
def hornA (u : Nat) : Nat → Nat
  | 0 => 0
  | i + 1 => fop .sub .f64 (fop .quo .f64 oneB (kAB i)) (fop .mul .f64 u (hornA u i))
structure StepA (u i : Nat) : Prop where
  m : isN .f64 (fop .mul .f64 u (hornA u i)) = true
  q : isN .f64 (fop .quo .f64 oneB (kAB i)) = true
  p : isN .f64 (hornA u (i + 1)) = true
theorem In.ha {u i : Nat} {a b c d k lo hi : Rat} (hi8 : i < 8) (hk : k = ((15 - 2 * (i : Int) : Int) : Rat)) (hk1 : 1 ≤ k) (hu : In u a b) (hp : In (hornA u i) c d) (ha : 0 ≤ a) (hc : 0 ≤ c) (hb : b * d ≤ 1)
    (c2 : (lo + b * d + eps) * k ≤ 1) (c3 : 1 ≤ (hi + a * c - eps) * k) : StepA u i ∧ In (hornA u (i + 1)) lo hi := by
  unfold eps at c2 c3
  obtain ⟨u0, u1, u2⟩ := hu
  obtain ⟨p0, p1, p2⟩ := hp
  have hK := kAB_Q (i := i) (by omega)
  have hKR : Go.Fl.R .f64 (kAB i) = k := by rw [hK.R, hk]; show ((15 - 2 * (i : Int) : Int) : Rat) / 1 = _; grind
  have m1 := Rat.mul_nonneg (a := Go.Fl.R .f64 u - a) (b := c) (by grind) hc
  have m2 := Rat.mul_nonneg (a := Go.Fl.R .f64 u) (b := Go.Fl.R .f64 (hornA u i) - c) (by grind) (by grind)
  have m3 := Rat.mul_nonneg (a := b - Go.Fl.R .f64 u) (b := Go.Fl.R .f64 (hornA u i)) (by grind) (by grind)
  have m4 := Rat.mul_nonneg (a := b) (b := d - Go.Fl.R .f64 (hornA u i)) (by grind) (by grind)
  have m5 := Rat.mul_nonneg ha hc
  have r1 := rnd_mul u0 p0 (by grind) (by grind)
  have f1 := r1.n64 6 (by decide) (B := 64) rfl (by grind) (by grind)
  obtain ⟨o0, o1, o2⟩ := one_In
  have hq : 1 / k * k = 1 := Rat.div_mul_cancel (by grind)
  obtain ⟨q, hqq⟩ : ∃ q, q = 1 / k := ⟨_, rfl⟩
  rw [← hqq] at hq
  clear hqq
  have q0 : 0 ≤ q := by
    refine Rat.not_lt.1 fun h => ?_
    have := Rat.mul_pos (a := -q) (b := k) (by grind) (by grind)
    grind
  have q1 : q ≤ 1 := by
    refine Rat.not_lt.1 fun h => ?_
    have := Rat.mul_pos (a := q - 1) (b := k) (by grind) (by grind)
    grind
  have q2 : lo + b * d + 1 / 1000000000000 ≤ q := by
    refine Rat.not_lt.1 fun h => ?_
    have := Rat.mul_pos (a := (lo + b * d + 1 / 1000000000000) - q) (b := k) (by grind) (by grind)
    grind
  have q3 : q ≤ hi + a * c - 1 / 1000000000000 := by
    refine Rat.not_lt.1 fun h => ?_
    have := Rat.mul_pos (a := q - (hi + a * c - 1 / 1000000000000)) (b := k) (by grind) (by grind)
    grind
  have r2 := rnd_div (q := q) o0 hK.num (by rw [hKR]; grind) (by rw [hKR]; grind) (by grind) (by grind)
  have f2 := r2.n64 6 (by decide) (B := 64) rfl (by grind) (by grind)
  have r3 := rnd_sub r2.num r1.num (by grind) (by grind)
  have f3 := r3.n64 6 (by decide) (B := 64) rfl (by grind) (by grind)
  have hn : isN .f64 (hornA u (i + 1)) = true := r3.num
  exact ⟨⟨r1.num, r2.num, hn⟩, hn, by show _ ≤ Go.Fl.R .f64 (fop .sub .f64 _ _); grind, by show Go.Fl.R .f64 (fop .sub .f64 _ _) ≤ _; grind⟩
def angU (t : Nat) : Nat := fop .mul .f64 t t
def angG (t : Nat) : Nat := fop .quo .f64 (fop .mul .f64 eightB (fop .mul .f64 t (hornA (angU t) 8))) fullB
end Go.Fl

namespace Go.Fl
open Ieee
structure SineN (den : Nat → Nat) (f : Nat) : Prop where
  z : isN .f64 (sinZ f) = true
  u : isN .f64 (fop .mul .f64 (sinZ f) (sinZ f)) = true
  st : ∀ i, i < 8 → StepS den (fop .mul .f64 (sinZ f) (sinZ f)) i
  r : isN .f64 (sineF den f) = true
/-- the sine of sixteenths -/
def sinQ : Nat → Rat
  | 0 => 0
  | 1 => 38268343 / 100000000
  | 2 => 70710678 / 100000000
  | 3 => 92387953 / 100000000
  | _ => 1
theorem sine_w0 {den : Nat → Nat} (hd : DenOk den) {f : Nat} (h : In f 0 (1 / 10000)) : SineN den f ∧ In (sineF den f) 0 (12566371 / 20000000000) := by
  have hz := In.mul (lo := 0) (hi := (31415927 / 50000000000)) h full_In (by decide +kernel) (by decide +kernel) (by decide +kernel) (.inr (by decide +kernel)) (by decide +kernel)
  have hz : In (sinZ f) 0 (31415927 / 50000000000) := hz
  have hu := In.mul (lo := 0) (hi := (39479 / 100000000000)) hz hz (by decide +kernel) (by decide +kernel) (by decide +kernel) (.inr (by decide +kernel)) (by decide +kernel)
  have p0 : In (hornS den (fop .mul .f64 (sinZ f) (sinZ f)) 0) 1 1 := one_In
  obtain ⟨s0, p1⟩ := In.hs (i := 0) (e := 272) (lo := (49999999927 / 50000000000)) (hi := (100000000001 / 100000000000)) hd (by decide) (by decide +kernel) (by decide +kernel) hu p0 (by decide +kernel) (by decide +kernel) (by decide +kernel) (by decide +kernel) (.inr (by decide +kernel))
  obtain ⟨s1, p2⟩ := In.hs (i := 1) (e := 210) (lo := (99999999811 / 100000000000)) (hi := (100000000001 / 100000000000)) hd (by decide) (by decide +kernel) (by decide +kernel) hu p1 (by decide +kernel) (by decide +kernel) (by decide +kernel) (by decide +kernel) (.inr (by decide +kernel))
  obtain ⟨s2, p3⟩ := In.hs (i := 2) (e := 156) (lo := (49999999873 / 50000000000)) (hi := (100000000001 / 100000000000)) hd (by decide) (by decide +kernel) (by decide +kernel) hu p2 (by decide +kernel) (by decide +kernel) (by decide +kernel) (by decide +kernel) (.inr (by decide +kernel))
  obtain ⟨s3, p4⟩ := In.hs (i := 3) (e := 110) (lo := (2499999991 / 2500000000)) (hi := (100000000001 / 100000000000)) hd (by decide) (by decide +kernel) (by decide +kernel) hu p3 (by decide +kernel) (by decide +kernel) (by decide +kernel) (by decide +kernel) (.inr (by decide +kernel))
  obtain ⟨s4, p5⟩ := In.hs (i := 4) (e := 72) (lo := (99999999451 / 100000000000)) (hi := (100000000001 / 100000000000)) hd (by decide) (by decide +kernel) (by decide +kernel) hu p4 (by decide +kernel) (by decide +kernel) (by decide +kernel) (by decide +kernel) (.inr (by decide +kernel))
  obtain ⟨s5, p6⟩ := In.hs (i := 5) (e := 42) (lo := (99999999059 / 100000000000)) (hi := (100000000001 / 100000000000)) hd (by decide) (by decide +kernel) (by decide +kernel) hu p5 (by decide +kernel) (by decide +kernel) (by decide +kernel) (by decide +kernel) (.inr (by decide +kernel))
  obtain ⟨s6, p7⟩ := In.hs (i := 6) (e := 20) (lo := (3999999921 / 4000000000)) (hi := (100000000001 / 100000000000)) hd (by decide) (by decide +kernel) (by decide +kernel) hu p6 (by decide +kernel) (by decide +kernel) (by decide +kernel) (by decide +kernel) (.inr (by decide +kernel))
  obtain ⟨s7, p8⟩ := In.hs (i := 7) (e := 6) (lo := (99999993419 / 100000000000)) (hi := (100000000001 / 100000000000)) hd (by decide) (by decide +kernel) (by decide +kernel) hu p7 (by decide +kernel) (by decide +kernel) (by decide +kernel) (by decide +kernel) (.inr (by decide +kernel))
  have hr := In.mul (lo := 0) (hi := (12566371 / 20000000000)) hz p8 (by decide +kernel) (by decide +kernel) (by decide +kernel) (.inr (by decide +kernel)) (by decide +kernel)
  exact ⟨⟨hz.1, hu.1, fun i hi => by
    have : i = 0 ∨ i = 1 ∨ i = 2 ∨ i = 3 ∨ i = 4 ∨ i = 5 ∨ i = 6 ∨ i = 7 := by omega
    rcases this with rfl | rfl | rfl | rfl | rfl | rfl | rfl | rfl
    · exact s0
    · exact s1
    · exact s2
    · exact s3
    · exact s4
    · exact s5
    · exact s6
    · exact s7, hr.1⟩, hr⟩
theorem sine_w1 {den : Nat → Nat} (hd : DenOk den) {f : Nat} (h : In f (39 / 625) (313 / 5000)) : SineN den f ∧ In (sineF den f) (19101943261 / 50000000000) (479160063 / 1250000000) := by
  have hz := In.mul (lo := (9801769079 / 25000000000)) (hi := (4916592503 / 12500000000)) h full_In (by decide +kernel) (by decide +kernel) (by decide +kernel) (.inl (by decide +kernel)) (by decide +kernel)
  have hz : In (sinZ f) (9801769079 / 25000000000) (4916592503 / 12500000000) := hz
  have hu := In.mul (lo := (3842987083 / 25000000000)) (hi := (15470644379 / 100000000000)) hz hz (by decide +kernel) (by decide +kernel) (by decide +kernel) (.inl (by decide +kernel)) (by decide +kernel)
  have p0 : In (hornS den (fop .mul .f64 (sinZ f) (sinZ f)) 0) 1 1 := one_In
  obtain ⟨s0, p1⟩ := In.hs (i := 0) (e := 272) (lo := (9994312263 / 10000000000)) (hi := (19988697097 / 20000000000)) hd (by decide) (by decide +kernel) (by decide +kernel) hu p0 (by decide +kernel) (by decide +kernel) (by decide +kernel) (by decide +kernel) (.inl (by decide +kernel))
  obtain ⟨s1, p2⟩ := In.hs (i := 1) (e := 210) (lo := (49963185949 / 50000000000)) (hi := (99926841881 / 100000000000)) hd (by decide) (by decide +kernel) (by decide +kernel) hu p1 (by decide +kernel) (by decide +kernel) (by decide +kernel) (by decide +kernel) (.inl (by decide +kernel))
  obtain ⟨s2, p3⟩ := In.hs (i := 2) (e := 156) (lo := (99900901753 / 100000000000)) (hi := (49950767211 / 50000000000)) hd (by decide) (by decide +kernel) (by decide +kernel) hu p2 (by decide +kernel) (by decide +kernel) (by decide +kernel) (by decide +kernel) (.inl (by decide +kernel))
  obtain ⟨s3, p4⟩ := In.hs (i := 3) (e := 110) (lo := (49929748131 / 50000000000)) (hi := (99860393501 / 100000000000)) hd (by decide) (by decide +kernel) (by decide +kernel) hu p3 (by decide +kernel) (by decide +kernel) (by decide +kernel) (by decide +kernel) (.inl (by decide +kernel))
  obtain ⟨s4, p5⟩ := In.hs (i := 4) (e := 72) (lo := (99785429911 / 100000000000)) (hi := (99786800693 / 100000000000)) hd (by decide) (by decide +kernel) (by decide +kernel) hu p4 (by decide +kernel) (by decide +kernel) (by decide +kernel) (by decide +kernel) (.inl (by decide +kernel))
  obtain ⟨s5, p6⟩ := In.hs (i := 5) (e := 42) (lo := (622702729 / 625000000)) (hi := (19926957311 / 20000000000)) hd (by decide) (by decide +kernel) (by decide +kernel) hu p5 (by decide +kernel) (by decide +kernel) (by decide +kernel) (by decide +kernel) (.inl (by decide +kernel))
  obtain ⟨s6, p7⟩ := In.hs (i := 6) (e := 20) (lo := (12403661603 / 12500000000)) (hi := (99234227667 / 100000000000)) hd (by decide) (by decide +kernel) (by decide +kernel) hu p6 (by decide +kernel) (by decide +kernel) (by decide +kernel) (by decide +kernel) (.inl (by decide +kernel))
  obtain ⟨s7, p8⟩ := In.hs (i := 7) (e := 6) (lo := (19488260851 / 20000000000)) (hi := (6091109629 / 6250000000)) hd (by decide) (by decide +kernel) (by decide +kernel) hu p7 (by decide +kernel) (by decide +kernel) (by decide +kernel) (by decide +kernel) (.inl (by decide +kernel))
  have hr := In.mul (lo := (19101943261 / 50000000000)) (hi := (479160063 / 1250000000)) hz p8 (by decide +kernel) (by decide +kernel) (by decide +kernel) (.inl (by decide +kernel)) (by decide +kernel)
  exact ⟨⟨hz.1, hu.1, fun i hi => by
    have : i = 0 ∨ i = 1 ∨ i = 2 ∨ i = 3 ∨ i = 4 ∨ i = 5 ∨ i = 6 ∨ i = 7 := by omega
    rcases this with rfl | rfl | rfl | rfl | rfl | rfl | rfl | rfl
    · exact s0
    · exact s1
    · exact s2
    · exact s3
    · exact s4
    · exact s5
    · exact s6
    · exact s7, hr.1⟩, hr⟩
theorem sine_w2 {den : Nat → Nat} (hd : DenOk den) {f : Nat} (h : In f (1249 / 10000) (1251 / 10000)) : SineN den f ∧ In (sineF den f) (706411893 / 1000000000) (8847522081 / 12500000000) := by
  have hz := In.mul (lo := (39238492243 / 50000000000)) (hi := (78602648193 / 100000000000)) h full_In (by decide +kernel) (by decide +kernel) (by decide +kernel) (.inl (by decide +kernel)) (by decide +kernel)
  have hz : In (sinZ f) (39238492243 / 50000000000) (78602648193 / 100000000000) := hz
  have hu := In.mul (lo := (61586370939 / 100000000000)) (hi := (6178376303 / 10000000000)) hz hz (by decide +kernel) (by decide +kernel) (by decide +kernel) (.inl (by decide +kernel)) (by decide +kernel)
  have p0 : In (hornS den (fop .mul .f64 (sinZ f) (sinZ f)) 0) 1 1 := one_In
  obtain ⟨s0, p1⟩ := In.hs (i := 0) (e := 272) (lo := (24943213453 / 25000000000)) (hi := (99773579519 / 100000000000)) hd (by decide) (by decide +kernel) (by decide +kernel) hu p0 (by decide +kernel) (by decide +kernel) (by decide +kernel) (by decide +kernel) (.inl (by decide +kernel))
  obtain ⟨s1, p2⟩ := In.hs (i := 1) (e := 210) (lo := (12463307219 / 12500000000)) (hi := (24926849429 / 25000000000)) hd (by decide) (by decide +kernel) (by decide +kernel) hu p1 (by decide +kernel) (by decide +kernel) (by decide +kernel) (by decide +kernel) (.inl (by decide +kernel))
  obtain ⟨s2, p3⟩ := In.hs (i := 2) (e := 156) (lo := (99605109087 / 100000000000)) (hi := (99606374431 / 100000000000)) hd (by decide) (by decide +kernel) (by decide +kernel) hu p2 (by decide +kernel) (by decide +kernel) (by decide +kernel) (by decide +kernel) (.inl (by decide +kernel))
  obtain ⟨s3, p4⟩ := In.hs (i := 3) (e := 110) (lo := (19888108061 / 20000000000)) (hi := (99442334801 / 100000000000)) hd (by decide) (by decide +kernel) (by decide +kernel) hu p3 (by decide +kernel) (by decide +kernel) (by decide +kernel) (by decide +kernel) (.inl (by decide +kernel))
  obtain ⟨s4, p5⟩ := In.hs (i := 4) (e := 72) (lo := (24786669387 / 25000000000)) (hi := (99149419167 / 100000000000)) hd (by decide) (by decide +kernel) (by decide +kernel) hu p4 (by decide +kernel) (by decide +kernel) (by decide +kernel) (by decide +kernel) (.inl (by decide +kernel))
  obtain ⟨s5, p6⟩ := In.hs (i := 5) (e := 42) (lo := (98541470423 / 100000000000)) (hi := (49273085231 / 50000000000)) hd (by decide) (by decide +kernel) (by decide +kernel) hu p5 (by decide +kernel) (by decide +kernel) (by decide +kernel) (by decide +kernel) (.inl (by decide +kernel))
  obtain ⟨s6, p7⟩ := In.hs (i := 6) (e := 20) (lo := (48477861689 / 50000000000)) (hi := (48482797113 / 50000000000)) hd (by decide) (by decide +kernel) (by decide +kernel) hu p6 (by decide +kernel) (by decide +kernel) (by decide +kernel) (by decide +kernel) (.inl (by decide +kernel))
  obtain ⟨s7, p8⟩ := In.hs (i := 7) (e := 6) (lo := (562594799 / 625000000)) (hi := (45024040713 / 50000000000)) hd (by decide) (by decide +kernel) (by decide +kernel) hu p7 (by decide +kernel) (by decide +kernel) (by decide +kernel) (by decide +kernel) (.inl (by decide +kernel))
  have hr := In.mul (lo := (706411893 / 1000000000)) (hi := (8847522081 / 12500000000)) hz p8 (by decide +kernel) (by decide +kernel) (by decide +kernel) (.inl (by decide +kernel)) (by decide +kernel)
  exact ⟨⟨hz.1, hu.1, fun i hi => by
    have : i = 0 ∨ i = 1 ∨ i = 2 ∨ i = 3 ∨ i = 4 ∨ i = 5 ∨ i = 6 ∨ i = 7 := by omega
    rcases this with rfl | rfl | rfl | rfl | rfl | rfl | rfl | rfl
    · exact s0
    · exact s1
    · exact s2
    · exact s3
    · exact s4
    · exact s5
    · exact s6
    · exact s7, hr.1⟩, hr⟩
theorem sine_w3 {den : Nat → Nat} (hd : DenOk den) {f : Nat} (h : In f (937 / 5000) (469 / 2500)) : SineN den f ∧ In (sineF den f) (18461910269 / 20000000000) (23116592153 / 25000000000) := by
  have hz := In.mul (lo := (7359180791 / 6250000000)) (hi := (117872556363 / 100000000000)) h full_In (by decide +kernel) (by decide +kernel) (by decide +kernel) (.inl (by decide +kernel)) (by decide +kernel)
  have hz : In (sinZ f) (7359180791 / 6250000000) (117872556363 / 100000000000) := hz
  have hu := In.mul (lo := (138643307301 / 100000000000)) (hi := (34734848859 / 25000000000)) hz hz (by decide +kernel) (by decide +kernel) (by decide +kernel) (.inl (by decide +kernel)) (by decide +kernel)
  have p0 : In (hornS den (fop .mul .f64 (sinZ f) (sinZ f)) 0) 1 1 := one_In
  obtain ⟨s0, p1⟩ := In.hs (i := 0) (e := 272) (lo := (49744596699 / 50000000000)) (hi := (99490281959 / 100000000000)) hd (by decide) (by decide +kernel) (by decide +kernel) hu p0 (by decide +kernel) (by decide +kernel) (by decide +kernel) (by decide +kernel) (.inl (by decide +kernel))
  obtain ⟨s1, p2⟩ := In.hs (i := 1) (e := 210) (lo := (6208859763 / 6250000000)) (hi := (12417895769 / 12500000000)) hd (by decide) (by decide +kernel) (by decide +kernel) hu p1 (by decide +kernel) (by decide +kernel) (by decide +kernel) (by decide +kernel) (.inl (by decide +kernel))
  obtain ⟨s2, p3⟩ := In.hs (i := 2) (e := 156) (lo := (19823042571 / 20000000000)) (hi := (49558555461 / 50000000000)) hd (by decide) (by decide +kernel) (by decide +kernel) hu p2 (by decide +kernel) (by decide +kernel) (by decide +kernel) (by decide +kernel) (.inl (by decide +kernel))
  obtain ⟨s3, p4⟩ := In.hs (i := 3) (e := 110) (lo := (98748066229 / 100000000000)) (hi := (98750758099 / 100000000000)) hd (by decide) (by decide +kernel) (by decide +kernel) hu p3 (by decide +kernel) (by decide +kernel) (by decide +kernel) (by decide +kernel) (.inl (by decide +kernel))
  obtain ⟨s4, p5⟩ := In.hs (i := 4) (e := 72) (lo := (98094392967 / 100000000000)) (hi := (49049252883 / 50000000000)) hd (by decide) (by decide +kernel) (by decide +kernel) hu p4 (by decide +kernel) (by decide +kernel) (by decide +kernel) (by decide +kernel) (.inl (by decide +kernel))
  obtain ⟨s5, p6⟩ := In.hs (i := 5) (e := 42) (lo := (48377411061 / 50000000000)) (hi := (24190468389 / 25000000000)) hd (by decide) (by decide +kernel) (by decide +kernel) hu p5 (by decide +kernel) (by decide +kernel) (by decide +kernel) (by decide +kernel) (.inl (by decide +kernel))
  obtain ⟨s6, p7⟩ := In.hs (i := 6) (e := 20) (lo := (93277981893 / 100000000000)) (hi := (93292795733 / 100000000000)) hd (by decide) (by decide +kernel) (by decide +kernel) hu p6 (by decide +kernel) (by decide +kernel) (by decide +kernel) (by decide +kernel) (.inl (by decide +kernel))
  obtain ⟨s7, p8⟩ := In.hs (i := 7) (e := 6) (lo := (7839659227 / 10000000000)) (hi := (78446053487 / 100000000000)) hd (by decide) (by decide +kernel) (by decide +kernel) hu p7 (by decide +kernel) (by decide +kernel) (by decide +kernel) (by decide +kernel) (.inl (by decide +kernel))
  have hr := In.mul (lo := (18461910269 / 20000000000)) (hi := (23116592153 / 25000000000)) hz p8 (by decide +kernel) (by decide +kernel) (by decide +kernel) (.inl (by decide +kernel)) (by decide +kernel)
  exact ⟨⟨hz.1, hu.1, fun i hi => by
    have : i = 0 ∨ i = 1 ∨ i = 2 ∨ i = 3 ∨ i = 4 ∨ i = 5 ∨ i = 6 ∨ i = 7 := by omega
    rcases this with rfl | rfl | rfl | rfl | rfl | rfl | rfl | rfl
    · exact s0
    · exact s1
    · exact s2
    · exact s3
    · exact s4
    · exact s5
    · exact s6
    · exact s7, hr.1⟩, hr⟩
theorem sine_w4 {den : Nat → Nat} (hd : DenOk den) {f : Nat} (h : In f (2499 / 10000) (1 / 4)) : SineN den f ∧ In (sineF den f) (24988494411 / 25000000000) (50023008243 / 50000000000) := by
  have hz := In.mul (lo := (78508400413 / 50000000000)) (hi := (3926990817 / 2500000000)) h full_In (by decide +kernel) (by decide +kernel) (by decide +kernel) (.inl (by decide +kernel)) (by decide +kernel)
  have hz : In (sinZ f) (78508400413 / 50000000000) (3926990817 / 2500000000) := hz
  have hu := In.mul (lo := (30817844677 / 12500000000)) (hi := (246740110029 / 100000000000)) hz hz (by decide +kernel) (by decide +kernel) (by decide +kernel) (.inl (by decide +kernel)) (by decide +kernel)
  have p0 : In (hornS den (fop .mul .f64 (sinZ f) (sinZ f)) 0) 1 1 := one_In
  obtain ⟨s0, p1⟩ := In.hs (i := 0) (e := 272) (lo := (49546433621 / 50000000000)) (hi := (24773398201 / 25000000000)) hd (by decide) (by decide +kernel) (by decide +kernel) hu p0 (by decide +kernel) (by decide +kernel) (by decide +kernel) (by decide +kernel) (.inl (by decide +kernel))
  obtain ⟨s1, p2⟩ := In.hs (i := 1) (e := 210) (lo := (12354462119 / 12500000000)) (hi := (12354579591 / 12500000000)) hd (by decide) (by decide +kernel) (by decide +kernel) hu p1 (by decide +kernel) (by decide +kernel) (by decide +kernel) (by decide +kernel) (.inl (by decide +kernel))
  obtain ⟨s2, p3⟩ := In.hs (i := 2) (e := 156) (lo := (19687346633 / 20000000000)) (hi := (49218999191 / 50000000000)) hd (by decide) (by decide +kernel) (by decide +kernel) hu p2 (by decide +kernel) (by decide +kernel) (by decide +kernel) (by decide +kernel) (.inl (by decide +kernel))
  obtain ⟨s3, p4⟩ := In.hs (i := 3) (e := 110) (lo := (48895972611 / 50000000000)) (hi := (97793739671 / 100000000000)) hd (by decide) (by decide +kernel) (by decide +kernel) hu p3 (by decide +kernel) (by decide +kernel) (by decide +kernel) (by decide +kernel) (.inl (by decide +kernel))
  obtain ⟨s4, p5⟩ := In.hs (i := 4) (e := 72) (lo := (755067667 / 781250000)) (hi := (48325701679 / 50000000000)) hd (by decide) (by decide +kernel) (by decide +kernel) hu p4 (by decide +kernel) (by decide +kernel) (by decide +kernel) (by decide +kernel) (.inl (by decide +kernel))
  obtain ⟨s5, p6⟩ := In.hs (i := 5) (e := 42) (lo := (47160978821 / 50000000000)) (hi := (754613281 / 800000000)) hd (by decide) (by decide +kernel) (by decide +kernel) hu p5 (by decide +kernel) (by decide +kernel) (by decide +kernel) (by decide +kernel) (.inl (by decide +kernel))
  obtain ⟨s6, p7⟩ := In.hs (i := 6) (e := 20) (lo := (353451659 / 400000000)) (hi := (276165007 / 312500000)) hd (by decide) (by decide +kernel) (by decide +kernel) hu p6 (by decide +kernel) (by decide +kernel) (by decide +kernel) (by decide +kernel) (.inl (by decide +kernel))
  obtain ⟨s7, p8⟩ := In.hs (i := 7) (e := 6) (lo := (7957267719 / 12500000000)) (hi := (63691272241 / 100000000000)) hd (by decide) (by decide +kernel) (by decide +kernel) hu p7 (by decide +kernel) (by decide +kernel) (by decide +kernel) (by decide +kernel) (.inl (by decide +kernel))
  have hr := In.mul (lo := (24988494411 / 25000000000)) (hi := (50023008243 / 50000000000)) hz p8 (by decide +kernel) (by decide +kernel) (by decide +kernel) (.inl (by decide +kernel)) (by decide +kernel)
  exact ⟨⟨hz.1, hu.1, fun i hi => by
    have : i = 0 ∨ i = 1 ∨ i = 2 ∨ i = 3 ∨ i = 4 ∨ i = 5 ∨ i = 6 ∨ i = 7 := by omega
    rcases this with rfl | rfl | rfl | rfl | rfl | rfl | rfl | rfl
    · exact s0
    · exact s1
    · exact s2
    · exact s3
    · exact s4
    · exact s5
    · exact s6
    · exact s7, hr.1⟩, hr⟩
theorem sine_w {den : Nat → Nat} (hd : DenOk den) {f r : Nat} (hr : r ≤ 4) (hn : isN .f64 f = true) (f0 : 0 ≤ R .f64 f) (f4 : R .f64 f ≤ 1 / 4) (h1 : ((r : Int) : Rat) / 16 - (1 / 10000) ≤ R .f64 f) (h2 : R .f64 f ≤ ((r : Int) : Rat) / 16 + (1 / 10000)) : SineN den f ∧ In (sineF den f) (sinQ r - (1 / 1000)) (sinQ r + (1 / 1000)) := by
  have : r = 0 ∨ r = 1 ∨ r = 2 ∨ r = 3 ∨ r = 4 := by omega
  have c : ∀ n : Nat, (((n : Nat) : Int) : Rat) = ((n : Int) : Rat) := fun _ => rfl
  rcases this with rfl | rfl | rfl | rfl | rfl
  · have e : ((((0 : Nat) : Int)) : Rat) = 0 := rfl
    rw [e] at h1 h2
    obtain ⟨a, b⟩ := sine_w0 hd (f := f) ⟨hn, by grind, by grind⟩
    exact ⟨a, b.mono (by decide +kernel) (by decide +kernel)⟩
  · have e : ((((1 : Nat) : Int)) : Rat) = 1 := rfl
    rw [e] at h1 h2
    obtain ⟨a, b⟩ := sine_w1 hd (f := f) ⟨hn, by grind, by grind⟩
    exact ⟨a, b.mono (by decide +kernel) (by decide +kernel)⟩
  · have e : ((((2 : Nat) : Int)) : Rat) = 2 := rfl
    rw [e] at h1 h2
    obtain ⟨a, b⟩ := sine_w2 hd (f := f) ⟨hn, by grind, by grind⟩
    exact ⟨a, b.mono (by decide +kernel) (by decide +kernel)⟩
  · have e : ((((3 : Nat) : Int)) : Rat) = 3 := rfl
    rw [e] at h1 h2
    obtain ⟨a, b⟩ := sine_w3 hd (f := f) ⟨hn, by grind, by grind⟩
    exact ⟨a, b.mono (by decide +kernel) (by decide +kernel)⟩
  · have e : ((((4 : Nat) : Int)) : Rat) = 4 := rfl
    rw [e] at h1 h2
    obtain ⟨a, b⟩ := sine_w4 hd (f := f) ⟨hn, by grind, by grind⟩
    exact ⟨a, b.mono (by decide +kernel) (by decide +kernel)⟩
theorem sine_t0 {den : Nat → Nat} (hd : DenOk den) {f : Nat} (h : In f 0 (1 / 1000000000)) : SineN den f ∧ In (sineF den f) 0 (63 / 10000000000) := by
  have hz := In.mul (lo := 0) (hi := (629 / 100000000000)) h full_In (by decide +kernel) (by decide +kernel) (by decide +kernel) (.inr (by decide +kernel)) (by decide +kernel)
  have hz : In (sinZ f) 0 (629 / 100000000000) := hz
  have hu := In.mul (lo := 0) (hi := (1 / 100000000000)) hz hz (by decide +kernel) (by decide +kernel) (by decide +kernel) (.inr (by decide +kernel)) (by decide +kernel)
  have p0 : In (hornS den (fop .mul .f64 (sinZ f) (sinZ f)) 0) 1 1 := one_In
  obtain ⟨s0, p1⟩ := In.hs (i := 0) (e := 272) (lo := (99999999999 / 100000000000)) (hi := (100000000001 / 100000000000)) hd (by decide) (by decide +kernel) (by decide +kernel) hu p0 (by decide +kernel) (by decide +kernel) (by decide +kernel) (by decide +kernel) (.inr (by decide +kernel))
  obtain ⟨s1, p2⟩ := In.hs (i := 1) (e := 210) (lo := (99999999999 / 100000000000)) (hi := (100000000001 / 100000000000)) hd (by decide) (by decide +kernel) (by decide +kernel) hu p1 (by decide +kernel) (by decide +kernel) (by decide +kernel) (by decide +kernel) (.inr (by decide +kernel))
  obtain ⟨s2, p3⟩ := In.hs (i := 2) (e := 156) (lo := (99999999999 / 100000000000)) (hi := (100000000001 / 100000000000)) hd (by decide) (by decide +kernel) (by decide +kernel) hu p2 (by decide +kernel) (by decide +kernel) (by decide +kernel) (by decide +kernel) (.inr (by decide +kernel))
  obtain ⟨s3, p4⟩ := In.hs (i := 3) (e := 110) (lo := (99999999999 / 100000000000)) (hi := (100000000001 / 100000000000)) hd (by decide) (by decide +kernel) (by decide +kernel) hu p3 (by decide +kernel) (by decide +kernel) (by decide +kernel) (by decide +kernel) (.inr (by decide +kernel))
  obtain ⟨s4, p5⟩ := In.hs (i := 4) (e := 72) (lo := (99999999999 / 100000000000)) (hi := (100000000001 / 100000000000)) hd (by decide) (by decide +kernel) (by decide +kernel) hu p4 (by decide +kernel) (by decide +kernel) (by decide +kernel) (by decide +kernel) (.inr (by decide +kernel))
  obtain ⟨s5, p6⟩ := In.hs (i := 5) (e := 42) (lo := (99999999999 / 100000000000)) (hi := (100000000001 / 100000000000)) hd (by decide) (by decide +kernel) (by decide +kernel) hu p5 (by decide +kernel) (by decide +kernel) (by decide +kernel) (by decide +kernel) (.inr (by decide +kernel))
  obtain ⟨s6, p7⟩ := In.hs (i := 6) (e := 20) (lo := (99999999999 / 100000000000)) (hi := (100000000001 / 100000000000)) hd (by decide) (by decide +kernel) (by decide +kernel) hu p6 (by decide +kernel) (by decide +kernel) (by decide +kernel) (by decide +kernel) (.inr (by decide +kernel))
  obtain ⟨s7, p8⟩ := In.hs (i := 7) (e := 6) (lo := (99999999999 / 100000000000)) (hi := (100000000001 / 100000000000)) hd (by decide) (by decide +kernel) (by decide +kernel) hu p7 (by decide +kernel) (by decide +kernel) (by decide +kernel) (by decide +kernel) (.inr (by decide +kernel))
  have hr := In.mul (lo := 0) (hi := (63 / 10000000000)) hz p8 (by decide +kernel) (by decide +kernel) (by decide +kernel) (.inr (by decide +kernel)) (by decide +kernel)
  exact ⟨⟨hz.1, hu.1, fun i hi => by
    have : i = 0 ∨ i = 1 ∨ i = 2 ∨ i = 3 ∨ i = 4 ∨ i = 5 ∨ i = 6 ∨ i = 7 := by omega
    rcases this with rfl | rfl | rfl | rfl | rfl | rfl | rfl | rfl
    · exact s0
    · exact s1
    · exact s2
    · exact s3
    · exact s4
    · exact s5
    · exact s6
    · exact s7, hr.1⟩, hr⟩
theorem sine_t1 {den : Nat → Nat} (hd : DenOk den) {f : Nat} (h : In f (62499999 / 1000000000) (62500001 / 1000000000)) : SineN den f ∧ In (sineF den f) (3826834259 / 10000000000) (38268343883 / 100000000000) := by
  have hz := In.mul (lo := (39269907541 / 100000000000)) (hi := (39269908799 / 100000000000)) h full_In (by decide +kernel) (by decide +kernel) (by decide +kernel) (.inl (by decide +kernel)) (by decide +kernel)
  have hz : In (sinZ f) (39269907541 / 100000000000) (39269908799 / 100000000000) := hz
  have hu := In.mul (lo := (7710628191 / 50000000000)) (hi := (15421257371 / 100000000000)) hz hz (by decide +kernel) (by decide +kernel) (by decide +kernel) (.inl (by decide +kernel)) (by decide +kernel)
  have p0 : In (hornS den (fop .mul .f64 (sinZ f) (sinZ f)) 0) 1 1 := one_In
  obtain ⟨s0, p1⟩ := In.hs (i := 0) (e := 272) (lo := (499716521 / 500000000)) (hi := (19988660841 / 20000000000)) hd (by decide) (by decide +kernel) (by decide +kernel) hu p0 (by decide +kernel) (by decide +kernel) (by decide +kernel) (by decide +kernel) (.inl (by decide +kernel))
  obtain ⟨s1, p2⟩ := In.hs (i := 1) (e := 210) (lo := (3997064283 / 4000000000)) (hi := (99926607081 / 100000000000)) hd (by decide) (by decide +kernel) (by decide +kernel) hu p1 (by decide +kernel) (by decide +kernel) (by decide +kernel) (by decide +kernel) (.inl (by decide +kernel))
  obtain ⟨s2, p3⟩ := In.hs (i := 2) (e := 156) (lo := (99901218337 / 100000000000)) (hi := (19980243669 / 20000000000)) hd (by decide) (by decide +kernel) (by decide +kernel) hu p2 (by decide +kernel) (by decide +kernel) (by decide +kernel) (by decide +kernel) (.inl (by decide +kernel))
  obtain ⟨s3, p4⟩ := In.hs (i := 3) (e := 110) (lo := (24964986309 / 25000000000)) (hi := (49929972623 / 50000000000)) hd (by decide) (by decide +kernel) (by decide +kernel) hu p3 (by decide +kernel) (by decide +kernel) (by decide +kernel) (by decide +kernel) (.inl (by decide +kernel))
  obtain ⟨s4, p5⟩ := In.hs (i := 4) (e := 72) (lo := (24946528961 / 25000000000)) (hi := (99786115859 / 100000000000)) hd (by decide) (by decide +kernel) (by decide +kernel) hu p4 (by decide +kernel) (by decide +kernel) (by decide +kernel) (by decide +kernel) (.inl (by decide +kernel))
  obtain ⟨s5, p6⟩ := In.hs (i := 5) (e := 42) (lo := (99633612529 / 100000000000)) (hi := (49816806277 / 50000000000)) hd (by decide) (by decide +kernel) (by decide +kernel) hu p5 (by decide +kernel) (by decide +kernel) (by decide +kernel) (by decide +kernel) (.inl (by decide +kernel))
  obtain ⟨s6, p7⟩ := In.hs (i := 6) (e := 20) (lo := (3100992569 / 3125000000)) (hi := (99231762259 / 100000000000)) hd (by decide) (by decide +kernel) (by decide +kernel) hu p6 (by decide +kernel) (by decide +kernel) (by decide +kernel) (by decide +kernel) (.inl (by decide +kernel))
  obtain ⟨s7, p8⟩ := In.hs (i := 7) (e := 6) (lo := (97449535757 / 100000000000)) (hi := (24362383981 / 25000000000)) hd (by decide) (by decide +kernel) (by decide +kernel) hu p7 (by decide +kernel) (by decide +kernel) (by decide +kernel) (by decide +kernel) (.inl (by decide +kernel))
  have hr := In.mul (lo := (3826834259 / 10000000000)) (hi := (38268343883 / 100000000000)) hz p8 (by decide +kernel) (by decide +kernel) (by decide +kernel) (.inl (by decide +kernel)) (by decide +kernel)
  exact ⟨⟨hz.1, hu.1, fun i hi => by
    have : i = 0 ∨ i = 1 ∨ i = 2 ∨ i = 3 ∨ i = 4 ∨ i = 5 ∨ i = 6 ∨ i = 7 := by omega
    rcases this with rfl | rfl | rfl | rfl | rfl | rfl | rfl | rfl
    · exact s0
    · exact s1
    · exact s2
    · exact s3
    · exact s4
    · exact s5
    · exact s6
    · exact s7, hr.1⟩, hr⟩
theorem sine_t2 {den : Nat → Nat} (hd : DenOk den) {f : Nat} (h : In f (124999999 / 1000000000) (125000001 / 1000000000)) : SineN den f ∧ In (sineF den f) (35355338711 / 50000000000) (2209708713 / 3125000000) := by
  have hz := In.mul (lo := (78539815711 / 100000000000)) (hi := (78539816969 / 100000000000)) h full_In (by decide +kernel) (by decide +kernel) (by decide +kernel) (.inl (by decide +kernel)) (by decide +kernel)
  have hz : In (sinZ f) (78539815711 / 100000000000) (78539816969 / 100000000000) := hz
  have hu := In.mul (lo := (30842513259 / 50000000000)) (hi := (3855314281 / 6250000000)) hz hz (by decide +kernel) (by decide +kernel) (by decide +kernel) (.inl (by decide +kernel)) (by decide +kernel)
  have p0 : In (hornS den (fop .mul .f64 (sinZ f) (sinZ f)) 0) 1 1 := one_In
  obtain ⟨s0, p1⟩ := In.hs (i := 0) (e := 272) (lo := (49886608403 / 50000000000)) (hi := (19954643363 / 20000000000)) hd (by decide) (by decide +kernel) (by decide +kernel) hu p0 (by decide +kernel) (by decide +kernel) (by decide +kernel) (by decide +kernel) (.inl (by decide +kernel))
  obtain ⟨s1, p2⟩ := In.hs (i := 1) (e := 210) (lo := (99706927917 / 100000000000)) (hi := (12463365991 / 12500000000)) hd (by decide) (by decide +kernel) (by decide +kernel) hu p1 (by decide +kernel) (by decide +kernel) (by decide +kernel) (by decide +kernel) (.inl (by decide +kernel))
  obtain ⟨s2, p3⟩ := In.hs (i := 2) (e := 156) (lo := (49802871003 / 50000000000)) (hi := (4980287101 / 5000000000)) hd (by decide) (by decide +kernel) (by decide +kernel) hu p2 (by decide +kernel) (by decide +kernel) (by decide +kernel) (by decide +kernel) (.inl (by decide +kernel))
  obtain ⟨s3, p4⟩ := In.hs (i := 3) (e := 110) (lo := (19888287581 / 20000000000)) (hi := (3977657517 / 4000000000)) hd (by decide) (by decide +kernel) (by decide +kernel) hu p3 (by decide +kernel) (by decide +kernel) (by decide +kernel) (by decide +kernel) (.inl (by decide +kernel))
  obtain ⟨s4, p5⟩ := In.hs (i := 4) (e := 72) (lo := (49574024449 / 50000000000)) (hi := (99148048927 / 100000000000)) hd (by decide) (by decide +kernel) (by decide +kernel) hu p4 (by decide +kernel) (by decide +kernel) (by decide +kernel) (by decide +kernel) (.inl (by decide +kernel))
  obtain ⟨s5, p6⟩ := In.hs (i := 5) (e := 42) (lo := (788350571 / 800000000)) (hi := (98543821423 / 100000000000)) hd (by decide) (by decide +kernel) (by decide +kernel) hu p5 (by decide +kernel) (by decide +kernel) (by decide +kernel) (by decide +kernel) (.inl (by decide +kernel))
  obtain ⟨s6, p7⟩ := In.hs (i := 6) (e := 20) (lo := (96960660783 / 100000000000)) (hi := (96960660883 / 100000000000)) hd (by decide) (by decide +kernel) (by decide +kernel) hu p6 (by decide +kernel) (by decide +kernel) (by decide +kernel) (by decide +kernel) (.inl (by decide +kernel))
  obtain ⟨s7, p8⟩ := In.hs (i := 7) (e := 6) (lo := (1800632629 / 2000000000)) (hi := (90031631781 / 100000000000)) hd (by decide) (by decide +kernel) (by decide +kernel) hu p7 (by decide +kernel) (by decide +kernel) (by decide +kernel) (by decide +kernel) (.inl (by decide +kernel))
  have hr := In.mul (lo := (35355338711 / 50000000000)) (hi := (2209708713 / 3125000000)) hz p8 (by decide +kernel) (by decide +kernel) (by decide +kernel) (.inl (by decide +kernel)) (by decide +kernel)
  exact ⟨⟨hz.1, hu.1, fun i hi => by
    have : i = 0 ∨ i = 1 ∨ i = 2 ∨ i = 3 ∨ i = 4 ∨ i = 5 ∨ i = 6 ∨ i = 7 := by omega
    rcases this with rfl | rfl | rfl | rfl | rfl | rfl | rfl | rfl
    · exact s0
    · exact s1
    · exact s2
    · exact s3
    · exact s4
    · exact s5
    · exact s6
    · exact s7, hr.1⟩, hr⟩
theorem sine_t3 {den : Nat → Nat} (hd : DenOk den) {f : Nat} (h : In f (187499999 / 1000000000) (187500001 / 1000000000)) : SineN den f ∧ In (sineF den f) (18477590493 / 20000000000) (46193977019 / 50000000000) := by
  have hz := In.mul (lo := (117809723881 / 100000000000)) (hi := (117809725139 / 100000000000)) h full_In (by decide +kernel) (by decide +kernel) (by decide +kernel) (.inl (by decide +kernel)) (by decide +kernel)
  have hz : In (sinZ f) (117809723881 / 100000000000) (117809725139 / 100000000000) := hz
  have hu := In.mul (lo := (17348913801 / 12500000000)) (hi := (69395656687 / 50000000000)) hz hz (by decide +kernel) (by decide +kernel) (by decide +kernel) (.inl (by decide +kernel)) (by decide +kernel)
  have p0 : In (hornS den (fop .mul .f64 (sinZ f) (sinZ f)) 0) 1 1 := one_In
  obtain ⟨s0, p1⟩ := In.hs (i := 0) (e := 272) (lo := (49744868909 / 50000000000)) (hi := (9948973783 / 10000000000)) hd (by decide) (by decide +kernel) (by decide +kernel) hu p0 (by decide +kernel) (by decide +kernel) (by decide +kernel) (by decide +kernel) (.inl (by decide +kernel))
  obtain ⟨s1, p2⟩ := In.hs (i := 1) (e := 210) (lo := (49671230681 / 50000000000)) (hi := (49671230689 / 50000000000)) hd (by decide) (by decide +kernel) (by decide +kernel) hu p1 (by decide +kernel) (by decide +kernel) (by decide +kernel) (by decide +kernel) (.inl (by decide +kernel))
  obtain ⟨s2, p3⟩ := In.hs (i := 2) (e := 156) (lo := (19823232427 / 20000000000)) (hi := (19823232431 / 20000000000)) hd (by decide) (by decide +kernel) (by decide +kernel) hu p2 (by decide +kernel) (by decide +kernel) (by decide +kernel) (by decide +kernel) (.inl (by decide +kernel))
  obtain ⟨s3, p4⟩ := In.hs (i := 3) (e := 110) (lo := (19749882503 / 20000000000)) (hi := (1542959571 / 1562500000)) hd (by decide) (by decide +kernel) (by decide +kernel) hu p3 (by decide +kernel) (by decide +kernel) (by decide +kernel) (by decide +kernel) (.inl (by decide +kernel))
  obtain ⟨s4, p5⟩ := In.hs (i := 4) (e := 72) (lo := (98096449907 / 100000000000)) (hi := (1961928999 / 2000000000)) hd (by decide) (by decide +kernel) (by decide +kernel) hu p4 (by decide +kernel) (by decide +kernel) (by decide +kernel) (by decide +kernel) (.inl (by decide +kernel))
  obtain ⟨s5, p6⟩ := In.hs (i := 5) (e := 42) (lo := (96758348779 / 100000000000)) (hi := (96758348851 / 100000000000)) hd (by decide) (by decide +kernel) (by decide +kernel) hu p5 (by decide +kernel) (by decide +kernel) (by decide +kernel) (by decide +kernel) (.inl (by decide +kernel))
  obtain ⟨s6, p7⟩ := In.hs (i := 6) (e := 20) (lo := (93285390841 / 100000000000)) (hi := (93285390991 / 100000000000)) hd (by decide) (by decide +kernel) (by decide +kernel) hu p6 (by decide +kernel) (by decide +kernel) (by decide +kernel) (by decide +kernel) (.inl (by decide +kernel))
  obtain ⟨s7, p8⟩ := In.hs (i := 7) (e := 6) (lo := (78421330109 / 100000000000)) (hi := (39210665303 / 50000000000)) hd (by decide) (by decide +kernel) (by decide +kernel) hu p7 (by decide +kernel) (by decide +kernel) (by decide +kernel) (by decide +kernel) (.inl (by decide +kernel))
  have hr := In.mul (lo := (18477590493 / 20000000000)) (hi := (46193977019 / 50000000000)) hz p8 (by decide +kernel) (by decide +kernel) (by decide +kernel) (.inl (by decide +kernel)) (by decide +kernel)
  exact ⟨⟨hz.1, hu.1, fun i hi => by
    have : i = 0 ∨ i = 1 ∨ i = 2 ∨ i = 3 ∨ i = 4 ∨ i = 5 ∨ i = 6 ∨ i = 7 := by omega
    rcases this with rfl | rfl | rfl | rfl | rfl | rfl | rfl | rfl
    · exact s0
    · exact s1
    · exact s2
    · exact s3
    · exact s4
    · exact s5
    · exact s6
    · exact s7, hr.1⟩, hr⟩
theorem sine_t4 {den : Nat → Nat} (hd : DenOk den) {f : Nat} (h : In f (249999999 / 1000000000) (1 / 4)) : SineN den f ∧ In (sineF den f) (6249999971 / 6250000000) (100000000463 / 100000000000) := by
  have hz := In.mul (lo := (3141592641 / 2000000000)) (hi := (3926990817 / 2500000000)) h full_In (by decide +kernel) (by decide +kernel) (by decide +kernel) (.inl (by decide +kernel)) (by decide +kernel)
  have hz : In (sinZ f) (3141592641 / 2000000000) (3926990817 / 2500000000) := hz
  have hu := In.mul (lo := (246740108049 / 100000000000)) (hi := (246740110029 / 100000000000)) hz hz (by decide +kernel) (by decide +kernel) (by decide +kernel) (.inl (by decide +kernel)) (by decide +kernel)
  have p0 : In (hornS den (fop .mul .f64 (sinZ f) (sinZ f)) 0) 1 1 := one_In
  obtain ⟨s0, p1⟩ := In.hs (i := 0) (e := 272) (lo := (49546433621 / 50000000000)) (hi := (99092867251 / 100000000000)) hd (by decide) (by decide +kernel) (by decide +kernel) hu p0 (by decide +kernel) (by decide +kernel) (by decide +kernel) (by decide +kernel) (.inl (by decide +kernel))
  obtain ⟨s1, p2⟩ := In.hs (i := 1) (e := 210) (lo := (98835705477 / 100000000000)) (hi := (6177231593 / 6250000000)) hd (by decide) (by decide +kernel) (by decide +kernel) hu p1 (by decide +kernel) (by decide +kernel) (by decide +kernel) (by decide +kernel) (.inl (by decide +kernel))
  obtain ⟨s2, p3⟩ := In.hs (i := 2) (e := 156) (lo := (49218373947 / 50000000000)) (hi := (24609186977 / 25000000000)) hd (by decide) (by decide +kernel) (by decide +kernel) hu p2 (by decide +kernel) (by decide +kernel) (by decide +kernel) (by decide +kernel) (.inl (by decide +kernel))
  obtain ⟨s3, p4⟩ := In.hs (i := 3) (e := 110) (lo := (97791973271 / 100000000000)) (hi := (97791973291 / 100000000000)) hd (by decide) (by decide +kernel) (by decide +kernel) hu p3 (by decide +kernel) (by decide +kernel) (by decide +kernel) (by decide +kernel) (.inl (by decide +kernel))
  obtain ⟨s4, p5⟩ := In.hs (i := 4) (e := 72) (lo := (96648721909 / 100000000000)) (hi := (48324360969 / 50000000000)) hd (by decide) (by decide +kernel) (by decide +kernel) hu p4 (by decide +kernel) (by decide +kernel) (by decide +kernel) (by decide +kernel) (.inl (by decide +kernel))
  obtain ⟨s5, p6⟩ := In.hs (i := 5) (e := 42) (lo := (9432211517 / 10000000000)) (hi := (47161057609 / 50000000000)) hd (by decide) (by decide +kernel) (by decide +kernel) hu p5 (by decide +kernel) (by decide +kernel) (by decide +kernel) (by decide +kernel) (.inl (by decide +kernel))
  obtain ⟨s6, p7⟩ := In.hs (i := 6) (e := 20) (lo := (172584913 / 195312500)) (hi := (22090868889 / 25000000000)) hd (by decide) (by decide +kernel) (by decide +kernel) hu p6 (by decide +kernel) (by decide +kernel) (by decide +kernel) (by decide +kernel) (.inl (by decide +kernel))
  obtain ⟨s7, p8⟩ := In.hs (i := 7) (e := 6) (lo := (63661977197 / 100000000000)) (hi := (63661977531 / 100000000000)) hd (by decide) (by decide +kernel) (by decide +kernel) hu p7 (by decide +kernel) (by decide +kernel) (by decide +kernel) (by decide +kernel) (.inl (by decide +kernel))
  have hr := In.mul (lo := (6249999971 / 6250000000)) (hi := (100000000463 / 100000000000)) hz p8 (by decide +kernel) (by decide +kernel) (by decide +kernel) (.inl (by decide +kernel)) (by decide +kernel)
  exact ⟨⟨hz.1, hu.1, fun i hi => by
    have : i = 0 ∨ i = 1 ∨ i = 2 ∨ i = 3 ∨ i = 4 ∨ i = 5 ∨ i = 6 ∨ i = 7 := by omega
    rcases this with rfl | rfl | rfl | rfl | rfl | rfl | rfl | rfl
    · exact s0
    · exact s1
    · exact s2
    · exact s3
    · exact s4
    · exact s5
    · exact s6
    · exact s7, hr.1⟩, hr⟩
theorem sine_t {den : Nat → Nat} (hd : DenOk den) {f r : Nat} (hr : r ≤ 4) (hn : isN .f64 f = true) (f0 : 0 ≤ R .f64 f) (f4 : R .f64 f ≤ 1 / 4) (h1 : ((r : Int) : Rat) / 16 - (1 / 1000000000) ≤ R .f64 f) (h2 : R .f64 f ≤ ((r : Int) : Rat) / 16 + (1 / 1000000000)) : SineN den f ∧ In (sineF den f) (sinQ r - (1 / 50000000)) (sinQ r + (1 / 50000000)) := by
  have : r = 0 ∨ r = 1 ∨ r = 2 ∨ r = 3 ∨ r = 4 := by omega
  have c : ∀ n : Nat, (((n : Nat) : Int) : Rat) = ((n : Int) : Rat) := fun _ => rfl
  rcases this with rfl | rfl | rfl | rfl | rfl
  · have e : ((((0 : Nat) : Int)) : Rat) = 0 := rfl
    rw [e] at h1 h2
    obtain ⟨a, b⟩ := sine_t0 hd (f := f) ⟨hn, by grind, by grind⟩
    exact ⟨a, b.mono (by decide +kernel) (by decide +kernel)⟩
  · have e : ((((1 : Nat) : Int)) : Rat) = 1 := rfl
    rw [e] at h1 h2
    obtain ⟨a, b⟩ := sine_t1 hd (f := f) ⟨hn, by grind, by grind⟩
    exact ⟨a, b.mono (by decide +kernel) (by decide +kernel)⟩
  · have e : ((((2 : Nat) : Int)) : Rat) = 2 := rfl
    rw [e] at h1 h2
    obtain ⟨a, b⟩ := sine_t2 hd (f := f) ⟨hn, by grind, by grind⟩
    exact ⟨a, b.mono (by decide +kernel) (by decide +kernel)⟩
  · have e : ((((3 : Nat) : Int)) : Rat) = 3 := rfl
    rw [e] at h1 h2
    obtain ⟨a, b⟩ := sine_t3 hd (f := f) ⟨hn, by grind, by grind⟩
    exact ⟨a, b.mono (by decide +kernel) (by decide +kernel)⟩
  · have e : ((((4 : Nat) : Int)) : Rat) = 4 := rfl
    rw [e] at h1 h2
    obtain ⟨a, b⟩ := sine_t4 hd (f := f) ⟨hn, by grind, by grind⟩
    exact ⟨a, b.mono (by decide +kernel) (by decide +kernel)⟩
end Go.Fl

namespace Go.Fl
open Ieee
structure AngN (t : Nat) : Prop where
  s0 : StepT t
  s1 : StepT (stepF t)
  s2 : StepT (stepF (stepF t))
  u : isN .f64 (angU (stepF (stepF (stepF t)))) = true
  st : ∀ i, i < 8 → StepA (angU (stepF (stepF (stepF t)))) i
  m : isN .f64 (fop .mul .f64 (stepF (stepF (stepF t))) (hornA (angU (stepF (stepF (stepF t)))) 8)) = true
  e : isN .f64 (fop .mul .f64 eightB (fop .mul .f64 (stepF (stepF (stepF t))) (hornA (angU (stepF (stepF (stepF t)))) 8))) = true
  g : isN .f64 (angG (stepF (stepF (stepF t)))) = true
theorem ang_0 {t : Nat} (h : In t 0 (21 / 100000)) : AngN t ∧ In (angG (stepF (stepF (stepF t)))) 0 (3342257 / 100000000000) := by
  obtain ⟨s0, h0⟩ := In.step (t := t) (s1 := 1) (s2 := (3125000069 / 3125000000)) (lo := 0) (hi := (10500001 / 100000000000)) h (by decide +kernel) (by decide +kernel) (by decide +kernel) (by decide +kernel) (.inr ⟨rfl, rfl⟩) (by decide +kernel) (by decide +kernel) (.inr (by decide +kernel)) (by decide +kernel) (by decide +kernel)
  obtain ⟨s1, h1⟩ := In.step (t := (stepF t)) (s1 := 1) (s2 := (50000000277 / 50000000000)) (lo := 0) (hi := (5250001 / 100000000000)) h0 (by decide +kernel) (by decide +kernel) (by decide +kernel) (by decide +kernel) (.inr ⟨rfl, rfl⟩) (by decide +kernel) (by decide +kernel) (.inr (by decide +kernel)) (by decide +kernel) (by decide +kernel)
  obtain ⟨s2, h2⟩ := In.step (t := (stepF (stepF t))) (s1 := 1) (s2 := (100000000141 / 100000000000)) (lo := 0) (hi := (2625001 / 100000000000)) h1 (by decide +kernel) (by decide +kernel) (by decide +kernel) (by decide +kernel) (.inr ⟨rfl, rfl⟩) (by decide +kernel) (by decide +kernel) (.inr (by decide +kernel)) (by decide +kernel) (by decide +kernel)
  have hu := In.mul (lo := 0) (hi := (7 / 10000000000)) h2 h2 (by decide +kernel) (by decide +kernel) (by decide +kernel) (.inr (by decide +kernel)) (by decide +kernel)
  have p0 : In (hornA (angU (stepF (stepF (stepF t)))) 0) 0 0 := ⟨zero64_N.1, by show 0 ≤ R .f64 0; rw [zero64_N.2]; exact Rat.le_refl, by show R .f64 0 ≤ 0; rw [zero64_N.2]; exact Rat.le_refl⟩
  obtain ⟨a0, p1⟩ := In.ha (u := angU (stepF (stepF (stepF t)))) (i := 0) (k := 15) (lo := (3333333333 / 50000000000)) (hi := (6666666667 / 100000000000)) (by decide) (by decide +kernel) (by decide +kernel) hu p0 (by decide +kernel) (by decide +kernel) (by decide +kernel) (by decide +kernel) (by decide +kernel)
  obtain ⟨a1, p2⟩ := In.ha (u := angU (stepF (stepF (stepF t)))) (i := 1) (k := 13) (lo := (7692307687 / 100000000000)) (hi := (7692307693 / 100000000000)) (by decide) (by decide +kernel) (by decide +kernel) hu p1 (by decide +kernel) (by decide +kernel) (by decide +kernel) (by decide +kernel) (by decide +kernel)
  obtain ⟨a2, p3⟩ := In.ha (u := angU (stepF (stepF (stepF t)))) (i := 2) (k := 11) (lo := (1818181817 / 20000000000)) (hi := (2272727273 / 25000000000)) (by decide) (by decide +kernel) (by decide +kernel) hu p2 (by decide +kernel) (by decide +kernel) (by decide +kernel) (by decide +kernel) (by decide +kernel)
  obtain ⟨a3, p4⟩ := In.ha (u := angU (stepF (stepF (stepF t)))) (i := 3) (k := 9) (lo := (173611111 / 1562500000)) (hi := (1388888889 / 12500000000)) (by decide) (by decide +kernel) (by decide +kernel) hu p3 (by decide +kernel) (by decide +kernel) (by decide +kernel) (by decide +kernel) (by decide +kernel)
  obtain ⟨a4, p5⟩ := In.ha (u := angU (stepF (stepF (stepF t)))) (i := 4) (k := 7) (lo := (14285714277 / 100000000000)) (hi := (7142857143 / 50000000000)) (by decide) (by decide +kernel) (by decide +kernel) hu p4 (by decide +kernel) (by decide +kernel) (by decide +kernel) (by decide +kernel) (by decide +kernel)
  obtain ⟨a5, p6⟩ := In.ha (u := angU (stepF (stepF (stepF t)))) (i := 5) (k := 5) (lo := (19999999989 / 100000000000)) (hi := (20000000001 / 100000000000)) (by decide) (by decide +kernel) (by decide +kernel) hu p5 (by decide +kernel) (by decide +kernel) (by decide +kernel) (by decide +kernel) (by decide +kernel)
  obtain ⟨a6, p7⟩ := In.ha (u := angU (stepF (stepF (stepF t)))) (i := 6) (k := 3) (lo := (33333333319 / 100000000000)) (hi := (16666666667 / 50000000000)) (by decide) (by decide +kernel) (by decide +kernel) hu p6 (by decide +kernel) (by decide +kernel) (by decide +kernel) (by decide +kernel) (by decide +kernel)
  obtain ⟨a7, p8⟩ := In.ha (u := angU (stepF (stepF (stepF t)))) (i := 7) (k := 1) (lo := (12499999997 / 12500000000)) (hi := (100000000001 / 100000000000)) (by decide) (by decide +kernel) (by decide +kernel) hu p7 (by decide +kernel) (by decide +kernel) (by decide +kernel) (by decide +kernel) (by decide +kernel)
  have hm := In.mul (lo := 0) (hi := (1312501 / 50000000000)) h2 p8 (by decide +kernel) (by decide +kernel) (by decide +kernel) (.inr (by decide +kernel)) (by decide +kernel)
  have he := In.mul (lo := 0) (hi := (21000017 / 100000000000)) eight_In hm (by decide +kernel) (by decide +kernel) (by decide +kernel) (.inr (by decide +kernel)) (by decide +kernel)
  have hg := In.div (lo := 0) (hi := (3342257 / 100000000000)) he full_In (by decide +kernel) (by decide +kernel) (by decide +kernel) (.inr (by decide +kernel)) (by decide +kernel)
  exact ⟨⟨s0, s1, s2, hu.1, fun i hi => by
    have : i = 0 ∨ i = 1 ∨ i = 2 ∨ i = 3 ∨ i = 4 ∨ i = 5 ∨ i = 6 ∨ i = 7 := by omega
    rcases this with rfl | rfl | rfl | rfl | rfl | rfl | rfl | rfl
    · exact a0
    · exact a1
    · exact a2
    · exact a3
    · exact a4
    · exact a5
    · exact a6
    · exact a7, hm.1, he.1, hg.1⟩, hg⟩
theorem ang_1 {t : Nat} (h : In t (10347339 / 25000000) (10363339 / 25000000)) : AngN t ∧ In (angG (stepF (stepF (stepF t)))) (249786813 / 4000000000) (781916261 / 12500000000) := by
  obtain ⟨s0, h0⟩ := In.step (t := t) (s1 := (108226978103 / 100000000000)) (s2 := (13531433731 / 12500000000)) (lo := (9937350269 / 50000000000)) (hi := (19907773901 / 100000000000)) h (by decide +kernel) (by decide +kernel) (by decide +kernel) (by decide +kernel) (.inl (by decide +kernel)) (by decide +kernel) (by decide +kernel) (.inl (by decide +kernel)) (by decide +kernel) (by decide +kernel)
  obtain ⟨s1, h1⟩ := In.step (t := (stepF t)) (s1 := (20391178211 / 20000000000)) (s2 := (50981171677 / 50000000000)) (lo := (9840795173 / 100000000000)) (hi := (9857486107 / 100000000000)) h0 (by decide +kernel) (by decide +kernel) (by decide +kernel) (by decide +kernel) (.inl (by decide +kernel)) (by decide +kernel) (by decide +kernel) (.inl (by decide +kernel)) (by decide +kernel) (by decide +kernel)
  obtain ⟨s2, h2⟩ := In.step (t := (stepF (stepF t))) (s1 := (12560379951 / 12500000000)) (s2 := (25121168903 / 25000000000)) (lo := (4908502429 / 100000000000)) (hi := (983373569 / 20000000000)) h1 (by decide +kernel) (by decide +kernel) (by decide +kernel) (by decide +kernel) (.inl (by decide +kernel)) (by decide +kernel) (by decide +kernel) (.inl (by decide +kernel)) (by decide +kernel) (by decide +kernel)
  have hu := In.mul (lo := (6023349 / 2500000000)) (hi := (48351179 / 20000000000)) h2 h2 (by decide +kernel) (by decide +kernel) (by decide +kernel) (.inl (by decide +kernel)) (by decide +kernel)
  have p0 : In (hornA (angU (stepF (stepF (stepF t)))) 0) 0 0 := ⟨zero64_N.1, by show 0 ≤ R .f64 0; rw [zero64_N.2]; exact Rat.le_refl, by show R .f64 0 ≤ 0; rw [zero64_N.2]; exact Rat.le_refl⟩
  obtain ⟨a0, p1⟩ := In.ha (u := angU (stepF (stepF (stepF t)))) (i := 0) (k := 15) (lo := (3333333333 / 50000000000)) (hi := (6666666667 / 100000000000)) (by decide) (by decide +kernel) (by decide +kernel) hu p0 (by decide +kernel) (by decide +kernel) (by decide +kernel) (by decide +kernel) (by decide +kernel)
  obtain ⟨a1, p2⟩ := In.ha (u := angU (stepF (stepF (stepF t)))) (i := 1) (k := 13) (lo := (959523829 / 12500000000)) (hi := (7676245429 / 100000000000)) (by decide) (by decide +kernel) (by decide +kernel) hu p1 (by decide +kernel) (by decide +kernel) (by decide +kernel) (by decide +kernel) (by decide +kernel)
  obtain ⟨a2, p3⟩ := In.ha (u := angU (stepF (stepF (stepF t)))) (i := 2) (k := 11) (lo := (4536175657 / 50000000000)) (hi := (4536207271 / 50000000000)) (by decide) (by decide +kernel) (by decide +kernel) hu p2 (by decide +kernel) (by decide +kernel) (by decide +kernel) (by decide +kernel) (by decide +kernel)
  obtain ⟨a3, p4⟩ := In.ha (u := angU (stepF (stepF (stepF t)))) (i := 3) (k := 9) (lo := (11089178013 / 100000000000)) (hi := (11089252737 / 100000000000)) (by decide) (by decide +kernel) (by decide +kernel) hu p3 (by decide +kernel) (by decide +kernel) (by decide +kernel) (by decide +kernel) (by decide +kernel)
  obtain ⟨a4, p5⟩ := In.ha (u := angU (stepF (stepF (stepF t)))) (i := 4) (k := 7) (lo := (14258905363 / 100000000000)) (hi := (14258996691 / 100000000000)) (by decide) (by decide +kernel) (by decide +kernel) hu p4 (by decide +kernel) (by decide +kernel) (by decide +kernel) (by decide +kernel) (by decide +kernel)
  obtain ⟨a5, p6⟩ := In.ha (u := angU (stepF (stepF (stepF t)))) (i := 5) (k := 5) (lo := (9982764017 / 50000000000)) (hi := (3993129091 / 20000000000)) (by decide) (by decide +kernel) (by decide +kernel) hu p5 (by decide +kernel) (by decide +kernel) (by decide +kernel) (by decide +kernel) (by decide +kernel)
  obtain ⟨a6, p7⟩ := In.ha (u := angU (stepF (stepF (stepF t)))) (i := 6) (k := 3) (lo := (4160633151 / 12500000000)) (hi := (33285229597 / 100000000000)) (by decide) (by decide +kernel) (by decide +kernel) hu p6 (by decide +kernel) (by decide +kernel) (by decide +kernel) (by decide +kernel) (by decide +kernel)
  obtain ⟨a7, p8⟩ := In.ha (u := angU (stepF (stepF (stepF t)))) (i := 7) (k := 1) (lo := (19983906199 / 20000000000)) (hi := (3996792199 / 4000000000)) (by decide) (by decide +kernel) (by decide +kernel) hu p7 (by decide +kernel) (by decide +kernel) (by decide +kernel) (by decide +kernel) (by decide +kernel)
  have hm := In.mul (lo := (980910521 / 20000000000)) (hi := (2456462381 / 50000000000)) h2 p8 (by decide +kernel) (by decide +kernel) (by decide +kernel) (.inl (by decide +kernel)) (by decide +kernel)
  have he := In.mul (lo := (39236420839 / 100000000000)) (hi := (39303398097 / 100000000000)) eight_In hm (by decide +kernel) (by decide +kernel) (by decide +kernel) (.inl (by decide +kernel)) (by decide +kernel)
  have hg := In.div (lo := (249786813 / 4000000000)) (hi := (781916261 / 12500000000)) he full_In (by decide +kernel) (by decide +kernel) (by decide +kernel) (.inl (by decide +kernel)) (by decide +kernel)
  exact ⟨⟨s0, s1, s2, hu.1, fun i hi => by
    have : i = 0 ∨ i = 1 ∨ i = 2 ∨ i = 3 ∨ i = 4 ∨ i = 5 ∨ i = 6 ∨ i = 7 := by omega
    rcases this with rfl | rfl | rfl | rfl | rfl | rfl | rfl | rfl
    · exact a0
    · exact a1
    · exact a2
    · exact a3
    · exact a4
    · exact a5
    · exact a6
    · exact a7, hm.1, he.1, hg.1⟩, hg⟩
theorem ang_2 {t : Nat} (h : In t (49971 / 50000) 1) : AngN t ∧ In (angG (stepF (stepF (stepF t)))) (12492518607 / 100000000000) (12502866033 / 100000000000) := by
  obtain ⟨s0, h0⟩ := In.step (t := t) (s1 := (141380349989 / 100000000000)) (s2 := (1767766953 / 1250000000)) (lo := (827946637 / 2000000000)) (hi := (41428392993 / 100000000000)) h (by decide +kernel) (by decide +kernel) (by decide +kernel) (by decide +kernel) (.inl (by decide +kernel)) (by decide +kernel) (by decide +kernel) (.inl (by decide +kernel)) (by decide +kernel) (by decide +kernel)
  obtain ⟨s1, h1⟩ := In.step (t := (stepF t)) (s1 := (54115014283 / 50000000000)) (s2 := (108241913077 / 100000000000)) (lo := (19879442729 / 100000000000)) (hi := (9947747037 / 50000000000)) h0 (by decide +kernel) (by decide +kernel) (by decide +kernel) (by decide +kernel) (.inl (by decide +kernel)) (by decide +kernel) (by decide +kernel) (.inl (by decide +kernel)) (by decide +kernel) (by decide +kernel)
  obtain ⟨s2, h2⟩ := In.step (t := (stepF (stepF t))) (s1 := (12744601947 / 12500000000)) (s2 := (50979973237 / 50000000000)) (lo := (196865201 / 2000000000)) (hi := (9851360559 / 100000000000)) h1 (by decide +kernel) (by decide +kernel) (by decide +kernel) (by decide +kernel) (.inl (by decide +kernel)) (by decide +kernel) (by decide +kernel) (.inl (by decide +kernel)) (by decide +kernel) (by decide +kernel)
  have hu := In.mul (lo := (968897683 / 100000000000)) (hi := (970493049 / 100000000000)) h2 h2 (by decide +kernel) (by decide +kernel) (by decide +kernel) (.inl (by decide +kernel)) (by decide +kernel)
  have p0 : In (hornA (angU (stepF (stepF (stepF t)))) 0) 0 0 := ⟨zero64_N.1, by show 0 ≤ R .f64 0; rw [zero64_N.2]; exact Rat.le_refl, by show R .f64 0 ≤ 0; rw [zero64_N.2]; exact Rat.le_refl⟩
  obtain ⟨a0, p1⟩ := In.ha (u := angU (stepF (stepF (stepF t)))) (i := 0) (k := 15) (lo := (3333333333 / 50000000000)) (hi := (6666666667 / 100000000000)) (by decide) (by decide +kernel) (by decide +kernel) hu p0 (by decide +kernel) (by decide +kernel) (by decide +kernel) (by decide +kernel) (by decide +kernel)
  obtain ⟨a1, p2⟩ := In.ha (u := angU (stepF (stepF (stepF t)))) (i := 1) (k := 13) (lo := (1525521631 / 20000000000)) (hi := (3813857257 / 50000000000)) (by decide) (by decide +kernel) (by decide +kernel) hu p1 (by decide +kernel) (by decide +kernel) (by decide +kernel) (by decide +kernel) (by decide +kernel)
  obtain ⟨a2, p3⟩ := In.ha (u := angU (stepF (stepF (stepF t)))) (i := 2) (k := 11) (lo := (9016882651 / 100000000000)) (hi := (9017005373 / 100000000000)) (by decide) (by decide +kernel) (by decide +kernel) hu p2 (by decide +kernel) (by decide +kernel) (by decide +kernel) (by decide +kernel) (by decide +kernel)
  obtain ⟨a3, p4⟩ := In.ha (u := angU (stepF (stepF (stepF t)))) (i := 3) (k := 9) (lo := (110236017 / 1000000000)) (hi := (2204749349 / 20000000000)) (by decide) (by decide +kernel) (by decide +kernel) hu p3 (by decide +kernel) (by decide +kernel) (by decide +kernel) (by decide +kernel) (by decide +kernel)
  obtain ⟨a4, p5⟩ := In.ha (u := angU (stepF (stepF (stepF t)))) (i := 4) (k := 7) (lo := (14178729589 / 100000000000)) (hi := (2835781373 / 20000000000)) (by decide) (by decide +kernel) (by decide +kernel) hu p4 (by decide +kernel) (by decide +kernel) (by decide +kernel) (by decide +kernel) (by decide +kernel)
  obtain ⟨a5, p6⟩ := In.ha (u := angU (stepF (stepF (stepF t)))) (i := 5) (k := 5) (lo := (9931197347 / 50000000000)) (hi := (9931311309 / 50000000000)) (by decide) (by decide +kernel) (by decide +kernel) hu p5 (by decide +kernel) (by decide +kernel) (by decide +kernel) (by decide +kernel) (by decide +kernel)
  obtain ⟨a6, p7⟩ := In.ha (u := angU (stepF (stepF (stepF t)))) (i := 6) (k := 3) (lo := (33140567961 / 100000000000)) (hi := (8285221763 / 25000000000)) (by decide) (by decide +kernel) (by decide +kernel) hu p6 (by decide +kernel) (by decide +kernel) (by decide +kernel) (by decide +kernel) (by decide +kernel)
  obtain ⟨a7, p8⟩ := In.ha (u := angU (stepF (stepF (stepF t)))) (i := 7) (k := 1) (lo := (49839184997 / 50000000000)) (hi := (49839450903 / 50000000000)) (by decide) (by decide +kernel) (by decide +kernel) hu p7 (by decide +kernel) (by decide +kernel) (by decide +kernel) (by decide +kernel) (by decide +kernel)
  have hm := In.mul (lo := (9811601171 / 100000000000)) (hi := (9819728019 / 100000000000)) h2 p8 (by decide +kernel) (by decide +kernel) (by decide +kernel) (.inl (by decide +kernel)) (by decide +kernel)
  have he := In.mul (lo := (78492809367 / 100000000000)) (hi := (78557824153 / 100000000000)) eight_In hm (by decide +kernel) (by decide +kernel) (by decide +kernel) (.inl (by decide +kernel)) (by decide +kernel)
  have hg := In.div (lo := (12492518607 / 100000000000)) (hi := (12502866033 / 100000000000)) he full_In (by decide +kernel) (by decide +kernel) (by decide +kernel) (.inl (by decide +kernel)) (by decide +kernel)
  exact ⟨⟨s0, s1, s2, hu.1, fun i hi => by
    have : i = 0 ∨ i = 1 ∨ i = 2 ∨ i = 3 ∨ i = 4 ∨ i = 5 ∨ i = 6 ∨ i = 7 := by omega
    rcases this with rfl | rfl | rfl | rfl | rfl | rfl | rfl | rfl
    · exact a0
    · exact a1
    · exact a2
    · exact a3
    · exact a4
    · exact a5
    · exact a6
    · exact a7, hm.1, he.1, hg.1⟩, hg⟩
end Go.Fl

namespace Go.Fl
open Ieee
theorem neg_sign (K : FloatKind) (b : Nat) : (Op.negFloat K b / K.format.signWeight % 2 == 1) = !(b / K.format.signWeight % 2 == 1) := by
  show ((b ^^^ 2 ^ (K.format.exponentBits + K.format.fractionBits)) / 2 ^ (K.format.exponentBits + K.format.fractionBits) % 2 == 1) = !(b / 2 ^ (K.format.exponentBits + K.format.fractionBits) % 2 == 1)
  have h : ∀ x i : Nat, (x / 2 ^ i % 2 == 1) = x.testBit i := fun x i => by
    rw [Nat.testBit_eq_decide_div_mod_eq]; rfl
  rw [h, h, Nat.testBit_xor, Nat.testBit_two_pow_self, Bool.xor_true]
theorem read_neg (K : FloatKind) (b : Nat) {s : Bool} {m : Nat} {e : Int} (h : K.format.read b = .number s m e) : K.format.read (Op.negFloat K b) = .number (!s) m e := by
  unfold Ieee.Format.read at h ⊢
  simp only [neg_mod, neg_sign]
  simp only at h
  split at h
  · rename_i h1
    rw [if_pos h1]
    injection h with a1 a2 a3
    rw [a1, a2, a3]
  · rename_i h1
    rw [if_neg h1]
    split at h
    · rename_i h2
      rw [if_pos h2]
      injection h with a1 a2 a3
      rw [a1, a2, a3]
    · split at h <;> cases h
theorem V_of_read {K : FloatKind} {x : Nat} {s : Bool} {m : Nat} {i : Int} (h : K.format.read x = .number s m i) : isN K x = true ∧ V K x = signed s m (i + LP K).toNat := by
  unfold isN V; rw [h]; exact ⟨rfl, rfl⟩
theorem neg_R {K : FloatKind} {x : Nat} (h : isN K x = true) : isN K (Op.negFloat K x) = true ∧ R K (Op.negFloat K x) = -R K x := by
  obtain ⟨s, m, i, hr, _, hv⟩ := isN_read h
  obtain ⟨a, b⟩ := V_of_read (read_neg K x hr)
  refine ⟨a, ?_⟩
  unfold R
  rw [b, hv, signed_not, Rat.intCast_neg]
  grind
def absB (b : Nat) : Nat := b % 9223372036854775808
theorem abs_R {x : Nat} (h : isN .f64 x = true) : isN .f64 (absB x) = true ∧ R .f64 (absB x) = if R .f64 x < 0 then -R .f64 x else R .f64 x := by
  obtain ⟨s, m, i, hr, _, hv⟩ := isN_read h
  have sw : FloatKind.f64.format.signWeight = 9223372036854775808 := by decide
  have hr2 : FloatKind.f64.format.read (absB x) = .number false m i := by
    unfold Format.read at hr ⊢
    have e1 : absB x % FloatKind.f64.format.signWeight = x % FloatKind.f64.format.signWeight := by unfold absB; rw [sw, Nat.mod_mod]
    have e2 : (absB x / FloatKind.f64.format.signWeight % 2 == 1) = false := by
      unfold absB; rw [sw, Nat.div_eq_of_lt (Nat.mod_lt _ (by decide))]; rfl
    simp only [e1, e2] at hr ⊢
    split at hr
    · rename_i c; rw [if_pos c]; cases hr; rfl
    · rename_i c; rw [if_neg c]
      split at hr
      · rename_i c2; rw [if_pos c2]; cases hr; rfl
      · split at hr <;> cases hr
  obtain ⟨a, b⟩ := V_of_read hr2
  refine ⟨a, ?_⟩
  have hneg : R .f64 x < 0 ↔ V .f64 x < 0 := R_neg_iff
  have hp : (0 : Int) ≤ ((m * 2 ^ (i + LP .f64).toNat : Nat) : Int) := Int.natCast_nonneg _
  obtain ⟨W, hW⟩ : ∃ W, W = m * 2 ^ (i + LP .f64).toNat := ⟨_, rfl⟩
  have hb : V .f64 (absB x) = (W : Int) := by rw [b, signed_mul, ← hW]; simp
  have hv2 : V .f64 x = if s then -(W : Int) else W := by rw [hv, signed_mul, ← hW]; cases s <;> simp
  by_cases c : R .f64 x < 0
  · rw [if_pos c]
    rw [hneg, hv2] at c
    cases s
    · simp at c; omega
    · unfold R; rw [hb, hv2]; simp; grind
  · rw [if_neg c]
    rw [hneg, hv2] at c
    cases s
    · unfold R; rw [hb, hv2]; simp
    · simp at c
      have : W = 0 := by omega
      unfold R; rw [hb, hv2, this]; simp
/-- cut towards zero -/
theorem trunc_R {x : Nat} (h : isN .f64 x = true) (h1 : -1000 ≤ R .f64 x) (h2 : R .f64 x ≤ 1000) : ∃ n : Int, floatToIntVal .f64 x .i64 = some n ∧ -1000 ≤ n ∧ n ≤ 1000 ∧ (0 ≤ R .f64 x → (n : Rat) ≤ R .f64 x ∧ R .f64 x < (n : Rat) + 1) ∧ (R .f64 x ≤ 0 → (n : Rat) - 1 < R .f64 x ∧ R .f64 x ≤ (n : Rat)) := by
  obtain ⟨s, m, i, hr, hi, hv⟩ := isN_read h
  obtain ⟨W, hW⟩ : ∃ W, W = Toward.zero.cut s (m <<< i.toNat) (-i).toNat := ⟨_, rfl⟩
  have hti : (FloatKind.f64.decode x).toInt .zero = some (signed s W 0) := by
    have hd : FloatKind.f64.decode x = .number s m i := hr
    rw [hd, hW]; rfl
  -- the whole part, between
  obtain ⟨d, hd⟩ : ∃ d, d = (-i).toNat := ⟨_, rfl⟩
  obtain ⟨a, ha⟩ : ∃ a, a = i.toNat := ⟨_, rfl⟩
  have hWb : W * 2 ^ d ≤ m * 2 ^ a ∧ m * 2 ^ a < (W + 1) * 2 ^ d := by
    rw [hW, ← hd, ← ha, Nat.shiftLeft_eq]
    unfold Toward.cut
    simp only [Bool.toNat_false, Nat.add_zero, Nat.shiftLeft_eq, Nat.one_mul]
    obtain ⟨M, hM⟩ : ∃ M, M = m * 2 ^ a := ⟨_, rfl⟩
    rw [← hM]
    have hl : M < 2 ^ (M.log2 + 1) := Nat.lt_log2_self
    rcases Nat.le_total d (M.log2 + 2) with c | c
    · rw [Nat.min_eq_left c]
      exact ⟨Nat.div_mul_le_self _ _, Nat.lt_mul_of_div_lt (Nat.lt_succ_self _) (Nat.two_pow_pos _)⟩
    · rw [Nat.min_eq_right c]
      have h2 : M < 2 ^ (M.log2 + 2) := Nat.lt_of_lt_of_le hl (Nat.pow_le_pow_right (by decide) (by omega))
      rw [Nat.div_eq_of_lt h2]
      have h3 : (2 : Nat) ^ (M.log2 + 2) ≤ 2 ^ d := Nat.pow_le_pow_right (by decide) c
      omega
  -- the value
  have hL : (i + LP .f64).toNat + d = LP .f64 + a := by
    have : (LP .f64 : Int) = 1074 := rfl
    have : LP .f64 = 1074 := rfl
    omega
  have hval : (V .f64 x) * (2 ^ d : Nat) = (if s then -1 else 1) * ((m * 2 ^ a : Nat) : Int) * ((2 ^ LP .f64 : Nat) : Int) := by
    rw [hv, signed_mul, Int.mul_assoc, ← Int.natCast_mul, Nat.mul_assoc, ← Nat.pow_add, hL, Int.mul_assoc, ← Int.natCast_mul, Nat.mul_assoc, ← Nat.pow_add, Nat.add_comm a]
  have hu := uR_pos .f64
  have hdp : (0 : Rat) < (((2 ^ d : Nat) : Int) : Rat) := cast_pos (Nat.two_pow_pos _)
  have hR : R .f64 x * (((2 ^ d : Nat) : Int) : Rat) = (if s then -1 else 1) * (((m * 2 ^ a : Nat) : Int) : Rat) := by
    have h3 : ((V .f64 x * ((2 ^ d : Nat) : Int) : Int) : Rat) = (((if s then -1 else 1) * ((m * 2 ^ a : Nat) : Int) * ((2 ^ LP .f64 : Nat) : Int) : Int) : Rat) := by rw [hval]
    rw [Rat.intCast_mul, Rat.intCast_mul, Rat.intCast_mul, ← R_mul] at h3
    have h4 : R .f64 x * uR .f64 * (((2 ^ d : Nat) : Int) : Rat) = ((if s then -1 else 1 : Int) : Rat) * (((m * 2 ^ a : Nat) : Int) : Rat) * uR .f64 := h3
    have h5 : ((if s then -1 else 1 : Int) : Rat) = (if s then -1 else 1 : Rat) := by cases s <;> rfl
    rw [h5] at h4
    have h6 : R .f64 x * (((2 ^ d : Nat) : Int) : Rat) * uR .f64 = (if s then -1 else 1 : Rat) * (((m * 2 ^ a : Nat) : Int) : Rat) * uR .f64 := by rw [← h4]; grind
    exact Rat.le_antisymm ((le_mulR hu).1 (by rw [h6]; exact Rat.le_refl)) ((le_mulR hu).1 (by rw [h6]; exact Rat.le_refl))
  obtain ⟨M, hM⟩ : ∃ M, M = m * 2 ^ a := ⟨_, rfl⟩
  obtain ⟨P, hP⟩ : ∃ P : Nat, P = 2 ^ d := ⟨_, rfl⟩
  rw [← hM, ← hP] at hWb
  rw [← hP] at hdp
  rw [← hM, ← hP] at hR
  have w1 : ((W : Int) : Rat) * ((P : Int) : Rat) ≤ ((M : Int) : Rat) := by
    have : ((W * P : Nat) : Int) ≤ (M : Int) := Int.ofNat_le.2 hWb.1
    have := Rat.intCast_le_intCast.2 this
    rwa [Int.natCast_mul, Rat.intCast_mul] at this
  have w2 : ((M : Int) : Rat) < (((W : Int) : Rat) + 1) * ((P : Int) : Rat) := by
    have h3 : ¬ (((W + 1) * P : Nat) : Int) ≤ (M : Int) := by have := hWb.2; omega
    have h4 := mt Rat.intCast_le_intCast.1 h3
    rw [Int.natCast_mul, Rat.intCast_mul, Int.natCast_add, Rat.intCast_add] at h4
    exact Rat.not_le.1 h4
  have M0 : (0 : Rat) ≤ ((M : Int) : Rat) := Rat.intCast_nonneg.2 (Int.natCast_nonneg _)
  have W0 : (0 : Rat) ≤ ((W : Int) : Rat) := Rat.intCast_nonneg.2 (Int.natCast_nonneg _)
  have hn : ((signed s W 0 : Int) : Rat) = (if s then -1 else 1) * ((W : Int) : Rat) := by
    rw [signed_mul, Nat.pow_zero, Nat.mul_one, Rat.intCast_mul]
    cases s <;> rfl
  obtain ⟨X, hX⟩ : ∃ X, X = R .f64 x := ⟨_, rfl⟩
  rw [← hX] at hR h1 h2 ⊢
  have key : (0 ≤ X → ((signed s W 0 : Int) : Rat) ≤ X ∧ X < ((signed s W 0 : Int) : Rat) + 1) ∧ (X ≤ 0 → ((signed s W 0 : Int) : Rat) - 1 < X ∧ X ≤ ((signed s W 0 : Int) : Rat)) := by
    rw [hn]
    cases s
    · simp only [Bool.false_eq_true, if_false] at hR ⊢
      have x0 : 0 ≤ X := by
        refine Rat.not_lt.1 fun k => ?_
        have := Rat.mul_pos (a := -X) (b := ((P : Int) : Rat)) (by grind) hdp
        grind
      have a1 : ((W : Int) : Rat) ≤ X := by
        refine Rat.not_lt.1 fun k => ?_
        have := Rat.mul_pos (a := ((W : Int) : Rat) - X) (b := ((P : Int) : Rat)) (by grind) hdp
        grind
      have a2 : X < ((W : Int) : Rat) + 1 := by
        refine Rat.not_le.1 fun k => ?_
        have := Rat.mul_nonneg (a := X - (((W : Int) : Rat) + 1)) (b := ((P : Int) : Rat)) (by grind) (Rat.le_of_lt hdp)
        grind
      exact ⟨fun _ => ⟨by grind, by grind⟩, fun _ => ⟨by grind, by grind⟩⟩
    · simp only [if_true] at hR ⊢
      have x0 : X ≤ 0 := by
        refine Rat.not_lt.1 fun k => ?_
        have := Rat.mul_pos (a := X) (b := ((P : Int) : Rat)) (by grind) hdp
        grind
      have a1 : ((W : Int) : Rat) ≤ -X := by
        refine Rat.not_lt.1 fun k => ?_
        have := Rat.mul_pos (a := ((W : Int) : Rat) + X) (b := ((P : Int) : Rat)) (by grind) hdp
        grind
      have a2 : -X < ((W : Int) : Rat) + 1 := by
        refine Rat.not_le.1 fun k => ?_
        have := Rat.mul_nonneg (a := -X - (((W : Int) : Rat) + 1)) (b := ((P : Int) : Rat)) (by grind) (Rat.le_of_lt hdp)
        grind
      exact ⟨fun _ => ⟨by grind, by grind⟩, fun _ => ⟨by grind, by grind⟩⟩
  have b1 : -1000 ≤ signed s W 0 ∧ signed s W 0 ≤ 1000 := by
    have q1 : ¬ ((signed s W 0 : Int) : Rat) < ((-1000 : Int) : Rat) := fun k => by
      have e : ((-1000 : Int) : Rat) = -1000 := rfl
      rw [e] at k
      rcases Rat.le_total (a := 0) (b := X) with c | c
      · have := key.1 c; grind
      · have := key.2 c; grind
    have q2 : ¬ ((1000 : Int) : Rat) < ((signed s W 0 : Int) : Rat) := fun k => by
      have e : ((1000 : Int) : Rat) = 1000 := rfl
      rw [e] at k
      rcases Rat.le_total (a := 0) (b := X) with c | c
      · have := key.1 c; grind
      · have := key.2 c; grind
    exact ⟨Rat.intCast_le_intCast.1 (Rat.not_lt.1 q1), Rat.intCast_le_intCast.1 (Rat.not_lt.1 q2)⟩
  refine ⟨signed s W 0, ?_, b1.1, b1.2, key.1, key.2⟩
  unfold floatToIntVal
  rw [hti]
  have m1 : (IntKind.i64.min ≤ signed s W 0 ∧ signed s W 0 ≤ IntKind.i64.max) := by
    have e1 : IntKind.i64.min = -9223372036854775808 := by decide
    have e2 : IntKind.i64.max = 9223372036854775807 := by decide
    rw [e1, e2]; omega
  simp only [m1, and_self, if_true]
end Go.Fl

namespace Go.Fl
open Ieee
def qJ (k : Nat) : Rat := ((k : Int) : Rat)
theorem qJ_succ (k : Nat) : qJ (k + 1) = qJ k + 1 := by unfold qJ; rw [Int.natCast_add, Rat.intCast_add]; rfl
theorem qJ_nn (k : Nat) : 0 ≤ qJ k := Rat.intCast_nonneg.2 (Int.natCast_nonneg _)
theorem qJ_le {k m : Nat} (h : k ≤ m) : qJ k ≤ qJ m := Rat.intCast_le_intCast.2 (by omega)
theorem qJ_lt {k m : Nat} (h : qJ k < qJ m) : k < m := by
  have := mt (qJ_le (k := m) (m := k)) (Rat.not_le.2 h)
  omega
theorem qJ_add (k m : Nat) : qJ (k + m) = qJ k + qJ m := by unfold qJ; rw [Int.natCast_add, Rat.intCast_add]
theorem int_two {N : Int} (h1 : -1 < (N : Rat)) (h2 : (N : Rat) < 2) : N = 0 ∨ N = 1 := by
  have e1 : ((-1 : Int) : Rat) = -1 := rfl
  have e2 : ((2 : Int) : Rat) = 2 := rfl
  rw [← e1] at h1
  rw [← e2] at h2
  have a := mt (Rat.intCast_le_intCast (a := N) (b := -1)).2 (Rat.not_le.2 h1)
  have b := mt (Rat.intCast_le_intCast (a := 2) (b := N)).2 (Rat.not_le.2 h2)
  omega
def fracN (x : Nat) : Int := (floatToIntVal .f64 x .i64).getD 0
def frac0 (x : Nat) : Nat := fop .sub .f64 x (floatOfInt .f64 (fracN x))
def fracF (x : Nat) : Nat := if R .f64 (frac0 x) < 0 then fop .add .f64 (frac0 x) oneB else frac0 x
structure FracN (x : Nat) : Prop where
  n : floatToIntVal .f64 x .i64 = some (fracN x)
  s : isN .f64 (frac0 x) = true
  a : R .f64 (frac0 x) < 0 → isN .f64 (fop .add .f64 (frac0 x) oneB) = true
  f : isN .f64 (fracF x) = true
theorem frac_any {x : Nat} (hx : isN .f64 x = true) (h1 : -900 ≤ R .f64 x) (h2 : R .f64 x ≤ 900) : FracN x ∧ 0 ≤ R .f64 (fracF x) ∧ R .f64 (fracF x) ≤ 1 ∧ ∃ N : Int, -(1 / 1000000000000) ≤ R .f64 (fracF x) - (R .f64 x + (N : Rat)) ∧ R .f64 (fracF x) - (R .f64 x + (N : Rat)) ≤ 1 / 1000000000000 := by
  obtain ⟨n, hn, n1, n2, p1, p2⟩ := trunc_R hx (by grind) (by grind)
  have hf : fracN x = n := by unfold fracN; rw [hn]; rfl
  have hq := Q.ofInt .f64 n (by have : (2 : Nat) ^ (FB .f64 + 1) = 9007199254740992 := by decide
                                rw [this]; omega)
  have hqR : R .f64 (floatOfInt .f64 n) = (n : Rat) := by rw [hq.R]; show (n : Rat) / 1 = _; grind
  have bnd : -1 < R .f64 x - (n : Rat) ∧ R .f64 x - (n : Rat) < 1 := by
    rcases Rat.le_total (a := 0) (b := R .f64 x) with c | c
    · have := p1 c; constructor <;> grind
    · have := p2 c; constructor <;> grind
  clear p1 p2
  have r1 := rnd_sub hx hq.num (by rw [hqR]; grind) (by rw [hqR]; grind)
  rw [hqR] at r1
  have e0 : frac0 x = fop .sub .f64 x (floatOfInt .f64 n) := by unfold frac0; rw [hf]
  rw [← e0] at r1
  have z := zero64_N
  obtain ⟨o0, o1, o2⟩ := one_In
  have f1 := r1.n64 0 (by decide) (B := 1) rfl (by grind) (by grind)
  have u1 := r1.le oneB o0 (by grind)
  obtain ⟨mo, mR⟩ := neg_R o0
  have v1 := r1.ge (Op.negFloat .f64 oneB) mo (by rw [mR]; grind)
  rw [mR] at v1
  by_cases c : R .f64 (frac0 x) < 0
  · have r2 := rnd_add r1.num o0 (by grind) (by grind)
    have f2 := r2.n64 1 (by decide) (B := 2) rfl (by grind) (by grind)
    have z2 := r2.nn64 (by grind)
    have u2 := r2.le oneB o0 (by grind)
    have e1 : fracF x = fop .add .f64 (frac0 x) oneB := by unfold fracF; rw [if_pos c]
    refine ⟨⟨by rw [hf]; exact hn, r1.num, fun _ => r2.num, by rw [e1]; exact r2.num⟩, by rw [e1]; exact z2, by rw [e1]; grind, -n + 1, ?_, ?_⟩
    · rw [e1, Rat.intCast_add, Rat.intCast_neg, show ((1 : Int) : Rat) = 1 from rfl]; grind
    · rw [e1, Rat.intCast_add, Rat.intCast_neg, show ((1 : Int) : Rat) = 1 from rfl]; grind
  · have e1 : fracF x = frac0 x := by unfold fracF; rw [if_neg c]
    refine ⟨⟨by rw [hf]; exact hn, r1.num, fun h => absurd h c, by rw [e1]; exact r1.num⟩, by rw [e1]; grind, by rw [e1]; grind, -n, ?_, ?_⟩
    · rw [e1, Rat.intCast_neg]; grind
    · rw [e1, Rat.intCast_neg]; grind
/-- a number from 0 to 1/4 is its own fraction -/
theorem frac_low {x : Nat} (hx : isN .f64 x = true) (h1 : 0 ≤ R .f64 x) (h2 : R .f64 x ≤ 1 / 4) : FracN x ∧ R .f64 (fracF x) = R .f64 x := by
  obtain ⟨hN, f0, f1, _⟩ := frac_any hx (by grind) (by grind)
  refine ⟨hN, ?_⟩
  obtain ⟨n, hn, n1, n2, p1, _⟩ := trunc_R hx (by grind) (by grind)
  have hf : fracN x = n := by unfold fracN; rw [hn]; rfl
  have q := p1 h1
  have hn0 : n = 0 := by
    have h3 : -1 < (n : Rat) := by grind
    have h4 : (n : Rat) < 2 := by grind
    rcases int_two h3 h4 with h | h
    · exact h
    · exfalso; rw [h] at q
      have : ((1 : Int) : Rat) = 1 := rfl
      rw [this] at q; grind
  have hq := Q.ofInt .f64 0 (by decide)
  have hqR : R .f64 (floatOfInt .f64 0) = 0 := by rw [hq.R]; show ((0 : Int) : Rat) / 1 = _; decide +kernel
  have r1 := rnd_sub hx hq.num (by rw [hqR]; grind) (by rw [hqR]; grind)
  rw [hqR] at r1
  have e0 : frac0 x = fop .sub .f64 x (floatOfInt .f64 0) := by unfold frac0; rw [hf, hn0]
  rw [← e0] at r1
  have l := r1.le x hx (by grind)
  have g := r1.ge x hx (by grind)
  have c : ¬ R .f64 (frac0 x) < 0 := by grind
  have e1 : fracF x = frac0 x := by unfold fracF; rw [if_neg c]
  rw [e1]; grind
def quadF (f : Nat) : Nat → Nat
  | 0 => f
  | i + 1 => fop .sub .f64 (quadF f i) quarB
def qOf (f : Nat) : Nat := if R .f64 (quadF f 0) < 1 / 4 then 0 else if R .f64 (quadF f 1) < 1 / 4 then 1 else if R .f64 (quadF f 2) < 1 / 4 then 2 else if R .f64 (quadF f 3) < 1 / 4 then 3 else 4
theorem quar_R : R .f64 quarB = 1 / 4 := by have := quar_In; exact Rat.le_antisymm this.2.2 this.2.1
structure QuadN (f : Nat) : Prop where
  n : ∀ i, i ≤ qOf f → isN .f64 (quadF f i) = true
  ge : ∀ i, i < qOf f → ¬ R .f64 (quadF f i) < 1 / 4
  lt : R .f64 (quadF f (qOf f)) < 1 / 4
  le4 : qOf f ≤ 4
theorem quad_near {f : Nat} (hf : isN .f64 f = true) (h0 : 0 ≤ R .f64 f) (h1 : R .f64 f ≤ 1) : QuadN f ∧ 0 ≤ R .f64 (quadF f (qOf f)) ∧ -(1 / 1000000000000) ≤ R .f64 (quadF f (qOf f)) - (R .f64 f - qJ (qOf f) / 4) ∧ R .f64 (quadF f (qOf f)) - (R .f64 f - qJ (qOf f) / 4) ≤ 1 / 1000000000000 := by
  obtain ⟨b0, _, _⟩ := quar_In
  have bR := quar_R
  -- one step
  have st : ∀ i e, isN .f64 (quadF f i) = true → 0 ≤ e → e ≤ 1 / 10000000 → -e ≤ R .f64 (quadF f i) - (R .f64 f - qJ i / 4) → R .f64 (quadF f i) - (R .f64 f - qJ i / 4) ≤ e → ¬ R .f64 (quadF f i) < 1 / 4 →
      isN .f64 (quadF f (i + 1)) = true ∧ 0 ≤ R .f64 (quadF f (i + 1)) ∧ -(e + 1 / 10000000000000) ≤ R .f64 (quadF f (i + 1)) - (R .f64 f - qJ (i + 1) / 4) ∧ R .f64 (quadF f (i + 1)) - (R .f64 f - qJ (i + 1) / 4) ≤ e + 1 / 10000000000000 := by
    intro i e hn e0 e1 l u hge
    have i0 := qJ_nn i
    have r := rnd_sub hn b0 (by rw [bR]; grind) (by rw [bR]; grind)
    rw [bR] at r
    have g := r.n64 1 (by decide) (B := 2) rfl (by grind) (by grind)
    have z := r.nn64 (by grind)
    rw [qJ_succ]
    exact ⟨r.num, z, by show _ ≤ R .f64 (fop .sub .f64 _ _) - _; grind, by show R .f64 (fop .sub .f64 _ _) - _ ≤ _; grind⟩
  have e0 : qJ 0 = 0 := rfl
  have e1 : qJ 1 = 1 := rfl
  have e2 : qJ 2 = 2 := rfl
  have e3 : qJ 3 = 3 := rfl
  have e4 : qJ 4 = 4 := rfl
  have a0 : R .f64 (quadF f 0) = R .f64 f := rfl
  have n0 : isN .f64 (quadF f 0) = true := hf
  by_cases c0 : R .f64 (quadF f 0) < 1 / 4
  · have hq : qOf f = 0 := by unfold qOf; rw [if_pos c0]
    rw [hq]
    exact ⟨⟨fun i hi => by rw [hq] at hi; have : i = 0 := by omega
                           subst this; exact n0, fun i hi => by rw [hq] at hi; omega, by rw [hq]; exact c0, by rw [hq]; decide⟩, h0, by rw [e0]; grind, by rw [e0]; grind⟩
  obtain ⟨n1, z1, l1, u1⟩ := st 0 0 n0 (by grind) (by grind) (by rw [e0]; grind) (by rw [e0]; grind) c0
  by_cases c1 : R .f64 (quadF f 1) < 1 / 4
  · have hq : qOf f = 1 := by unfold qOf; rw [if_neg c0, if_pos c1]
    rw [hq]
    exact ⟨⟨fun i hi => by rw [hq] at hi; have : i = 0 ∨ i = 1 := by omega
                           rcases this with rfl | rfl
                           · exact n0
                           · exact n1, fun i hi => by rw [hq] at hi; have : i = 0 := by omega
                                                      subst this; exact c0, by rw [hq]; exact c1, by rw [hq]; decide⟩, z1, by grind, by grind⟩
  obtain ⟨n2, z2, l2, u2⟩ := st 1 _ n1 (by grind) (by grind) l1 u1 c1
  by_cases c2 : R .f64 (quadF f 2) < 1 / 4
  · have hq : qOf f = 2 := by unfold qOf; rw [if_neg c0, if_neg c1, if_pos c2]
    rw [hq]
    exact ⟨⟨fun i hi => by rw [hq] at hi; have : i = 0 ∨ i = 1 ∨ i = 2 := by omega
                           rcases this with rfl | rfl | rfl
                           · exact n0
                           · exact n1
                           · exact n2, fun i hi => by rw [hq] at hi; have : i = 0 ∨ i = 1 := by omega
                                                      rcases this with rfl | rfl
                                                      · exact c0
                                                      · exact c1, by rw [hq]; exact c2, by rw [hq]; decide⟩, z2, by grind, by grind⟩
  obtain ⟨n3, z3, l3, u3⟩ := st 2 _ n2 (by grind) (by grind) l2 u2 c2
  by_cases c3 : R .f64 (quadF f 3) < 1 / 4
  · have hq : qOf f = 3 := by unfold qOf; rw [if_neg c0, if_neg c1, if_neg c2, if_pos c3]
    rw [hq]
    exact ⟨⟨fun i hi => by rw [hq] at hi; have : i = 0 ∨ i = 1 ∨ i = 2 ∨ i = 3 := by omega
                           rcases this with rfl | rfl | rfl | rfl
                           · exact n0
                           · exact n1
                           · exact n2
                           · exact n3, fun i hi => by rw [hq] at hi; have : i = 0 ∨ i = 1 ∨ i = 2 := by omega
                                                      rcases this with rfl | rfl | rfl
                                                      · exact c0
                                                      · exact c1
                                                      · exact c2, by rw [hq]; exact c3, by rw [hq]; decide⟩, z3, by grind, by grind⟩
  obtain ⟨n4, z4, l4, u4⟩ := st 3 _ n3 (by grind) (by grind) l3 u3 c3
  have hq : qOf f = 4 := by unfold qOf; rw [if_neg c0, if_neg c1, if_neg c2, if_neg c3]
  rw [hq]
  exact ⟨⟨fun i hi => by rw [hq] at hi; have : i = 0 ∨ i = 1 ∨ i = 2 ∨ i = 3 ∨ i = 4 := by omega
                         rcases this with rfl | rfl | rfl | rfl | rfl
                         · exact n0
                         · exact n1
                         · exact n2
                         · exact n3
                         · exact n4, fun i hi => by rw [hq] at hi; have : i = 0 ∨ i = 1 ∨ i = 2 ∨ i = 3 := by omega
                                                    rcases this with rfl | rfl | rfl | rfl
                                                    · exact c0
                                                    · exact c1
                                                    · exact c2
                                                    · exact c3, by rw [hq]; grind, by rw [hq]; decide⟩, z4, by grind, by grind⟩
def sineX (den : Nat → Nat) (x : Nat) : Nat := sineF den (fracF x)
/-- both sines of a part of a quarter, turned by q quarters -/
def turnC (q c s : Nat) : Nat := if q = 1 then fop .sub .f64 0 s else if q = 2 then fop .sub .f64 0 c else if q = 3 then s else c
def turnS (q c s : Nat) : Nat := if q = 1 then c else if q = 2 then fop .sub .f64 0 s else if q = 3 then fop .sub .f64 0 c else s
def phG (x : Nat) : Nat := quadF (fracF x) (qOf (fracF x))
def phC (den : Nat → Nat) (x : Nat) : Nat := sineX den (fop .sub .f64 quarB (phG x))
def phS (den : Nat → Nat) (x : Nat) : Nat := sineX den (phG x)
def phF (den : Nat → Nat) (x : Nat) : Nat × Nat := (fcv .f64 .f32 (turnC (qOf (fracF x)) (phC den x) (phS den x)), fcv .f64 .f32 (turnS (qOf (fracF x)) (phC den x) (phS den x)))
structure PhN (den : Nat → Nat) (x : Nat) : Prop where
  xn : isN .f64 x = true
  lo : -900 ≤ R .f64 x
  hi : R .f64 x ≤ 900
  f : FracN x
  q : QuadN (fracF x)
  d : isN .f64 (fop .sub .f64 quarB (phG x)) = true
  d0 : 0 ≤ R .f64 (fop .sub .f64 quarB (phG x))
  d1 : R .f64 (fop .sub .f64 quarB (phG x)) ≤ 1 / 4
  g0 : 0 ≤ R .f64 (phG x)
  fd : FracN (fop .sub .f64 quarB (phG x))
  fg : FracN (phG x)
  sd : SineN den (fracF (fop .sub .f64 quarB (phG x)))
  sg : SineN den (fracF (phG x))
  c : isN .f64 (turnC (qOf (fracF x)) (phC den x) (phS den x)) = true
  s : isN .f64 (turnS (qOf (fracF x)) (phC den x) (phS den x)) = true
  nc : isN .f32 (phF den x).1 = true
  ns : isN .f32 (phF den x).2 = true
/-- the cosine and the sine of sixteenths -/
def cosT (j : Nat) : Rat := if j ≤ 4 then sinQ (4 - j) else if j ≤ 8 then -sinQ (j - 4) else if j ≤ 12 then -sinQ (12 - j) else sinQ (j - 12)
def sinT (j : Nat) : Rat := if j ≤ 4 then sinQ j else if j ≤ 8 then sinQ (8 - j) else if j ≤ 12 then -sinQ (j - 8) else -sinQ (16 - j)
theorem sinQ_bd (r : Nat) : 0 ≤ sinQ r ∧ sinQ r ≤ 1 := by
  unfold sinQ; split <;> constructor <;> decide +kernel
theorem turn_tab : (List.range 17).all (fun j => (List.range 5).all fun q => decide (j < 4 * q) || decide (4 * q + 4 < j) || (decide ((if q = 1 then -sinQ (j - 4 * q) else if q = 2 then -sinQ (4 - (j - 4 * q)) else if q = 3 then sinQ (j - 4 * q) else sinQ (4 - (j - 4 * q))) = cosT j) && decide ((if q = 1 then sinQ (4 - (j - 4 * q)) else if q = 2 then -sinQ (j - 4 * q) else if q = 3 then -sinQ (4 - (j - 4 * q)) else sinQ (j - 4 * q)) = sinT j))) = true := by decide +kernel
theorem turn_at {j q r : Nat} (hj : j ≤ 16) (hq : q ≤ 4) (h : j = 4 * q + r) (hr : r ≤ 4) : (if q = 1 then -sinQ r else if q = 2 then -sinQ (4 - r) else if q = 3 then sinQ r else sinQ (4 - r)) = cosT j ∧ (if q = 1 then sinQ (4 - r) else if q = 2 then -sinQ r else if q = 3 then -sinQ (4 - r) else sinQ r) = sinT j := by
  have h1 := List.all_eq_true.1 (List.all_eq_true.1 turn_tab j (List.mem_range.2 (by omega))) q (List.mem_range.2 (by omega))
  have e : j - 4 * q = r := by omega
  rw [e] at h1
  have n1 : ¬ j < 4 * q := by omega
  have n2 : ¬ 4 * q + 4 < j := by omega
  simp only [n1, n2, decide_false, Bool.false_or, Bool.and_eq_true, decide_eq_true_eq] at h1
  exact h1
theorem sub0_N {x : Nat} {a b : Rat} (h : In x a b) (ha : -2 ≤ a) (hb : b ≤ 2) : isN .f64 (fop .sub .f64 0 x) = true ∧ -b - 1 / 1000000000000 ≤ R .f64 (fop .sub .f64 0 x) ∧ R .f64 (fop .sub .f64 0 x) ≤ -a + 1 / 1000000000000 := by
  obtain ⟨h0, h1, h2⟩ := h
  have z := zero64_N
  have r := rnd_sub z.1 h0 (by rw [z.2]; grind) (by rw [z.2]; grind)
  rw [z.2] at r
  have f := r.n64 1 (by decide) (B := 2) rfl (by grind) (by grind)
  exact ⟨r.num, by grind, by grind⟩
def SinTab (den : Nat → Nat) (eta zeta : Rat) : Prop := ∀ f r : Nat, r ≤ 4 → isN .f64 f = true → 0 ≤ R .f64 f → R .f64 f ≤ 1 / 4 → qJ r / 16 - eta ≤ R .f64 f → R .f64 f ≤ qJ r / 16 + eta → SineN den f ∧ In (sineF den f) (sinQ r - zeta) (sinQ r + zeta)
theorem sinTab_w {den : Nat → Nat} (hd : DenOk den) : SinTab den (1 / 10000) (1 / 1000) := fun _ _ a b c d e f => sine_w hd a b c d e f
theorem sinTab_t {den : Nat → Nat} (hd : DenOk den) : SinTab den (1 / 1000000000) (1 / 50000000) := fun _ _ a b c d e f => sine_t hd a b c d e f
theorem phasor_near {den : Nat → Nat} {eta zeta : Rat} (hz0 : 0 ≤ zeta) (hz : zeta ≤ 1 / 100) (he0 : 1 / 10000000000 ≤ eta) (he : eta ≤ 1 / 1000)
    (T : SinTab den eta zeta)
    {x j : Nat} {n : Int} (hj : j < 16) (hx : isN .f64 x = true) (x1 : -800 ≤ R .f64 x) (x2 : R .f64 x ≤ 800) (h1 : qJ j / 16 + (n : Rat) - (eta - 1 / 100000000000) ≤ R .f64 x) (h2 : R .f64 x ≤ qJ j / 16 + (n : Rat) + (eta - 1 / 100000000000)) :
    PhN den x ∧ -(zeta + 1 / 2000000) ≤ R .f32 (phF den x).1 - cosT j ∧ R .f32 (phF den x).1 - cosT j ≤ zeta + 1 / 2000000 ∧ -(zeta + 1 / 2000000) ≤ R .f32 (phF den x).2 - sinT j ∧ R .f32 (phF den x).2 - sinT j ≤ zeta + 1 / 2000000 := by
  obtain ⟨hF, f0, f1, N, g1, g2⟩ := frac_any hx (by grind) (by grind)
  obtain ⟨hQ, q0, k1, k2⟩ := quad_near hF.f f0 f1
  obtain ⟨f, hf⟩ : ∃ f, f = fracF x := ⟨_, rfl⟩
  have j16 := qJ_le (show j ≤ 15 by omega)
  have j0 := qJ_nn j
  have e15 : qJ 15 = 15 := rfl
  rw [e15] at j16
  have hq4 := hQ.le4
  have hlt := hQ.lt
  rw [← hf] at f0 f1 g1 g2 q0 k1 k2 hq4 hlt
  -- j' is j, or 16 for 0
  obtain ⟨j', hj', hjj, m1, m2⟩ : ∃ j' : Nat, j' ≤ 16 ∧ (cosT j' = cosT j ∧ sinT j' = sinT j) ∧ qJ j' / 16 - (eta - 5 / 1000000000000) ≤ R .f64 f ∧ R .f64 f ≤ qJ j' / 16 + (eta - 5 / 1000000000000) := by
    have hN : ((n + N : Int) : Rat) = (n : Rat) + (N : Rat) := Rat.intCast_add n N
    rcases int_two (N := n + N) (by rw [hN]; grind) (by rw [hN]; grind) with h | h
    · rw [h] at hN
      have : ((0 : Int) : Rat) = 0 := rfl
      rw [this] at hN
      exact ⟨j, by omega, ⟨rfl, rfl⟩, by grind, by grind⟩
    · rw [h] at hN
      have : ((1 : Int) : Rat) = 1 := rfl
      rw [this] at hN
      have hjz : j < 1 := qJ_lt (by show qJ j < 1; grind)
      have hj0 : j = 0 := by omega
      subst hj0
      have e0 : qJ 0 = 0 := rfl
      have e16 : qJ 16 = 16 := rfl
      exact ⟨16, by omega, by decide +kernel, by grind, by grind⟩
  obtain ⟨q, hq⟩ : ∃ q, q = qOf f := ⟨_, rfl⟩
  obtain ⟨g, hg⟩ : ∃ g, g = quadF f (qOf f) := ⟨_, rfl⟩
  have hgn : isN .f64 g = true := by rw [hg, hf]; exact hQ.n _ (Nat.le_refl _)
  rw [← hg] at q0 k1 k2 hlt
  rw [← hq] at k1 k2 hq4
  -- the part of the quarter
  have q4N := qJ_add (4 * q) 4
  have e4q : qJ (4 * q) = 4 * qJ q := by unfold qJ; rw [Int.natCast_mul, Rat.intCast_mul]; rfl
  have e4 : qJ 4 = 4 := rfl
  have r1 : 4 * q ≤ j' := by
    refine Nat.not_lt.1 fun k => ?_
    have := qJ_le (show j' + 1 ≤ 4 * q by omega)
    rw [qJ_succ, e4q] at this
    grind
  have r2 : j' ≤ 4 * q + 4 := by
    refine Nat.not_lt.1 fun k => ?_
    have := qJ_le (show 4 * q + 4 + 1 ≤ j' by omega)
    rw [qJ_succ, q4N, e4q, e4] at this
    grind
  obtain ⟨r, hr⟩ : ∃ r, j' = 4 * q + r := ⟨j' - 4 * q, by omega⟩
  have hr4 : r ≤ 4 := by omega
  have ejr : qJ j' = 4 * qJ q + qJ r := by rw [hr, qJ_add, e4q]
  have er : qJ (4 - r) = 4 - qJ r := by
    have h := qJ_add (4 - r) r
    rw [show 4 - r + r = 4 by omega, e4] at h
    grind
  obtain ⟨t1, t2⟩ := turn_at hj' hq4 hr hr4
  obtain ⟨hFg, eFg⟩ := frac_low hgn q0 (by grind)
  have gs1 : qJ r / 16 - eta ≤ R .f64 g := by grind
  have gs2 : R .f64 g ≤ qJ r / 16 + eta := by grind
  have hs := T (fracF g) r hr4 hFg.f (by rw [eFg]; exact q0) (by rw [eFg]; grind) (by rw [eFg]; exact gs1) (by rw [eFg]; exact gs2)
  obtain ⟨b0, _, _⟩ := quar_In
  have bR := quar_R
  have rd := rnd_sub b0 hgn (by rw [bR]; grind) (by rw [bR]; grind)
  rw [bR] at rd
  have fd := rd.n64 0 (by decide) (B := 1) rfl (by grind) (by grind)
  have zd := rd.nn64 (by grind)
  have ud := rd.le quarB b0 (by rw [bR]; grind)
  rw [bR] at ud
  obtain ⟨d, hd⟩ : ∃ d, d = fop .sub .f64 quarB g := ⟨_, rfl⟩
  have hdn : isN .f64 d = true := by rw [hd]; exact rd.num
  rw [← hd] at fd zd ud
  obtain ⟨hFd, eFd⟩ := frac_low hdn zd ud
  have gd1 : qJ (4 - r) / 16 - eta ≤ R .f64 d := by rw [er]; grind
  have gd2 : R .f64 d ≤ qJ (4 - r) / 16 + eta := by rw [er]; grind
  have hc := T (fracF d) (4 - r) (by omega) hFd.f (by rw [eFd]; exact zd) (by rw [eFd]; exact ud) (by rw [eFd]; exact gd1) (by rw [eFd]; exact gd2)
  have eG : phG x = g := by unfold phG; rw [← hf, hg]
  have eC : phC den x = sineF den (fracF d) := by unfold phC sineX; rw [eG, ← hd]
  have eS : phS den x = sineF den (fracF g) := by unfold phS sineX; rw [eG]
  obtain ⟨C, hC⟩ : ∃ C, C = sineF den (fracF d) := ⟨_, rfl⟩
  obtain ⟨S, hS⟩ : ∃ S, S = sineF den (fracF g) := ⟨_, rfl⟩
  obtain ⟨sd, hc⟩ := hc
  obtain ⟨sg, hs⟩ := hs
  rw [← hC] at hc eC
  rw [← hS] at hs eS
  have bC := sinQ_bd (4 - r)
  have bS := sinQ_bd r
  have nC := sub0_N hc (by grind) (by grind)
  have nS := sub0_N hs (by grind) (by grind)
  have kC : isN .f64 (turnC q C S) = true ∧ -(zeta + 1 / 100000000000) ≤ R .f64 (turnC q C S) - cosT j ∧ R .f64 (turnC q C S) - cosT j ≤ zeta + 1 / 100000000000 := by
    rw [← hjj.1, ← t1]
    unfold turnC
    obtain ⟨c1, c2, c3⟩ := hc
    obtain ⟨s1, s2, s3⟩ := hs
    split
    · exact ⟨nS.1, by grind, by grind⟩
    · split
      · exact ⟨nC.1, by grind, by grind⟩
      · split
        · exact ⟨s1, by grind, by grind⟩
        · exact ⟨c1, by grind, by grind⟩
  have kS : isN .f64 (turnS q C S) = true ∧ -(zeta + 1 / 100000000000) ≤ R .f64 (turnS q C S) - sinT j ∧ R .f64 (turnS q C S) - sinT j ≤ zeta + 1 / 100000000000 := by
    rw [← hjj.2, ← t2]
    unfold turnS
    obtain ⟨c1, c2, c3⟩ := hc
    obtain ⟨s1, s2, s3⟩ := hs
    split
    · exact ⟨c1, by grind, by grind⟩
    · split
      · exact ⟨nS.1, by grind, by grind⟩
      · split
        · exact ⟨nC.1, by grind, by grind⟩
        · exact ⟨s1, by grind, by grind⟩
  have tb : -1 ≤ cosT j ∧ cosT j ≤ 1 ∧ -1 ≤ sinT j ∧ sinT j ≤ 1 := by
    rw [← hjj.1, ← hjj.2, ← t1, ← t2]
    refine ⟨?_, ?_, ?_, ?_⟩
    all_goals (repeat' split) <;> grind
  obtain ⟨tb1, tb2, tb3, tb4⟩ := tb
  obtain ⟨kC0, kC1, kC2⟩ := kC
  obtain ⟨kS0, kS1, kS2⟩ := kS
  clear t1 t2 hjj m1 m2 k1 k2 gs1 gs2 gd1 gd2 g1 g2 h1 h2 bC bS hc hs nC nS
  have wC := narrow kC0 (by grind) (by grind)
  have wS := narrow kS0 (by grind) (by grind)
  have fC := wC.n32 1 (by decide) (B := 2) rfl (by grind) (by grind)
  have fS := wS.n32 1 (by decide) (B := 2) rfl (by grind) (by grind)
  have eq : qOf (fracF x) = q := by rw [← hf, hq]
  have p1 : (phF den x).1 = fcv .f64 .f32 (turnC q C S) := by unfold phF; rw [eq, eC, eS]
  have p2 : (phF den x).2 = fcv .f64 .f32 (turnS q C S) := by unfold phF; rw [eq, eC, eS]
  refine ⟨⟨hx, by grind, by grind, hF, hQ, by rw [eG, ← hd]; exact hdn, by rw [eG, ← hd]; exact zd, by rw [eG, ← hd]; exact ud, by rw [eG]; exact q0, by rw [eG, ← hd]; exact hFd, by rw [eG]; exact hFg, by rw [eG, ← hd]; exact sd, by rw [eG]; exact sg, by rw [eq, eC, eS]; exact kC0, by rw [eq, eC, eS]; exact kS0, by rw [p1]; exact wC.num, by rw [p2]; exact wS.num⟩, ?_, ?_, ?_, ?_⟩
  · rw [p1]; grind
  · rw [p1]; grind
  · rw [p2]; grind
  · rw [p2]; grind
end Go.Fl

namespace Go.Fl
open Ieee Go.RowKit
/-- a quotient that is no not-a-number draws nothing -/
theorem run_quoN {A B : Nat} (hA : isN .f64 A = true) (hB : isN .f64 B = true) (h : R .f64 A ≠ 0 ∨ R .f64 B ≠ 0) : (∀ w, mop .quo .f64 A B w = fop .quo .f64 A B) ∧ mdr .quo .f64 A B = 0 := by
  obtain ⟨s, m, i, hr, _, hv⟩ := isN_read hA
  obtain ⟨t, n, j, hr2, _, hv2⟩ := isN_read hB
  have hmn : ¬ (n = 0 ∧ m = 0) := by
    rintro ⟨rfl, rfl⟩
    rcases h with h | h
    · exact h (R_zero_iff.2 (by rw [hv, signed_mul]; simp))
    · exact h (R_zero_iff.2 (by rw [hv2, signed_mul]; simp))
  obtain ⟨r, hq⟩ : ∃ r, floatBits .quo .f64 A B = some r := by
    show ∃ r, ((FloatKind.f64.format.read A).quotient _ (FloatKind.f64.format.read B)).map _ = some r
    rw [hr, hr2]
    unfold Datum.quotient
    by_cases c : n = 0
    · have : ¬ m = 0 := fun k => hmn ⟨c, k⟩
      simp [c, this]
    · simp [c]
  exact ⟨fun w => by unfold mop fop; rw [hq]; rfl, by unfold mdr; rw [hq]; rfl⟩
def agT (A B : Nat) : Nat := if R .f64 B < R .f64 A then fop .quo .f64 B A else fop .quo .f64 A B
def agG (A B : Nat) : Nat := angG (stepF (stepF (stepF (agT A B))))
def agO (A B : Nat) : Nat := if R .f64 B < R .f64 A then fop .sub .f64 quarB (agG A B) else agG A B
structure OctN (A B : Nat) : Prop where
  a : isN .f64 A = true
  b : isN .f64 B = true
  nz : R .f64 A ≠ 0 ∨ R .f64 B ≠ 0
  ang : AngN (agT A B)
  o : isN .f64 (agO A B) = true
theorem quo_in {a b : Nat} {lo hi : Rat} (ha : isN .f64 a = true) (hb : isN .f64 b = true) (a0 : 0 ≤ R .f64 a) (b0 : 0 < R .f64 b) (l0 : 0 ≤ lo) (h1 : lo * R .f64 b ≤ R .f64 a) (h2 : R .f64 a ≤ hi * R .f64 b) (hh : hi ≤ 2) {lo' hi' : Rat} (hlo : lo' + eps + eps ≤ lo ∨ lo' ≤ 0) (hhi : hi + eps + eps ≤ hi') (hh' : hi' ≤ 60) : In (fop .quo .f64 a b) lo' hi' := by
  obtain ⟨ep, ep1⟩ := eps_pos
  refine In.div (a := R .f64 a) (b := R .f64 a) (c := R .f64 b) (d := R .f64 b) ⟨ha, Rat.le_refl, Rat.le_refl⟩ ⟨hb, Rat.le_refl, Rat.le_refl⟩ a0 b0 (by grind) ?_ ?_
  · rcases hlo with h | h
    · left
      have := Rat.mul_nonneg (a := lo - (lo' + eps)) (b := R .f64 b) (by grind) (by grind)
      grind
    · exact .inr h
  · have := Rat.mul_nonneg (a := hi' - eps - hi) (b := R .f64 b) (by grind) (by grind)
    grind
theorem oct_near {A B r : Nat} {p : Rat} (hr : r ≤ 4) (hA : isN .f64 A = true) (hB : isN .f64 B = true) (a0 : 0 ≤ R .f64 A) (b0 : 0 ≤ R .f64 B) (p0 : 0 < p)
    (h1 : p * (sinQ r - 1 / 5000) ≤ R .f64 A) (h2 : R .f64 A ≤ p * (sinQ r + 1 / 5000)) (h3 : p * (sinQ (4 - r) - 1 / 5000) ≤ R .f64 B) (h4 : R .f64 B ≤ p * (sinQ (4 - r) + 1 / 5000)) :
    OctN A B ∧ -(81 / 1000000) ≤ R .f64 (agO A B) - qJ r / 16 ∧ R .f64 (agO A B) - qJ r / 16 ≤ 81 / 1000000 := by
  have e0 : qJ 0 = 0 := rfl
  have e1 : qJ 1 = 1 := rfl
  have e2 : qJ 2 = 2 := rfl
  have e3 : qJ 3 = 3 := rfl
  have e4 : qJ 4 = 4 := rfl
  have s0 : sinQ 0 = 0 := rfl
  have s1 : sinQ 1 = 38268343 / 100000000 := rfl
  have s2 : sinQ 2 = 70710678 / 100000000 := rfl
  have s3 : sinQ 3 = 92387953 / 100000000 := rfl
  have s4 : sinQ 4 = 1 := rfl
  -- the sharp part
  have sharp : ∀ {a b : Nat}, isN .f64 a = true → isN .f64 b = true → 0 ≤ R .f64 a → R .f64 a ≤ p * (1 / 5000) → p * (1 - 1 / 5000) ≤ R .f64 b → In (fop .quo .f64 a b) 0 (21 / 100000) := fun {a b} ha hb a0 h1 h2 => by
    have hb0 : 0 < R .f64 b := by grind
    refine quo_in (lo := 0) (hi := 205 / 1000000) ha hb a0 hb0 (by grind) (by grind) ?_ (by decide +kernel) (.inr (by decide +kernel)) (by decide +kernel) (by decide +kernel)
    grind
  have mid : ∀ {a b : Nat}, isN .f64 a = true → isN .f64 b = true → p * (38268343 / 100000000 - 1 / 5000) ≤ R .f64 a → R .f64 a ≤ p * (38268343 / 100000000 + 1 / 5000) → p * (92387953 / 100000000 - 1 / 5000) ≤ R .f64 b → R .f64 b ≤ p * (92387953 / 100000000 + 1 / 5000) → In (fop .quo .f64 a b) (41421356 / 100000000 - 32 / 100000) (41421356 / 100000000 + 32 / 100000) := fun {a b} ha hb h1 h2 h3 h4 => by
    have hb0 : 0 < R .f64 b := by grind
    refine quo_in (lo := 41421356 / 100000000 - 31 / 100000) (hi := 41421356 / 100000000 + 31 / 100000) ha hb (by grind) hb0 (by decide +kernel) (by grind) (by grind) (by decide +kernel) (.inl (by decide +kernel)) (by decide +kernel) (by decide +kernel)
  have even : ∀ {a b : Nat}, isN .f64 a = true → isN .f64 b = true → p * (70710678 / 100000000 - 1 / 5000) ≤ R .f64 a → R .f64 b ≤ p * (70710678 / 100000000 + 1 / 5000) → R .f64 a ≤ R .f64 b → In (fop .quo .f64 a b) (1 - 58 / 100000) 1 := fun {a b} ha hb h1 h2 h3 => by
    have hb0 : 0 < R .f64 b := by grind
    have h := quo_in (lo := 1 - 57 / 100000) (hi := 1) (lo' := 1 - 58 / 100000) (hi' := 11 / 10) ha hb (by grind) hb0 (by decide +kernel) (by grind) (by grind) (by decide +kernel) (.inl (by decide +kernel)) (by decide +kernel) (by decide +kernel)
    -- no greater than one
    obtain ⟨o0, o1, o2⟩ := one_In
    have hq : R .f64 a / R .f64 b * R .f64 b = R .f64 a := Rat.div_mul_cancel (by grind)
    have q1 : R .f64 a / R .f64 b ≤ 1 := by
      refine Rat.not_lt.1 fun k => ?_
      have := Rat.mul_pos (a := R .f64 a / R .f64 b - 1) (b := R .f64 b) (by grind) hb0
      grind
    have q0 : 0 ≤ R .f64 a / R .f64 b := by
      refine Rat.not_lt.1 fun k => ?_
      have := Rat.mul_pos (a := -(R .f64 a / R .f64 b)) (b := R .f64 b) (by grind) hb0
      grind
    have hd := rnd_div (q := R .f64 a / R .f64 b) ha hb (by grind) hq (by grind) (by grind)
    have := hd.le oneB o0 (by grind)
    exact ⟨h.1, h.2.1, by grind⟩
  obtain ⟨b9, _, _⟩ := quar_In
  have bR := quar_R
  have fin : ∀ {g : Nat} {lo hi : Rat}, In g lo hi → 0 ≤ lo → hi ≤ 1 → isN .f64 (fop .sub .f64 quarB g) = true ∧ 1 / 4 - hi - 1 / 10000000000 ≤ R .f64 (fop .sub .f64 quarB g) ∧ R .f64 (fop .sub .f64 quarB g) ≤ 1 / 4 - lo + 1 / 10000000000 := fun {g lo hi} hg l0 l1 => by
    obtain ⟨g0, g1, g2⟩ := hg
    have r := rnd_sub b9 g0 (by rw [bR]; grind) (by rw [bR]; grind)
    rw [bR] at r
    have f := r.n64 1 (by decide) (B := 2) rfl (by grind) (by grind)
    exact ⟨r.num, by grind, by grind⟩
  have hr5 : r = 0 ∨ r = 1 ∨ r = 2 ∨ r = 3 ∨ r = 4 := by omega
  rcases hr5 with rfl | rfl | rfl | rfl | rfl
  · rw [s0] at h1 h2
    have h3 : p * (1 - 1 / 5000) ≤ R .f64 B := h3
    have h4 : R .f64 B ≤ p * (1 + 1 / 5000) := h4
    have c : ¬ R .f64 B < R .f64 A := by grind
    have hi := sharp hA hB a0 (by grind) h3
    have et : agT A B = fop .quo .f64 A B := by unfold agT; rw [if_neg c]
    obtain ⟨hn, hg⟩ := ang_0 hi
    rw [← et] at hn hg
    have eo : agO A B = angG (stepF (stepF (stepF (agT A B)))) := by unfold agO agG; rw [if_neg c]
    have hg := hg.mono (c := 0) (d := 8 / 100000) (by decide +kernel) (by decide +kernel)
    refine ⟨⟨hA, hB, .inr (by grind), hn, by rw [eo]; exact hg.1⟩, ?_, ?_⟩
    · rw [eo, e0]; have := hg.2.1; grind
    · rw [eo, e0]; have := hg.2.2; grind
  · rw [s1] at h1 h2
    have h3 : p * (92387953 / 100000000 - 1 / 5000) ≤ R .f64 B := h3
    have h4 : R .f64 B ≤ p * (92387953 / 100000000 + 1 / 5000) := h4
    have c : ¬ R .f64 B < R .f64 A := by grind
    have hi := mid hA hB h1 h2 h3 h4
    have et : agT A B = fop .quo .f64 A B := by unfold agT; rw [if_neg c]
    obtain ⟨hn, hg⟩ := ang_1 (hi.mono (by decide +kernel) (by decide +kernel))
    rw [← et] at hn hg
    have eo : agO A B = angG (stepF (stepF (stepF (agT A B)))) := by unfold agO agG; rw [if_neg c]
    have hg := hg.mono (c := 1 / 16 - 8 / 100000) (d := 1 / 16 + 8 / 100000) (by decide +kernel) (by decide +kernel)
    refine ⟨⟨hA, hB, .inr (by grind), hn, by rw [eo]; exact hg.1⟩, ?_, ?_⟩
    · rw [eo, e1]; have := hg.2.1; grind
    · rw [eo, e1]; have := hg.2.2; grind
  · rw [s2] at h1 h2
    have h3 : p * (70710678 / 100000000 - 1 / 5000) ≤ R .f64 B := h3
    have h4 : R .f64 B ≤ p * (70710678 / 100000000 + 1 / 5000) := h4
    by_cases c : R .f64 B < R .f64 A
    · have hi := even hB hA h3 h2 (by grind)
      have et : agT A B = fop .quo .f64 B A := by unfold agT; rw [if_pos c]
      obtain ⟨hn, hg⟩ := ang_2 (hi.mono (by decide +kernel) (by decide +kernel))
      rw [← et] at hn hg
      have eo : agO A B = fop .sub .f64 quarB (angG (stepF (stepF (stepF (agT A B))))) := by unfold agO agG; rw [if_pos c]
      have hg := hg.mono (c := 1 / 8 - 8 / 100000) (d := 1 / 8 + 8 / 100000) (by decide +kernel) (by decide +kernel)
      obtain ⟨f0, f1, f2⟩ := fin hg (by decide +kernel) (by decide +kernel)
      refine ⟨⟨hA, hB, .inr (by grind), hn, by rw [eo]; exact f0⟩, ?_, ?_⟩
      · rw [eo, e2]; grind
      · rw [eo, e2]; grind
    · have hi := even hA hB h1 h4 (by grind)
      have et : agT A B = fop .quo .f64 A B := by unfold agT; rw [if_neg c]
      obtain ⟨hn, hg⟩ := ang_2 (hi.mono (by decide +kernel) (by decide +kernel))
      rw [← et] at hn hg
      have eo : agO A B = angG (stepF (stepF (stepF (agT A B)))) := by unfold agO agG; rw [if_neg c]
      have hg := hg.mono (c := 1 / 8 - 8 / 100000) (d := 1 / 8 + 8 / 100000) (by decide +kernel) (by decide +kernel)
      refine ⟨⟨hA, hB, .inr (by grind), hn, by rw [eo]; exact hg.1⟩, ?_, ?_⟩
      · rw [eo, e2]; have := hg.2.1; grind
      · rw [eo, e2]; have := hg.2.2; grind
  · rw [s3] at h1 h2
    have h3 : p * (38268343 / 100000000 - 1 / 5000) ≤ R .f64 B := h3
    have h4 : R .f64 B ≤ p * (38268343 / 100000000 + 1 / 5000) := h4
    have c : R .f64 B < R .f64 A := by grind
    have hi := mid hB hA h3 h4 h1 h2
    have et : agT A B = fop .quo .f64 B A := by unfold agT; rw [if_pos c]
    obtain ⟨hn, hg⟩ := ang_1 (hi.mono (by decide +kernel) (by decide +kernel))
    rw [← et] at hn hg
    have eo : agO A B = fop .sub .f64 quarB (angG (stepF (stepF (stepF (agT A B))))) := by unfold agO agG; rw [if_pos c]
    have hg := hg.mono (c := 1 / 16 - 8 / 100000) (d := 1 / 16 + 8 / 100000) (by decide +kernel) (by decide +kernel)
    obtain ⟨f0, f1, f2⟩ := fin hg (by decide +kernel) (by decide +kernel)
    refine ⟨⟨hA, hB, .inr (by grind), hn, by rw [eo]; exact f0⟩, ?_, ?_⟩
    · rw [eo, e3]; grind
    · rw [eo, e3]; grind
  · rw [s4] at h1 h2
    have h3 : p * (0 - 1 / 5000) ≤ R .f64 B := h3
    have h4 : R .f64 B ≤ p * (0 + 1 / 5000) := h4
    have c : R .f64 B < R .f64 A := by grind
    have hi := sharp hB hA b0 (by grind) h1
    have et : agT A B = fop .quo .f64 B A := by unfold agT; rw [if_pos c]
    obtain ⟨hn, hg⟩ := ang_0 hi
    rw [← et] at hn hg
    have eo : agO A B = fop .sub .f64 quarB (angG (stepF (stepF (stepF (agT A B))))) := by unfold agO agG; rw [if_pos c]
    have hg := hg.mono (c := 0) (d := 8 / 100000) (by decide +kernel) (by decide +kernel)
    obtain ⟨f0, f1, f2⟩ := fin hg (by decide +kernel) (by decide +kernel)
    refine ⟨⟨hA, hB, .inl (by grind), hn, by rw [eo]; exact f0⟩, ?_, ?_⟩
    · rw [eo, e4]; grind
    · rw [eo, e4]; grind
/-- the angle of the point with the coordinates x and y -/
def agA (y : Nat) : Nat := absB (fcv .f32 .f64 y)
def agH (y x : Nat) : Nat := if R .f32 x < 0 then fop .sub .f64 halfB (agO (agA y) (agA x)) else agO (agA y) (agA x)
def agS (y x : Nat) : Nat := if R .f32 y < 0 then Op.negFloat .f64 (agH y x) else agH y x
def agF (y x : Nat) : Nat := fcv .f64 .f32 (agS y x)
structure AgN (y x : Nat) : Prop where
  yn : isN .f32 y = true
  xn : isN .f32 x = true
  nz : ¬ (R .f32 x = 0 ∧ R .f32 y = 0)
  oct : OctN (agA y) (agA x)
  h : isN .f64 (agH y x) = true
  s : isN .f64 (agS y x) = true
  f : isN .f32 (agF y x) = true
theorem ang_tab : (List.range 16).all (fun j => let r := if j ≤ 4 then j else if j ≤ 8 then 8 - j else if j ≤ 12 then j - 8 else 16 - j
    decide ((if cosT j < 0 then -cosT j else cosT j) = sinQ (4 - r)) && decide ((if sinT j < 0 then -sinT j else sinT j) = sinQ r) && (decide (cosT j = 0) == (j == 4 || j == 12)) && (decide (cosT j < -(1 / 3)) == (4 < j && j < 12)) && (decide (1 / 3 < cosT j) == (j < 4 || 12 < j)) && (decide (sinT j = 0) == (j == 0 || j == 8)) && (decide (sinT j < -(1 / 3)) == (decide (8 < j))) && (decide (1 / 3 < sinT j) == (0 < j && j < 8))) = true := by decide +kernel
theorem ang_near {y x j : Nat} {p : Rat} (hj : j < 16) (hy : isN .f32 y = true) (hx : isN .f32 x = true) (p0 : 0 < p) (p1 : p ≤ 1000)
    (h1 : p * (cosT j - 1 / 5000) ≤ R .f32 x) (h2 : R .f32 x ≤ p * (cosT j + 1 / 5000)) (h3 : p * (sinT j - 1 / 5000) ≤ R .f32 y) (h4 : R .f32 y ≤ p * (sinT j + 1 / 5000)) :
    AgN y x ∧ -(51 / 100) ≤ R .f32 (agF y x) ∧ R .f32 (agF y x) ≤ 51 / 100 ∧ ∃ n : Int, (n = 0 ∨ n = -1) ∧ -(9 / 100000) ≤ R .f32 (agF y x) - (qJ j / 16 + (n : Rat)) ∧ R .f32 (agF y x) - (qJ j / 16 + (n : Rat)) ≤ 9 / 100000 := by
  obtain ⟨r, hr⟩ : ∃ r, r = if j ≤ 4 then j else if j ≤ 8 then 8 - j else if j ≤ 12 then j - 8 else 16 - j := ⟨_, rfl⟩
  have ht := List.all_eq_true.1 ang_tab j (List.mem_range.2 hj)
  simp only [← hr, Bool.and_eq_true, decide_eq_true_eq, beq_iff_eq] at ht
  obtain ⟨⟨⟨⟨⟨⟨⟨t1, t2⟩, t3⟩, t4⟩, t5⟩, t6⟩, t7⟩, t8⟩ := ht
  have hr4 : r ≤ 4 := by rw [hr]; (repeat' split) <;> omega
  have bc := sinQ_bd (4 - r)
  have bs := sinQ_bd r
  have cb : -1 ≤ cosT j ∧ cosT j ≤ 1 := by split at t1 <;> constructor <;> grind
  have sb : -1 ≤ sinT j ∧ sinT j ≤ 1 := by split at t2 <;> constructor <;> grind
  obtain ⟨c, hc⟩ : ∃ c, c = cosT j := ⟨_, rfl⟩
  obtain ⟨s, hs⟩ : ∃ s, s = sinT j := ⟨_, rfl⟩
  rw [← hc] at h1 h2 t1 t3 t4 t5 cb
  rw [← hs] at h3 h4 t2 t6 t7 t8 sb
  have m1 := Rat.mul_nonneg (a := p) (b := 1 - c) (by grind) (by grind)
  have m2 := Rat.mul_nonneg (a := p) (b := 1 + c) (by grind) (by grind)
  have m3 := Rat.mul_nonneg (a := p) (b := 1 - s) (by grind) (by grind)
  have m4 := Rat.mul_nonneg (a := p) (b := 1 + s) (by grind) (by grind)
  have xb : -1001 ≤ R .f32 x ∧ R .f32 x ≤ 1001 := by constructor <;> grind
  have yb : -1001 ≤ R .f32 y ∧ R .f32 y ≤ 1001 := by constructor <;> grind
  obtain ⟨wx, ex⟩ := wide hx (by grind) (by grind)
  obtain ⟨wy, ey⟩ := wide hy (by grind) (by grind)
  obtain ⟨ax, aex⟩ := abs_R wx
  obtain ⟨ay, aey⟩ := abs_R wy
  rw [ex] at aex
  rw [ey] at aey
  have hA : isN .f64 (agA y) = true := ay
  have hB : isN .f64 (agA x) = true := ax
  have aey : R .f64 (agA y) = if R .f32 y < 0 then -R .f32 y else R .f32 y := aey
  have aex : R .f64 (agA x) = if R .f32 x < 0 then -R .f32 x else R .f32 x := aex
  clear ax ay wx wy ex ey m1 m2 m3 m4 xb yb
  -- both parts, without their signs
  have u1 : p * (sinQ (4 - r) - 1 / 5000) ≤ R .f64 (agA x) ∧ R .f64 (agA x) ≤ p * (sinQ (4 - r) + 1 / 5000) ∧ 0 ≤ R .f64 (agA x) := by
    rw [aex, ← t1]
    by_cases k1 : c < 0
    · rw [if_pos k1]
      have : c < -(1 / 3) := by
        by_cases k : c < -(1 / 3)
        · exact k
        · rw [decide_eq_false k] at t4
          rw [decide_eq_false (show ¬ 1 / 3 < c by grind)] at t5
          have k3 : ¬ c = 0 := by grind
          rw [decide_eq_false k3] at t3
          simp at t3 t4 t5; omega
      have k2 : R .f32 x < 0 := by
        have := Rat.mul_pos (a := p) (b := -(1 / 3) - c) p0 (by grind)
        grind
      rw [if_pos k2]
      refine ⟨by grind, by grind, by grind⟩
    · rw [if_neg k1]
      by_cases k2 : c = 0
      · rw [k2] at h1 h2 ⊢
        split <;> refine ⟨by grind, by grind, by grind⟩
      · have : 1 / 3 < c := by
          by_cases k : 1 / 3 < c
          · exact k
          · rw [decide_eq_false k] at t5
            rw [decide_eq_false (show ¬ c < -(1 / 3) by grind)] at t4
            rw [decide_eq_false k2] at t3
            simp at t3 t4 t5; omega
        have k3 : ¬ R .f32 x < 0 := by
          have := Rat.mul_pos (a := p) (b := c - 1 / 3) p0 (by grind)
          grind
        rw [if_neg k3]
        refine ⟨by grind, by grind, by grind⟩
  have u2 : p * (sinQ r - 1 / 5000) ≤ R .f64 (agA y) ∧ R .f64 (agA y) ≤ p * (sinQ r + 1 / 5000) ∧ 0 ≤ R .f64 (agA y) := by
    rw [aey, ← t2]
    by_cases k1 : s < 0
    · rw [if_pos k1]
      have : s < -(1 / 3) := by
        by_cases k : s < -(1 / 3)
        · exact k
        · rw [decide_eq_false k] at t7
          rw [decide_eq_false (show ¬ 1 / 3 < s by grind)] at t8
          have k3 : ¬ s = 0 := by grind
          rw [decide_eq_false k3] at t6
          simp at t6 t7 t8; omega
      have k2 : R .f32 y < 0 := by
        have := Rat.mul_pos (a := p) (b := -(1 / 3) - s) p0 (by grind)
        grind
      rw [if_pos k2]
      refine ⟨by grind, by grind, by grind⟩
    · rw [if_neg k1]
      by_cases k2 : s = 0
      · rw [k2] at h3 h4 ⊢
        split <;> refine ⟨by grind, by grind, by grind⟩
      · have : 1 / 3 < s := by
          by_cases k : 1 / 3 < s
          · exact k
          · rw [decide_eq_false k] at t8
            rw [decide_eq_false (show ¬ s < -(1 / 3) by grind)] at t7
            rw [decide_eq_false k2] at t6
            simp at t6 t7 t8; omega
        have k3 : ¬ R .f32 y < 0 := by
          have := Rat.mul_pos (a := p) (b := s - 1 / 3) p0 (by grind)
          grind
        rw [if_neg k3]
        refine ⟨by grind, by grind, by grind⟩
  obtain ⟨hO, o1, o2⟩ := oct_near hr4 hA hB u2.2.2 u1.2.2 p0 u2.1 u2.2.1 u1.1 u1.2.1
  have r4 := qJ_le hr4
  have r0 := qJ_nn r
  have e4 : qJ 4 = 4 := rfl
  rw [e4] at r4
  obtain ⟨G, hG⟩ : ∃ G, G = agO (agA y) (agA x) := ⟨_, rfl⟩
  have hGn : isN .f64 G = true := by rw [hG]; exact hO.o
  rw [← hG] at o1 o2
  have bh : isN .f64 halfB = true ∧ R .f64 halfB = 1 / 2 := by obtain ⟨a, b, c⟩ := half_In; exact ⟨a, Rat.le_antisymm c b⟩
  have rh := rnd_sub bh.1 hGn (by rw [bh.2]; grind) (by rw [bh.2]; grind)
  rw [bh.2] at rh
  have fh := rh.n64 1 (by decide) (B := 2) rfl (by grind) (by grind)
  -- the angle in the upper half
  obtain ⟨H, hH⟩ : ∃ H, H = agH y x := ⟨_, rfl⟩
  have hHe : H = if R .f32 x < 0 then fop .sub .f64 halfB G else G := by rw [hH, hG]; rfl
  obtain ⟨k, hk⟩ : ∃ k, k = if j ≤ 8 then j else 16 - j := ⟨_, rfl⟩
  have hHn : isN .f64 H = true ∧ -(82 / 1000000) ≤ R .f64 H - qJ k / 16 ∧ R .f64 H - qJ k / 16 ≤ 82 / 1000000 := by
    rw [hHe]
    have rk : r = k ∨ r + k = 8 := by rw [hr, hk]; (repeat' split) <;> omega
    by_cases c0 : c = 0
    · -- straight up or down: both ways the same
      rw [decide_eq_true c0] at t3
      simp at t3
      have hr4' : r = 4 := by rw [hr]; (repeat' split) <;> omega
      have hk4 : k = 4 := by rw [hk]; (repeat' split) <;> omega
      rw [hr4', e4] at o1 o2
      rw [hk4, e4]
      split
      · exact ⟨rh.num, by grind, by grind⟩
      · exact ⟨hGn, by grind, by grind⟩
    · by_cases cn : c < -(1 / 3)
      · rw [decide_eq_true cn] at t4
        simp at t4
        have k2 : R .f32 x < 0 := by
          have := Rat.mul_pos (a := p) (b := -(1 / 3) - c) p0 (by grind)
          grind
        rw [if_pos k2]
        have hrk : r + k = 8 := by rw [hr, hk]; (repeat' split) <;> omega
        have e8 := qJ_add r k
        rw [hrk] at e8
        have e8' : qJ 8 = 8 := rfl
        exact ⟨rh.num, by grind, by grind⟩
      · rw [decide_eq_false cn] at t4
        rw [decide_eq_false c0] at t3
        have cp : 1 / 3 < c := by
          by_cases q : 1 / 3 < c
          · exact q
          · rw [decide_eq_false q] at t5
            simp at t3 t4 t5; omega
        rw [decide_eq_true cp] at t5
        simp at t5
        have k2 : ¬ R .f32 x < 0 := by
          have := Rat.mul_pos (a := p) (b := c - 1 / 3) p0 (by grind)
          grind
        rw [if_neg k2]
        have hrk : r = k := by rw [hr, hk]; (repeat' split) <;> omega
        rw [hrk] at o1 o2
        exact ⟨hGn, by grind, by grind⟩
  obtain ⟨hH0, hH1, hH2⟩ := hHn
  obtain ⟨nN, nR⟩ := neg_R hH0
  have k8 : k ≤ 8 := by rw [hk]; split <;> omega
  have kb := qJ_le k8
  have kb0 := qJ_nn k
  have e8' : qJ 8 = 8 := rfl
  rw [e8'] at kb
  have hSe : agS y x = if R .f32 y < 0 then Op.negFloat .f64 H else H := by rw [hH]; rfl
  have hS : isN .f64 (agS y x) = true ∧ -(5002 / 10000) ≤ R .f64 (agS y x) ∧ R .f64 (agS y x) ≤ 5002 / 10000 ∧ ∃ n : Int, (n = 0 ∨ n = -1) ∧ -(82 / 1000000) ≤ R .f64 (agS y x) - (qJ j / 16 + (n : Rat)) ∧ R .f64 (agS y x) - (qJ j / 16 + (n : Rat)) ≤ 82 / 1000000 := by
    rw [hSe]
    have n0 : ((0 : Int) : Rat) = 0 := rfl
    have n1 : ((-1 : Int) : Rat) = -1 := rfl
    by_cases ky : R .f32 y < 0
    · rw [if_pos ky]
      -- s is not above 1/3
      have hs8 : 8 ≤ j ∨ j = 0 := by
        by_cases q : 1 / 3 < s
        · exfalso
          have := Rat.mul_pos (a := p) (b := s - 1 / 3) p0 (by grind)
          grind
        · rw [decide_eq_false q] at t8
          simp at t8; omega
      rcases hs8 with h8 | rfl
      · have hkj : k + j = 16 := by rw [hk]; split <;> omega
        have e := qJ_add k j
        rw [hkj] at e
        have e16 : qJ 16 = 16 := rfl
        exact ⟨nN, by rw [nR]; grind, by rw [nR]; grind, -1, .inr rfl, by rw [nR, n1]; grind, by rw [nR, n1]; grind⟩
      · have hk0 : k = 0 := by rw [hk]; rfl
        rw [hk0] at hH1 hH2
        have e00 : qJ 0 = 0 := rfl
        exact ⟨nN, by rw [nR]; grind, by rw [nR]; grind, 0, .inl rfl, by rw [nR, n0]; grind, by rw [nR, n0]; grind⟩
    · rw [if_neg ky]
      have hs8 : j ≤ 8 := by
        by_cases q : s < -(1 / 3)
        · exfalso
          have := Rat.mul_pos (a := p) (b := -(1 / 3) - s) p0 (by grind)
          grind
        · rw [decide_eq_false q] at t7
          simp at t7; omega
      have hkj : k = j := by rw [hk, if_pos hs8]
      rw [hkj] at hH1 hH2
      exact ⟨hH0, by grind, by grind, 0, .inl rfl, by rw [n0]; grind, by rw [n0]; grind⟩
  obtain ⟨q0, q1, q2, n, hn, q3, q4⟩ := hS
  have wN := narrow q0 (by grind) (by grind)
  have fN := wN.n32 0 (by decide) (B := 1) rfl (by grind) (by grind)
  have hz : ¬ (R .f32 x = 0 ∧ R .f32 y = 0) := by
    rintro ⟨z1, z2⟩
    rcases hO.nz with h | h
    · exact h (by rw [aey, z2]; simp)
    · exact h (by rw [aex, z1]; simp)
  refine ⟨⟨hy, hx, hz, hO, by rw [← hH]; exact hH0, q0, wN.num⟩, ?_, ?_, n, hn, ?_, ?_⟩
  · show _ ≤ R .f32 (fcv .f64 .f32 _); grind
  · show R .f32 (fcv .f64 .f32 _) ≤ _; grind
  · show _ ≤ R .f32 (fcv .f64 .f32 _) - _; grind
  · show R .f32 (fcv .f64 .f32 _) - _ ≤ _; grind
end Go.Fl
