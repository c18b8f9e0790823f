/- The law's own tests of a plan and of its way. Plain Lean. -/
import Derived.Test.YtfpkdnopbnppmaaPnN
namespace Go.Fl
open Ieee Go.RowKit Go.Proofs.Ytfpkdnopbnppmaa
theorem fge_R {x y : Nat} (hx : isN .f32 x = true) (hy : isN .f32 y = true) : fge x y = decide (R .f32 y ≤ R .f32 x) := by
  unfold fge
  rw [gt_R hx hy, eq_R hx hy]
  by_cases a : R .f32 y < R .f32 x
  · simp [a, Rat.le_of_lt a]
  · by_cases b : R .f32 x = R .f32 y
    · simp [b]
    · have : ¬ R .f32 y ≤ R .f32 x := by grind
      simp [a, b, this]
theorem least_N {x : Nat} (h : isN .f32 x = true) (h0 : 0 ≤ R .f32 x) : least x = true := by
  unfold least
  rw [fin_N h, fge_R h zero_N.1, R_zero, decide_eq_true h0]; rfl
theorem GoodPlan.ok {lw mw rw jw r h c : Nat} (g : GoodPlan lw mw rw jw r h c) : planOk jw r h c = true := by
  unfold planOk
  have J0 := g.pw.pin.J0
  have r0 := g.pw.pin.r0
  rw [above_N g.pw.nj (by grind), least_N g.pw.nr (by grind), least_N g.pw.nh g.pw.pin.h0, least_N g.pw.nc g.pw.pin.c0]; rfl
theorem four_N : isN .f32 1082130432 = true ∧ R .f32 1082130432 = 4 := by
  have q : Q .f32 1082130432 4 0 := ⟨by decide +kernel, by decide +kernel, by decide⟩
  exact ⟨q.num, by rw [q.R]; decide +kernel⟩
theorem five_N : isN .f32 1084227584 = true ∧ R .f32 1084227584 = 5 := by
  have q : Q .f32 1084227584 5 0 := ⟨by decide +kernel, by decide +kernel, by decide⟩
  exact ⟨q.num, by rw [q.R]; decide +kernel⟩
theorem twelve_N : isN .f32 1094713344 = true ∧ R .f32 1094713344 = 12 := by
  have q : Q .f32 1094713344 12 0 := ⟨by decide +kernel, by decide +kernel, by decide⟩
  exact ⟨q.num, by rw [q.R]; decide +kernel⟩
/-- the whole time -/
theorem total_ok {jw r h c : Nat} (H : PlW jw r h c) : isN .f32 (planTime r h c) = true ∧ Er (R .f32 (planTime r h c)) (pfT (R .f32 r) (R .f32 h) (R .f32 c) 7) (1 / 20000) ∧ 1 / 30 ≤ R .f32 (planTime r h c) ∧ R .f32 (planTime r h c) ≤ 51 := by
  have r0 := H.pin.r0
  have r9 := H.pin.r9
  have h0 := H.pin.h0
  have h9 := H.pin.h9
  have c0 := H.pin.c0
  have c9 := H.pin.c9
  have m1 : Rnd .f32 (fmul 1082130432 r) _ := rnd_mul four_N.1 H.nr (by rw [four_N.2]; grind) (by rw [four_N.2]; grind)
  rw [four_N.2] at m1
  have f1 := m1.n32 4 (by decide) (B := 16) rfl (by grind) (by grind)
  have m2 : Rnd .f32 (fmul 1073741824 h) _ := rnd_mul two_N.1 H.nh (by rw [two_N.2]; grind) (by rw [two_N.2]; grind)
  rw [two_N.2] at m2
  have f2 := m2.n32 5 (by decide) (B := 32) rfl (by grind) (by grind)
  have m3 : Rnd .f32 (fadd (fmul 1082130432 r) (fmul 1073741824 h)) _ := rnd_add m1.num m2.num (by grind) (by grind)
  have f3 := m3.n32 5 (by decide) (B := 32) rfl (by grind) (by grind)
  have m4 : Rnd .f32 (planTime r h c) _ := rnd_add m3.num H.nc (by grind) (by grind)
  have f4 := m4.n32 6 (by decide) (B := 64) rfl (by grind) (by grind)
  have e : pfT (R .f32 r) (R .f32 h) (R .f32 c) 7 = 4 * R .f32 r + 2 * R .f32 h + R .f32 c := rfl
  rw [e]
  exact ⟨m4.num, ⟨by grind, by grind⟩, by grind, by grind⟩
/-- the law's times -/
def tickF (t k : Nat) : Nat := fop .quo .f32 (fop .mul .f32 t (floatOfInt .f32 (k : Int))) 1094713344
theorem tick_ok {t k : Nat} (nt : isN .f32 t = true) (t0 : 1 / 30 ≤ R .f32 t) (t9 : R .f32 t ≤ 51) (hk : k ≤ 12) : isN .f32 (fop .mul .f32 t (floatOfInt .f32 (k : Int))) = true ∧ isN .f32 (tickF t k) = true ∧ 0 ≤ R .f32 (tickF t k) ∧ R .f32 (tickF t k) ≤ 60 ∧ Er (R .f32 (tickF t k)) (R .f32 t * ((k : Int) : Rat) / 12) (1 / 30000) := by
  have q := Q.ofInt .f32 (k : Int) (lt24 (by omega))
  have eq : R .f32 (floatOfInt .f32 (k : Int)) = ((k : Int) : Rat) := by
    have e1 : (((2 ^ 0 : Nat) : Int) : Rat) = 1 := rfl
    rw [q.R, e1]; grind
  have k0 : (0 : Rat) ≤ ((k : Int) : Rat) := Rat.intCast_nonneg.2 (Int.natCast_nonneg _)
  have k9 : ((k : Int) : Rat) ≤ (((12 : Nat) : Int) : Rat) := cast_le hk
  have e12 : (((12 : Nat) : Int) : Rat) = 12 := rfl
  rw [e12] at k9
  generalize hK : ((k : Int) : Rat) = K at *
  obtain ⟨p1, p2⟩ := mul_up (x := R .f32 t) (y := K) (B := 51) (C := 12) (by grind) t9 k0 k9
  have m1 := rnd_mul nt q.num (by rw [eq]; grind) (by rw [eq]; grind)
  rw [eq] at m1
  have f1 := m1.n32 10 (by decide) (B := 1024) rfl (by grind) (by grind)
  have g1 := m1.pos p1
  have m2 : Rnd .f32 (tickF t k) (R .f32 (fop .mul .f32 t (floatOfInt .f32 (k : Int))) / 12) := rnd_div m1.num twelve_N.1 (by rw [twelve_N.2]; grind) (by rw [twelve_N.2]; grind) (by grind) (by grind)
  have f2 := m2.n32 6 (by decide) (B := 64) rfl (by grind) (by grind)
  have g2 := m2.pos (by grind)
  exact ⟨m1.num, m2.num, g2, by grind, by grind, by grind⟩
theorem tick_mono {t k : Nat} (nt : isN .f32 t = true) (t0 : 1 / 30 ≤ R .f32 t) (t9 : R .f32 t ≤ 51) (hk : k + 1 ≤ 12) : R .f32 (tickF t k) ≤ R .f32 (tickF t (k + 1)) := by
  obtain ⟨_, _, _, _, _, h1⟩ := tick_ok nt t0 t9 (show k ≤ 12 by omega)
  obtain ⟨_, _, _, _, h2, _⟩ := tick_ok nt t0 t9 hk
  have e : (((k + 1 : Nat) : Int) : Rat) = (((k : Nat) : Int) : Rat) + 1 := by rw [Int.natCast_add, Rat.intCast_add]; rfl
  rw [e] at h2
  grind
/-- what the law looks at in the plan -/
structure PlanTests (mw rw jw r h c t : Nat) : Prop where
  same : (FloatKind.f32.format.order jw jw == some .eq) = true
  rise : (FloatKind.f32.format.order r 0 == some .lt || FloatKind.f32.format.order r 0 == some .eq) = false
  hold : (FloatKind.f32.format.order h 0 == some .lt) = false
  cruise : (FloatKind.f32.format.order c 0 == some .lt) = false
  total : (FloatKind.f32.format.order t 0 == some .lt || FloatKind.f32.format.order t 0 == some .eq) = false
  n1 : isN .f64 (fop .mul .f64 (fcv .f32 .f64 r) (fcv .f32 .f64 jw)) = true
  n2 : isN .f64 (fop .add .f64 (fcv .f32 .f64 rw) 4562254508917369340) = true
  change : (FloatKind.f64.format.order (fop .mul .f64 (fcv .f32 .f64 r) (fcv .f32 .f64 jw)) (fop .add .f64 (fcv .f32 .f64 rw) 4562254508917369340) == some .gt) = false
  n3 : isN .f64 (fop .mul .f64 (fcv .f32 .f64 jw) (fcv .f32 .f64 r)) = true
  n4 : isN .f64 (fop .add .f64 (fcv .f32 .f64 r) (fcv .f32 .f64 h)) = true
  n5 : isN .f64 (fop .mul .f64 (fop .mul .f64 (fcv .f32 .f64 jw) (fcv .f32 .f64 r)) (fop .add .f64 (fcv .f32 .f64 r) (fcv .f32 .f64 h))) = true
  n6 : isN .f64 (fop .add .f64 (fcv .f32 .f64 mw) 4576918229304087675) = true
  fast : (FloatKind.f64.format.order (fop .mul .f64 (fop .mul .f64 (fcv .f32 .f64 jw) (fcv .f32 .f64 r)) (fop .add .f64 (fcv .f32 .f64 r) (fcv .f32 .f64 h))) (fop .add .f64 (fcv .f32 .f64 mw) 4576918229304087675) == some .gt) = false
theorem plan_tests {lw mw rw jw r h c : Nat} (H : JIn lw mw rw jw) (g : GoodPlan lw mw rw jw r h c) : PlanTests mw rw jw r h c (planTime r h c) := by
  obtain ⟨nt, _, t0, t9⟩ := total_ok g.pw
  obtain ⟨⟨nj, nr, nh, nc, pin⟩, g1, g2, g3⟩ := g
  obtain ⟨J0, J9, r0, r9, h0, h9, c0, c9, A9, V9, _, _⟩ := pin
  have m0 := H.m0
  have m9 := H.m9
  have s0 := H.r0
  have s9 := H.r9
  obtain ⟨c1, c2, c3⟩ := milli64
  obtain ⟨d1, d2, d3⟩ := centi64
  obtain ⟨wj, ej⟩ := wide nj (by grind) (by grind)
  obtain ⟨wr, er⟩ := wide nr (by grind) (by grind)
  obtain ⟨wh, eh⟩ := wide nh (by grind) (by grind)
  obtain ⟨wm, em⟩ := wide H.nm (by grind) (by grind)
  obtain ⟨ws, es⟩ := wide H.nr (by grind) (by grind)
  have A0 := Rat.mul_nonneg (a := R .f32 jw) (b := R .f32 r) (by grind) (by grind)
  have V0 := Rat.mul_nonneg (a := R .f32 jw * R .f32 r) (b := R .f32 r + R .f32 h) A0 (by grind)
  have q1 := rnd_mul wr wj (by rw [er, ej]; grind) (by rw [er, ej]; grind)
  rw [er, ej] at q1
  have f1 := q1.n64 3 (by decide) (B := 8) rfl (by grind) (by grind)
  have q2 := rnd_add ws c1 (by rw [es]; grind) (by rw [es]; grind)
  rw [es] at q2
  have f2 := q2.n64 3 (by decide) (B := 8) rfl (by grind) (by grind)
  have q3 := rnd_mul wj wr (by rw [er, ej]; grind) (by rw [er, ej]; grind)
  rw [er, ej] at q3
  have f3 := q3.n64 3 (by decide) (B := 8) rfl (by grind) (by grind)
  have q4 := rnd_add wr wh (by rw [er, eh]; grind) (by rw [er, eh]; grind)
  rw [er, eh] at q4
  have f4 := q4.n64 4 (by decide) (B := 16) rfl (by grind) (by grind)
  obtain ⟨p5, p6⟩ := muld (x := R .f64 (fop .mul .f64 (fcv .f32 .f64 jw) (fcv .f32 .f64 r))) (y := R .f32 jw * R .f32 r) (s := R .f64 (fop .add .f64 (fcv .f32 .f64 r) (fcv .f32 .f64 h))) (t := R .f32 r + R .f32 h) (d := 1 / 1000000) (e := 1 / 1000000) (B := 6) (C := 12) ⟨by grind, by grind⟩ ⟨by grind, by grind⟩ (by grind) (by grind) (by grind) (by grind)
  have q5 := rnd_mul q3.num q4.num (by grind) (by grind)
  have f5 := q5.n64 3 (by decide) (B := 8) rfl (by grind) (by grind)
  have q6 := rnd_add wm d1 (by rw [em]; grind) (by rw [em]; grind)
  rw [em] at q6
  have f6 := q6.n64 3 (by decide) (B := 8) rfl (by grind) (by grind)
  have leq : ∀ {x : Nat}, isN .f32 x = true → 0 < R .f32 x → (FloatKind.f32.format.order x 0 == some .lt || FloatKind.f32.format.order x 0 == some .eq) = false := fun {x} hx h => by
    rw [lt_R hx zero_N.1, eq_R hx zero_N.1, R_zero]
    have a : ¬ R .f32 x < 0 := by grind
    have b : ¬ R .f32 x = 0 := by grind
    rw [decide_eq_false a, decide_eq_false b]; rfl
  refine ⟨?_, leq nr (by grind), ?_, ?_, leq nt (by grind), q1.num, q2.num, ?_, q3.num, q4.num, q5.num, q6.num, ?_⟩
  · rw [eq_R nj nj]; exact decide_eq_true rfl
  · rw [lt_R nh zero_N.1, R_zero]; exact decide_eq_false (by grind)
  · rw [lt_R nc zero_N.1, R_zero]; exact decide_eq_false (by grind)
  · rw [gt_R q1.num q2.num]; exact decide_eq_false (by grind)
  · rw [gt_R q5.num q6.num]; exact decide_eq_false (by grind)
/-- the law's test of a step of the way -/
structure StepTest (lw x b : Nat) : Prop where
  n1 : isN .f64 (fop .add .f64 4607182418800017408 (fcv .f32 .f64 lw)) = true
  n2 : isN .f64 (fop .mul .f64 4562254508917369340 (fop .add .f64 4607182418800017408 (fcv .f32 .f64 lw))) = true
  n3 : isN .f64 (fop .sub .f64 (fcv .f32 .f64 b) (fop .mul .f64 4562254508917369340 (fop .add .f64 4607182418800017408 (fcv .f32 .f64 lw)))) = true
  no : (FloatKind.f64.format.order (fcv .f32 .f64 x) (fop .sub .f64 (fcv .f32 .f64 b) (fop .mul .f64 4562254508917369340 (fop .add .f64 4607182418800017408 (fcv .f32 .f64 lw)))) == some .lt) = false
theorem one_more {lw : Nat} (nl : isN .f32 lw = true) (l0 : 1 / 4 ≤ R .f32 lw) (l9 : R .f32 lw ≤ 8) : isN .f64 (fop .add .f64 4607182418800017408 (fcv .f32 .f64 lw)) = true ∧ Er (R .f64 (fop .add .f64 4607182418800017408 (fcv .f32 .f64 lw))) (1 + R .f32 lw) (1 / 1000000) := by
  obtain ⟨wl, el⟩ := wide nl (by grind) (by grind)
  have q1 := rnd_add one64.1 wl (by rw [one64.2, el]; grind) (by rw [one64.2, el]; grind)
  rw [one64.2, el] at q1
  have f1 := q1.n64 4 (by decide) (B := 16) rfl (by grind) (by grind)
  exact ⟨q1.num, by grind, by grind⟩
theorem step_test {lw x b : Nat} (nl : isN .f32 lw = true) (l0 : 1 / 4 ≤ R .f32 lw) (l9 : R .f32 lw ≤ 8) (nx : isN .f32 x = true) (nb : isN .f32 b = true) (x1 : -20 ≤ R .f32 x) (x2 : R .f32 x ≤ 20) (b1 : -20 ≤ R .f32 b) (b2 : R .f32 b ≤ 20) (hm : R .f32 b ≤ R .f32 x + (9 / 10000 + 9 / 10000 * R .f32 lw)) : StepTest lw x b := by
  obtain ⟨n1, s1, s2⟩ := one_more nl l0 l9
  obtain ⟨wx, ex⟩ := wide nx (by grind) (by grind)
  obtain ⟨wb, eb⟩ := wide nb (by grind) (by grind)
  obtain ⟨c1, c2, c3⟩ := milli64
  generalize hgs : fop .add .f64 4607182418800017408 (fcv .f32 .f64 lw) = s at *
  obtain ⟨p1, p2⟩ := muld (x := R .f64 4562254508917369340) (y := 1 / 1000) (s := R .f64 s) (t := 1 + R .f32 lw) (d := 1 / 1000000) (e := 1 / 1000000) (B := 1) (C := 9) ⟨by grind, by grind⟩ ⟨by grind, by grind⟩ (by grind) (by grind) (by grind) (by grind)
  have q2 := rnd_mul c1 n1 (by grind) (by grind)
  have f2 := q2.n64 4 (by decide) (B := 16) rfl (by grind) (by grind)
  have q3 := rnd_sub wb q2.num (by rw [eb]; grind) (by rw [eb]; grind)
  rw [eb] at q3
  have f3 := q3.n64 5 (by decide) (B := 32) rfl (by grind) (by grind)
  subst hgs
  refine ⟨n1, q2.num, q3.num, ?_⟩
  rw [lt_R wx q3.num, ex]
  exact decide_eq_false (by grind)
/-- the law's test of an end -/
structure EndTest (lw x b : Nat) : Prop where
  nx : isN .f64 (fcv .f32 .f64 x) = true
  nb : isN .f64 (fcv .f32 .f64 b) = true
  ng : isN .f64 (if R .f64 (fcv .f32 .f64 x) < R .f64 (fcv .f32 .f64 b) then fop .sub .f64 (fcv .f32 .f64 b) (fcv .f32 .f64 x) else fop .sub .f64 (fcv .f32 .f64 x) (fcv .f32 .f64 b)) = true
  n1 : isN .f64 (fop .add .f64 4607182418800017408 (fcv .f32 .f64 lw)) = true
  n2 : isN .f64 (fop .mul .f64 4581421828931458171 (fop .add .f64 4607182418800017408 (fcv .f32 .f64 lw))) = true
  yes : (FloatKind.f64.format.order (gapF (fcv .f32 .f64 x) (fcv .f32 .f64 b)) (fop .mul .f64 4581421828931458171 (fop .add .f64 4607182418800017408 (fcv .f32 .f64 lw))) == some .lt) = true
theorem end_test {lw x b : Nat} (nl : isN .f32 lw = true) (l0 : 1 / 4 ≤ R .f32 lw) (l9 : R .f32 lw ≤ 8) (nx : isN .f32 x = true) (nb : isN .f32 b = true) (x1 : -20 ≤ R .f32 x) (x2 : R .f32 x ≤ 20) (b1 : -20 ≤ R .f32 b) (b2 : R .f32 b ≤ 20) (h1 : -(2 / 100) ≤ R .f32 x - R .f32 b) (h2 : R .f32 x - R .f32 b ≤ 2 / 100) : EndTest lw x b := by
  obtain ⟨n1, s1, s2⟩ := one_more nl l0 l9
  obtain ⟨wx, ex⟩ := wide nx (by grind) (by grind)
  obtain ⟨wb, eb⟩ := wide nb (by grind) (by grind)
  obtain ⟨c1, c2, c3⟩ := fifty64
  generalize hgs : fop .add .f64 4607182418800017408 (fcv .f32 .f64 lw) = s at *
  have p1 := Rat.mul_nonneg (a := R .f64 4581421828931458171 - 19 / 1000) (b := R .f64 s) (by grind) (by grind)
  obtain ⟨p2, p3⟩ := mul_up (x := R .f64 4581421828931458171) (y := R .f64 s) (B := 1) (C := 10) (by grind) (by grind) (by grind) (by grind)
  have q2 := rnd_mul c1 n1 (by grind) (by grind)
  have f2 := q2.n64 4 (by decide) (B := 16) rfl (by grind) (by grind)
  obtain ⟨g1, g2, g3⟩ := gap_facts wx wb (by rw [ex]; grind) (by rw [ex]; grind) (by rw [eb]; grind) (by rw [eb]; grind)
  have g4 := g2 (2 / 100) (by rw [ex, eb]; grind) (by rw [ex, eb]; grind)
  subst hgs
  refine ⟨wx, wb, g3, n1, q2.num, ?_⟩
  rw [lt_R g1 q2.num]
  exact decide_eq_true (by grind)
end Go.Fl
