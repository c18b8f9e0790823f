/- Arcs: neighbours of the law's points are apart. Plain Lean. Arcs: all that the law's walk wants of the arc, the places, the circle. Plain Lean. Arcs: the law's tests. Plain Lean. Arcs: all that the law's walk wants, joined. Plain Lean. Arcs: sums and differences of points, b10Gap, walked. -/
import Derived.Test.YtkbikfifnaihlaaArJe
import Derived.Test.YtkbikfifnaihlaaGLoop
import Derived.Test.YtkbikfifnaihlaaQApp
import Derived.Test.YtkbikfifnaihlaaBAt
namespace Go.Fl
open Ieee Go.RowKit
theorem long_wide {z : Cx} (h : nN z) (x1 : -9 ≤ R .f32 z.1) (x2 : R .f32 z.1 ≤ 9) (y1 : -9 ≤ R .f32 z.2) (y2 : R .f32 z.2 ≤ 9) (lo : 1 / 100 ≤ R .f32 z.1 * R .f32 z.1 + R .f32 z.2 * R .f32 z.2) (hi : R .f32 z.1 * R .f32 z.1 + R .f32 z.2 * R .f32 z.2 ≤ 63) : LongN z ∧ 0 < R .f32 (longF z) := by
  have hp := pow_near h (by grind) (by grind) (by grind) (by grind)
  have hge := hp.ge
  have hle := hp.le
  have h0 : 0 < R .f64 (powF z) := by grind
  obtain ⟨r, hr, hn, s, s0, s1, s2, s3, s4⟩ := root64 hp.num h0 (by grind)
  have hs : sqrtK (powF z) = r := by unfold sqrtK; rw [hr]; rfl
  have sb : s ≤ 795 / 100 := sq_lt (by grind) (by grind)
  have sl : 9 / 100 ≤ s := by
    refine Rat.not_lt.1 fun k => ?_
    have := Rat.mul_pos (a := 91 / 1000 - (s + 1 / 1099511627776)) (b := 91 / 1000 + (s + 1 / 1099511627776)) (by grind) (by grind)
    grind
  have hnr := narrow hn (by grind) (by grind)
  have f := hnr.n32 3 (by decide) (B := 8) rfl (by grind) (by grind)
  have hl : longF z = fcv .f64 .f32 r := by unfold longF; rw [hs]
  refine ⟨⟨hp, by rw [hs]; exact hr, by rw [hs]; exact hn, by rw [hl]; exact hnr.num, ⟨s, s0, by grind, ?_, by rw [hl]; grind, by rw [hl]; grind⟩, by rw [hl]; exact hnr.nn32 (by grind)⟩, by rw [hl]; grind⟩
  have : 0 ≤ 2 * s * (1 / 1000000000000 - 1 / 1099511627776) := Rat.mul_nonneg (by grind) (by grind)
  grind
def chordQ (a b : Nat) : Rat := (cosT b - cosT a) * (cosT b - cosT a) + (sinT b - sinT a) * (sinT b - sinT a)
theorem chord_tab : (List.range 16).all (fun a => (List.range 8).all fun k => decide (k < 2) || (decide (58 / 100 ≤ chordQ a (jAt true a k)) && decide (chordQ a (jAt true a k) ≤ 385 / 100) && decide (58 / 100 ≤ chordQ a (jAt false a k)) && decide (chordQ a (jAt false a k) ≤ 385 / 100))) = true := by decide +kernel
theorem chord_at {up : Bool} {a k : Nat} (ha : a < 16) (h2 : 2 ≤ k) (h7 : k ≤ 7) : 58 / 100 ≤ chordQ a (jAt up a k) ∧ chordQ a (jAt up a k) ≤ 385 / 100 := by
  have := List.all_eq_true.1 (List.all_eq_true.1 chord_tab a (List.mem_range.2 ha)) k (List.mem_range.2 (by omega))
  have n : ¬ k < 2 := by omega
  simp only [n, decide_false, Bool.false_or, Bool.and_eq_true, decide_eq_true_eq] at this
  obtain ⟨⟨⟨a, b⟩, c⟩, d⟩ := this
  cases up
  · exact ⟨c, d⟩
  · exact ⟨a, b⟩
theorem sq_near {p d e : Rat} (h1 : -(5 / 1000000) ≤ p - d) (h2 : p - d ≤ 5 / 1000000) (d1 : -(21 / 10) ≤ d) (d2 : d ≤ 21 / 10) : -(22 / 1000000) ≤ p * p - d * d ∧ p * p - d * d ≤ 22 / 1000000 := by
  have a := mul_bd h1 h2 d1 d2
  have b := mul_bd h1 h2 h1 h2
  constructor <;> grind
/-- two neighbours of a circle's points are apart -/
theorem seg_arc {s x y : Rat} {P Q : Cx} {a k : Nat} (up : Bool) (hs1 : 1 / 2 ≤ s) (hs2 : s ≤ 4) (ha : a < 16) (h2 : 2 ≤ k) (h7 : k ≤ 7) (hP : Plc s x y (cosT a) (sinT a) (22 / 10000000) P) (hQ : Plc s x y (cosT (jAt up a k)) (sinT (jAt up a k)) (22 / 10000000) Q) : SegP P Q := by
  obtain ⟨c1, c2⟩ := chord_at (up := up) ha h2 h7
  have ua := unitT ha
  have ub := unitT (jAt_lt up a k)
  obtain ⟨p1, p2, hp1, hp2, d1, d2, b1, b2⟩ := diff_H (s := s) (by grind) (by grind) (by decide +kernel) (by decide +kernel) ua ub hP hQ
  have e5 : (2 * (22 / 10000000) + 6 / 10000000 : Rat) = 5 / 1000000 := by decide +kernel
  rw [e5] at d1 d2
  obtain ⟨u1, u2⟩ := ua.bd
  obtain ⟨v1, v2⟩ := ub.bd
  have q1 := sq_near (e := 0) d1.1 d1.2 (by grind) (by grind)
  have q2 := sq_near (e := 0) d2.1 d2.2 (by grind) (by grind)
  unfold chordQ at c1 c2
  obtain ⟨W, hW⟩ : ∃ W, W = p1 * p1 + p2 * p2 := ⟨_, rfl⟩
  have w1 : 57 / 100 ≤ W ∧ W ≤ 386 / 100 := by rw [hW]; constructor <;> grind
  clear q1 q2 c1 c2 u1 u2 v1 v2 d1 d2 ua ub
  have ss : 1 / 4 ≤ s * s ∧ s * s ≤ 16 := by
    have := Rat.mul_nonneg (a := s - 1 / 2) (b := s + 1 / 2) (by grind) (by grind)
    have := Rat.mul_nonneg (a := 4 - s) (b := s + 4) (by grind) (by grind)
    constructor <;> grind
  have m1 := mul_bd (x := s) (y := p1) (B := 4) (C := 21 / 10) (by grind) hs2 b1.1 b1.2
  have m2 := mul_bd (x := s) (y := p2) (B := 4) (C := 21 / 10) (by grind) hs2 b2.1 b2.2
  have n1 := Rat.mul_nonneg (a := s * s - 1 / 4) (b := W - 57 / 100) (by grind) (by grind)
  have n2 := Rat.mul_nonneg (a := 16 - s * s) (b := W) (by grind) (by grind)
  have eW : s * p1 * (s * p1) + s * p2 * (s * p2) = s * s * W := by rw [hW]; grind
  have hn : nN (minusF Q P) := ⟨hp1.1, hp2.1⟩
  obtain ⟨hl, h0⟩ := long_wide hn (by rw [hp1.2]; grind) (by rw [hp1.2]; grind) (by rw [hp2.2]; grind) (by rw [hp2.2]; grind) (by rw [hp1.2, hp2.2, eW]; grind) (by rw [hp1.2, hp2.2, eW]; grind)
  exact ⟨hn, hl, h0⟩
/-- two neighbours of a line's points are apart -/
theorem seg_line {m w : Cx} {j k : Nat} (hj : j < 16) (hm : nN m) (x1 : -2 ≤ R .f32 m.1) (x2 : R .f32 m.1 ≤ 2) (y1 : -2 ≤ R .f32 m.2) (y2 : R .f32 m.2 ≤ 2) (hw : Wy w j) (hk : k ≤ 5) : SegP (lnP m w k) (lnP m w (k + 1)) := by
  obtain ⟨⟨a1, a2⟩, b1, b2⟩ := hw.bd hj
  obtain ⟨_, p0, p1, p2⟩ := ln_one (k := k) hm.1 hw.n.1 x1 x2 a1 a2 (by omega)
  obtain ⟨_, q0, q1, q2⟩ := ln_one (k := k + 1) hm.1 hw.n.1 x1 x2 a1 a2 (by omega)
  obtain ⟨_, r0, r1, r2⟩ := ln_one (k := k) hm.2 hw.n.2 y1 y2 b1 b2 (by omega)
  obtain ⟨_, t0, t1, t2⟩ := ln_one (k := k + 1) hm.2 hw.n.2 y1 y2 b1 b2 (by omega)
  rw [qJ_succ] at q1 q2 t1 t2
  obtain ⟨P, hP⟩ : ∃ P, P = lnP m w k := ⟨_, rfl⟩
  obtain ⟨Q, hQ⟩ : ∃ Q, Q = lnP m w (k + 1) := ⟨_, rfl⟩
  have e1 : fop .add .f32 m.1 (fop .mul .f32 w.1 (floatOfInt .f32 k)) = P.1 := by rw [hP]; rfl
  have e2 : fop .add .f32 m.1 (fop .mul .f32 w.1 (floatOfInt .f32 ((k + 1 : Nat) : Int))) = Q.1 := by rw [hQ]; rfl
  have e3 : fop .add .f32 m.2 (fop .mul .f32 w.2 (floatOfInt .f32 k)) = P.2 := by rw [hP]; rfl
  have e4 : fop .add .f32 m.2 (fop .mul .f32 w.2 (floatOfInt .f32 ((k + 1 : Nat) : Int))) = Q.2 := by rw [hQ]; rfl
  rw [e1] at p0 p1 p2
  rw [e2] at q0 q1 q2
  rw [e3] at r0 r1 r2
  rw [e4] at t0 t1 t2
  rw [← hP, ← hQ]
  clear e1 e2 e3 e4 hP hQ
  have k0 := qJ_nn k
  have k5 := qJ_le hk
  have e5 : qJ 5 = 5 := rfl
  rw [e5] at k5
  have z1 : -(6 / 1000000) ≤ R .f32 Q.1 - R .f32 P.1 - R .f32 w.1 ∧ R .f32 Q.1 - R .f32 P.1 - R .f32 w.1 ≤ 6 / 1000000 := by constructor <;> grind
  have z2 : -(6 / 1000000) ≤ R .f32 Q.2 - R .f32 P.2 - R .f32 w.2 ∧ R .f32 Q.2 - R .f32 P.2 - R .f32 w.2 ≤ 6 / 1000000 := by constructor <;> grind
  have f1 := rnd_sub q0 p0 (by grind) (by grind)
  have f2 := rnd_sub t0 r0 (by grind) (by grind)
  have g1 := f1.n32 1 (by decide) (B := 2) rfl (by grind) (by grind)
  have g2 := f2.n32 1 (by decide) (B := 2) rfl (by grind) (by grind)
  have hn : nN (minusF Q P) := ⟨f1.num, f2.num⟩
  have hu := unitT hj
  have hc := hw.c
  have hs := hw.s
  have i1 : -(8 / 1000000) ≤ R .f32 (minusF Q P).1 - cosT j ∧ R .f32 (minusF Q P).1 - cosT j ≤ 8 / 1000000 := by
    constructor
    · show _ ≤ R .f32 (fop .sub .f32 Q.1 P.1) - _; grind
    · show R .f32 (fop .sub .f32 Q.1 P.1) - _ ≤ _; grind
  have i2 : -(8 / 1000000) ≤ R .f32 (minusF Q P).2 - sinT j ∧ R .f32 (minusF Q P).2 - sinT j ≤ 8 / 1000000 := by
    constructor
    · show _ ≤ R .f32 (fop .sub .f32 Q.2 P.2) - _; grind
    · show R .f32 (fop .sub .f32 Q.2 P.2) - _ ≤ _; grind
  obtain ⟨u1, u2⟩ := hu.bd
  obtain ⟨h1, h2⟩ := hu
  clear z1 z2 f1 f2 g1 g2 p1 p2 q1 q2 r1 r2 t1 t2 hc hs k0 k5
  obtain ⟨X, hX⟩ : ∃ X, X = R .f32 (minusF Q P).1 := ⟨_, rfl⟩
  obtain ⟨Y, hY⟩ : ∃ Y, Y = R .f32 (minusF Q P).2 := ⟨_, rfl⟩
  have m1 := mul_bd (x := X - cosT j) (y := X + cosT j) (B := 8 / 1000000) (C := 3) (by grind) (by grind) (by grind) (by grind)
  have m2 := mul_bd (x := Y - sinT j) (y := Y + sinT j) (B := 8 / 1000000) (C := 3) (by grind) (by grind) (by grind) (by grind)
  obtain ⟨hl, h0⟩ := long_wide hn (by grind) (by grind) (by grind) (by grind) (by rw [← hX, ← hY]; grind) (by rw [← hX, ← hY]; grind)
  exact ⟨hn, hl, h0⟩
end Go.Fl

namespace Go.Fl
open Ieee Go.RowKit
def mdL (A B : Nat) : Cx := (miF A, miF B)
def phL (up : Bool) (j t k : Nat) : Cx := phF denS (argF up j t k)
def ptL (A B b j t : Nat) (up : Bool) (k : Nat) : Cx := plusF (mdL A B) (scaleF (phL up j t k) (roundF b))
def shF (k : Nat) : Nat := fop .quo .f32 (floatOfInt .f32 ((k : Nat) : Int)) 1073741824
theorem sh_tab : (List.range 3).all (fun k => isN .f32 (shF k) && decide (R .f32 (shF k) = qJ k / 2)) = true := by decide +kernel
theorem shN {k : Nat} (h : k < 3) : isN .f32 (shF k) = true ∧ R .f32 (shF k) = qJ k / 2 := by
  have := List.all_eq_true.1 sh_tab k (List.mem_range.2 h)
  simpa only [Bool.and_eq_true, decide_eq_true_eq] using this
/-- the law's points -/
structure PtsL (A B b j t : Nat) (up : Bool) : Prop where
  m : nN (mdL A B)
  m1 : -2 ≤ R .f32 (miF A)
  m2 : R .f32 (miF A) ≤ 2
  m3 : -2 ≤ R .f32 (miF B)
  m4 : R .f32 (miF B) ≤ 2
  r : RoN b
  tu : TuN up t
  arg : ∀ k, k < 3 → ArgN up j t k
  ph : ∀ k, k < 3 → PhN denS (argF up j t k)
  sc : ∀ k, k < 3 → nN (scaleF (phL up j t k) (roundF b))
  pt : ∀ k, k < 3 → nN (ptL A B b j t up k)
  plc : ∀ k, k < 3 → Plc (R .f32 (roundF b)) (R .f32 (miF A)) (R .f32 (miF B)) (cosT (jAt up j (k * (2 + t)))) (sinT (jAt up j (k * (2 + t)))) (22 / 10000000) (ptL A B b j t up k)
theorem ptsL {A B b j t : Nat} (up : Bool) (hA : A < 17) (hB : B < 17) (hb : b < 15) (hj : j < 16) (ht : t < 6) : PtsL A B b j t up := by
  have a := miN hA
  have a' := miN hB
  have r := roN hb
  have lo := r.lo
  have hi := r.hi
  have main : ∀ k, k < 3 → PhN denS (argF up j t k) ∧ nN (scaleF (phL up j t k) (roundF b)) ∧ nN (ptL A B b j t up k) ∧ Plc (R .f32 (roundF b)) (R .f32 (miF A)) (R .f32 (miF B)) (cosT (jAt up j (k * (2 + t)))) (sinT (jAt up j (k * (2 + t)))) (22 / 10000000) (ptL A B b j t up k) := fun k hk => by
    have g := argN (up := up) hj ht hk
    obtain ⟨n, hn⟩ := g.v
    obtain ⟨p1, p2⟩ := ph_t (jAt_lt up j (k * (2 + t))) g.n g.lo g.hi hn
    have q := point_plc (m := mdL A B) (p := phL up j t k) (jAt_lt up j (k * (2 + t))) (s := R .f32 (roundF b)) (x := R .f32 (miF A)) (y := R .f32 (miF B)) (by grind) hi r.n rfl ⟨a.n, a'.n⟩ rfl rfl (by have := a.lo; grind) (by have := a.hi; grind) (by have := a'.lo; grind) (by have := a'.hi; grind) p2.n p2.c p2.s
    exact ⟨p1, q.1, q.2.1, q.2.2⟩
  exact ⟨⟨a.n, a'.n⟩, a.lo, a.hi, a'.lo, a'.hi, r, tuN up ht, fun k hk => argN hj ht hk, fun k hk => (main k hk).1, fun k hk => (main k hk).2.1, fun k hk => (main k hk).2.2.1, fun k hk => (main k hk).2.2.2⟩
end Go.Fl

namespace Go.Fl
open Ieee Go.RowKit
def fourD : Nat := 4616189618054758400
theorem fourD_R : isN .f64 fourD = true ∧ R .f64 fourD = 4 := by
  have q : Q .f64 fourD 4 0 := ⟨by decide +kernel, by decide +kernel, by decide⟩
  exact ⟨q.num, by rw [q.R]; decide +kernel⟩
/-- a gap from nothing -/
theorem gap_zero {a : Nat} (ha : isN .f64 a = true) (a1 : -10000 ≤ R .f64 a) (a2 : R .f64 a ≤ 10000) :
    isN .f64 (gapF a 0) = true ∧ isN .f64 (if R .f64 a < R .f64 0 then fop .sub .f64 0 a else fop .sub .f64 a 0) = true ∧ (0 ≤ R .f64 a → -(1 / 1000000) ≤ R .f64 (gapF a 0) - R .f64 a ∧ R .f64 (gapF a 0) - R .f64 a ≤ 1 / 1000000) ∧ (R .f64 a ≤ 0 → -(1 / 1000000) ≤ R .f64 (gapF a 0) + R .f64 a ∧ R .f64 (gapF a 0) + R .f64 a ≤ 1 / 1000000) := by
  obtain ⟨z0, z⟩ := zero64_N
  unfold gapF
  split
  · rename_i hlt
    rw [z] at hlt
    have h := rnd_sub z0 ha (by grind) (by grind)
    have f := h.n64 15 (by decide) (B := 32768) rfl (by grind) (by grind)
    exact ⟨h.num, h.num, fun k => by grind, fun k => by constructor <;> grind⟩
  · rename_i hlt
    rw [z] at hlt
    have h := rnd_sub ha z0 (by grind) (by grind)
    have f := h.n64 15 (by decide) (B := 32768) rfl (by grind) (by grind)
    exact ⟨h.num, h.num, fun k => by constructor <;> grind, fun k => by constructor <;> grind⟩
theorem jAt_0 (up : Bool) {j : Nat} (h : j < 16) : jAt up j 0 = j := by unfold jAt; cases up <;> simp <;> omega
/-- the middle of a circle that was found is near -/
theorem near_mid {s x y c : Rat} {e : Rat} {m z : Cx} (hs : 0 ≤ s) (hs2 : s ≤ 4) (h : Plc s x y 0 0 e m) (hz : nN z) (hx : R .f32 z.1 = x) (hy : R .f32 z.2 = y) (e0 : 0 ≤ e) (he : 4 * e ≤ c) (c0 : 1 / 1000 ≤ c) (c1 : c ≤ 1 / 100) :
    nN (minusF m z) ∧ LongN (minusF m z) ∧ R .f32 (longF (minusF m z)) ≤ 15 / 10 * c + 2 / 1000000 := by
  have q := Rat.mul_nonneg (a := 4 - s) (b := e) (by grind) e0
  have p1 := h.x1
  have p2 := h.x2
  have p3 := h.y1
  have p4 := h.y2
  rw [← hx] at p1 p2
  rw [← hy] at p3 p4
  exact dist_le h.n hz c0 c1 (by grind) (by grind) (by grind) (by grind)
/-- the tests of the arc -/
structure ArcT (m : Cx) (r t : Nat) (md : Cx) (ro tu : Nat) : Prop where
  d : nN (minusF m md)
  l : LongN (minusF m md)
  t1 : NumT (longF (minusF m md)) c01
  wr : isN .f64 (fcv .f32 .f64 r) = true
  wo : isN .f64 (fcv .f32 .f64 ro) = true
  t2 : GapT (fcv .f32 .f64 r) (fcv .f32 .f64 ro) c01
  wt : isN .f64 (fcv .f32 .f64 t) = true
  wu : isN .f64 (fcv .f32 .f64 tu) = true
  p : isN .f64 (fop .mul .f64 twoB (fcv .f32 .f64 tu)) = true
  t3 : GapT (fcv .f32 .f64 t) (fop .mul .f64 twoB (fcv .f32 .f64 tu)) c01
theorem sg_bd {up : Bool} {k : Nat} (h7 : k ≤ 7) : -7 ≤ sgQ up k ∧ sgQ up k ≤ 7 := by
  have a := qJ_le h7
  have e7 : qJ 7 = 7 := rfl
  rw [e7] at a
  have b := qJ_nn k
  unfold sgQ
  cases up <;> simp <;> constructor <;> grind
theorem arc_tests {b t : Nat} {up : Bool} {x y : Rat} {a k : Nat} {m md : Cx} {r f tt : Nat} (hb : b < 15) (ht : t < 6) (hk : k = 2 + t) (hm : nN md) (hx : R .f32 md.1 = x) (hy : R .f32 md.2 = y) (V : ArcV (R .f32 (roundF b)) x y up a k m r f tt) : ArcT m r tt md (roundF b) (tuF up t) := by
  have ro := roN hb
  have tu := tuN up ht
  obtain ⟨s, hs⟩ : ∃ s, s = R .f32 (roundF b) := ⟨_, rfl⟩
  have s1 := ro.lo
  have s2 := ro.hi
  rw [← hs] at s1 s2 V
  obtain ⟨d, l, hl⟩ := near_mid (c := 1 / 1000) (by grind) s2 V.mid hm hx hy (by decide +kernel) (by decide +kernel) (by decide +kernel) (by decide +kernel)
  have hl0 := l.nn
  obtain ⟨v, hv, v1, v2⟩ := V.rd
  have d1 := mul_bd (x := s) (y := v - 1) (B := 4) (C := 42 / 100000) (by grind) s2 v1 v2
  have hr := hv.2
  obtain ⟨wr, er⟩ := wide V.rn (by grind) (by grind)
  obtain ⟨wo, eo⟩ := wide ro.n (by grind) (by grind)
  obtain ⟨nA, eA, eC, hf, A, C, T1, T2⟩ := V.fr
  have sb := sg_bd (up := up) (k := k) (by omega)
  obtain ⟨wt, et⟩ := wide V.tn (by grind) (by grind)
  have hu := tu.v
  rw [← hk] at hu
  obtain ⟨wu, eu⟩ := wide tu.n (by grind) (by grind)
  obtain ⟨n2, e2a, e2b⟩ := two_In
  have e22 : R .f64 twoB = 2 := Rat.le_antisymm e2b e2a
  have rp := rnd_mul n2 wu (by rw [e22]; grind) (by rw [e22]; grind)
  rw [e22] at rp
  have fp := rp.n64 1 (by decide) (B := 2) rfl (by grind) (by grind)
  have k1 := c01_R
  refine ⟨d, l, ?_, wr, wo, ?_, wt, wu, rp.num, ?_⟩
  · exact num_t l.num k1.1 (by grind) hl (by decide +kernel) (by have := k1.2; grind)
  · exact gap_t (e := 2 / 1000) wr wo k1.1 (by grind) (by grind) (by grind) (by grind) (by grind) (by grind) (by have := k1.2; grind)
  · exact gap_t (e := 1 / 1000) wt rp.num k1.1 (by grind) (by grind) (by grind) (by grind) (by grind) (by grind) (by have := k1.2; grind)
/-- the test of the arc's length -/
def lgW (ro tu : Nat) : Nat := fop .mul .f64 (fop .mul .f64 (fop .mul .f64 full64 (fcv .f32 .f64 ro)) twoB) (gapF (fcv .f32 .f64 tu) 0)
structure LgT (r t ro tu : Nat) : Prop where
  n : LgN r t
  w : isN .f64 (fcv .f32 .f64 (lgF r t)) = true
  wo : isN .f64 (fcv .f32 .f64 ro) = true
  wu : isN .f64 (fcv .f32 .f64 tu) = true
  a : isN .f64 (fop .mul .f64 full64 (fcv .f32 .f64 ro)) = true
  b : isN .f64 (fop .mul .f64 (fop .mul .f64 full64 (fcv .f32 .f64 ro)) twoB) = true
  g : isN .f64 (if R .f64 (fcv .f32 .f64 tu) < R .f64 0 then fop .sub .f64 0 (fcv .f32 .f64 tu) else fop .sub .f64 (fcv .f32 .f64 tu) 0) = true
  c : isN .f64 (lgW ro tu) = true
  t : GapT (fcv .f32 .f64 (lgF r t)) (lgW ro tu) c10
theorem lg_tests {b t : Nat} {up : Bool} {x y : Rat} {a k : Nat} {m : Cx} {r f tt : Nat} (hb : b < 15) (ht : t < 6) (hk : k = 2 + t) (V : ArcV (R .f32 (roundF b)) x y up a k m r f tt) : LgT r tt (roundF b) (tuF up t) := by
  have ro := roN hb
  have tu := tuN up ht
  obtain ⟨s, hs⟩ : ∃ s, s = R .f32 (roundF b) := ⟨_, rfl⟩
  have s1 := ro.lo
  have s2 := ro.hi
  have rn := ro.n
  rw [← hs] at s1 s2 V
  obtain ⟨hn, h1, h2⟩ := lg_near (by omega) (by omega) (by grind) s2 V
  clear V ro
  have k2 := qJ_le (show 2 ≤ k by omega)
  have k7 := qJ_le (show k ≤ 7 by omega)
  have e2 : qJ 2 = 2 := rfl
  have e7 : qJ 7 = 7 := rfl
  rw [e2] at k2
  rw [e7] at k7
  obtain ⟨q, hq⟩ : ∃ q, q = qJ k := ⟨_, rfl⟩
  have hu := tu.v
  rw [← hk] at hu
  have hu' : (R .f32 (tuF up t) = q / 16 ∨ R .f32 (tuF up t) = -(q / 16)) := by
    rw [hu, hq]; unfold sgQ; cases up
    · right; simp; grind
    · left; simp
  rw [← hq] at k2 k7 h1 h2
  clear hu
  obtain ⟨wo, eo⟩ := wide rn (by grind) (by grind)
  obtain ⟨wu, eu⟩ := wide tu.n (by rcases hu' with e | e <;> rw [e] <;> grind) (by rcases hu' with e | e <;> rw [e] <;> grind)
  obtain ⟨g0, g1, g2, g3⟩ := gap_zero wu (by rw [eu]; rcases hu' with e | e <;> rw [e] <;> grind) (by rw [eu]; rcases hu' with e | e <;> rw [e] <;> grind)
  have hg : -(1 / 1000000) ≤ R .f64 (gapF (fcv .f32 .f64 (tuF up t)) 0) - q / 16 ∧ R .f64 (gapF (fcv .f32 .f64 (tuF up t)) 0) - q / 16 ≤ 1 / 1000000 := by
    rw [eu] at g2 g3
    rcases hu' with e | e
    · rw [e] at g2; have := g2 (by grind); exact this
    · rw [e] at g3; have := g3 (by grind); grind
  clear g2 g3 hu' eu
  obtain ⟨f0, f1⟩ := full64_R
  obtain ⟨n2, e2a, e2b⟩ := two_In
  have e22 : R .f64 twoB = 2 := Rat.le_antisymm e2b e2a
  rw [← hs] at eo
  have r1 := rnd_mul f0 wo (by rw [f1, eo]; grind) (by rw [f1, eo]; grind)
  rw [f1, eo] at r1
  have p1 := r1.n64 5 (by decide) (B := 32) rfl (by grind) (by grind)
  obtain ⟨A, hA⟩ : ∃ A, A = fop .mul .f64 full64 (fcv .f32 .f64 (roundF b)) := ⟨_, rfl⟩
  rw [← hA] at r1 p1
  have r2 := rnd_mul r1.num n2 (by rw [e22]; grind) (by rw [e22]; grind)
  rw [e22] at r2
  have p2 := r2.n64 6 (by decide) (B := 64) rfl (by grind) (by grind)
  obtain ⟨C, hC⟩ : ∃ C, C = fop .mul .f64 A twoB := ⟨_, rfl⟩
  rw [← hC] at r2 p2
  obtain ⟨G, hG⟩ : ∃ G, G = gapF (fcv .f32 .f64 (tuF up t)) 0 := ⟨_, rfl⟩
  rw [← hG] at g0 hg
  have rC : -(1 / 1000000) ≤ R .f64 C - 13176795 / 1048576 * s ∧ R .f64 C - 13176795 / 1048576 * s ≤ 1 / 1000000 := by
    constructor <;> grind
  have m1 := mul_bd (x := R .f64 C) (y := R .f64 G - q / 16) (B := 60) (C := 1 / 1000000) (by grind) (by grind) hg.1 hg.2
  have m2 := mul_bd (x := R .f64 C - 13176795 / 1048576 * s) (y := q / 16) (B := 1 / 1000000) (C := 1) rC.1 rC.2 (by grind) (by grind)
  have m3 := mul_bd (x := s) (y := q) (B := 4) (C := 7) (by grind) s2 (by grind) k7
  have key : R .f64 C * R .f64 G - 13176795 / 2097152 * s * (q / 8) = R .f64 C * (R .f64 G - q / 16) + (R .f64 C - 13176795 / 1048576 * s) * (q / 16) := by grind
  have r3 := rnd_mul r2.num g0 (by grind) (by grind)
  have p3 := r3.n64 6 (by decide) (B := 64) rfl (by grind) (by grind)
  have eW : fop .mul .f64 C G = lgW (roundF b) (tuF up t) := by rw [hC, hA, hG]; rfl
  rw [eW] at r3 p3
  obtain ⟨w, ew⟩ := wide hn.l (by grind) (by grind)
  have k1 := c10_R
  refine ⟨hn, w, wo, wu, by rw [← hA]; exact r1.num, by rw [← hA, ← hC]; exact r2.num, g1, r3.num, ?_⟩
  exact gap_t (e := 4 / 100) w r3.num k1.1 (by grind) (by grind) (by grind) (by grind) (by grind) (by grind) (by have := k1.2; grind)
/-- the tests of the circle that was found -/
structure FitT (z : Cx) (r : Nat) (md : Cx) (ro : Nat) : Prop where
  rn : isN .f32 r = true
  d : nN (minusF z md)
  l : LongN (minusF z md)
  t1 : NumT (longF (minusF z md)) c02
  wr : isN .f64 (fcv .f32 .f64 r) = true
  wo : isN .f64 (fcv .f32 .f64 ro) = true
  t2 : GapT (fcv .f32 .f64 r) (fcv .f32 .f64 ro) c02
theorem fit_tests {b : Nat} {x y : Rat} {z md : Cx} {r : Nat} (hb : b < 15) (hm : nN md) (hx : R .f32 md.1 = x) (hy : R .f32 md.2 = y) (hz : Plc (R .f32 (roundF b)) x y 0 0 (163 / 100000) z) (hr : ∃ v, H r (R .f32 (roundF b)) v ∧ -(346 / 100000) ≤ v - 1 ∧ v - 1 ≤ 346 / 100000) : FitT z r md (roundF b) := by
  have ro := roN hb
  obtain ⟨s, hs⟩ : ∃ s, s = R .f32 (roundF b) := ⟨_, rfl⟩
  have s1 := ro.lo
  have s2 := ro.hi
  rw [← hs] at s1 s2 hz hr
  obtain ⟨d, l, hl⟩ := near_mid (c := 7 / 1000) (by grind) s2 hz hm hx hy (by decide +kernel) (by decide +kernel) (by decide +kernel) (by decide +kernel)
  have hl0 := l.nn
  obtain ⟨v, hv, v1, v2⟩ := hr
  have d1 := mul_bd (x := s) (y := v - 1) (B := 4) (C := 346 / 100000) (by grind) s2 v1 v2
  have hr := hv.2
  obtain ⟨wr, er⟩ := wide hv.1 (by grind) (by grind)
  obtain ⟨wo, eo⟩ := wide ro.n (by grind) (by grind)
  have k2 := c02_R
  refine ⟨hv.1, d, l, ?_, wr, wo, ?_⟩
  · exact num_t l.num k2.1 (by grind) hl (by decide +kernel) (by have := k2.2; grind)
  · exact gap_t (e := 14 / 1000) wr wo k2.1 (by grind) (by grind) (by grind) (by grind) (by grind) (by grind) (by have := k2.2; grind)
/-- the tests of the corner -/
structure CoT (m : Cx) (r : Nat) (ro : Nat) : Prop where
  mn : nN m
  rn : isN .f32 r = true
  wr : isN .f64 (fcv .f32 .f64 r) = true
  wo : isN .f64 (fcv .f32 .f64 ro) = true
  q : isN .f64 (fop .quo .f64 (fcv .f32 .f64 ro) fourD) = true
  t2 : GapT (fcv .f32 .f64 r) (fop .quo .f64 (fcv .f32 .f64 ro) fourD) c01
  qr : isN .f32 (fop .quo .f32 ro fourB) = true
  d : nN (minusF m (fop .quo .f32 ro fourB, fop .quo .f32 ro fourB))
  l : LongN (minusF m (fop .quo .f32 ro fourB, fop .quo .f32 ro fourB))
  t1 : NumT (longF (minusF m (fop .quo .f32 ro fourB, fop .quo .f32 ro fourB))) c01
theorem co_tests {b : Nat} {up : Bool} {a k : Nat} {m : Cx} {r f tt : Nat} (hb : b < 15) (V : ArcV (R .f32 (radF b)) (R .f32 (radF b)) (R .f32 (radF b)) up a k m r f tt) : CoT m r (roundF b) := by
  have ro := roN hb
  have hq := ro.q
  obtain ⟨s, hs⟩ : ∃ s, s = R .f32 (radF b) := ⟨_, rfl⟩
  have s1 := ro.lo
  have s2 := ro.hi
  have hrn : isN .f32 (radF b) = true := (coR hb).rn
  rw [← hs] at V hq
  obtain ⟨v, hv, v1, v2⟩ := V.rd
  obtain ⟨d, l, hl⟩ := near_mid (c := 1 / 1000) (z := (radF b, radF b)) (by grind) (by grind) V.mid ⟨hrn, hrn⟩ hs.symm hs.symm (by decide +kernel) (by decide +kernel) (by decide +kernel) (by decide +kernel)
  have hl0 := l.nn
  have d1 := mul_bd (x := s) (y := v - 1) (B := 1) (C := 42 / 100000) (by grind) (by grind) v1 v2
  have hr := hv.2
  obtain ⟨wr, er⟩ := wide V.rn (by grind) (by grind)
  obtain ⟨wo, eo⟩ := wide ro.n (by grind) (by grind)
  obtain ⟨f0, f1⟩ := fourD_R
  have rq := rnd_div (q := s) wo f0 (by rw [f1]; grind) (by rw [f1, eo, hq]; grind) (by grind) (by grind)
  have fq := rq.n64 0 (by decide) (B := 1) rfl (by grind) (by grind)
  have k1 := c01_R
  refine ⟨V.mid.n, V.rn, wr, wo, rq.num, ?_, hrn, d, l, ?_⟩
  · exact gap_t (e := 1 / 1000) wr rq.num k1.1 (by grind) (by grind) (by grind) (by grind) (by grind) (by grind) (by have := k1.2; grind)
  · exact num_t (x := longF (minusF m (radF b, radF b))) l.num k1.1 (by grind) hl (by decide +kernel) (by have := k1.2; grind)
/-- the line's direction across the way, and its middle beside the way -/
def crW (w l : Cx) : Nat := fop .sub .f64 (fop .mul .f64 (fcv .f32 .f64 w.1) (fcv .f32 .f64 l.2)) (fop .mul .f64 (fcv .f32 .f64 w.2) (fcv .f32 .f64 l.1))
structure CrT (w l : Cx) : Prop where
  wn : nN w
  ln : nN l
  w1 : isN .f64 (fcv .f32 .f64 w.1) = true
  w2 : isN .f64 (fcv .f32 .f64 w.2) = true
  l1 : isN .f64 (fcv .f32 .f64 l.1) = true
  l2 : isN .f64 (fcv .f32 .f64 l.2) = true
  a : isN .f64 (fop .mul .f64 (fcv .f32 .f64 w.1) (fcv .f32 .f64 l.2)) = true
  b : isN .f64 (fop .mul .f64 (fcv .f32 .f64 w.2) (fcv .f32 .f64 l.1)) = true
  c : isN .f64 (crW w l) = true
  t : GapT (crW w l) 0 c01
theorem cr_test {w l : Cx} (hw : nN w) (hl : nN l) (w1 : -2 ≤ R .f32 w.1) (w2 : R .f32 w.1 ≤ 2) (w3 : -2 ≤ R .f32 w.2) (w4 : R .f32 w.2 ≤ 2) (l1 : -4 ≤ R .f32 l.1) (l2 : R .f32 l.1 ≤ 4) (l3 : -4 ≤ R .f32 l.2) (l4 : R .f32 l.2 ≤ 4)
    (h1 : -(8 / 1000) ≤ R .f32 w.1 * R .f32 l.2 - R .f32 w.2 * R .f32 l.1) (h2 : R .f32 w.1 * R .f32 l.2 - R .f32 w.2 * R .f32 l.1 ≤ 8 / 1000) : CrT w l := by
  obtain ⟨n1, e1⟩ := wide hw.1 (by grind) (by grind)
  obtain ⟨n2, e2⟩ := wide hw.2 (by grind) (by grind)
  obtain ⟨n3, e3⟩ := wide hl.1 (by grind) (by grind)
  obtain ⟨n4, e4⟩ := wide hl.2 (by grind) (by grind)
  have b1 := mul_bd w1 w2 l3 l4
  have b2 := mul_bd w3 w4 l1 l2
  have r1 := rnd_mul n1 n4 (by rw [e1, e4]; grind) (by rw [e1, e4]; grind)
  have r2 := rnd_mul n2 n3 (by rw [e2, e3]; grind) (by rw [e2, e3]; grind)
  rw [e1, e4] at r1
  rw [e2, e3] at r2
  have f1 := r1.n64 3 (by decide) (B := 8) rfl (by grind) (by grind)
  have f2 := r2.n64 3 (by decide) (B := 8) rfl (by grind) (by grind)
  have r3 := rnd_sub r1.num r2.num (by grind) (by grind)
  have f3 := r3.n64 0 (by decide) (B := 1) rfl (by grind) (by grind)
  obtain ⟨z0, z⟩ := zero64_N
  have k1 := c01_R
  have ec : fop .sub .f64 (fop .mul .f64 (fcv .f32 .f64 w.1) (fcv .f32 .f64 l.2)) (fop .mul .f64 (fcv .f32 .f64 w.2) (fcv .f32 .f64 l.1)) = crW w l := rfl
  rw [ec] at f3 r3
  exact ⟨hw, hl, n1, n2, n3, n4, r1.num, r2.num, r3.num, gap_t (e := 81 / 10000) r3.num z0 k1.1 (by grind) (by grind) (by rw [z]; grind) (by rw [z]; grind) (by rw [z]; grind) (by rw [z]; grind) (by have := k1.2; grind)⟩
structure LnT (p : Nat → Cx) (n : Nat) (md w : Cx) : Prop where
  far : NumT (mxF p (meF p n) (lnW p n) n) c01
  cr : CrT w (lnW p n)
  d : nN (minusF (meF p n) md)
  sd : CrT w (minusF (meF p n) md)
theorem ln_tests {p : Nat → Cx} {n j : Nat} {m w : Cx} (hj : j < 16) (h3 : 3 ≤ n) (h7 : n ≤ 7) (hm : nN m) (x1 : -2 ≤ R .f32 m.1) (x2 : R .f32 m.1 ≤ 2) (y1 : -2 ≤ R .f32 m.2) (y2 : R .f32 m.2 ≤ 2) (hw : Wy w j) (N : LnN p n) (V : LnV p n m w j) : LnT p n m w := by
  have K := lnK h3 h7
  have hh1 := K.h1
  have hh3 := K.h3
  obtain ⟨⟨a1, a2⟩, b1, b2⟩ := hw.bd hj
  have hc := hw.c
  have hs := hw.s
  obtain ⟨u1, u2⟩ := (unitT hj).bd
  have k1 := c01_R
  have f0 := V.far0
  obtain ⟨σ, hσ, al1, al2⟩ := V.al
  obtain ⟨m1a, m1b⟩ := V.m1
  obtain ⟨m2a, m2b⟩ := V.m2
  have hfar := num_t (N.mx n (Nat.le_refl _)) k1.1 (by grind) V.far (by decide +kernel) (by have := k1.2; grind)
  obtain ⟨h, hh⟩ : ∃ h, h = hN n := ⟨_, rfl⟩
  obtain ⟨P, hP⟩ : ∃ P, P = meF p n := ⟨_, rfl⟩
  rw [← hh] at hh1 hh3 m1a m1b m2a m2b
  have nP : nN P := by rw [hP]; exact N.me.m
  have nL := N.al
  rw [← hP] at m1a m1b m2a m2b hfar
  have q1 := mul_bd a1 a2 (show -3 ≤ h by grind) (show h ≤ 3 by grind)
  have q2 := mul_bd b1 b2 (show -3 ≤ h by grind) (show h ≤ 3 by grind)
  have r1 := rnd_sub nP.1 hm.1 (by grind) (by grind)
  have r2 := rnd_sub nP.2 hm.2 (by grind) (by grind)
  have g1 := r1.n32 2 (by decide) (B := 4) rfl (by grind) (by grind)
  have g2 := r2.n32 2 (by decide) (B := 4) rfl (by grind) (by grind)
  obtain ⟨D, hD⟩ : ∃ D, D = minusF P m := ⟨_, rfl⟩
  have e1 : fop .sub .f32 P.1 m.1 = D.1 := by rw [hD]; rfl
  have e2 : fop .sub .f32 P.2 m.2 = D.2 := by rw [hD]; rfl
  rw [e1] at r1 g1
  rw [e2] at r2 g2
  have i1 : -(14 / 1000000) ≤ R .f32 D.1 - R .f32 w.1 * h ∧ R .f32 D.1 - R .f32 w.1 * h ≤ 14 / 1000000 := by constructor <;> grind
  have i2 : -(14 / 1000000) ≤ R .f32 D.2 - R .f32 w.2 * h ∧ R .f32 D.2 - R .f32 w.2 * h ≤ 14 / 1000000 := by constructor <;> grind
  obtain ⟨W1, hW1⟩ : ∃ W, W = R .f32 w.1 := ⟨_, rfl⟩
  obtain ⟨W2, hW2⟩ : ∃ W, W = R .f32 w.2 := ⟨_, rfl⟩
  obtain ⟨L, hL⟩ : ∃ L, L = lnW p n := ⟨_, rfl⟩
  rw [← hL] at hfar al1 al2 nL
  refine ⟨by rw [← hP, ← hL]; exact hfar, ?_, by rw [← hP, ← hD]; exact ⟨r1.num, r2.num⟩, ?_⟩
  · clear i1 i2 g1 g2 r1 r2 q1 q2 m1a m1b m2a m2b hh1 hh3
    rw [← hL]
    obtain ⟨A, hA⟩ : ∃ A, A = R .f32 L.1 := ⟨_, rfl⟩
    obtain ⟨B, hB⟩ : ∃ B, B = R .f32 L.2 := ⟨_, rfl⟩
    rw [← hW1] at a1 a2 hc
    rw [← hW2] at b1 b2 hs
    rw [← hA] at al1
    rw [← hB] at al2
    have s1 := mul_bd (x := W1) (y := B - σ * sinT j) (B := 2) (C := 1001 / 1000000) (by grind) (by grind) al2.1 al2.2
    have s2 := mul_bd (x := W2) (y := A - σ * cosT j) (B := 2) (C := 1001 / 1000000) (by grind) (by grind) al1.1 al1.2
    have s3 := mul_bd (x := W1 - cosT j) (y := sinT j) (B := 6 / 10000000) (C := 2) hc.1 hc.2 (by grind) (by grind)
    have s4 := mul_bd (x := W2 - sinT j) (y := cosT j) (B := 6 / 10000000) (C := 2) hs.1 hs.2 (by grind) (by grind)
    have lb1 : -4 ≤ A ∧ A ≤ 4 := by rcases hσ with rfl | rfl <;> constructor <;> grind
    have lb2 : -4 ≤ B ∧ B ≤ 4 := by rcases hσ with rfl | rfl <;> constructor <;> grind
    refine cr_test hw.n nL (by rw [← hW1]; grind) (by rw [← hW1]; grind) (by rw [← hW2]; grind) (by rw [← hW2]; grind) (by rw [← hA]; exact lb1.1) (by rw [← hA]; exact lb1.2) (by rw [← hB]; exact lb2.1) (by rw [← hB]; exact lb2.2) ?_ ?_
    · rw [← hW1, ← hW2, ← hA, ← hB]; rcases hσ with rfl | rfl <;> grind
    · rw [← hW1, ← hW2, ← hA, ← hB]; rcases hσ with rfl | rfl <;> grind
  · clear al1 al2 hc hs u1 u2 hσ
    rw [← hP, ← hD]
    obtain ⟨A, hA⟩ : ∃ A, A = R .f32 D.1 := ⟨_, rfl⟩
    obtain ⟨B, hB⟩ : ∃ B, B = R .f32 D.2 := ⟨_, rfl⟩
    rw [← hW1] at a1 a2 q1 i1
    rw [← hW2] at b1 b2 q2 i2
    rw [← hA] at i1
    rw [← hB] at i2
    have s1 := mul_bd (x := W1) (y := B - W2 * h) (B := 2) (C := 14 / 1000000) (by grind) (by grind) i2.1 i2.2
    have s2 := mul_bd (x := W2) (y := A - W1 * h) (B := 2) (C := 14 / 1000000) (by grind) (by grind) i1.1 i1.2
    refine cr_test hw.n ⟨r1.num, r2.num⟩ (by rw [← hW1]; grind) (by rw [← hW1]; grind) (by rw [← hW2]; grind) (by rw [← hW2]; grind) (by rw [← hA]; grind) (by rw [← hA]; grind) (by rw [← hB]; grind) (by rw [← hB]; grind) ?_ ?_
    · rw [← hW1, ← hW2, ← hA, ← hB]; grind
    · rw [← hW1, ← hW2, ← hA, ← hB]; grind
end Go.Fl

namespace Go.Fl
open Ieee Go.RowKit
theorem jAt_add {up : Bool} {j k : Nat} (hj : j < 16) (h7 : k ≤ 7) : jAt up (jAt up j k) k = jAt up j (2 * k) := by unfold jAt; cases up <;> simp <;> omega
def xsL (A B b j t : Nat) (up : Bool) : List Cx := [ptL A B b j t up 0, ptL A B b j t up 1, ptL A B b j t up 2]
theorem xsL_at {A B b j t : Nat} {up : Bool} {k : Nat} (h : k < 3) : cAt (xsL A B b j t up) k = ptL A B b j t up k := by
  have : k = 0 ∨ k = 1 ∨ k = 2 := by omega
  rcases this with rfl | rfl | rfl <;> rfl
/-- the arc, its tests, the circle -/
structure ArcsP (md : Cx) (ro tu : Nat) (p : Nat → Cx) (xs : List Cx) (m : Cx) (r f t : Nat) : Prop where
  arc : ArcN (p 0) (p 1) (p 2)
  at_ : ∀ d, d < 3 → AtN m r f t (shF d) ∧ nN (minusF (arcAtF m r f t (shF d)) (p d)) ∧ LongN (minusF (arcAtF m r f t (shF d)) (p d)) ∧ NumT (longF (minusF (arcAtF m r f t (shF d)) (p d))) c02
  tests : ArcT m r t md ro tu
  lg : LgT r t ro tu
  path : PathN xs
  all : ∀ z, z ∈ xs → nN z
  fit : FitN (cAt xs)
  ft : FitT (fitZ (cAt xs)) (fitR (cAt xs)) md ro
  mn : nN m
  r0 : 0 < R .f32 r
  fn : isN .f32 f = true
theorem arcs_all {A B b j t : Nat} (up : Bool) (hA : A < 17) (hB : B < 17) (hb : b < 15) (hj : j < 16) (ht : t < 6) : ∃ m r f tt, m = midF (ptL A B b j t up 0) (ptL A B b j t up 1) (ptL A B b j t up 2) ∧ r = arR (ptL A B b j t up 0) (ptL A B b j t up 1) (ptL A B b j t up 2) ∧ f = arF (ptL A B b j t up 0) (ptL A B b j t up 1) (ptL A B b j t up 2) ∧ tt = arT (ptL A B b j t up 0) (ptL A B b j t up 1) (ptL A B b j t up 2) ∧ ArcsP (mdL A B) (roundF b) (tuF up t) (ptL A B b j t up) (xsL A B b j t up) m r f tt := by
  have L := ptsL up hA hB hb hj ht
  obtain ⟨k, hk⟩ : ∃ k, k = 2 + t := ⟨_, rfl⟩
  have k2 : 2 ≤ k := by omega
  have k7 : k ≤ 7 := by omega
  have s1 := L.r.lo
  have s2 := L.r.hi
  have m1 := L.m1
  have m2 := L.m2
  have m3 := L.m3
  have m4 := L.m4
  have q0 := L.plc 0 (by decide)
  have q1 := L.plc 1 (by decide)
  have q2 := L.plc 2 (by decide)
  rw [← hk] at q0 q1 q2
  rw [Nat.zero_mul, jAt_0 up hj] at q0
  rw [Nat.one_mul] at q1
  have x1 : -(4 * R .f32 (roundF b)) ≤ R .f32 (miF A) := by grind
  have x2 : R .f32 (miF A) ≤ 4 * R .f32 (roundF b) := by grind
  have y1 : -(4 * R .f32 (roundF b)) ≤ R .f32 (miF B) := by grind
  have y2 : R .f32 (miF B) ≤ 4 * R .f32 (roundF b) := by grind
  have s10 : 1 / 10 ≤ R .f32 (roundF b) := by grind
  obtain ⟨hN, hV⟩ := thru_near up s10 s2 hj k2 k7 x1 x2 y1 y2 q0 q1 q2
  obtain ⟨hF, hZ, hR⟩ := fit_near (p := cAt (xsL A B b j t up)) up s1 s2 hj k2 k7 x1 x2 y1 y2 q0 q1 q2
  have g1 := seg_arc up s1 s2 hj k2 k7 q0 q1
  have q2' := q2
  rw [← jAt_add hj k7] at q2'
  have g2 := seg_arc up s1 s2 (jAt_lt up j k) k2 k7 q1 q2'
  refine ⟨_, _, _, _, rfl, rfl, rfl, rfl, hN, fun d hd => ?_, arc_tests hb ht hk L.m rfl rfl hV, lg_tests hb ht hk hV, ⟨show 2 ≤ 3 by omega, show 3 ≤ 7 by omega, fun i hi => ?_⟩, fun z hz => ?_, hF, fit_tests hb L.m rfl rfl hZ hR, hV.mid.n, hN.pos, hV.fn⟩
  · obtain ⟨n1, n2⟩ := shN hd
    obtain ⟨hat, hp⟩ := at_near (d := d) hj k2 k7 s10 s2 x1 x2 y1 y2 hV (by omega) n1 n2
    have qd := L.plc d hd
    rw [← hk] at qd
    obtain ⟨z1, z2, z3⟩ := gap_near s10 s2 hp qd
    have z0 := z2.nn
    have k2 := c02_R
    exact ⟨hat, z1, z2, num_t z2.num k2.1 (by grind) z3 (by decide +kernel) (by have := k2.2; grind)⟩
  · have hi3 : i + 1 < 3 := hi
    have : i = 0 ∨ i = 1 := by omega
    rcases this with rfl | rfl
    · exact g1
    · exact g2
  · have : z = ptL A B b j t up 0 ∨ z = ptL A B b j t up 1 ∨ z = ptL A B b j t up 2 := by simpa [xsL] using hz
    rcases this with rfl | rfl | rfl
    · exact L.pt 0 (by decide)
    · exact L.pt 1 (by decide)
    · exact L.pt 2 (by decide)
/-- the line -/
def lnL (m w : Cx) (n : Nat) : List Cx := (List.range n).map (lnP m w)
theorem lnL_succ (m w : Cx) (n : Nat) : lnL m w (n + 1) = lnL m w n ++ [lnP m w n] := by unfold lnL; rw [List.range_succ, List.map_append]; rfl
theorem lnL_len (m w : Cx) (n : Nat) : (lnL m w n).length = n := by unfold lnL; simp
theorem lnL_at {m w : Cx} {n k : Nat} (h : k < n) : cAt (lnL m w n) k = lnP m w k := by unfold cAt lnL; simp [h]
def wyL (w : Nat) : Cx := phF denS (wyF w)
structure LineP (md : Cx) (w n : Nat) : Prop where
  x : isN .f64 (wyF w) = true
  ph : PhN denS (wyF w)
  sc : ∀ k, k < n → nN (scaleF (wyL w) (floatOfInt .f32 ((k : Nat) : Int)))
  pt : ∀ k, k < n → nN (lnP md (wyL w) k)
  path : PathN (lnL md (wyL w) n)
  all : ∀ z, z ∈ lnL md (wyL w) n → nN z
  ln : LnN (cAt (lnL md (wyL w) n)) n
  t : LnT (cAt (lnL md (wyL w) n)) n md (wyL w)
theorem line_all {A B w n : Nat} (hA : A < 17) (hB : B < 17) (hw : w < 16) (h3 : 3 ≤ n) (h7 : n ≤ 7) : LineP (mdL A B) w n := by
  have a := miN hA
  have a' := miN hB
  obtain ⟨p0, p1, p2⟩ := ph_way hw
  have p2 : Wy (wyL w) w := p2
  have hm : nN (mdL A B) := ⟨a.n, a'.n⟩
  obtain ⟨⟨b1, b2⟩, b3, b4⟩ := p2.bd hw
  have x1 : -2 ≤ R .f32 (mdL A B).1 := a.lo
  have x2 : R .f32 (mdL A B).1 ≤ 2 := a.hi
  have y1 : -2 ≤ R .f32 (mdL A B).2 := a'.lo
  have y2 : R .f32 (mdL A B).2 ≤ 2 := a'.hi
  have one : ∀ k, k < n → nN (scaleF (wyL w) (floatOfInt .f32 ((k : Nat) : Int))) ∧ nN (lnP (mdL A B) (wyL w) k) := fun k hk => by
    have l1 := ln_one (k := k) hm.1 p2.n.1 x1 x2 b1 b2 (by omega)
    have l2 := ln_one (k := k) hm.2 p2.n.2 y1 y2 b3 b4 (by omega)
    exact ⟨⟨l1.1, l2.1⟩, l1.2.1, l2.2.1⟩
  obtain ⟨hN, hV⟩ := line_near (p := cAt (lnL (mdL A B) (wyL w) n)) hw h3 h7 hm x1 x2 y1 y2 p2 (fun k hk => lnL_at hk)
  refine ⟨p0, p1, fun k hk => (one k hk).1, fun k hk => (one k hk).2, ⟨by rw [lnL_len]; omega, by rw [lnL_len]; exact h7, fun i hi => ?_⟩, fun z hz => ?_, hN, ln_tests hw h3 h7 hm x1 x2 y1 y2 p2 hN hV⟩
  · rw [lnL_len] at hi
    rw [lnL_at (by omega), lnL_at hi]
    exact seg_line hw hm x1 x2 y1 y2 p2 (by omega)
  · unfold lnL at hz
    obtain ⟨k, hk, rfl⟩ := List.mem_map.1 hz
    exact (one k (List.mem_range.1 hk)).2
/-- the corner -/
theorem corner_all {b : Nat} (hb : b < 15) : CoR (radF b) ∧ ArcN (coPa (radF b)) (coPb (radF b)) (coPc (radF b)) ∧ CoT (midF (coPa (radF b)) (coPb (radF b)) (coPc (radF b))) (arR (coPa (radF b)) (coPb (radF b)) (coPc (radF b))) (roundF b) := by
  obtain ⟨h1, h2⟩ := corner_near hb
  exact ⟨coR hb, h1, co_tests hb h2⟩
end Go.Fl

namespace Go.Fl
open Ieee Go.RowKit
theorem cx_add {P : Program} (T : TypeId) {a b : Cx} (h : nN (plusF a b)) (w : World) : Sem.run P (binOp .add T (.complex .f32 a.1 a.2) (.complex .f32 b.1 b.2)) w = .ok (.complex .f32 (plusF a b).1 (plusF a b).2) w := by
  have z : ∀ x y : Nat, isN .f32 (fop .add .f32 x y) = true → floatBits .add .f32 x y = some (fop .add .f32 x y) := fun x y hn => by
    have h2 : isN .f32 ((floatBits .add .f32 x y).getD (qnan .f32)) = true := hn
    show _ = some ((floatBits .add .f32 x y).getD _)
    cases hb : floatBits .add .f32 x y with
    | some r => rfl
    | none => rw [hb] at h2; exfalso; revert h2; decide +kernel
  exact run_complex_sum (P := P) w .add (Or.inl rfl) T .f32 a.1 a.2 b.1 b.2 _ _ (by simp [cSumBits, z _ _ h.1, z _ _ h.2, plusF])
theorem cx_sub {P : Program} (T : TypeId) {a b : Cx} (h : nN (minusF a b)) (w : World) : Sem.run P (binOp .sub T (.complex .f32 a.1 a.2) (.complex .f32 b.1 b.2)) w = .ok (.complex .f32 (minusF a b).1 (minusF a b).2) w := by
  have z : ∀ x y : Nat, isN .f32 (fop .sub .f32 x y) = true → floatBits .sub .f32 x y = some (fop .sub .f32 x y) := fun x y hn => by
    have h2 : isN .f32 ((floatBits .sub .f32 x y).getD (qnan .f32)) = true := hn
    show _ = some ((floatBits .sub .f32 x y).getD _)
    cases hb : floatBits .sub .f32 x y with
    | some r => rfl
    | none => rw [hb] at h2; exfalso; revert h2; decide +kernel
  exact run_complex_sum (P := P) w .sub (Or.inr rfl) T .f32 a.1 a.2 b.1 b.2 _ _ (by simp [cSumBits, z _ _ h.1, z _ _ h.2, minusF])
theorem meas_upI {k N : Nat} (h : (k : Int) < (N : Int)) : N - (intOf (.int .i64 ((k : Int) + 1))).toNat < N - (intOf (.int .i64 (k : Int))).toNat := by
  show N - ((k : Int) + 1).toNat < N - ((k : Int)).toNat
  omega
end Go.Fl
namespace Go.Proofs.Ytkbikfifnaihlaa
open Go.RowKit Go.Fl
theorem b10GapN (a b : Nat) (ha : isN .f64 a = true) (hb : isN .f64 b = true) (hg : isN .f64 (if R .f64 a < R .f64 b then fop .sub .f64 b a else fop .sub .f64 a b) = true) (w : World) :
    Calls Try.prog 11 #[.float .f64 a, .float .f64 b] w fun e w' => e = .returned (.float .f64 (gapF a b)) ∧ w' = w := by
  have ho := ord_R64 ha hb
  have dz : ∀ w : World, w.drewN 0 = w := World.drewN_zero
  unfold gapF
  by_cases c : R .f64 a < R .f64 b
  · rw [if_pos c] at hg ⊢
    rw [decide_eq_true c] at ho
    obtain ⟨m, d⟩ := run_fopN hg
    clear ha hb hg c
    go_enter Try.func11, Try.ntmps11
    go_wp2_with fail
    go_ret
    exact ⟨rfl, rfl⟩
  · rw [if_neg c] at hg ⊢
    rw [decide_eq_false c] at ho
    obtain ⟨m, d⟩ := run_fopN hg
    clear ha hb hg c
    go_enter Try.func11, Try.ntmps11
    go_wp2_with fail
    go_ret
    exact ⟨rfl, rfl⟩
end Go.Proofs.Ytkbikfifnaihlaa
