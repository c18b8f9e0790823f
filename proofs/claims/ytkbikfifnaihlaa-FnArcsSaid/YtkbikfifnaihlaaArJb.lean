/- Arcs: numbers in proportion to a scale. Plain Lean. Arcs: the middle of three points of a circle. Plain Lean. Arcs: the arc through three points of a circle; its places. Plain Lean. Arcs: the arc through three places of a circle, and the circle's places found from it. Plain Lean. Arcs: the law's points, and the places that are found from the arc. Plain Lean. Arcs: absolute values, how long an arc is, gaps. Plain Lean. Arcs: means of points; the sums of a circle's fit. Plain Lean. Arcs: the circle through three points, by least squares: the plain inequalities. Arcs: the circle through three points, by least squares, in floats. Plain Lean. Arcs: the circle that is found from three points lies near. Plain Lean. Arcs: the circle that is found from three points, joined. Plain Lean. Arcs: the radius that is found. Plain Lean. Arcs: points of a line, their mean and their sums. Plain Lean. Arcs: the line near to points of a line. Plain Lean. Arcs: the line that is found from points of a line lies near. Plain Lean. Arcs: the rounded corner: its three points, for each of the law's fifteen radii. Plain Lean. Arcs: the law's numbers; its tests. Plain Lean. -/
import Derived.Test.YtkbikfifnaihlaaArJa
import Derived.Test.YtkbikfifnaihlaaDsP
import Derived.Test.YtkbikfifnaihlaaDsT
namespace Go.Fl
open Ieee
/-- two to the n, as a rational number -/
def twoR (n : Nat) : Rat := ((2 ^ n : Nat) : Int)
theorem twoR_pos (n : Nat) : 0 < twoR n := cast_pos (Nat.two_pow_pos _)
theorem twoR_succ (n : Nat) : twoR (n + 1) = 2 * twoR n := by
  unfold twoR
  rw [Nat.pow_succ, Nat.mul_comm, Int.natCast_mul, Rat.intCast_mul]; rfl
theorem twoR_add (m n : Nat) : twoR (m + n) = twoR m * twoR n := by
  unfold twoR
  rw [Nat.pow_add, Int.natCast_mul, Rat.intCast_mul]
theorem pow_find (y : Rat) : ∀ n, y ≤ twoR n → ∃ j, y ≤ twoR j ∧ j ≤ n ∧ (j = 0 ∨ ∃ i, j = i + 1 ∧ twoR i < y)
  | 0, h => ⟨0, h, Nat.le_refl _, .inl rfl⟩
  | n + 1, h => by
    by_cases c : y ≤ twoR n
    · obtain ⟨j, h1, h2, h3⟩ := pow_find y n c
      exact ⟨j, h1, by omega, h3⟩
    · exact ⟨n + 1, h, Nat.le_refl _, .inr ⟨n, rfl, Rat.not_le.1 c⟩⟩
theorem twoR_mono {i j : Nat} (h : i ≤ j) : twoR i ≤ twoR j := by
  unfold twoR
  exact Rat.intCast_le_intCast.2 (Int.ofNat_le.2 (Nat.pow_le_pow_right (by decide) h))
/-- the error of a rounding is small against any bound of what is rounded -/
theorem Rnd.sc {r : Nat} {q c : Rat} (h : Rnd .f32 r q) (c0 : 1 / 1000000000 ≤ c) (c1 : c ≤ 1000000) (h1 : -c ≤ q) (h2 : q ≤ c) : q - c / 4194304 ≤ R .f32 r ∧ R .f32 r ≤ q + c / 4194304 := by
  have hu := uR_pos .f32
  have e0 : uR .f32 = twoR 149 := rfl
  have a30 : (1 : Rat) / 1000000000 * twoR 30 ≥ 1 := by decide +kernel
  have e1 : twoR 149 = twoR 30 * (twoR 95 * twoR 24) := by rw [← twoR_add, ← twoR_add]
  have a20 : (1000000 : Rat) ≤ twoR 20 := by decide +kernel
  have p20 := twoR_pos 149
  have up : c * uR .f32 ≤ twoR 169 := by
    rw [e0, show (169 : Nat) = 20 + 149 from rfl, twoR_add]
    exact (le_mulR p20).2 (Rat.le_trans c1 a20)
  have lo : twoR 24 ≤ c * uR .f32 := by
    have l1 : (1 : Rat) / 1000000000 * uR .f32 ≤ c * uR .f32 := (le_mulR hu).2 c0
    have l2 : twoR 24 ≤ (1 : Rat) / 1000000000 * uR .f32 := by rw [e0]; decide +kernel
    exact Rat.le_trans l2 l1
  obtain ⟨j, g1, _, g3⟩ := pow_find _ 169 up
  rcases g3 with rfl | ⟨i, rfl, g3⟩
  · exfalso
    have := Rat.le_trans lo g1
    exact absurd this (by decide +kernel)
  have hi : 23 ≤ i := by
    rcases Nat.lt_or_ge i 23 with h9 | h9
    · exfalso
      have := Rat.le_trans lo (Rat.le_trans g1 (twoR_mono (show i + 1 ≤ 23 by omega)))
      exact absurd this (by decide +kernel)
    · exact h9
  obtain ⟨k, rfl⟩ : ∃ k, i = 23 + k := ⟨i - 23, by omega⟩
  have g4 := h.err (k + 1) (by show -(twoR (23 + (k + 1))) ≤ _; rw [show 23 + (k + 1) = 23 + k + 1 by omega]; have := (le_mulR hu).2 h1; grind)
    (by show _ ≤ twoR (23 + (k + 1)); rw [show 23 + (k + 1) = 23 + k + 1 by omega]; have := (le_mulR hu).2 h2; grind)
  have e2 : (((2 ^ (k + 1) : Nat) : Int) : Rat) = 2 * twoR k := twoR_succ k
  rw [e2] at g4
  rw [twoR_add] at g3
  have e3 : twoR 23 = 8388608 := by decide +kernel
  rw [e3] at g3
  have b : 2 * twoR k ≤ c / 4194304 * uR .f32 := by grind
  have g5 := Rat.le_trans g4.2 b
  have g6 : -(c / 4194304 * uR .f32) ≤ (R .f32 r - q) * uR .f32 := by grind
  rw [← Rat.neg_mul, le_mulR hu] at g6
  rw [le_mulR hu] at g5
  constructor <;> grind
/-- x is v times the scale -/
def H (x : Nat) (s v : Rat) : Prop := isN .f32 x = true ∧ R .f32 x = s * v
/-- a scale -/
def Sc (s : Rat) : Prop := 1 / 1000 ≤ s ∧ s ≤ 1000
theorem Sc.pos {s : Rat} (h : Sc s) : 0 < s := by have := h.1; grind
theorem H.of_rnd {r : Nat} {q s q' : Rat} (h : Rnd .f32 r q) (hs : Sc s) (e : q = s * q') (c : Rat) (c1 : 1 / 1000 ≤ c) (c2 : c ≤ 1000) (h1 : -c ≤ q') (h2 : q' ≤ c) : ∃ v, H r s v ∧ -(c / 4194304) ≤ v - q' ∧ v - q' ≤ c / 4194304 := by
  obtain ⟨s1, s2⟩ := hs
  have s0 : 0 < s := by grind
  have a1 := Rat.mul_nonneg (a := c - 1 / 1000) (b := s) (by grind) (by grind)
  have a2 := Rat.mul_nonneg (a := 1000 - c) (b := s) (by grind) (by grind)
  have a3 := Rat.mul_nonneg (a := q' + c) (b := s) (by grind) (by grind)
  have a4 := Rat.mul_nonneg (a := c - q') (b := s) (by grind) (by grind)
  have f := h.sc (c := c * s) (by grind) (by grind) (by grind) (by grind)
  have hv : R .f32 r / s * s = R .f32 r := Rat.div_mul_cancel (by grind)
  obtain ⟨v, hvv⟩ : ∃ v, v = R .f32 r / s := ⟨_, rfl⟩
  rw [← hvv] at hv
  refine ⟨v, ⟨h.num, by grind⟩, ?_, ?_⟩
  · refine Rat.not_lt.1 fun k => ?_
    have := Rat.mul_pos (a := -(c / 4194304) - (v - q')) (b := s) (by grind) s0
    grind
  · refine Rat.not_lt.1 fun k => ?_
    have := Rat.mul_pos (a := (v - q') - c / 4194304) (b := s) (by grind) s0
    grind
theorem bd_mul {s q c : Rat} (s2 : s ≤ 1000) (s0 : 0 ≤ s) (c2 : c ≤ 1000) (h1 : -c ≤ q) (h2 : q ≤ c) : -1000000 ≤ s * q ∧ s * q ≤ 1000000 := by
  have a3 := Rat.mul_nonneg (a := q + c) (b := s) (by grind) (by grind)
  have a4 := Rat.mul_nonneg (a := c - q) (b := s) (by grind) (by grind)
  have a2 := Rat.mul_nonneg (a := 1000 - c) (b := s) (by grind) (by grind)
  constructor <;> grind
theorem H.mul {x y : Nat} {s t a b : Rat} (hx : H x s a) (hy : H y t b) (hst : Sc (s * t)) (c : Rat) (c1 : 1 / 1000 ≤ c) (c2 : c ≤ 1000) (h1 : -c ≤ a * b) (h2 : a * b ≤ c) : ∃ v, H (fop .mul .f32 x y) (s * t) v ∧ -(c / 4194304) ≤ v - a * b ∧ v - a * b ≤ c / 4194304 := by
  have e : R .f32 x * R .f32 y = s * t * (a * b) := by rw [hx.2, hy.2]; grind
  obtain ⟨k1, k2⟩ := bd_mul hst.2 (Rat.le_of_lt hst.pos) c2 h1 h2
  exact H.of_rnd (rnd_mul hx.1 hy.1 (by rw [e]; exact k1) (by rw [e]; exact k2)) hst e c c1 c2 h1 h2
theorem H.add {x y : Nat} {s a b : Rat} (hx : H x s a) (hy : H y s b) (hs : Sc s) (c : Rat) (c1 : 1 / 1000 ≤ c) (c2 : c ≤ 1000) (h1 : -c ≤ a + b) (h2 : a + b ≤ c) : ∃ v, H (fop .add .f32 x y) s v ∧ -(c / 4194304) ≤ v - (a + b) ∧ v - (a + b) ≤ c / 4194304 := by
  have e : R .f32 x + R .f32 y = s * (a + b) := by rw [hx.2, hy.2]; grind
  obtain ⟨k1, k2⟩ := bd_mul hs.2 (Rat.le_of_lt hs.pos) c2 h1 h2
  exact H.of_rnd (rnd_add hx.1 hy.1 (by rw [e]; exact k1) (by rw [e]; exact k2)) hs e c c1 c2 h1 h2
theorem H.sub {x y : Nat} {s a b : Rat} (hx : H x s a) (hy : H y s b) (hs : Sc s) (c : Rat) (c1 : 1 / 1000 ≤ c) (c2 : c ≤ 1000) (h1 : -c ≤ a - b) (h2 : a - b ≤ c) : ∃ v, H (fop .sub .f32 x y) s v ∧ -(c / 4194304) ≤ v - (a - b) ∧ v - (a - b) ≤ c / 4194304 := by
  have e : R .f32 x - R .f32 y = s * (a - b) := by rw [hx.2, hy.2]; grind
  obtain ⟨k1, k2⟩ := bd_mul hs.2 (Rat.le_of_lt hs.pos) c2 h1 h2
  exact H.of_rnd (rnd_sub hx.1 hy.1 (by rw [e]; exact k1) (by rw [e]; exact k2)) hs e c c1 c2 h1 h2
theorem H.div {x y : Nat} {s t a b q : Rat} (hx : H x (s * t) a) (hy : H y t b) (hs : Sc s) (ht : Sc t) (hb : b ≠ 0) (hq : q * b = a) (c : Rat) (c1 : 1 / 1000 ≤ c) (c2 : c ≤ 1000) (h1 : -c ≤ q) (h2 : q ≤ c) : ∃ v, H (fop .quo .f32 x y) s v ∧ -(c / 4194304) ≤ v - q ∧ v - q ≤ c / 4194304 := by
  have s0 := hs.pos
  have t0 := ht.pos
  obtain ⟨k1, k2⟩ := bd_mul hs.2 (Rat.le_of_lt s0) c2 h1 h2
  have hy0 : R .f32 y ≠ 0 := by
    rw [hy.2]
    intro h
    rcases Rat.mul_eq_zero.1 h with h | h
    · grind
    · exact hb h
  exact H.of_rnd (rnd_div (q := s * q) hx.1 hy.1 hy0 (by rw [hx.2, hy.2, ← hq]; grind) k1 k2) hs rfl c c1 c2 h1 h2
theorem H.neg {x : Nat} {s a : Rat} (hx : H x s a) : H (Op.negFloat .f32 x) s (-a) := by
  obtain ⟨n, e⟩ := neg_R hx.1
  exact ⟨n, by rw [e, hx.2]; grind⟩
/-- the power of a point, narrowed -/
theorem H.pow {z : Cx} {s a b : Rat} (hs : 1 / 10 ≤ s) (hs2 : s ≤ 10) (h1 : H z.1 s a) (h2 : H z.2 s b) (a1 : -3 ≤ a) (a2 : a ≤ 3) (b1 : -3 ≤ b) (b2 : b ≤ 3) : PowN z ∧ ∃ v, H (fcv .f64 .f32 (powF z)) (s * s) v ∧ -(6 / 1000000) ≤ v - (a * a + b * b) ∧ v - (a * a + b * b) ≤ 6 / 1000000 := by
  have m1 := Rat.mul_nonneg (a := 3 - a) (b := s) (by grind) (by grind)
  have m2 := Rat.mul_nonneg (a := 3 + a) (b := s) (by grind) (by grind)
  have m3 := Rat.mul_nonneg (a := 3 - b) (b := s) (by grind) (by grind)
  have m4 := Rat.mul_nonneg (a := 3 + b) (b := s) (by grind) (by grind)
  have hp := pow_near (z := z) ⟨h1.1, h2.1⟩ (by rw [h1.2]; grind) (by rw [h1.2]; grind) (by rw [h2.2]; grind) (by rw [h2.2]; grind)
  have ge := hp.ge
  have le := hp.le
  rw [h1.2, h2.2] at ge le
  have q1 := mul_bd a1 a2 a1 a2
  have q2 := mul_bd b1 b2 b1 b2
  have ss : 1 / 100 ≤ s * s ∧ s * s ≤ 100 := by
    have := Rat.mul_nonneg (a := s - 1 / 10) (b := s + 1 / 10) (by grind) (by grind)
    have := Rat.mul_nonneg (a := 10 - s) (b := s + 10) (by grind) (by grind)
    constructor <;> grind
  obtain ⟨S, hS⟩ : ∃ S, S = s * s := ⟨_, rfl⟩
  obtain ⟨N, hN⟩ : ∃ N, N = a * a + b * b := ⟨_, rfl⟩
  have e : s * a * (s * a) + s * b * (s * b) = S * N := by rw [hS, hN]; grind
  rw [e] at ge le
  rw [← hS] at ss ⊢
  rw [← hN]
  have n0 : 0 ≤ N ∧ N ≤ 18 := by
    have := sq_pos a
    have := sq_pos b
    constructor <;> grind
  clear q1 q2 hN hS e m1 m2 m3 m4
  have nn := Rat.mul_nonneg (a := S) (b := N) (by grind) (by grind)
  have up := Rat.mul_nonneg (a := S) (b := 18 - N) (by grind) (by grind)
  have hnr := narrow hp.num (by grind) (by grind)
  have hv : R .f64 (powF z) / S * S = R .f64 (powF z) := Rat.div_mul_cancel (by grind)
  obtain ⟨q, hq⟩ : ∃ q, q = R .f64 (powF z) / S := ⟨_, rfl⟩
  rw [← hq] at hv
  have qb : -(1 / 100000000) ≤ q - N ∧ q - N ≤ 1 / 100000000 := by
    constructor
    · refine Rat.not_lt.1 fun k => ?_
      have := Rat.mul_pos (a := -(1 / 100000000) - (q - N)) (b := S) (by grind) (by grind)
      grind
    · refine Rat.not_lt.1 fun k => ?_
      have := Rat.mul_pos (a := (q - N) - 1 / 100000000) (b := S) (by grind) (by grind)
      grind
  obtain ⟨v, hv2, v1, v2⟩ := H.of_rnd hnr (s := S) (q' := q) ⟨by grind, by grind⟩ (by grind) 19 (by decide +kernel) (by decide +kernel) (by grind) (by grind)
  exact ⟨hp, v, hv2, by grind, by grind⟩
end Go.Fl

namespace Go.Fl
open Ieee Go.RowKit
def crossF (p q : Cx) : Nat := fop .sub .f32 (fop .mul .f32 p.1 q.2) (fop .mul .f32 p.2 q.1)
def ppF (p : Cx) : Nat := fcv .f64 .f32 (powF p)
def amF (p q : Cx) : Nat := fop .mul .f32 1073741824 (crossF p q)
def axN (p q : Cx) : Nat := fop .sub .f32 (fop .mul .f32 q.2 (ppF p)) (fop .mul .f32 p.2 (ppF q))
def ayN (p q : Cx) : Nat := fop .sub .f32 (fop .mul .f32 p.1 (ppF q)) (fop .mul .f32 q.1 (ppF p))
def offF (p q : Cx) : Cx := (fop .quo .f32 (axN p q) (amF p q), fop .quo .f32 (ayN p q) (amF p q))
def midF (a b c : Cx) : Cx := plusF a (offF (minusF b a) (minusF c a))
/-- the steps to the middle are numbers -/
structure MidN (a b c : Cx) : Prop where
  p : nN (minusF b a)
  q : nN (minusF c a)
  c1 : isN .f32 (fop .mul .f32 (minusF b a).1 (minusF c a).2) = true
  c2 : isN .f32 (fop .mul .f32 (minusF b a).2 (minusF c a).1) = true
  c3 : isN .f32 (crossF (minusF b a) (minusF c a)) = true
  m : isN .f32 (amF (minusF b a) (minusF c a)) = true
  pp : PowN (minusF b a)
  pq : PowN (minusF c a)
  ppn : isN .f32 (ppF (minusF b a)) = true
  pqn : isN .f32 (ppF (minusF c a)) = true
  x1 : isN .f32 (fop .mul .f32 (minusF c a).2 (ppF (minusF b a))) = true
  x2 : isN .f32 (fop .mul .f32 (minusF b a).2 (ppF (minusF c a))) = true
  x3 : isN .f32 (axN (minusF b a) (minusF c a)) = true
  y1 : isN .f32 (fop .mul .f32 (minusF b a).1 (ppF (minusF c a))) = true
  y2 : isN .f32 (fop .mul .f32 (minusF c a).1 (ppF (minusF b a))) = true
  y3 : isN .f32 (ayN (minusF b a) (minusF c a)) = true
  o : nN (offF (minusF b a) (minusF c a))
  mid : nN (midF a b c)
/-- z is the place of the unit circle's point (u1, u2), of a circle about (x, y) with the radius s, but for e parts of the radius -/
structure Plc (s x y u1 u2 e : Rat) (z : Cx) : Prop where
  n : nN z
  x1 : s * (u1 - e) ≤ R .f32 z.1 - x
  x2 : R .f32 z.1 - x ≤ s * (u1 + e)
  y1 : s * (u2 - e) ≤ R .f32 z.2 - y
  y2 : R .f32 z.2 - y ≤ s * (u2 + e)
theorem scale_of {s d u e : Rat} (hs : 0 < s) (h1 : s * (u - e) ≤ d) (h2 : d ≤ s * (u + e)) : ∃ v, d = s * v ∧ -e ≤ v - u ∧ v - u ≤ e := by
  have hv : d / s * s = d := Rat.div_mul_cancel (by grind)
  obtain ⟨v, hvv⟩ : ∃ v, v = d / s := ⟨_, rfl⟩
  rw [← hvv] at hv
  refine ⟨v, by grind, ?_, ?_⟩
  · refine Rat.not_lt.1 fun k => ?_
    have := Rat.mul_pos (a := -e - (v - u)) (b := s) (by grind) hs
    grind
  · refine Rat.not_lt.1 fun k => ?_
    have := Rat.mul_pos (a := (v - u) - e) (b := s) (by grind) hs
    grind
theorem two32 (s : Rat) : isN .f32 1073741824 = true ∧ R .f32 1073741824 = 2 := by
  have q : Q .f32 1073741824 2 0 := ⟨by decide +kernel, by decide +kernel, by decide⟩
  exact ⟨q.num, by rw [q.R]; decide +kernel⟩
theorem eps_bd {u1 u2 v1 v2 p1 p2 d : Rat} (hu1 : 9999999 / 10000000 ≤ u1 * u1 + u2 * u2) (hu2 : u1 * u1 + u2 * u2 ≤ 10000001 / 10000000) (hv1 : 9999999 / 10000000 ≤ v1 * v1 + v2 * v2) (hv2 : v1 * v1 + v2 * v2 ≤ 10000001 / 10000000)
    (d0 : 0 ≤ d) (d1 : d ≤ 1 / 100000) (a1 : -d ≤ p1 - (v1 - u1)) (a2 : p1 - (v1 - u1) ≤ d) (a3 : -d ≤ p2 - (v2 - u2)) (a4 : p2 - (v2 - u2) ≤ d) :
    -(4 * d + 3 / 10000000) ≤ p1 * p1 + p2 * p2 + 2 * (p1 * u1 + p2 * u2) ∧ p1 * p1 + p2 * p2 + 2 * (p1 * u1 + p2 * u2) ≤ 4 * d + 3 / 10000000 := by
  obtain ⟨e1, h1⟩ : ∃ e, e = p1 - (v1 - u1) := ⟨_, rfl⟩
  obtain ⟨e2, h2⟩ : ∃ e, e = p2 - (v2 - u2) := ⟨_, rfl⟩
  rw [← h1] at a1 a2
  rw [← h2] at a3 a4
  have w1 : -(1000001 / 1000000) ≤ v1 ∧ v1 ≤ 1000001 / 1000000 := by
    have := sq_pos v2
    constructor
    · refine Rat.not_lt.1 fun k => ?_
      have := Rat.mul_pos (a := -(1000001 / 1000000) - v1) (b := 1000001 / 1000000 - v1) (by grind) (by grind)
      grind
    · refine Rat.not_lt.1 fun k => ?_
      have := Rat.mul_pos (a := v1 - 1000001 / 1000000) (b := v1 + 1000001 / 1000000) (by grind) (by grind)
      grind
  have w2 : -(1000001 / 1000000) ≤ v2 ∧ v2 ≤ 1000001 / 1000000 := by
    have := sq_pos v1
    constructor
    · refine Rat.not_lt.1 fun k => ?_
      have := Rat.mul_pos (a := -(1000001 / 1000000) - v2) (b := 1000001 / 1000000 - v2) (by grind) (by grind)
      grind
    · refine Rat.not_lt.1 fun k => ?_
      have := Rat.mul_pos (a := v2 - 1000001 / 1000000) (b := v2 + 1000001 / 1000000) (by grind) (by grind)
      grind
  have m1 := mul_bd w1.1 w1.2 a1 a2
  have m2 := mul_bd w2.1 w2.2 a3 a4
  have m3 := mul_bd a1 a2 a1 a2
  have m4 := mul_bd a3 a4 a3 a4
  have dd : d * d ≤ d * (1 / 100000) := by
    have := Rat.mul_nonneg (a := d) (b := 1 / 100000 - d) d0 (by grind)
    grind
  have s3 := sq_pos e1
  have s4 := sq_pos e2
  have e : p1 * p1 + p2 * p2 + 2 * (p1 * u1 + p2 * u2) = (v1 * v1 + v2 * v2) - (u1 * u1 + u2 * u2) + 2 * (v1 * e1 + v2 * e2) + (e1 * e1 + e2 * e2) := by
    have hp1 : p1 = v1 - u1 + e1 := by grind
    have hp2 : p2 = v2 - u2 + e2 := by grind
    rw [hp1, hp2]; grind
  rw [e]
  constructor <;> grind
/-- a unit vector -/
def Unit (u1 u2 : Rat) : Prop := 9999999 / 10000000 ≤ u1 * u1 + u2 * u2 ∧ u1 * u1 + u2 * u2 ≤ 10000001 / 10000000
theorem Unit.bd {v1 v2 : Rat} (h : Unit v1 v2) : (-(1000001 / 1000000) ≤ v1 ∧ v1 ≤ 1000001 / 1000000) ∧ (-(1000001 / 1000000) ≤ v2 ∧ v2 ≤ 1000001 / 1000000) := by
  obtain ⟨h1, h2⟩ := h
  have := sq_pos v1
  have := sq_pos v2
  refine ⟨⟨?_, ?_⟩, ?_, ?_⟩
  · refine Rat.not_lt.1 fun k => ?_
    have := Rat.mul_pos (a := -(1000001 / 1000000) - v1) (b := 1000001 / 1000000 - v1) (by grind) (by grind)
    grind
  · refine Rat.not_lt.1 fun k => ?_
    have := Rat.mul_pos (a := v1 - 1000001 / 1000000) (b := v1 + 1000001 / 1000000) (by grind) (by grind)
    grind
  · refine Rat.not_lt.1 fun k => ?_
    have := Rat.mul_pos (a := -(1000001 / 1000000) - v2) (b := 1000001 / 1000000 - v2) (by grind) (by grind)
    grind
  · refine Rat.not_lt.1 fun k => ?_
    have := Rat.mul_pos (a := v2 - 1000001 / 1000000) (b := v2 + 1000001 / 1000000) (by grind) (by grind)
    grind
/-- the difference of two places -/
theorem diff_H {s x y u1 u2 v1 v2 e : Rat} {a b : Cx} (hs1 : 1 / 10 ≤ s) (hs2 : s ≤ 10) (he0 : 0 ≤ e) (he : e ≤ 3 / 1000000) (hu : Unit u1 u2) (hv : Unit v1 v2) (ha : Plc s x y u1 u2 e a) (hb : Plc s x y v1 v2 e b) :
    ∃ p1 p2, H (minusF b a).1 s p1 ∧ H (minusF b a).2 s p2 ∧ (-(2 * e + 6 / 10000000) ≤ p1 - (v1 - u1) ∧ p1 - (v1 - u1) ≤ 2 * e + 6 / 10000000) ∧ (-(2 * e + 6 / 10000000) ≤ p2 - (v2 - u2) ∧ p2 - (v2 - u2) ≤ 2 * e + 6 / 10000000) ∧ (-(21 / 10) ≤ p1 ∧ p1 ≤ 21 / 10) ∧ (-(21 / 10) ≤ p2 ∧ p2 ≤ 21 / 10) := by
  have s0 : 0 < s := by grind
  have hsc : Sc s := ⟨by grind, by grind⟩
  obtain ⟨bu1, bu2⟩ := hu.bd
  obtain ⟨bv1, bv2⟩ := hv.bd
  obtain ⟨α1, ea1, a11, a12⟩ := scale_of s0 ha.x1 ha.x2
  obtain ⟨α2, ea2, a21, a22⟩ := scale_of s0 ha.y1 ha.y2
  obtain ⟨β1, eb1, b11, b12⟩ := scale_of s0 hb.x1 hb.x2
  obtain ⟨β2, eb2, b21, b22⟩ := scale_of s0 hb.y1 hb.y2
  have k1 : R .f32 b.1 - R .f32 a.1 = s * (β1 - α1) := by grind
  have k2 : R .f32 b.2 - R .f32 a.2 = s * (β2 - α2) := by grind
  obtain ⟨c1, c2⟩ := bd_mul (s := s) (q := β1 - α1) (c := 3) (by grind) (by grind) (by grind) (by grind) (by grind)
  obtain ⟨c3, c4⟩ := bd_mul (s := s) (q := β2 - α2) (c := 3) (by grind) (by grind) (by grind) (by grind) (by grind)
  have r1 := rnd_sub hb.n.1 ha.n.1 (by rw [k1]; exact c1) (by rw [k1]; exact c2)
  have r2 := rnd_sub hb.n.2 ha.n.2 (by rw [k2]; exact c3) (by rw [k2]; exact c4)
  obtain ⟨p1, hp1, p11, p12⟩ := H.of_rnd r1 hsc k1 (21 / 10) (by grind) (by grind) (by grind) (by grind)
  obtain ⟨p2, hp2, p21, p22⟩ := H.of_rnd r2 hsc k2 (21 / 10) (by grind) (by grind) (by grind) (by grind)
  exact ⟨p1, p2, hp1, hp2, ⟨by grind, by grind⟩, ⟨by grind, by grind⟩, ⟨by grind, by grind⟩, by grind, by grind⟩
/-- one coordinate of the middle -/
theorem off_one {p1 p2 q1 q2 u1 u2 PP QQ N m x : Rat} (hp1 : -(21 / 10) ≤ p1 ∧ p1 ≤ 21 / 10) (hp2 : -(21 / 10) ≤ p2 ∧ p2 ≤ 21 / 10) (hq1 : -(21 / 10) ≤ q1 ∧ q1 ≤ 21 / 10) (hq2 : -(21 / 10) ≤ q2 ∧ q2 ≤ 21 / 10) (hu : -(1000001 / 1000000) ≤ u1 ∧ u1 ≤ 1000001 / 1000000)
    (ep : -(21 / 1000000) ≤ p1 * p1 + p2 * p2 + 2 * (p1 * u1 + p2 * u2) ∧ p1 * p1 + p2 * p2 + 2 * (p1 * u1 + p2 * u2) ≤ 21 / 1000000) (eq : -(21 / 1000000) ≤ q1 * q1 + q2 * q2 + 2 * (q1 * u1 + q2 * u2) ∧ q1 * q1 + q2 * q2 + 2 * (q1 * u1 + q2 * u2) ≤ 21 / 1000000)
    (hPP : -(6 / 1000000) ≤ PP - (p1 * p1 + p2 * p2) ∧ PP - (p1 * p1 + p2 * p2) ≤ 6 / 1000000) (hQQ : -(6 / 1000000) ≤ QQ - (q1 * q1 + q2 * q2) ∧ QQ - (q1 * q1 + q2 * q2) ≤ 6 / 1000000)
    (hN : -(20 / 1000000) ≤ N - (q2 * PP - p2 * QQ) ∧ N - (q2 * PP - p2 * QQ) ≤ 20 / 1000000) (hm : -(14 / 1000000) ≤ m - 2 * (p1 * q2 - p2 * q1) ∧ m - 2 * (p1 * q2 - p2 * q1) ≤ 14 / 1000000) (hx : x * m = N) (hm0 : 82 / 100 ≤ m ∨ m ≤ -(82 / 100)) :
    -(181 / 1000000) ≤ x + u1 ∧ x + u1 ≤ 181 / 1000000 := by
  obtain ⟨E1, hE1⟩ : ∃ E, E = p1 * p1 + p2 * p2 + 2 * (p1 * u1 + p2 * u2) := ⟨_, rfl⟩
  obtain ⟨E2, hE2⟩ : ∃ E, E = q1 * q1 + q2 * q2 + 2 * (q1 * u1 + q2 * u2) := ⟨_, rfl⟩
  obtain ⟨e1, he1⟩ : ∃ E, E = PP - (p1 * p1 + p2 * p2) := ⟨_, rfl⟩
  obtain ⟨e2, he2⟩ : ∃ E, E = QQ - (q1 * q1 + q2 * q2) := ⟨_, rfl⟩
  obtain ⟨e3, he3⟩ : ∃ E, E = N - (q2 * PP - p2 * QQ) := ⟨_, rfl⟩
  obtain ⟨e4, he4⟩ : ∃ E, E = m - 2 * (p1 * q2 - p2 * q1) := ⟨_, rfl⟩
  rw [← hE1] at ep
  rw [← hE2] at eq
  rw [← he1] at hPP
  rw [← he2] at hQQ
  rw [← he3] at hN
  rw [← he4] at hm
  have key : (x + u1) * m = q2 * E1 - p2 * E2 + q2 * e1 - p2 * e2 + e3 + u1 * e4 := by
    have : (x + u1) * m = N + u1 * m := by grind
    rw [this, hE1, hE2, he1, he2, he3, he4]; grind
  have b1 := mul_bd hq2.1 hq2.2 ep.1 ep.2
  have b2 := mul_bd hp2.1 hp2.2 eq.1 eq.2
  have b3 := mul_bd hq2.1 hq2.2 hPP.1 hPP.2
  have b4 := mul_bd hp2.1 hp2.2 hQQ.1 hQQ.2
  have b5 := mul_bd hu.1 hu.2 hm.1 hm.2
  clear hE1 hE2 he1 he2 he3 he4 hx
  obtain ⟨W, hW⟩ : ∃ W, W = x + u1 := ⟨_, rfl⟩
  rw [← hW] at key ⊢
  have bK : -(148 / 1000000) ≤ W * m ∧ W * m ≤ 148 / 1000000 := by rw [key]; constructor <;> grind
  rcases hm0 with c | c
  · constructor
    · refine Rat.not_lt.1 fun k => ?_
      have := Rat.mul_pos (a := -(181 / 1000000) - W) (b := m) (by grind) (by grind)
      grind
    · refine Rat.not_lt.1 fun k => ?_
      have := Rat.mul_pos (a := W - 181 / 1000000) (b := m) (by grind) (by grind)
      grind
  · constructor
    · refine Rat.not_lt.1 fun k => ?_
      have := Rat.mul_pos (a := -(181 / 1000000) - W) (b := -m) (by grind) (by grind)
      grind
    · refine Rat.not_lt.1 fun k => ?_
      have := Rat.mul_pos (a := W - 181 / 1000000) (b := -m) (by grind) (by grind)
      grind
theorem cross_near {p1 p2 q1 q2 P1 P2 Q1 Q2 : Rat} (bq1 : -(21 / 10) ≤ q1 ∧ q1 ≤ 21 / 10) (bq2 : -(21 / 10) ≤ q2 ∧ q2 ≤ 21 / 10) (bP1 : -(21 / 10) ≤ P1 ∧ P1 ≤ 21 / 10) (bP2 : -(21 / 10) ≤ P2 ∧ P2 ≤ 21 / 10)
    (d1 : -(5 / 1000000) ≤ p1 - P1 ∧ p1 - P1 ≤ 5 / 1000000) (d2 : -(5 / 1000000) ≤ p2 - P2 ∧ p2 - P2 ≤ 5 / 1000000) (d3 : -(5 / 1000000) ≤ q1 - Q1 ∧ q1 - Q1 ≤ 5 / 1000000) (d4 : -(5 / 1000000) ≤ q2 - Q2 ∧ q2 - Q2 ≤ 5 / 1000000) :
    -(90 / 1000000) ≤ 2 * (p1 * q2 - p2 * q1) - 2 * (P1 * Q2 - P2 * Q1) ∧ 2 * (p1 * q2 - p2 * q1) - 2 * (P1 * Q2 - P2 * Q1) ≤ 90 / 1000000 := by
  have n1 := mul_bd (x := p1 - P1) (y := q2) d1.1 d1.2 bq2.1 bq2.2
  have n2 := mul_bd (x := P1) (y := q2 - Q2) bP1.1 bP1.2 d4.1 d4.2
  have n3 := mul_bd (x := p2 - P2) (y := q1) d2.1 d2.2 bq1.1 bq1.2
  have n4 := mul_bd (x := P2) (y := q1 - Q1) bP2.1 bP2.2 d3.1 d3.2
  constructor <;> grind
theorem sub21 {u v : Rat} (hu : -(1000001 / 1000000) ≤ u ∧ u ≤ 1000001 / 1000000) (hv : -(1000001 / 1000000) ≤ v ∧ v ≤ 1000001 / 1000000) : -(21 / 10) ≤ v - u ∧ v - u ≤ 21 / 10 := by constructor <;> grind
theorem arc_mid {s x y u1 u2 v1 v2 w1 w2 : Rat} {a b c : Cx} (hs1 : 1 / 10 ≤ s) (hs2 : s ≤ 5) (hu : Unit u1 u2) (hv : Unit v1 v2) (hw : Unit w1 w2) (ha : Plc s x y u1 u2 (22 / 10000000) a) (hb : Plc s x y v1 v2 (22 / 10000000) b) (hc : Plc s x y w1 w2 (22 / 10000000) c)
    (x1 : -(4 * s) ≤ x) (x2 : x ≤ 4 * s) (y1 : -(4 * s) ≤ y) (y2 : y ≤ 4 * s) (hD : 825 / 1000 ≤ 2 * ((v1 - u1) * (w2 - u2) - (v2 - u2) * (w1 - u1)) ∨ 2 * ((v1 - u1) * (w2 - u2) - (v2 - u2) * (w1 - u1)) ≤ -(825 / 1000)) :
    MidN a b c ∧ Plc s x y 0 0 (186 / 1000000) (midF a b c) ∧ (825 / 1000 ≤ 2 * ((v1 - u1) * (w2 - u2) - (v2 - u2) * (w1 - u1)) → 0 < R .f32 (amF (minusF b a) (minusF c a))) ∧ (2 * ((v1 - u1) * (w2 - u2) - (v2 - u2) * (w1 - u1)) ≤ -(825 / 1000) → R .f32 (amF (minusF b a) (minusF c a)) < 0) := by
  have HD := Lib.hid hD
  clear hD
  have s0 : 0 < s := by grind
  have hsc : Sc s := ⟨by grind, by grind⟩
  have ssb : 1 / 100 ≤ s * s ∧ s * s ≤ 25 := by
    have := Rat.mul_nonneg (a := s - 1 / 10) (b := s + 1 / 10) (by grind) (by grind)
    have := Rat.mul_nonneg (a := 5 - s) (b := s + 5) (by grind) (by grind)
    constructor <;> grind
  have hss : Sc (s * s) := ⟨by grind, by grind⟩
  have hsss : Sc (s * (s * s)) := by
    have := Rat.mul_nonneg (a := s - 1 / 10) (b := s * s) (by grind) (by grind)
    have := Rat.mul_nonneg (a := 5 - s) (b := s * s) (by grind) (by grind)
    exact ⟨by grind, by grind⟩
  obtain ⟨p1, p2, hp1, hp2, dp1, dp2, bp1, bp2⟩ := diff_H hs1 (by grind) (by decide +kernel) (by decide +kernel) hu hv ha hb
  obtain ⟨q1, q2, hq1, hq2, dq1, dq2, bq1, bq2⟩ := diff_H hs1 (by grind) (by decide +kernel) (by decide +kernel) hu hw ha hc
  have e5 : (2 * (22 / 10000000) + 6 / 10000000 : Rat) = 5 / 1000000 := by decide +kernel
  rw [e5] at dp1 dp2 dq1 dq2
  have ep := eps_bd (p1 := p1) (p2 := p2) (d := 5 / 1000000) hu.1 hu.2 hv.1 hv.2 (by decide +kernel) (by decide +kernel) dp1.1 dp1.2 dp2.1 dp2.2
  have eq := eps_bd (p1 := q1) (p2 := q2) (d := 5 / 1000000) hu.1 hu.2 hw.1 hw.2 (by decide +kernel) (by decide +kernel) dq1.1 dq1.2 dq2.1 dq2.2
  have HEP := Lib.hid ep
  have HEQ := Lib.hid eq
  clear ep eq
  obtain ⟨bu1, bu2⟩ := hu.bd
  obtain ⟨bv1, bv2⟩ := hv.bd
  obtain ⟨bw1, bw2⟩ := hw.bd
  -- the exact cross product of the differences
  have hcr := cross_near (P1 := v1 - u1) (P2 := v2 - u2) (Q1 := w1 - u1) (Q2 := w2 - u2) bq1 bq2 (sub21 bu1 bv1) (sub21 bu2 bv2) dp1 dp2 dq1 dq2
  obtain ⟨P, hP⟩ : ∃ P, P = minusF b a := ⟨_, rfl⟩
  obtain ⟨Q, hQ⟩ : ∃ Q, Q = minusF c a := ⟨_, rfl⟩
  have eM : midF a b c = plusF a (offF P Q) := by rw [hP, hQ]; rfl
  rw [← hP] at hp1 hp2
  rw [← hQ] at hq1 hq2
  have t1 := mul_bd bp1.1 bp1.2 bq2.1 bq2.2
  have t2 := mul_bd bp2.1 bp2.2 bq1.1 bq1.2
  obtain ⟨m1, hm1, m11, m12⟩ := hp1.mul hq2 hss 5 (by decide +kernel) (by decide +kernel) (by grind) (by grind)
  obtain ⟨m2, hm2, m21, m22⟩ := hp2.mul hq1 hss 5 (by decide +kernel) (by decide +kernel) (by grind) (by grind)
  obtain ⟨cr, hcrs, c1, c2⟩ := hm1.sub hm2 hss 9 (by decide +kernel) (by decide +kernel) (by grind) (by grind)
  have h2 : H 1073741824 1 2 := ⟨(two32 0).1, by rw [(two32 0).2]; decide +kernel⟩
  have e1s : (1 : Rat) * (s * s) = s * s := by grind
  obtain ⟨m, hm, mm1, mm2⟩ := h2.mul hcrs (by rw [e1s]; exact hss) 20 (by decide +kernel) (by decide +kernel) (by grind) (by grind)
  rw [e1s] at hm
  have hmb : -(14 / 1000000) ≤ m - 2 * (p1 * q2 - p2 * q1) ∧ m - 2 * (p1 * q2 - p2 * q1) ≤ 14 / 1000000 := by constructor <;> grind
  have hms1 : 825 / 1000 ≤ 2 * ((v1 - u1) * (w2 - u2) - (v2 - u2) * (w1 - u1)) → 82 / 100 ≤ m := fun h => by grind
  have hms2 : 2 * ((v1 - u1) * (w2 - u2) - (v2 - u2) * (w1 - u1)) ≤ -(825 / 1000) → m ≤ -(82 / 100) := fun h => by grind
  have hm0 : 82 / 100 ≤ m ∨ m ≤ -(82 / 100) := HD.out.elim (fun h => .inl (hms1 h)) (fun h => .inr (hms2 h))
  have HMS := Lib.hid (And.intro hms1 hms2)
  clear hms1 hms2
  obtain ⟨pp, PP, hPP, pp1, pp2⟩ := H.pow (z := P) hs1 (by grind) hp1 hp2 (by grind) (by grind) (by grind) (by grind)
  obtain ⟨pq, QQ, hQQ, qq1, qq2⟩ := H.pow (z := Q) hs1 (by grind) hq1 hq2 (by grind) (by grind) (by grind) (by grind)
  have sq1 := mul_bd bp1.1 bp1.2 bp1.1 bp1.2
  have sq2 := mul_bd bp2.1 bp2.2 bp2.1 bp2.2
  have sq3 := mul_bd bq1.1 bq1.2 bq1.1 bq1.2
  have sq4 := mul_bd bq2.1 bq2.2 bq2.1 bq2.2
  have sp1 := sq_pos p1
  have sp2 := sq_pos p2
  have sp3 := sq_pos q1
  have sp4 := sq_pos q2
  have bPP : -9 ≤ PP ∧ PP ≤ 9 := by constructor <;> grind
  have bQQ : -9 ≤ QQ ∧ QQ ≤ 9 := by constructor <;> grind
  clear t1 t2 sq1 sq2 sq3 sq4 sp1 sp2 sp3 sp4 dp1 dp2 dq1 dq2 hcr
  have z1 := mul_bd bq2.1 bq2.2 bPP.1 bPP.2
  have z2 := mul_bd bp2.1 bp2.2 bQQ.1 bQQ.2
  have z3 := mul_bd bp1.1 bp1.2 bQQ.1 bQQ.2
  have z4 := mul_bd bq1.1 bq1.2 bPP.1 bPP.2
  obtain ⟨x1', hx1, x11, x12⟩ := hq2.mul hPP hsss 19 (by decide +kernel) (by decide +kernel) (by grind) (by grind)
  obtain ⟨x2', hx2, x21, x22⟩ := hp2.mul hQQ hsss 19 (by decide +kernel) (by decide +kernel) (by grind) (by grind)
  obtain ⟨y1', hy1, y11, y12⟩ := hp1.mul hQQ hsss 19 (by decide +kernel) (by decide +kernel) (by grind) (by grind)
  obtain ⟨y2', hy2, y21, y22⟩ := hq1.mul hPP hsss 19 (by decide +kernel) (by decide +kernel) (by grind) (by grind)
  -- the sums are small: the middle is near
  have hxN : -(10 / 1000000) ≤ (x1' - x2') - (q2 * PP - p2 * QQ) ∧ (x1' - x2') - (q2 * PP - p2 * QQ) ≤ 10 / 1000000 := by constructor <;> grind
  have hyN : -(10 / 1000000) ≤ (y1' - y2') - (p1 * QQ - q1 * PP) ∧ (y1' - y2') - (p1 * QQ - q1 * PP) ≤ 10 / 1000000 := by constructor <;> grind
  have bx1 : -20 ≤ x1' ∧ x1' ≤ 20 := by constructor <;> grind
  have bx2 : -20 ≤ x2' ∧ x2' ≤ 20 := by constructor <;> grind
  have by1 : -20 ≤ y1' ∧ y1' ≤ 20 := by constructor <;> grind
  have by2 : -20 ≤ y2' ∧ y2' ≤ 20 := by constructor <;> grind
  clear z1 z2 z3 z4 x11 x12 x21 x22 y11 y12 y21 y22 bPP bQQ bw1 bw2 bv1 bv2
  have hm' : m ≠ 0 := by
    rcases hm0 with h | h
    · clear hxN hyN; grind
    · clear hxN hyN; grind
  obtain ⟨X, hXN, X1, X2⟩ := hx1.sub hx2 hsss 40 (by decide +kernel) (by decide +kernel) (by clear hxN hyN; grind) (by clear hxN hyN; grind)
  obtain ⟨Y, hYN, Y1, Y2⟩ := hy1.sub hy2 hsss 40 (by decide +kernel) (by decide +kernel) (by clear hxN hyN; grind) (by clear hxN hyN; grind)
  have hXe : -(20 / 1000000) ≤ X - (q2 * PP - p2 * QQ) ∧ X - (q2 * PP - p2 * QQ) ≤ 20 / 1000000 := by constructor <;> grind
  have hYe : -(20 / 1000000) ≤ Y - (p1 * QQ - q1 * PP) ∧ Y - (p1 * QQ - q1 * PP) ≤ 20 / 1000000 := by constructor <;> grind
  clear hxN hyN X1 X2 Y1 Y2 bx1 bx2 by1 by2
  have hqx : X / m * m = X := Rat.div_mul_cancel hm'
  have hqy : Y / m * m = Y := Rat.div_mul_cancel hm'
  obtain ⟨ox, hox⟩ : ∃ o, o = X / m := ⟨_, rfl⟩
  obtain ⟨oy, hoy⟩ : ∃ o, o = Y / m := ⟨_, rfl⟩
  rw [← hox] at hqx
  rw [← hoy] at hqy
  have ee : (4 * (5 / 1000000) + 3 / 10000000 : Rat) ≤ 21 / 1000000 := by decide +kernel
  have ep := HEP.out
  have eq := HEQ.out
  have ep' : -(21 / 1000000) ≤ p1 * p1 + p2 * p2 + 2 * (p1 * u1 + p2 * u2) ∧ p1 * p1 + p2 * p2 + 2 * (p1 * u1 + p2 * u2) ≤ 21 / 1000000 := ⟨Rat.le_trans (by decide +kernel) ep.1, Rat.le_trans ep.2 ee⟩
  have eq' : -(21 / 1000000) ≤ q1 * q1 + q2 * q2 + 2 * (q1 * u1 + q2 * u2) ∧ q1 * q1 + q2 * q2 + 2 * (q1 * u1 + q2 * u2) ≤ 21 / 1000000 := ⟨Rat.le_trans (by decide +kernel) eq.1, Rat.le_trans eq.2 ee⟩
  have ox1 := off_one bp1 bp2 bq1 bq2 bu1 ep' eq' ⟨pp1, pp2⟩ ⟨qq1, qq2⟩ hXe hmb hqx hm0
  -- the other coordinate: the same, with both turned round
  have oy1 := off_one (p1 := p2) (p2 := p1) (q1 := q2) (q2 := q1) (u1 := u2) (u2 := u1) (PP := PP) (QQ := QQ) (N := -Y) (m := -m) (x := oy) bp2 bp1 bq2 bq1 bu2 (by rw [show p2 * p2 + p1 * p1 + 2 * (p2 * u2 + p1 * u1) = p1 * p1 + p2 * p2 + 2 * (p1 * u1 + p2 * u2) by grind]; exact ep') (by rw [show q2 * q2 + q1 * q1 + 2 * (q2 * u2 + q1 * u1) = q1 * q1 + q2 * q2 + 2 * (q1 * u1 + q2 * u2) by grind]; exact eq')
    (by rw [show p2 * p2 + p1 * p1 = p1 * p1 + p2 * p2 by grind]; exact ⟨pp1, pp2⟩) (by rw [show q2 * q2 + q1 * q1 = q1 * q1 + q2 * q2 by grind]; exact ⟨qq1, qq2⟩) (by obtain ⟨k1, k2⟩ := hYe; constructor <;> grind) (by obtain ⟨k1, k2⟩ := hmb; constructor <;> grind) (by rw [← hqy]; grind) (hm0.elim (fun h => .inr (by grind)) (fun h => .inl (by grind)))
  have oy2 : -(181 / 1000000) ≤ oy + u2 ∧ oy + u2 ≤ 181 / 1000000 := oy1
  clear oy1 ep eq ep' eq' hXe hYe pp1 pp2 qq1 qq2 hox hoy HEP HEQ
  have s1x : s * (s * s) = s * (s * s) := rfl
  obtain ⟨ux, hux, ux1, ux2⟩ := hXN.div (q := ox) hm hsc hss hm' hqx 2 (by decide +kernel) (by decide +kernel) (by grind) (by grind)
  obtain ⟨uy, huy, uy1, uy2⟩ := hYN.div (q := oy) hm hsc hss hm' hqy 2 (by decide +kernel) (by decide +kernel) (by grind) (by grind)
  obtain ⟨α1, ea1, a11, a12⟩ := scale_of s0 ha.x1 ha.x2
  obtain ⟨α2, ea2, a21, a22⟩ := scale_of s0 ha.y1 ha.y2
  have bx : -(184 / 1000000) ≤ α1 + ux ∧ α1 + ux ≤ 184 / 1000000 := by constructor <;> grind
  have by' : -(184 / 1000000) ≤ α2 + uy ∧ α2 + uy ≤ 184 / 1000000 := by constructor <;> grind
  obtain ⟨xx, hxx⟩ : ∃ t, t = x / s := ⟨_, rfl⟩
  obtain ⟨yy, hyy⟩ : ∃ t, t = y / s := ⟨_, rfl⟩
  have exx : x = s * xx := by rw [hxx]; have := Rat.div_mul_cancel (a := x) (b := s) (by grind); grind
  have eyy : y = s * yy := by rw [hyy]; have := Rat.div_mul_cancel (a := y) (b := s) (by grind); grind
  have bxx : -4 ≤ xx ∧ xx ≤ 4 := by
    constructor
    · refine Rat.not_lt.1 fun k => ?_
      have := Rat.mul_pos (a := -4 - xx) (b := s) (by grind) s0
      grind
    · refine Rat.not_lt.1 fun k => ?_
      have := Rat.mul_pos (a := xx - 4) (b := s) (by grind) s0
      grind
  have byy : -4 ≤ yy ∧ yy ≤ 4 := by
    constructor
    · refine Rat.not_lt.1 fun k => ?_
      have := Rat.mul_pos (a := -4 - yy) (b := s) (by grind) s0
      grind
    · refine Rat.not_lt.1 fun k => ?_
      have := Rat.mul_pos (a := yy - 4) (b := s) (by grind) s0
      grind
  have hA1 : H a.1 s (xx + α1) := ⟨ha.n.1, by grind⟩
  have hA2 : H a.2 s (yy + α2) := ⟨ha.n.2, by grind⟩
  obtain ⟨d1, hd1, d11, d12⟩ := hA1.add hux hsc 5 (by decide +kernel) (by decide +kernel) (by grind) (by grind)
  obtain ⟨d2, hd2, d21, d22⟩ := hA2.add huy hsc 5 (by decide +kernel) (by decide +kernel) (by grind) (by grind)
  have n1 : (midF a b c).1 = fop .add .f32 a.1 (fop .quo .f32 (axN P Q) (amF P Q)) := by rw [eM]; rfl
  have n2 : (midF a b c).2 = fop .add .f32 a.2 (fop .quo .f32 (ayN P Q) (amF P Q)) := by rw [eM]; rfl
  have hd1R : R .f32 (midF a b c).1 = s * d1 := by rw [n1]; exact hd1.2
  have hd2R : R .f32 (midF a b c).2 = s * d2 := by rw [n2]; exact hd2.2
  have gx1 := Rat.mul_nonneg (a := d1 - xx + 186 / 1000000) (b := s) (by grind) (by grind)
  have gx2 := Rat.mul_nonneg (a := 186 / 1000000 - (d1 - xx)) (b := s) (by grind) (by grind)
  have gy1 := Rat.mul_nonneg (a := d2 - yy + 186 / 1000000) (b := s) (by grind) (by grind)
  have gy2 := Rat.mul_nonneg (a := 186 / 1000000 - (d2 - yy)) (b := s) (by grind) (by grind)
  have hmid : nN (midF a b c) := ⟨by rw [n1]; exact hd1.1, by rw [n2]; exact hd2.1⟩
  have hmR : R .f32 (amF P Q) = s * s * m := hm.2
  refine ⟨?_, ⟨hmid, ?_, ?_, ?_, ?_⟩, fun hp => ?_, fun hp => ?_⟩
  · refine ⟨?_, ?_, ?_, ?_, ?_, ?_, ?_, ?_, ?_, ?_, ?_, ?_, ?_, ?_, ?_, ?_, ?_, hmid⟩ <;> first | rw [← hP, ← hQ] | rw [← hP] | rw [← hQ]
    · exact ⟨hp1.1, hp2.1⟩
    · exact ⟨hq1.1, hq2.1⟩
    · exact hm1.1
    · exact hm2.1
    · exact hcrs.1
    · exact hm.1
    · exact pp
    · exact pq
    · exact hPP.1
    · exact hQQ.1
    · exact hx1.1
    · exact hx2.1
    · exact hXN.1
    · exact hy1.1
    · exact hy2.1
    · exact hYN.1
    · exact ⟨hux.1, huy.1⟩
  · rw [hd1R, exx]; grind
  · rw [hd1R, exx]; grind
  · rw [hd2R, eyy]; grind
  · rw [hd2R, eyy]; grind
  · rw [← hP, ← hQ, hmR]
    have := HMS.out.1 hp
    exact Rat.mul_pos (by grind) (by grind)
  · rw [← hP, ← hQ, hmR]
    have := HMS.out.2 hp
    have := Rat.mul_pos (a := s * s) (b := -m) (by grind) (by grind)
    grind
end Go.Fl

namespace Go.Fl
open Ieee Go.RowKit
theorem unit_tab : (List.range 16).all (fun j => decide (9999999 / 10000000 ≤ cosT j * cosT j + sinT j * sinT j) && decide (cosT j * cosT j + sinT j * sinT j ≤ 10000001 / 10000000)) = true := by decide +kernel
theorem unitT {j : Nat} (h : j < 16) : Unit (cosT j) (sinT j) := by
  have := List.all_eq_true.1 unit_tab j (List.mem_range.2 h)
  simp only [Bool.and_eq_true, decide_eq_true_eq] at this
  exact this
def cross2 (a b c : Nat) : Rat := 2 * ((cosT b - cosT a) * (sinT c - sinT a) - (sinT b - sinT a) * (cosT c - cosT a))
theorem cross_tab : (List.range 16).all (fun a => (List.range 8).all fun k => decide (k < 2) || (decide (825 / 1000 ≤ cross2 a ((a + k) % 16) ((a + 2 * k) % 16)) && decide (cross2 a ((a + 16 - k) % 16) ((a + 32 - 2 * k) % 16) ≤ -(825 / 1000)))) = true := by decide +kernel
theorem crossT {a k : Nat} (ha : a < 16) (h2 : 2 ≤ k) (h7 : k ≤ 7) : 825 / 1000 ≤ cross2 a ((a + k) % 16) ((a + 2 * k) % 16) ∧ cross2 a ((a + 16 - k) % 16) ((a + 32 - 2 * k) % 16) ≤ -(825 / 1000) := by
  have := List.all_eq_true.1 (List.all_eq_true.1 cross_tab a (List.mem_range.2 ha)) k (List.mem_range.2 (by omega))
  have n : ¬ k < 2 := by omega
  simp only [n, decide_false, Bool.false_or, Bool.and_eq_true, decide_eq_true_eq] at this
  exact this
/-- from the middle to a place -/
theorem way_H {s x y u1 u2 : Rat} {a m : Cx} (hs1 : 1 / 10 ≤ s) (hs2 : s ≤ 5) (hu : Unit u1 u2) (ha : Plc s x y u1 u2 (22 / 10000000) a) (hm : Plc s x y 0 0 (186 / 1000000) m) :
    ∃ w1 w2, H (minusF a m).1 s w1 ∧ H (minusF a m).2 s w2 ∧ (-(190 / 1000000) ≤ w1 - u1 ∧ w1 - u1 ≤ 190 / 1000000) ∧ (-(190 / 1000000) ≤ w2 - u2 ∧ w2 - u2 ≤ 190 / 1000000) := by
  have s0 : 0 < s := by grind
  have hsc : Sc s := ⟨by grind, by grind⟩
  obtain ⟨bu1, bu2⟩ := hu.bd
  obtain ⟨α1, ea1, a11, a12⟩ := scale_of s0 ha.x1 ha.x2
  obtain ⟨α2, ea2, a21, a22⟩ := scale_of s0 ha.y1 ha.y2
  obtain ⟨β1, eb1, b11, b12⟩ := scale_of s0 hm.x1 hm.x2
  obtain ⟨β2, eb2, b21, b22⟩ := scale_of s0 hm.y1 hm.y2
  have k1 : R .f32 a.1 - R .f32 m.1 = s * (α1 - β1) := by grind
  have k2 : R .f32 a.2 - R .f32 m.2 = s * (α2 - β2) := by grind
  obtain ⟨c1, c2⟩ := bd_mul (s := s) (q := α1 - β1) (c := 3) (by grind) (by grind) (by grind) (by grind) (by grind)
  obtain ⟨c3, c4⟩ := bd_mul (s := s) (q := α2 - β2) (c := 3) (by grind) (by grind) (by grind) (by grind) (by grind)
  have r1 := rnd_sub ha.n.1 hm.n.1 (by rw [k1]; exact c1) (by rw [k1]; exact c2)
  have r2 := rnd_sub ha.n.2 hm.n.2 (by rw [k2]; exact c3) (by rw [k2]; exact c4)
  obtain ⟨p1, hp1, p11, p12⟩ := H.of_rnd r1 hsc k1 (11 / 10) (by grind) (by grind) (by grind) (by grind)
  obtain ⟨p2, hp2, p21, p22⟩ := H.of_rnd r2 hsc k2 (11 / 10) (by grind) (by grind) (by grind) (by grind)
  exact ⟨p1, p2, hp1, hp2, ⟨by grind, by grind⟩, ⟨by grind, by grind⟩⟩
/-- the radius -/
theorem way_long {s u1 u2 w1 w2 : Rat} {z : Cx} (hs1 : 1 / 10 ≤ s) (hs2 : s ≤ 4) (hu : Unit u1 u2) (h1 : H z.1 s w1) (h2 : H z.2 s w2) (d1 : -(190 / 1000000) ≤ w1 - u1 ∧ w1 - u1 ≤ 190 / 1000000) (d2 : -(190 / 1000000) ≤ w2 - u2 ∧ w2 - u2 ≤ 190 / 1000000) :
    LongN z ∧ ∃ v, H (longF z) s v ∧ -(42 / 100000) ≤ v - 1 ∧ v - 1 ≤ 42 / 100000 := by
  obtain ⟨bu1, bu2⟩ := hu.bd
  have bw1 : -(10002 / 10000) ≤ w1 ∧ w1 ≤ 10002 / 10000 := by constructor <;> grind
  have bw2 : -(10002 / 10000) ≤ w2 ∧ w2 ≤ 10002 / 10000 := by constructor <;> grind
  have s0 : 0 < s := by grind
  obtain ⟨k1, k2⟩ := mul_bd (x := s) (y := w1) (B := 4) (C := 10002 / 10000) (by grind) hs2 bw1.1 bw1.2
  obtain ⟨k3, k4⟩ := mul_bd (x := s) (y := w2) (B := 4) (C := 10002 / 10000) (by grind) hs2 bw2.1 bw2.2
  have hl := long_near (z := z) ⟨h1.1, h2.1⟩ (by rw [h1.2]; grind) (by rw [h1.2]; grind) (by rw [h2.2]; grind) (by rw [h2.2]; grind)
  obtain ⟨r, r0, r1, r2, r3, r4⟩ := hl.val
  rw [h1.2, h2.2] at r1 r2
  obtain ⟨e1, he1⟩ : ∃ e, e = w1 - u1 := ⟨_, rfl⟩
  obtain ⟨e2, he2⟩ : ∃ e, e = w2 - u2 := ⟨_, rfl⟩
  rw [← he1] at d1
  rw [← he2] at d2
  have m1 := mul_bd bu1.1 bu1.2 d1.1 d1.2
  have m2 := mul_bd bu2.1 bu2.2 d2.1 d2.2
  have m3 := mul_bd d1.1 d1.2 d1.1 d1.2
  have m4 := mul_bd d2.1 d2.2 d2.1 d2.2
  obtain ⟨W, hW⟩ : ∃ W, W = w1 * w1 + w2 * w2 := ⟨_, rfl⟩
  have hWb : -(762 / 1000000) ≤ W - 1 ∧ W - 1 ≤ 762 / 1000000 := by
    have e : W = (u1 * u1 + u2 * u2) + 2 * (u1 * e1 + u2 * e2) + (e1 * e1 + e2 * e2) := by rw [hW, he1, he2]; grind
    obtain ⟨q1, q2⟩ := hu
    rw [e]; constructor <;> grind
  have eW : s * w1 * (s * w1) + s * w2 * (s * w2) = s * s * W := by rw [hW]; grind
  rw [eW] at r1 r2
  clear m1 m2 m3 m4 he1 he2 d1 d2 bu1 bu2 hu k1 k2 k3 k4 bw1 bw2 hW eW
  have ss : 1 / 100 ≤ s * s := by
    have := Rat.mul_nonneg (a := s - 1 / 10) (b := s + 1 / 10) (by grind) (by grind)
    grind
  have w1' := Rat.mul_nonneg (a := s * s) (b := W - 1 + 762 / 1000000) (by grind) (by grind)
  have w2' := Rat.mul_nonneg (a := s * s) (b := 762 / 1000000 - (W - 1)) (by grind) (by grind)
  have up : r ≤ s * (1 + 40 / 100000) := by
    refine Rat.not_lt.1 fun k => ?_
    have := Rat.mul_pos (a := r - s * (1 + 40 / 100000)) (b := r + s * (1 + 40 / 100000)) (by grind) (by grind)
    grind
  have dn : s * (1 - 40 / 100000) ≤ r := by
    refine Rat.not_lt.1 fun k => ?_
    have k2 : r + 1 / 1000000000000 < s * (1 - 39 / 100000) := by grind
    have := Rat.mul_pos (a := s * (1 - 39 / 100000) - (r + 1 / 1000000000000)) (b := s * (1 - 39 / 100000) + (r + 1 / 1000000000000)) (by grind) (by grind)
    grind
  have hv : R .f32 (longF z) / s * s = R .f32 (longF z) := Rat.div_mul_cancel (by grind)
  obtain ⟨v, hvv⟩ : ∃ v, v = R .f32 (longF z) / s := ⟨_, rfl⟩
  rw [← hvv] at hv
  refine ⟨hl, v, ⟨hl.num, by grind⟩, ?_, ?_⟩
  · refine Rat.not_lt.1 fun k => ?_
    have := Rat.mul_pos (a := -(42 / 100000) - (v - 1)) (b := s) (by grind) s0
    grind
  · refine Rat.not_lt.1 fun k => ?_
    have := Rat.mul_pos (a := (v - 1) - 42 / 100000) (b := s) (by grind) s0
    grind
theorem one32N : isN .f32 1065353216 = true ∧ R .f32 1065353216 = 1 := by
  have q : Q .f32 1065353216 1 0 := ⟨by decide +kernel, by decide +kernel, by decide⟩
  exact ⟨q.num, by rw [q.R]; decide +kernel⟩
/-- how far an arc turns -/
def turF (m angC angA : Nat) : Nat := if 0 < R .f32 m ∧ ¬ 0 < R .f32 (fop .sub .f32 angC angA) then fop .add .f32 (fop .sub .f32 angC angA) 1065353216 else if R .f32 m < 0 ∧ ¬ R .f32 (fop .sub .f32 angC angA) < 0 then fop .sub .f32 (fop .sub .f32 angC angA) 1065353216 else fop .sub .f32 angC angA
structure TurN (m angC angA : Nat) : Prop where
  s : isN .f32 (fop .sub .f32 angC angA) = true
  t : isN .f32 (turF m angC angA) = true
/-- a turn of k sixteenths, twice: angles a and c, c being 2 k sixteenths further (or back) -/
theorem turn_near {m angC angA a c k : Nat} {nA nC : Int} {eA eC : Rat} (up : Bool) (ha : isN .f32 angA = true) (hc : isN .f32 angC = true) (hA1 : -(51 / 100) ≤ R .f32 angA) (hA2 : R .f32 angA ≤ 51 / 100) (hC1 : -(51 / 100) ≤ R .f32 angC) (hC2 : R .f32 angC ≤ 51 / 100)
    (eqA : R .f32 angA = qJ a / 16 + (nA : Rat) + eA) (eqC : R .f32 angC = qJ c / 16 + (nC : Rat) + eC) (bA : -(9 / 100000) ≤ eA ∧ eA ≤ 9 / 100000) (bC : -(9 / 100000) ≤ eC ∧ eC ≤ 9 / 100000) (h2 : 2 ≤ k) (h7 : k ≤ 7) (ha16 : a < 16)
    (hcc : c = if up then (a + 2 * k) % 16 else (a + 32 - 2 * k) % 16) (hm : if up then 0 < R .f32 m else R .f32 m < 0) :
    TurN m angC angA ∧ -(1 / 1000000) ≤ R .f32 (turF m angC angA) - ((if up then qJ k else -qJ k) / 8 + (eC - eA)) ∧ R .f32 (turF m angC angA) - ((if up then qJ k else -qJ k) / 8 + (eC - eA)) ≤ 1 / 1000000 := by
  have k2 := qJ_le h2
  have k7 := qJ_le h7
  have e2 : qJ 2 = 2 := rfl
  have e7 : qJ 7 = 7 := rfl
  rw [e2] at k2
  rw [e7] at k7
  have r1 := rnd_sub hc ha (by grind) (by grind)
  have f1 := r1.n32 1 (by decide) (B := 2) rfl (by grind) (by grind)
  obtain ⟨t, ht⟩ : ∃ t, t = fop .sub .f32 angC angA := ⟨_, rfl⟩
  have htn : isN .f32 t = true := by rw [ht]; exact r1.num
  rw [← ht] at f1
  obtain ⟨o0, o1⟩ := one32N
  -- the whole turns between
  have hw : ∃ N : Int, qJ c = qJ a + 2 * (if up then qJ k else -qJ k) + 16 * (N : Rat) := by
    cases up
    · simp only [Bool.false_eq_true, if_false] at hcc ⊢
      rcases Nat.lt_or_ge (a + 32 - 2 * k) 32 with h | h
      · -- a < 2 k
        have hcN : c + 2 * k = a + 16 := by omega
        have e := qJ_add c (2 * k)
        have e' := qJ_add a 16
        have e3 := qJ_add k k
        rw [show k + k = 2 * k by omega] at e3
        rw [hcN] at e
        have e16 : qJ 16 = 16 := rfl
        have c1 : ((1 : Int) : Rat) = 1 := rfl
        exact ⟨1, by rw [c1]; grind⟩
      · have hcN : c + 2 * k = a := by omega
        have e := qJ_add c (2 * k)
        have e3 := qJ_add k k
        rw [show k + k = 2 * k by omega] at e3
        rw [hcN] at e
        have c0 : ((0 : Int) : Rat) = 0 := rfl
        exact ⟨0, by rw [c0]; grind⟩
    · simp only [if_true] at hcc ⊢
      have e3 := qJ_add k k
      rw [show k + k = 2 * k by omega] at e3
      rcases Nat.lt_or_ge (a + 2 * k) 16 with h | h
      · have hcN : c = a + 2 * k := by omega
        have e := qJ_add a (2 * k)
        have c0 : ((0 : Int) : Rat) = 0 := rfl
        exact ⟨0, by rw [c0, hcN]; grind⟩
      · have hcN : c + 16 = a + 2 * k := by omega
        have e := qJ_add c 16
        have e' := qJ_add a (2 * k)
        have e16 : qJ 16 = 16 := rfl
        have c1 : ((-1 : Int) : Rat) = -1 := rfl
        rw [hcN] at e
        exact ⟨-1, by rw [c1]; grind⟩
  obtain ⟨N, hN⟩ := hw
  obtain ⟨T, hT⟩ : ∃ T : Int, T = nC - nA + N := ⟨_, rfl⟩
  have hTc : (T : Rat) = (nC : Rat) - (nA : Rat) + (N : Rat) := by rw [hT, Rat.intCast_add, Rat.intCast_sub]
  have hd : R .f32 angC - R .f32 angA = (if up then qJ k else -qJ k) / 8 + (T : Rat) + (eC - eA) := by rw [eqA, eqC, hN, hTc]; grind
  cases up
  · simp only [Bool.false_eq_true, if_false] at hd hm ⊢
    -- T is 0 or 1
    have hT2 : T = 0 ∨ T = 1 := int_two (by grind) (by grind)
    have c0 : ((0 : Int) : Rat) = 0 := rfl
    have c1 : ((1 : Int) : Rat) = 1 := rfl
    have hm0 : ¬ 0 < R .f32 m := by grind
    rcases hT2 with h | h
    · rw [h, c0] at hd
      have tn : R .f32 t < 0 := by grind
      have et : turF m angC angA = t := by unfold turF; rw [← ht, if_neg (fun q => hm0 q.1), if_neg (fun q => q.2 tn)]
      exact ⟨⟨by rw [← ht]; exact htn, by rw [et]; exact htn⟩, by rw [et]; grind, by rw [et]; grind⟩
    · rw [h, c1] at hd
      have tn : ¬ R .f32 t < 0 := by grind
      have r2 := rnd_sub htn o0 (by rw [o1]; grind) (by rw [o1]; grind)
      rw [o1] at r2
      have f2 := r2.n32 1 (by decide) (B := 2) rfl (by grind) (by grind)
      have et : turF m angC angA = fop .sub .f32 t 1065353216 := by unfold turF; rw [← ht, if_neg (fun q => hm0 q.1), if_pos ⟨hm, tn⟩]
      exact ⟨⟨by rw [← ht]; exact htn, by rw [et]; exact r2.num⟩, by rw [et]; grind, by rw [et]; grind⟩
  · simp only [if_true] at hd hm ⊢
    have hT2 : T + 1 = 0 ∨ T + 1 = 1 := by
      have e : ((T + 1 : Int) : Rat) = (T : Rat) + 1 := by rw [Rat.intCast_add]; rfl
      exact int_two (by rw [e]; grind) (by rw [e]; grind)
    have c0 : ((0 : Int) : Rat) = 0 := rfl
    have c1 : ((-1 : Int) : Rat) = -1 := rfl
    rcases hT2 with h | h
    · have h : T = -1 := by omega
      rw [h, c1] at hd
      have tn : ¬ 0 < R .f32 t := by grind
      have r2 := rnd_add htn o0 (by rw [o1]; grind) (by rw [o1]; grind)
      rw [o1] at r2
      have f2 := r2.n32 1 (by decide) (B := 2) rfl (by grind) (by grind)
      have et : turF m angC angA = fop .add .f32 t 1065353216 := by unfold turF; rw [← ht, if_pos ⟨hm, tn⟩]
      exact ⟨⟨by rw [← ht]; exact htn, by rw [et]; exact r2.num⟩, by rw [et]; grind, by rw [et]; grind⟩
    · have h : T = 0 := by omega
      rw [h, c0] at hd
      have tn : 0 < R .f32 t := by grind
      have hm0 : ¬ R .f32 m < 0 := by grind
      have et : turF m angC angA = t := by unfold turF; rw [← ht, if_neg (fun q => q.2 tn), if_neg (fun q => hm0 q.1)]
      exact ⟨⟨by rw [← ht]; exact htn, by rw [et]; exact htn⟩, by rw [et]; grind, by rw [et]; grind⟩
end Go.Fl

namespace Go.Fl
open Ieee Go.RowKit
def arR (a b c : Cx) : Nat := longF (minusF a (midF a b c))
def arF (a b c : Cx) : Nat := agF (minusF a (midF a b c)).2 (minusF a (midF a b c)).1
def arE (a b c : Cx) : Nat := agF (minusF c (midF a b c)).2 (minusF c (midF a b c)).1
def arT (a b c : Cx) : Nat := turF (amF (minusF b a) (minusF c a)) (arE a b c) (arF a b c)
/-- all steps to the arc through three points are numbers -/
structure ArcN (a b c : Cx) : Prop where
  na : nN a
  nb : nN b
  nc : nN c
  mid : MidN a b c
  nz : R .f32 (amF (minusF b a) (minusF c a)) ≠ 0
  w1 : nN (minusF a (midF a b c))
  w2 : nN (minusF c (midF a b c))
  long : LongN (minusF a (midF a b c))
  pos : 0 < R .f32 (arR a b c)
  g1 : AgN (minusF a (midF a b c)).2 (minusF a (midF a b c)).1
  g2 : AgN (minusF c (midF a b c)).2 (minusF c (midF a b c)).1
  t : TurN (amF (minusF b a) (minusF c a)) (arE a b c) (arF a b c)
def jAt (up : Bool) (a k : Nat) : Nat := if up then (a + k) % 16 else (a + 32 - k) % 16
def sgQ (up : Bool) (k : Nat) : Rat := if up then qJ k else -qJ k
/-- the arc that was found, about (x, y) with the radius s from a by k sixteenths twice -/
structure ArcV (s x y : Rat) (up : Bool) (a k : Nat) (m : Cx) (r f t : Nat) : Prop where
  mid : Plc s x y 0 0 (186 / 1000000) m
  rn : isN .f32 r = true
  fn : isN .f32 f = true
  tn : isN .f32 t = true
  rd : ∃ v, H r s v ∧ -(42 / 100000) ≤ v - 1 ∧ v - 1 ≤ 42 / 100000
  f1 : -(51 / 100) ≤ R .f32 f
  f2 : R .f32 f ≤ 51 / 100
  fr : ∃ (n : Int) (eA eC : Rat), R .f32 f = qJ a / 16 + (n : Rat) + eA ∧ (-(9 / 100000) ≤ eA ∧ eA ≤ 9 / 100000) ∧ (-(9 / 100000) ≤ eC ∧ eC ≤ 9 / 100000) ∧ (-(1 / 1000000) ≤ R .f32 t - (sgQ up k / 8 + (eC - eA)) ∧ R .f32 t - (sgQ up k / 8 + (eC - eA)) ≤ 1 / 1000000)
theorem ang_of {s u1 u2 w1 w2 : Rat} {z : Cx} {j : Nat} (hj : j < 16) (hs1 : 1 / 10 ≤ s) (hs2 : s ≤ 4) (h1 : H z.1 s w1) (h2 : H z.2 s w2) (hu1 : u1 = cosT j) (hu2 : u2 = sinT j) (d1 : -(190 / 1000000) ≤ w1 - u1 ∧ w1 - u1 ≤ 190 / 1000000) (d2 : -(190 / 1000000) ≤ w2 - u2 ∧ w2 - u2 ≤ 190 / 1000000) :
    AgN z.2 z.1 ∧ -(51 / 100) ≤ R .f32 (agF z.2 z.1) ∧ R .f32 (agF z.2 z.1) ≤ 51 / 100 ∧ ∃ n : Int, (n = 0 ∨ n = -1) ∧ -(9 / 100000) ≤ R .f32 (agF z.2 z.1) - (qJ j / 16 + (n : Rat)) ∧ R .f32 (agF z.2 z.1) - (qJ j / 16 + (n : Rat)) ≤ 9 / 100000 := by
  have k1 := Rat.mul_nonneg (a := w1 - u1 + 1 / 5000) (b := s) (by grind) (by grind)
  have k2 := Rat.mul_nonneg (a := 1 / 5000 - (w1 - u1)) (b := s) (by grind) (by grind)
  have k3 := Rat.mul_nonneg (a := w2 - u2 + 1 / 5000) (b := s) (by grind) (by grind)
  have k4 := Rat.mul_nonneg (a := 1 / 5000 - (w2 - u2)) (b := s) (by grind) (by grind)
  exact ang_near (p := s) hj h2.1 h1.1 (by grind) (by grind) (by rw [h1.2, ← hu1]; grind) (by rw [h1.2, ← hu1]; grind) (by rw [h2.2, ← hu2]; grind) (by rw [h2.2, ← hu2]; grind)
theorem jAt_lt (up : Bool) (a k : Nat) : jAt up a k < 16 := by unfold jAt; split <;> omega
theorem cross_at {up : Bool} {a k : Nat} (ha : a < 16) (h2 : 2 ≤ k) (h7 : k ≤ 7) : if up then 825 / 1000 ≤ cross2 a (jAt up a k) (jAt up a (2 * k)) else cross2 a (jAt up a k) (jAt up a (2 * k)) ≤ -(825 / 1000) := by
  have h := crossT ha h2 h7
  cases up
  · have e : (a + 32 - k) % 16 = (a + 16 - k) % 16 := by omega
    show cross2 a ((a + 32 - k) % 16) ((a + 32 - 2 * k) % 16) ≤ _
    rw [e]; exact h.2
  · exact h.1
theorem thru_near {s x y : Rat} {a b c : Cx} {j k : Nat} (up : Bool) (hs1 : 1 / 10 ≤ s) (hs2 : s ≤ 4) (hj : j < 16) (h2 : 2 ≤ k) (h7 : k ≤ 7) (x1 : -(4 * s) ≤ x) (x2 : x ≤ 4 * s) (y1 : -(4 * s) ≤ y) (y2 : y ≤ 4 * s)
    (ha : Plc s x y (cosT j) (sinT j) (22 / 10000000) a) (hb : Plc s x y (cosT (jAt up j k)) (sinT (jAt up j k)) (22 / 10000000) b) (hc : Plc s x y (cosT (jAt up j (2 * k))) (sinT (jAt up j (2 * k))) (22 / 10000000) c) :
    ArcN a b c ∧ ArcV s x y up j k (midF a b c) (arR a b c) (arF a b c) (arT a b c) := by
  have ua := unitT hj
  have ub := unitT (jAt_lt up j k)
  have uc := unitT (jAt_lt up j (2 * k))
  have hD := cross_at (up := up) hj h2 h7
  have HD := Lib.hid hD
  have hD' : 825 / 1000 ≤ 2 * ((cosT (jAt up j k) - cosT j) * (sinT (jAt up j (2 * k)) - sinT j) - (sinT (jAt up j k) - sinT j) * (cosT (jAt up j (2 * k)) - cosT j)) ∨ 2 * ((cosT (jAt up j k) - cosT j) * (sinT (jAt up j (2 * k)) - sinT j) - (sinT (jAt up j k) - sinT j) * (cosT (jAt up j (2 * k)) - cosT j)) ≤ -(825 / 1000) := by
    cases up
    · exact .inr hD
    · exact .inl hD
  obtain ⟨hM, hP, hpos, hneg⟩ := arc_mid hs1 (Rat.le_trans hs2 (by decide +kernel)) ua ub uc ha hb hc x1 x2 y1 y2 hD'
  clear hD hD'
  have hsg : if up then 0 < R .f32 (amF (minusF b a) (minusF c a)) else R .f32 (amF (minusF b a) (minusF c a)) < 0 := by
    have hD := HD.out
    cases up
    · exact hneg hD
    · exact hpos hD
  clear hpos hneg HD
  obtain ⟨w1, w2, hw1, hw2, d1, d2⟩ := way_H hs1 (Rat.le_trans hs2 (by decide +kernel)) ua ha hP
  obtain ⟨v1, v2, hv1, hv2, c1, c2⟩ := way_H hs1 (Rat.le_trans hs2 (by decide +kernel)) uc hc hP
  obtain ⟨hL, v, hv, vv1, vv2⟩ := way_long hs1 hs2 ua hw1 hw2 d1 d2
  obtain ⟨hA, A1, A2, nA, hnA, A3, A4⟩ := ang_of hj hs1 hs2 hw1 hw2 rfl rfl d1 d2
  obtain ⟨hC, C1, C2, nC, hnC, C3, C4⟩ := ang_of (jAt_lt up j (2 * k)) hs1 hs2 hv1 hv2 rfl rfl c1 c2
  obtain ⟨fA, hfA⟩ : ∃ t, t = arF a b c := ⟨_, rfl⟩
  obtain ⟨fC, hfC⟩ : ∃ t, t = arE a b c := ⟨_, rfl⟩
  have A1 : -(51 / 100) ≤ R .f32 (arF a b c) := A1
  have A2 : R .f32 (arF a b c) ≤ 51 / 100 := A2
  have A3 : -(9 / 100000) ≤ R .f32 (arF a b c) - (qJ j / 16 + (nA : Rat)) := A3
  have A4 : R .f32 (arF a b c) - (qJ j / 16 + (nA : Rat)) ≤ 9 / 100000 := A4
  have C1 : -(51 / 100) ≤ R .f32 (arE a b c) := C1
  have C2 : R .f32 (arE a b c) ≤ 51 / 100 := C2
  have C3 : -(9 / 100000) ≤ R .f32 (arE a b c) - (qJ (jAt up j (2 * k)) / 16 + (nC : Rat)) := C3
  have C4 : R .f32 (arE a b c) - (qJ (jAt up j (2 * k)) / 16 + (nC : Rat)) ≤ 9 / 100000 := C4
  obtain ⟨eA, heA⟩ : ∃ e, e = R .f32 (arF a b c) - (qJ j / 16 + (nA : Rat)) := ⟨_, rfl⟩
  obtain ⟨eC, heC⟩ : ∃ e, e = R .f32 (arE a b c) - (qJ (jAt up j (2 * k)) / 16 + (nC : Rat)) := ⟨_, rfl⟩
  have eqA : R .f32 (arF a b c) = qJ j / 16 + (nA : Rat) + eA := by rw [heA]; grind
  have eqC : R .f32 (arE a b c) = qJ (jAt up j (2 * k)) / 16 + (nC : Rat) + eC := by rw [heC]; grind
  rw [← heA] at A3 A4
  rw [← heC] at C3 C4
  have nfA : isN .f32 (arF a b c) = true := hA.f
  have nfC : isN .f32 (arE a b c) = true := hC.f
  obtain ⟨hT, T1, T2⟩ := turn_near (m := amF (minusF b a) (minusF c a)) (k := k) up nfA nfC A1 A2 C1 C2 eqA eqC ⟨A3, A4⟩ ⟨C3, C4⟩ h2 h7 hj rfl hsg
  have hr0 : 0 < R .f32 (arR a b c) := by
    have : R .f32 (arR a b c) = s * v := hv.2
    rw [this]
    exact Rat.mul_pos (by clear hsg; grind) (by clear hsg; grind)
  refine ⟨⟨ha.n, hb.n, hc.n, hM, ?_, ⟨hw1.1, hw2.1⟩, ⟨hv1.1, hv2.1⟩, hL, hr0, hA, hC, hT⟩, hP, hv.1, nfA, hT.t, ⟨v, hv, vv1, vv2⟩, A1, A2, nA, eA, eC, eqA, ⟨A3, A4⟩, ⟨C3, C4⟩, T1, T2⟩
  intro h
  rw [h] at hsg
  cases up
  · exact absurd hsg (by decide +kernel)
  · exact absurd hsg (by decide +kernel)
end Go.Fl

namespace Go.Fl
open Ieee Go.RowKit
/-- a part of a phasor, scaled -/
theorem part_H {s v : Rat} {p r : Nat} (hp : isN .f32 p = true) (hr : H r s v) (hs1 : 1 / 10 ≤ s) (hs2 : s ≤ 4) (v1 : 999 / 1000 ≤ v) (v2 : v ≤ 1001 / 1000) {u e : Rat} (e0 : 0 ≤ e) (e1 : e ≤ 1 / 100) (u1 : -(1000001 / 1000000) ≤ u) (u2 : u ≤ 1000001 / 1000000) (p1 : -e ≤ R .f32 p - u) (p2 : R .f32 p - u ≤ e) :
    ∃ q, H (fop .mul .f32 p r) s q ∧ -(12 / 10 / 4194304) ≤ q - R .f32 p * v ∧ q - R .f32 p * v ≤ 12 / 10 / 4194304 ∧ -(11 / 10) ≤ R .f32 p ∧ R .f32 p ≤ 11 / 10 := by
  have h1 : H p 1 (R .f32 p) := ⟨hp, by grind⟩
  have b1 : -(11 / 10) ≤ R .f32 p ∧ R .f32 p ≤ 11 / 10 := by constructor <;> grind
  have m1 := mul_bd (x := R .f32 p) (y := v) (B := 11 / 10) (C := 1001 / 1000) b1.1 b1.2 (by grind) v2
  have es : (1 : Rat) * s = s := by grind
  obtain ⟨q, hq, q1, q2⟩ := h1.mul hr (by rw [es]; exact ⟨by grind, by grind⟩) (12 / 10) (by decide +kernel) (by decide +kernel) (by grind) (by grind)
  rw [es] at hq
  exact ⟨q, hq, q1, q2, b1.1, b1.2⟩
/-- the law's points -/
theorem point_plc {s x y : Rat} {m p : Cx} {r j : Nat} (hj : j < 16) (hs1 : 1 / 10 ≤ s) (hs2 : s ≤ 4) (hr : isN .f32 r = true) (hrs : R .f32 r = s) (hm : nN m) (hx : R .f32 m.1 = x) (hy : R .f32 m.2 = y) (x1 : -(4 * s) ≤ x) (x2 : x ≤ 4 * s) (y1 : -(4 * s) ≤ y) (y2 : y ≤ 4 * s) (hp : nN p)
    (p1 : -(6 / 10000000) ≤ R .f32 p.1 - cosT j ∧ R .f32 p.1 - cosT j ≤ 6 / 10000000) (p2 : -(6 / 10000000) ≤ R .f32 p.2 - sinT j ∧ R .f32 p.2 - sinT j ≤ 6 / 10000000) :
    nN (scaleF p r) ∧ nN (plusF m (scaleF p r)) ∧ Plc s x y (cosT j) (sinT j) (22 / 10000000) (plusF m (scaleF p r)) := by
  have s0 : 0 < s := by grind
  have hsc : Sc s := ⟨by grind, by grind⟩
  obtain ⟨bu1, bu2⟩ := (unitT hj).bd
  have hR : H r s 1 := ⟨hr, by grind⟩
  have one : (999 / 1000 : Rat) ≤ 1 ∧ (1 : Rat) ≤ 1001 / 1000 := by decide +kernel
  obtain ⟨q1, hq1, q11, q12, b11, b12⟩ := part_H hp.1 hR hs1 hs2 one.1 one.2 (by decide +kernel) (by decide +kernel) bu1.1 bu1.2 p1.1 p1.2
  obtain ⟨q2, hq2, q21, q22, b21, b22⟩ := part_H hp.2 hR hs1 hs2 one.1 one.2 (by decide +kernel) (by decide +kernel) bu2.1 bu2.2 p2.1 p2.2
  obtain ⟨xx, hxx⟩ : ∃ t, t = x / s := ⟨_, rfl⟩
  obtain ⟨yy, hyy⟩ : ∃ t, t = y / s := ⟨_, rfl⟩
  have exx : x = s * xx := by rw [hxx]; have := Rat.div_mul_cancel (a := x) (b := s) (by grind); grind
  have eyy : y = s * yy := by rw [hyy]; have := Rat.div_mul_cancel (a := y) (b := s) (by grind); grind
  have bxx : -4 ≤ xx ∧ xx ≤ 4 := by
    constructor
    · refine Rat.not_lt.1 fun k => ?_
      have := Rat.mul_pos (a := -4 - xx) (b := s) (by grind) s0
      grind
    · refine Rat.not_lt.1 fun k => ?_
      have := Rat.mul_pos (a := xx - 4) (b := s) (by grind) s0
      grind
  have byy : -4 ≤ yy ∧ yy ≤ 4 := by
    constructor
    · refine Rat.not_lt.1 fun k => ?_
      have := Rat.mul_pos (a := -4 - yy) (b := s) (by grind) s0
      grind
    · refine Rat.not_lt.1 fun k => ?_
      have := Rat.mul_pos (a := yy - 4) (b := s) (by grind) s0
      grind
  have hM1 : H m.1 s xx := ⟨hm.1, by grind⟩
  have hM2 : H m.2 s yy := ⟨hm.2, by grind⟩
  obtain ⟨d1, hd1, d11, d12⟩ := hM1.add hq1 hsc (502 / 100) (by decide +kernel) (by decide +kernel) (by grind) (by grind)
  obtain ⟨d2, hd2, d21, d22⟩ := hM2.add hq2 hsc (502 / 100) (by decide +kernel) (by decide +kernel) (by grind) (by grind)
  have g1 := Rat.mul_nonneg (a := d1 - xx - (cosT j - 22 / 10000000)) (b := s) (by grind) (by grind)
  have g2 := Rat.mul_nonneg (a := cosT j + 22 / 10000000 - (d1 - xx)) (b := s) (by grind) (by grind)
  have g3 := Rat.mul_nonneg (a := d2 - yy - (sinT j - 22 / 10000000)) (b := s) (by grind) (by grind)
  have g4 := Rat.mul_nonneg (a := sinT j + 22 / 10000000 - (d2 - yy)) (b := s) (by grind) (by grind)
  have e1 : R .f32 (plusF m (scaleF p r)).1 = s * d1 := hd1.2
  have e2 : R .f32 (plusF m (scaleF p r)).2 = s * d2 := hd2.2
  refine ⟨⟨hq1.1, hq2.1⟩, ⟨hd1.1, hd2.1⟩, ⟨hd1.1, hd2.1⟩, ?_, ?_, ?_, ?_⟩
  · rw [e1, exx]; grind
  · rw [e1, exx]; grind
  · rw [e2, eyy]; grind
  · rw [e2, eyy]; grind
def atG (f t h : Nat) : Nat := fop .add .f32 f (fop .mul .f32 h t)
def arcAtF (m : Cx) (r f t h : Nat) : Cx := plusF m (scaleF (phF denI (fcv .f32 .f64 (atG f t h))) r)
/-- the place at a share of an arc: all steps are numbers -/
structure AtN (m : Cx) (r f t h : Nat) : Prop where
  mn : nN m
  rn : isN .f32 r = true
  r0 : 0 < R .f32 r
  fn : isN .f32 f = true
  tn : isN .f32 t = true
  hn : isN .f32 h = true
  p : isN .f32 (fop .mul .f32 h t) = true
  g : isN .f32 (atG f t h) = true
  ph : PhN denI (fcv .f32 .f64 (atG f t h))
  sc : nN (scaleF (phF denI (fcv .f32 .f64 (atG f t h))) r)
  z : nN (arcAtF m r f t h)
/-- the share of one half or of 0 or 1 -/
theorem at_near {s x y : Rat} {up : Bool} {a k d : Nat} {m : Cx} {r f t h : Nat} (ha : a < 16) (h2 : 2 ≤ k) (h7 : k ≤ 7) (hs1 : 1 / 10 ≤ s) (hs2 : s ≤ 4) (x1 : -(4 * s) ≤ x) (x2 : x ≤ 4 * s) (y1 : -(4 * s) ≤ y) (y2 : y ≤ 4 * s) (V : ArcV s x y up a k m r f t) (hd : d = 0 ∨ d = 1 ∨ d = 2) (hh : isN .f32 h = true) (hhR : R .f32 h = qJ d / 2) :
    AtN m r f t h ∧ Plc s x y (cosT (jAt up a (d * k))) (sinT (jAt up a (d * k))) (18 / 10000) (arcAtF m r f t h) := by
  obtain ⟨nA, eA, eC, hf, ⟨A1, A2⟩, ⟨C1, C2⟩, T1, T2⟩ := V.fr
  have f1 := V.f1
  have f2 := V.f2
  have s0 : 0 < s := by grind
  have hsc : Sc s := ⟨by grind, by grind⟩
  have k2 := qJ_le h2
  have k7 := qJ_le h7
  have e2 : qJ 2 = 2 := rfl
  have e7 : qJ 7 = 7 := rfl
  rw [e2] at k2
  rw [e7] at k7
  -- the angle
  obtain ⟨σ, hσ⟩ : ∃ σ, σ = sgQ up k := ⟨_, rfl⟩
  have bσ : -7 ≤ σ ∧ σ ≤ 7 := by rw [hσ]; unfold sgQ; cases up <;> simp <;> constructor <;> grind
  rw [← hσ] at T1 T2
  have hdq : qJ d = 0 ∨ qJ d = 1 ∨ qJ d = 2 := by rcases hd with rfl | rfl | rfl; exact .inl rfl; exact .inr (.inl rfl); exact .inr (.inr rfl)
  have bt : -1 ≤ R .f32 t ∧ R .f32 t ≤ 1 := by constructor <;> grind
  have bp : -1 ≤ R .f32 h * R .f32 t ∧ R .f32 h * R .f32 t ≤ 1 := by
    rw [hhR]
    rcases hdq with e | e | e <;> rw [e] <;> constructor <;> grind
  have rp := rnd_mul hh V.tn (by grind) (by grind)
  have fp := rp.n32 0 (by decide) (B := 1) rfl (by grind) (by grind)
  have rg := rnd_add V.fn rp.num (by grind) (by grind)
  have fg := rg.n32 1 (by decide) (B := 2) rfl (by grind) (by grind)
  have bg : -2 ≤ R .f32 (fop .add .f32 f (fop .mul .f32 h t)) ∧ R .f32 (fop .add .f32 f (fop .mul .f32 h t)) ≤ 2 := by constructor <;> grind
  have eg : fop .add .f32 f (fop .mul .f32 h t) = atG f t h := rfl
  rw [eg] at fg bg
  have ngg : isN .f32 (atG f t h) = true := rg.num
  have npp := rp.num
  obtain ⟨wn, wR⟩ := wide ngg (by grind) (by grind)
  -- what is told: near a sixteenth
  have ang : ∃ n : Int, -(92 / 1000000) ≤ R .f32 (atG f t h) - (qJ (jAt up a (d * k)) / 16 + (n : Rat)) ∧ R .f32 (atG f t h) - (qJ (jAt up a (d * k)) / 16 + (n : Rat)) ≤ 92 / 1000000 := by
    have hjw : ∃ N : Int, qJ (jAt up a (d * k)) = qJ a + qJ d * σ + 16 * (N : Rat) := by
      have edk : qJ (d * k) = qJ d * qJ k := by unfold qJ; rw [Int.natCast_mul, Rat.intCast_mul]
      have hdk : d * k ≤ 14 := by rcases hd with rfl | rfl | rfl <;> omega
      rw [hσ]
      unfold sgQ jAt
      cases up
      · simp only [Bool.false_eq_true, if_false]
        rcases Nat.lt_or_ge a (d * k) with h | h
        · have e1 : (a + 32 - d * k) % 16 + d * k = a + 16 := by omega
          have q1 := qJ_add ((a + 32 - d * k) % 16) (d * k)
          rw [e1, qJ_add, edk] at q1
          have e16 : qJ 16 = 16 := rfl
          exact ⟨1, by have c1 : ((1 : Int) : Rat) = 1 := rfl
                       rw [c1]; grind⟩
        · have e1 : (a + 32 - d * k) % 16 + d * k = a := by omega
          have q1 := qJ_add ((a + 32 - d * k) % 16) (d * k)
          rw [e1, edk] at q1
          exact ⟨0, by have c1 : ((0 : Int) : Rat) = 0 := rfl
                       rw [c1]; grind⟩
      · simp only [if_true]
        rcases Nat.lt_or_ge (a + d * k) 16 with h | h
        · have e1 : (a + d * k) % 16 = a + d * k := by omega
          have q1 := qJ_add a (d * k)
          rw [edk] at q1
          exact ⟨0, by have c1 : ((0 : Int) : Rat) = 0 := rfl
                       rw [c1, e1]; grind⟩
        · have e1 : (a + d * k) % 16 + 16 = a + d * k := by omega
          have q1 := qJ_add a (d * k)
          have q2 := qJ_add ((a + d * k) % 16) 16
          rw [edk] at q1
          rw [e1] at q2
          have e16 : qJ 16 = 16 := rfl
          exact ⟨-1, by have c1 : ((-1 : Int) : Rat) = -1 := rfl
                        rw [c1]; grind⟩
    obtain ⟨N, hN⟩ := hjw
    refine ⟨nA - N, ?_⟩
    rw [Rat.intCast_sub, hN]
    rw [hhR] at fp
    rcases hdq with e | e | e <;> rw [e] at fp ⊢ <;> constructor <;> grind
  obtain ⟨n, n1, n2⟩ := ang
  obtain ⟨J, hJ⟩ : ∃ J, J = jAt up a (d * k) := ⟨_, rfl⟩
  have hJ16 : J < 16 := by rw [hJ]; exact jAt_lt up a (d * k)
  rw [← hJ] at n1 n2 ⊢
  clear fg rg fp rp T1 T2 A1 A2 C1 C2 hf hdq bp
  obtain ⟨hPh, P1, P2, P3, P4⟩ := phasor_near (eta := 1 / 10000) (zeta := 1 / 1000) (by decide +kernel) (by decide +kernel) (by decide +kernel) (by decide +kernel) (sinTab_w denI_ok) (n := n) hJ16 wn (by rw [wR]; grind) (by rw [wR]; grind) (by rw [wR]; grind) (by rw [wR]; grind)
  obtain ⟨v, hv, v1, v2⟩ := V.rd
  obtain ⟨p, hp⟩ : ∃ p, p = phF denI (fcv .f32 .f64 (atG f t h)) := ⟨_, rfl⟩
  have np : nN p := ⟨by rw [hp]; exact hPh.nc, by rw [hp]; exact hPh.ns⟩
  rw [← hp] at P1 P2 P3 P4
  obtain ⟨bu1, bu2⟩ := (unitT hJ16).bd
  obtain ⟨q1, hq1, q11, q12, b11, b12⟩ := part_H (e := 1001 / 1000000) (v := v) np.1 hv hs1 hs2 (by grind) (by grind) (by decide +kernel) (by decide +kernel) bu1.1 bu1.2 (by grind) (by grind)
  obtain ⟨q2, hq2, q21, q22, b21, b22⟩ := part_H (e := 1001 / 1000000) (v := v) np.2 hv hs1 hs2 (by grind) (by grind) (by decide +kernel) (by decide +kernel) bu2.1 bu2.2 (by grind) (by grind)
  obtain ⟨μ1, em1, m11, m12⟩ := scale_of s0 V.mid.x1 V.mid.x2
  obtain ⟨μ2, em2, m21, m22⟩ := scale_of s0 V.mid.y1 V.mid.y2
  have c1 := mul_bd (x := R .f32 p.1) (y := v - 1) (B := 11 / 10) (C := 42 / 100000) b11 b12 v1 v2
  have c2 := mul_bd (x := R .f32 p.2) (y := v - 1) (B := 11 / 10) (C := 42 / 100000) b21 b22 v1 v2
  obtain ⟨xx, hxx⟩ : ∃ t, t = x / s := ⟨_, rfl⟩
  obtain ⟨yy, hyy⟩ : ∃ t, t = y / s := ⟨_, rfl⟩
  have exx : x = s * xx := by rw [hxx]; have := Rat.div_mul_cancel (a := x) (b := s) (by grind); grind
  have eyy : y = s * yy := by rw [hyy]; have := Rat.div_mul_cancel (a := y) (b := s) (by grind); grind
  have bxx : -4 ≤ xx ∧ xx ≤ 4 := by
    clear c1 c2
    constructor
    · refine Rat.not_lt.1 fun k => ?_
      have := Rat.mul_pos (a := -4 - xx) (b := s) (by grind) s0
      grind
    · refine Rat.not_lt.1 fun k => ?_
      have := Rat.mul_pos (a := xx - 4) (b := s) (by grind) s0
      grind
  have byy : -4 ≤ yy ∧ yy ≤ 4 := by
    clear c1 c2
    constructor
    · refine Rat.not_lt.1 fun k => ?_
      have := Rat.mul_pos (a := -4 - yy) (b := s) (by grind) s0
      grind
    · refine Rat.not_lt.1 fun k => ?_
      have := Rat.mul_pos (a := yy - 4) (b := s) (by grind) s0
      grind
  have hM1 : H m.1 s (xx + μ1) := ⟨V.mid.n.1, by clear c1 c2; grind⟩
  have hM2 : H m.2 s (yy + μ2) := ⟨V.mid.n.2, by clear c1 c2; grind⟩
  have f1 : -(17 / 10000) ≤ μ1 + q1 - cosT J ∧ μ1 + q1 - cosT J ≤ 17 / 10000 := by constructor <;> grind
  have f2 : -(17 / 10000) ≤ μ2 + q2 - sinT J ∧ μ2 + q2 - sinT J ≤ 17 / 10000 := by constructor <;> grind
  clear c1 c2 q11 q12 q21 q22 P1 P2 P3 P4 n1 n2
  obtain ⟨d1, hd1, d11, d12⟩ := hM1.add hq1 hsc (6) (by decide +kernel) (by decide +kernel) (by grind) (by grind)
  obtain ⟨d2, hd2, d21, d22⟩ := hM2.add hq2 hsc (6) (by decide +kernel) (by decide +kernel) (by grind) (by grind)
  have g1 := Rat.mul_nonneg (a := d1 - xx - (cosT J - 18 / 10000)) (b := s) (by grind) (by grind)
  have g2 := Rat.mul_nonneg (a := cosT J + 18 / 10000 - (d1 - xx)) (b := s) (by grind) (by grind)
  have g3 := Rat.mul_nonneg (a := d2 - yy - (sinT J - 18 / 10000)) (b := s) (by grind) (by grind)
  have g4 := Rat.mul_nonneg (a := sinT J + 18 / 10000 - (d2 - yy)) (b := s) (by grind) (by grind)
  have eF : arcAtF m r f t h = plusF m (scaleF p r) := by rw [hp]; rfl
  have z1 : R .f32 (arcAtF m r f t h).1 = s * d1 := by rw [eF]; exact hd1.2
  have z2 : R .f32 (arcAtF m r f t h).2 = s * d2 := by rw [eF]; exact hd2.2
  have nz : nN (arcAtF m r f t h) := ⟨by rw [eF]; exact hd1.1, by rw [eF]; exact hd2.1⟩
  have r0 : 0 < R .f32 r := by rw [hv.2]; exact Rat.mul_pos s0 (by grind)
  refine ⟨⟨V.mid.n, V.rn, r0, V.fn, V.tn, hh, npp, ngg, hPh, by rw [← hp]; exact ⟨hq1.1, hq2.1⟩, nz⟩, nz, ?_, ?_, ?_, ?_⟩
  · rw [z1, exx]; grind
  · rw [z1, exx]; grind
  · rw [z2, eyy]; grind
  · rw [z2, eyy]; grind
/-- two places of the same sixteenth are near one another -/
theorem gap_near {s x y u1 u2 : Rat} {a b : Cx} (hs1 : 1 / 10 ≤ s) (hs2 : s ≤ 4) (ha : Plc s x y u1 u2 (18 / 10000) a) (hb : Plc s x y u1 u2 (22 / 10000000) b) : nN (minusF a b) ∧ LongN (minusF a b) ∧ R .f32 (longF (minusF a b)) ≤ 15 / 1000 := by
  have s0 : 0 < s := by grind
  obtain ⟨α1, ea1, a11, a12⟩ := scale_of s0 ha.x1 ha.x2
  obtain ⟨α2, ea2, a21, a22⟩ := scale_of s0 ha.y1 ha.y2
  obtain ⟨β1, eb1, b11, b12⟩ := scale_of s0 hb.x1 hb.x2
  obtain ⟨β2, eb2, b21, b22⟩ := scale_of s0 hb.y1 hb.y2
  have m1 := mul_bd (x := s) (y := α1 - β1) (B := 4) (C := 181 / 100000) (by grind) hs2 (by grind) (by grind)
  have m2 := mul_bd (x := s) (y := α2 - β2) (B := 4) (C := 181 / 100000) (by grind) hs2 (by grind) (by grind)
  have k1 : R .f32 a.1 - R .f32 b.1 = s * (α1 - β1) := by grind
  have k2 : R .f32 a.2 - R .f32 b.2 = s * (α2 - β2) := by grind
  rw [← k1] at m1
  rw [← k2] at m2
  clear k1 k2 ea1 ea2 eb1 eb2
  have r1 := rnd_sub ha.n.1 hb.n.1 (by grind) (by grind)
  have r2 := rnd_sub ha.n.2 hb.n.2 (by grind) (by grind)
  have f1 := r1.n32 0 (by decide) (B := 1) rfl (by grind) (by grind)
  have f2 := r2.n32 0 (by decide) (B := 1) rfl (by grind) (by grind)
  have nd : nN (minusF a b) := ⟨r1.num, r2.num⟩
  have z1 : -(73 / 10000) ≤ R .f32 (minusF a b).1 ∧ R .f32 (minusF a b).1 ≤ 73 / 10000 := by
    constructor
    · show _ ≤ R .f32 (fop .sub .f32 a.1 b.1); grind
    · show R .f32 (fop .sub .f32 a.1 b.1) ≤ _; grind
  have z2 : -(73 / 10000) ≤ R .f32 (minusF a b).2 ∧ R .f32 (minusF a b).2 ≤ 73 / 10000 := by
    constructor
    · show _ ≤ R .f32 (fop .sub .f32 a.2 b.2); grind
    · show R .f32 (fop .sub .f32 a.2 b.2) ≤ _; grind
  have hl := long_near nd (by grind) (by grind) (by grind) (by grind)
  obtain ⟨t, t0, t1, t2, t3, t4⟩ := hl.val
  have q1 := mul_bd z1.1 z1.2 z1.1 z1.2
  have q2 := mul_bd z2.1 z2.2 z2.1 z2.2
  have ts : t ≤ 12 / 1000 := sq_lt (by grind) (by decide +kernel)
  exact ⟨nd, hl, by grind⟩
end Go.Fl

namespace Go.Fl
open Ieee Go.RowKit
/-- the greater of two numbers, as the program takes it -/
def maxF (K : FloatKind) (x y : Nat) : Nat := match K.format.order x y with
  | none => 0
  | some .lt => y
  | some .gt => x
  | some .eq => if (K.decode x).neg then y else x
theorem maxF_facts {K : FloatKind} {x y : Nat} (hx : isN K x = true) (hy : isN K y = true) : isN K (maxF K x y) = true ∧ V K x ≤ V K (maxF K x y) ∧ V K y ≤ V K (maxF K x y) ∧ (V K (maxF K x y) = V K x ∨ V K (maxF K x y) = V K y) := by
  have h := ord_V hx hy
  unfold maxF
  rw [h]
  cases hc : compare (V K x) (V K y)
  · have h1 : V K x < V K y := Int.compare_eq_lt.1 hc
    exact ⟨hy, by show V K x ≤ V K y; omega, Int.le_refl _, .inr rfl⟩
  · have h1 : V K x = V K y := Int.compare_eq_eq.1 hc
    simp only
    split
    · exact ⟨hy, by omega, Int.le_refl _, .inr rfl⟩
    · exact ⟨hx, Int.le_refl _, by omega, .inl rfl⟩
  · have h1 : V K y < V K x := Int.compare_eq_gt.1 hc
    exact ⟨hx, Int.le_refl _, by show V K y ≤ V K x; omega, .inl rfl⟩
theorem run_maxF {P : Program} {K : FloatKind} {x y : Nat} (hx : isN K x = true) (hy : isN K y = true) (ts : Array TypeId) (t : TypeId) (w : World) : (Builtin.max_ ts t #[.float K x, .float K y]).run P w = .ok (.float K (maxF K x y)) w := by
  have h := ord_V hx hy
  unfold maxF
  rw [h]
  cases hc : compare (V K x) (V K y) <;> simp [Builtin.max_, Builtin.max2, h, hc]
def absN (x : Nat) : Nat := maxF .f32 x (Op.negFloat .f32 x)
theorem absN_R {x : Nat} (h : isN .f32 x = true) : isN .f32 (absN x) = true ∧ 0 ≤ R .f32 (absN x) ∧ (R .f32 (absN x) = R .f32 x ∨ R .f32 (absN x) = -R .f32 x) ∧ R .f32 x ≤ R .f32 (absN x) ∧ -R .f32 x ≤ R .f32 (absN x) := by
  obtain ⟨n, e⟩ := neg_R h
  obtain ⟨m, a, b, c⟩ := maxF_facts h n
  rw [← R_le] at a b
  have c' : R .f32 (absN x) = R .f32 x ∨ R .f32 (absN x) = -R .f32 x := by
    rcases c with c | c
    · exact .inl (R_eq.2 c)
    · right; rw [← e]; exact R_eq.2 c
  have a : R .f32 x ≤ R .f32 (absN x) := a
  have b : -R .f32 x ≤ R .f32 (absN x) := by rw [← e]; exact b
  exact ⟨m, by grind, c', a, b⟩
def full32 : Nat := 1086918619
def full64 : Nat := 4618760256396512830
theorem full32_R : isN .f32 full32 = true ∧ R .f32 full32 = 13176795 / 2097152 := by
  have q : Q .f32 full32 13176795 21 := ⟨by decide +kernel, by decide +kernel, by decide⟩
  exact ⟨q.num, by rw [q.R]; decide +kernel⟩
theorem full64_R : isN .f64 full64 = true ∧ R .f64 full64 = 3537118984562463 / 562949953421312 := by
  have q : Q .f64 full64 3537118984562463 49 := ⟨by decide +kernel, by decide +kernel, by decide⟩
  exact ⟨q.num, by rw [q.R]; decide +kernel⟩
def lgF (r t : Nat) : Nat := fop .mul .f32 (fop .mul .f32 r full32) (absN t)
structure LgN (r t : Nat) : Prop where
  rn : isN .f32 r = true
  tn : isN .f32 t = true
  p : isN .f32 (fop .mul .f32 r full32) = true
  l : isN .f32 (lgF r t) = true
theorem lg_near {s x y : Rat} {up : Bool} {a k : Nat} {m : Cx} {r f t : Nat} (h2 : 2 ≤ k) (h7 : k ≤ 7) (hs1 : 1 / 10 ≤ s) (hs2 : s ≤ 4) (V : ArcV s x y up a k m r f t) :
    LgN r t ∧ -(3 / 100) ≤ R .f32 (lgF r t) - 13176795 / 2097152 * s * (qJ k / 8) ∧ R .f32 (lgF r t) - 13176795 / 2097152 * s * (qJ k / 8) ≤ 3 / 100 := by
  obtain ⟨nA, eA, eC, hf, ⟨A1, A2⟩, ⟨C1, C2⟩, T1, T2⟩ := V.fr
  obtain ⟨v, hv, v1, v2⟩ := V.rd
  have k2 := qJ_le h2
  have k7 := qJ_le h7
  have e2 : qJ 2 = 2 := rfl
  have e7 : qJ 7 = 7 := rfl
  rw [e2] at k2
  rw [e7] at k7
  obtain ⟨u0, u1, u2, u3, u4⟩ := absN_R V.tn
  have hu : -(2 / 10000) ≤ R .f32 (absN t) - qJ k / 8 ∧ R .f32 (absN t) - qJ k / 8 ≤ 2 / 10000 := by
    unfold sgQ at T1 T2
    cases up
    · simp only [Bool.false_eq_true, if_false] at T1 T2
      rcases u2 with e | e
      · exfalso; rw [e] at u1; grind
      · rw [e]; constructor <;> grind
    · simp only [if_true] at T1 T2
      rcases u2 with e | e
      · rw [e]; constructor <;> grind
      · exfalso; rw [e] at u1; grind
  obtain ⟨U, hU⟩ : ∃ U, U = R .f32 (absN t) := ⟨_, rfl⟩
  rw [← hU] at hu
  clear T1 T2 u1 u2 u3 u4 A1 A2 C1 C2 hf
  obtain ⟨c0, c1⟩ := full32_R
  have hr := hv.2
  have s0 : 0 < s := by grind
  have d1 := mul_bd (x := s) (y := v - 1) (B := 4) (C := 42 / 100000) (by grind) hs2 v1 v2
  obtain ⟨ρ, hρ⟩ : ∃ ρ, ρ = R .f32 r := ⟨_, rfl⟩
  rw [← hρ] at hr
  have hr1 : -(168 / 100000) ≤ ρ - s ∧ ρ - s ≤ 168 / 100000 := by constructor <;> grind
  clear d1 hr
  have rp := rnd_mul V.rn c0 (by rw [← hρ, c1]; grind) (by rw [← hρ, c1]; grind)
  rw [← hρ, c1] at rp
  have fp := rp.n32 5 (by decide) (B := 32) rfl (by grind) (by grind)
  obtain ⟨p, hp⟩ : ∃ p, p = fop .mul .f32 r full32 := ⟨_, rfl⟩
  have pn : isN .f32 p = true := by rw [hp]; exact rp.num
  rw [← hp] at fp
  obtain ⟨P, hP⟩ : ∃ P, P = R .f32 p := ⟨_, rfl⟩
  rw [← hP] at fp
  have hPs : -(1056 / 100000) ≤ P - 13176795 / 2097152 * s ∧ P - 13176795 / 2097152 * s ≤ 1056 / 100000 := by constructor <;> grind
  have m1 := mul_bd (x := P - 13176795 / 2097152 * s) (y := U) (B := 1056 / 100000) (C := 1) hPs.1 hPs.2 (by grind) (by grind)
  have m2 := mul_bd (x := s) (y := U - qJ k / 8) (B := 4) (C := 2 / 10000) (by grind) hs2 hu.1 hu.2
  have hPb : -26 ≤ P ∧ P ≤ 26 := by constructor <;> grind
  have m3 := mul_bd hPb.1 hPb.2 (show -1 ≤ U by grind) (show U ≤ 1 by grind)
  have rl := rnd_mul pn u0 (by rw [← hP, ← hU]; grind) (by rw [← hP, ← hU]; grind)
  rw [← hP, ← hU] at rl
  have fl := rl.n32 5 (by decide) (B := 32) rfl (by grind) (by grind)
  have el : fop .mul .f32 p (absN t) = lgF r t := by rw [hp]; rfl
  rw [el] at rl fl
  have key : P * U - 13176795 / 2097152 * s * (qJ k / 8) = (P - 13176795 / 2097152 * s) * U + 13176795 / 2097152 * (s * (U - qJ k / 8)) := by grind
  refine ⟨⟨V.rn, V.tn, by rw [← hp]; exact pn, rl.num⟩, ?_, ?_⟩
  · grind
  · grind
end Go.Fl

namespace Go.Fl
open Ieee Go.RowKit
/-- sums of points, one after another -/
def smF (p : Nat → Cx) : Nat → Cx
  | 0 => (0, 0)
  | k + 1 => plusF (smF p k) (p k)
def meF (p : Nat → Cx) (n : Nat) : Cx := (fop .quo .f32 (smF p n).1 (floatOfInt .f32 n), fop .quo .f32 (smF p n).2 (floatOfInt .f32 n))
structure MeN (p : Nat → Cx) (n : Nat) : Prop where
  s : ∀ i, i ≤ n → nN (smF p i)
  m : nN (meF p n)
theorem int_H (n : Nat) (h : n < 16777216) : isN .f32 (floatOfInt .f32 n) = true ∧ R .f32 (floatOfInt .f32 n) = qJ n := by
  have q := Q.ofInt .f32 (n : Int) (by show (n : Int).natAbs < 16777216; omega)
  exact ⟨q.num, by rw [q.R]; show ((n : Int) : Rat) / (((2 ^ 0 : Nat) : Int) : Rat) = qJ n; rw [show (((2 ^ 0 : Nat) : Int) : Rat) = 1 from rfl]; unfold qJ; grind⟩
theorem zero_H (s : Rat) : H 0 s 0 := ⟨zero32_N.1, by rw [zero32_N.2]; grind⟩
/-- one coordinate of the mean of three -/
theorem mean_one {s xx a b c : Rat} {x0 x1 x2 : Nat} (hs : Sc s) (h0 : H x0 s (xx + a)) (h1 : H x1 s (xx + b)) (h2 : H x2 s (xx + c)) (x1' : -4 ≤ xx) (x2' : xx ≤ 4) (a1 : -(1001 / 1000) ≤ a) (a2 : a ≤ 1001 / 1000) (b1 : -(1001 / 1000) ≤ b) (b2 : b ≤ 1001 / 1000) (c1 : -(1001 / 1000) ≤ c) (c2 : c ≤ 1001 / 1000) :
    isN .f32 (fop .add .f32 0 x0) = true ∧ isN .f32 (fop .add .f32 (fop .add .f32 0 x0) x1) = true ∧ isN .f32 (fop .add .f32 (fop .add .f32 (fop .add .f32 0 x0) x1) x2) = true ∧
      ∃ μ, H (fop .quo .f32 (fop .add .f32 (fop .add .f32 (fop .add .f32 0 x0) x1) x2) (floatOfInt .f32 (3 : Nat))) s μ ∧ -(4 / 1000000) ≤ μ - (xx + (a + b + c) / 3) ∧ μ - (xx + (a + b + c) / 3) ≤ 4 / 1000000 := by
  obtain ⟨s1, hs1, e11, e12⟩ := (zero_H s).add h0 hs (5002 / 1000) (by decide +kernel) (by decide +kernel) (by grind) (by grind)
  obtain ⟨s2, hs2, e21, e22⟩ := hs1.add h1 hs (10003 / 1000) (by decide +kernel) (by decide +kernel) (by grind) (by grind)
  obtain ⟨s3, hs3, e31, e32⟩ := hs2.add h2 hs (15004 / 1000) (by decide +kernel) (by decide +kernel) (by grind) (by grind)
  obtain ⟨n0, n1⟩ := int_H 3 (by decide)
  have e3 : qJ 3 = 3 := rfl
  have h3 : H (floatOfInt .f32 (3 : Nat)) 1 3 := ⟨n0, by rw [n1, e3]; grind⟩
  have hq : s3 / 3 * 3 = s3 := Rat.div_mul_cancel (by decide +kernel)
  obtain ⟨q, hqq⟩ : ∃ q, q = s3 / 3 := ⟨_, rfl⟩
  rw [← hqq] at hq
  have hs31 : H (fop .add .f32 (fop .add .f32 (fop .add .f32 0 x0) x1) x2) (s * 1) s3 := by rw [show s * 1 = s by grind]; exact hs3
  obtain ⟨μ, hμ, m1, m2⟩ := hs31.div (q := q) h3 hs ⟨by decide +kernel, by decide +kernel⟩ (by decide +kernel) hq (5002 / 1000) (by decide +kernel) (by decide +kernel) (by grind) (by grind)
  exact ⟨hs1.1, hs2.1, hs3.1, μ, hμ, by grind, by grind⟩
def sqF (u v : Nat) : Nat := fop .add .f32 (fop .mul .f32 u u) (fop .mul .f32 v v)
/-- the sums' steps at one point are numbers -/
structure StpN (u v : Nat) : Prop where
  uu : isN .f32 (fop .mul .f32 u u) = true
  uv : isN .f32 (fop .mul .f32 u v) = true
  vv : isN .f32 (fop .mul .f32 v v) = true
  sq : isN .f32 (sqF u v) = true
  us : isN .f32 (fop .mul .f32 u (sqF u v)) = true
  vs : isN .f32 (fop .mul .f32 v (sqF u v)) = true
/-- five sums, near to what they stand for -/
structure Acc (s k : Rat) (a b c d e : Nat) (A B C D E : Rat) : Prop where
  a : ∃ v, H a (s * s) v ∧ -(k * (22 / 10000000)) ≤ v - A ∧ v - A ≤ k * (22 / 10000000)
  b : ∃ v, H b (s * s) v ∧ -(k * (22 / 10000000)) ≤ v - B ∧ v - B ≤ k * (22 / 10000000)
  c : ∃ v, H c (s * s) v ∧ -(k * (22 / 10000000)) ≤ v - C ∧ v - C ≤ k * (22 / 10000000)
  d : ∃ v, H d (s * (s * s)) v ∧ -(k * (9 / 1000000)) ≤ v - D ∧ v - D ≤ k * (9 / 1000000)
  e : ∃ v, H e (s * (s * s)) v ∧ -(k * (9 / 1000000)) ≤ v - E ∧ v - E ≤ k * (9 / 1000000)
  bA : -(k * 2) ≤ A ∧ A ≤ k * 2
  bB : -(k * 2) ≤ B ∧ B ≤ k * 2
  bC : -(k * 2) ≤ C ∧ C ≤ k * 2
  bD : -(k * 6) ≤ D ∧ D ≤ k * 6
  bE : -(k * 6) ≤ E ∧ E ≤ k * 6
theorem sum_step {t k A P : Rat} {a p : Nat} (ht : Sc t) (k0 : 0 ≤ k) (k2 : k ≤ 2) {e f B c : Rat} (ha : ∃ v, H a t v ∧ -(k * e) ≤ v - A ∧ v - A ≤ k * e) (bA : -(k * B) ≤ A ∧ A ≤ k * B) (hp : ∃ v, H p t v ∧ -f ≤ v - P ∧ v - P ≤ f) (bP : -B ≤ P ∧ P ≤ B) (e0 : 0 ≤ e) (e1 : e ≤ 1 / 100) (f1 : f ≤ 1 / 100) (c0 : 1 ≤ c) (c1 : c ≤ 100) (hc : 3 * B + 3 / 100 ≤ c) (B0 : 0 ≤ B) (hf : f + c / 4194304 ≤ e) :
    (∃ v, H (fop .add .f32 a p) t v ∧ -((k + 1) * e) ≤ v - (A + P) ∧ v - (A + P) ≤ (k + 1) * e) ∧ -((k + 1) * B) ≤ A + P ∧ A + P ≤ (k + 1) * B := by
  obtain ⟨v, hv, v1, v2⟩ := ha
  obtain ⟨w, hw, w1, w2⟩ := hp
  have m1 := Rat.mul_nonneg (a := 2 - k) (b := B) (by grind) B0
  have m2 := Rat.mul_nonneg (a := 2 - k) (b := e) (by grind) e0
  obtain ⟨z, hz, z1, z2⟩ := hv.add hw ht c (by grind) (by grind) (by grind) (by grind)
  exact ⟨⟨z, hz, by grind, by grind⟩, by grind, by grind⟩
theorem Acc.step {s k : Rat} {a b c d e u v : Nat} {A B C D E U W : Rat} (h : Acc s k a b c d e A B C D E) (hs1 : 1 / 10 ≤ s) (hs2 : s ≤ 5) (k0 : 0 ≤ k) (k2 : k ≤ 2) (hu : H u s U) (hv : H v s W) (u1 : -(14 / 10) ≤ U) (u2 : U ≤ 14 / 10) (v1 : -(14 / 10) ≤ W) (v2 : W ≤ 14 / 10) :
    StpN u v ∧ Acc s (k + 1) (fop .add .f32 a (fop .mul .f32 u u)) (fop .add .f32 b (fop .mul .f32 u v)) (fop .add .f32 c (fop .mul .f32 v v)) (fop .add .f32 d (fop .mul .f32 u (sqF u v))) (fop .add .f32 e (fop .mul .f32 v (sqF u v)))
      (A + U * U) (B + U * W) (C + W * W) (D + U * (U * U + W * W)) (E + W * (U * U + W * W)) := by
  have s0 : 0 < s := by grind
  have ssb : 1 / 100 ≤ s * s ∧ s * s ≤ 25 := by
    have := Rat.mul_nonneg (a := s - 1 / 10) (b := s + 1 / 10) (by grind) (by grind)
    have := Rat.mul_nonneg (a := 5 - s) (b := s + 5) (by grind) (by grind)
    constructor <;> grind
  have hss : Sc (s * s) := ⟨by grind, by grind⟩
  have hsss : Sc (s * (s * s)) := by
    have := Rat.mul_nonneg (a := s - 1 / 10) (b := s * s) (by grind) (by grind)
    have := Rat.mul_nonneg (a := 5 - s) (b := s * s) (by grind) (by grind)
    exact ⟨by grind, by grind⟩
  clear ssb
  have m1 := mul_bd u1 u2 u1 u2
  have m2 := mul_bd u1 u2 v1 v2
  have m3 := mul_bd v1 v2 v1 v2
  have p1 := sq_pos U
  have p2 := sq_pos W
  obtain ⟨uu, huu, uu1, uu2⟩ := hu.mul hu hss 2 (by decide +kernel) (by decide +kernel) (by grind) (by grind)
  obtain ⟨uv, huv, uv1, uv2⟩ := hu.mul hv hss 2 (by decide +kernel) (by decide +kernel) (by grind) (by grind)
  obtain ⟨vv, hvv, vv1, vv2⟩ := hv.mul hv hss 2 (by decide +kernel) (by decide +kernel) (by grind) (by grind)
  obtain ⟨sq, hsq, sq1, sq2⟩ := huu.add hvv hss (41 / 10) (by decide +kernel) (by decide +kernel) (by grind) (by grind)
  obtain ⟨S, hS⟩ : ∃ S, S = U * U + W * W := ⟨_, rfl⟩
  have sqe : -(2 / 1000000) ≤ sq - S ∧ sq - S ≤ 2 / 1000000 := by rw [hS]; constructor <;> grind
  have bS : -(392 / 100) ≤ S ∧ S ≤ 392 / 100 := by rw [hS]; constructor <;> grind
  rw [← hS]
  have n1 := mul_bd u1 u2 sqe.1 sqe.2
  have n2 := mul_bd v1 v2 sqe.1 sqe.2
  have n3 := mul_bd u1 u2 bS.1 bS.2
  have n4 := mul_bd v1 v2 bS.1 bS.2
  have bsq : -(3921 / 1000) ≤ sq ∧ sq ≤ 3921 / 1000 := by constructor <;> grind
  have n5 := mul_bd u1 u2 bsq.1 bsq.2
  have n6 := mul_bd v1 v2 bsq.1 bsq.2
  obtain ⟨us, hus, us1, us2⟩ := hu.mul hsq hsss 6 (by decide +kernel) (by decide +kernel) (by grind) (by grind)
  obtain ⟨vs, hvs, vs1, vs2⟩ := hv.mul hsq hsss 6 (by decide +kernel) (by decide +kernel) (by grind) (by grind)
  have q1 : -(45 / 10000000) ≤ us - U * S ∧ us - U * S ≤ 45 / 10000000 := by constructor <;> grind
  have q2 : -(45 / 10000000) ≤ vs - W * S ∧ vs - W * S ≤ 45 / 10000000 := by constructor <;> grind
  clear n1 n2 n5 n6
  have t1 := sum_step hss k0 k2 (B := 2) (c := 61 / 10) (f := 2 / 4194304) h.a h.bA ⟨uu, huu, uu1, uu2⟩ ⟨by grind, by grind⟩ (by decide +kernel) (by decide +kernel) (by decide +kernel) (by decide +kernel) (by decide +kernel) (by decide +kernel) (by decide +kernel) (by decide +kernel)
  have t2 := sum_step hss k0 k2 (B := 2) (c := 61 / 10) (f := 2 / 4194304) h.b h.bB ⟨uv, huv, uv1, uv2⟩ ⟨by grind, by grind⟩ (by decide +kernel) (by decide +kernel) (by decide +kernel) (by decide +kernel) (by decide +kernel) (by decide +kernel) (by decide +kernel) (by decide +kernel)
  have t3 := sum_step hss k0 k2 (B := 2) (c := 61 / 10) (f := 2 / 4194304) h.c h.bC ⟨vv, hvv, vv1, vv2⟩ ⟨by grind, by grind⟩ (by decide +kernel) (by decide +kernel) (by decide +kernel) (by decide +kernel) (by decide +kernel) (by decide +kernel) (by decide +kernel) (by decide +kernel)
  have t4 := sum_step hsss k0 k2 (B := 6) (c := 185 / 10) (f := 45 / 10000000) h.d h.bD ⟨us, hus, q1.1, q1.2⟩ ⟨by grind, by grind⟩ (by decide +kernel) (by decide +kernel) (by decide +kernel) (by decide +kernel) (by decide +kernel) (by decide +kernel) (by decide +kernel) (by decide +kernel)
  have t5 := sum_step hsss k0 k2 (B := 6) (c := 185 / 10) (f := 45 / 10000000) h.e h.bE ⟨vs, hvs, q2.1, q2.2⟩ ⟨by grind, by grind⟩ (by decide +kernel) (by decide +kernel) (by decide +kernel) (by decide +kernel) (by decide +kernel) (by decide +kernel) (by decide +kernel) (by decide +kernel)
  exact ⟨⟨huu.1, huv.1, hvv.1, hsq.1, hus.1, hvs.1⟩, ⟨t1.1, t2.1, t3.1, t4.1, t5.1, t1.2, t2.2, t3.2, t4.2, t5.2⟩⟩
theorem Acc.zero (s : Rat) : Acc s 0 0 0 0 0 0 0 0 0 0 0 := by
  refine ⟨⟨0, zero_H _, ?_, ?_⟩, ⟨0, zero_H _, ?_, ?_⟩, ⟨0, zero_H _, ?_, ?_⟩, ⟨0, zero_H _, ?_, ?_⟩, ⟨0, zero_H _, ?_, ?_⟩, ?_, ?_, ?_, ?_, ?_⟩ <;> decide +kernel
end Go.Fl

namespace Go.Fl
open Ieee Go.RowKit
def tA (x0 x1 x2 : Rat) : Rat := x0 * x0 + x1 * x1 + x2 * x2
def tB (x0 x1 x2 y0 y1 y2 : Rat) : Rat := x0 * y0 + x1 * y1 + x2 * y2
def tD (x0 x1 x2 y0 y1 y2 : Rat) : Rat := x0 * (x0 * x0 + y0 * y0) + x1 * (x1 * x1 + y1 * y1) + x2 * (x2 * x2 + y2 * y2)
def inB (b x : Rat) : Bool := decide (-b ≤ x) && decide (x ≤ b)
def tabB (x0 x1 x2 y0 y1 y2 : Rat) : Bool :=
  let A := tA x0 x1 x2
  let B := tB x0 x1 x2 y0 y1 y2
  let C := tA y0 y1 y2
  let d := A * C - B * B
  decide (57 / 1000 ≤ d) && inB (25 / 10) A && inB (3 / 2) B && inB (25 / 10) C && decide (A + B ≤ 21 * d) && decide (A - B ≤ 21 * d) && decide (C + B ≤ 21 * d) && decide (C - B ≤ 21 * d) &&
    inB (3 / 2) (tD x0 x1 x2 y0 y1 y2) && inB (3 / 2) (tD y0 y1 y2 x0 x1 x2) && inB (13 / 10) x0 && inB (13 / 10) x1 && inB (13 / 10) x2 && inB (13 / 10) y0 && inB (13 / 10) y1 && inB (13 / 10) y2
def offC (a b c : Rat) : Rat := a - (a + b + c) / 3
def tabJ (a b c : Nat) : Bool :=
  tabB (offC (cosT a) (cosT b) (cosT c)) (offC (cosT b) (cosT c) (cosT a)) (offC (cosT c) (cosT a) (cosT b)) (offC (sinT a) (sinT b) (sinT c)) (offC (sinT b) (sinT c) (sinT a)) (offC (sinT c) (sinT a) (sinT b))
theorem fit_tab : (List.range 16).all (fun a => (List.range 8).all fun k => decide (k < 2) || (tabJ a (jAt true a k) (jAt true a (2 * k)) && tabJ a (jAt false a k) (jAt false a (2 * k)))) = true := by decide +kernel
structure Tab (x0 x1 x2 y0 y1 y2 A B C : Rat) : Prop where
  d : 57 / 1000 ≤ A * C - B * B
  a : -(25 / 10) ≤ A ∧ A ≤ 25 / 10
  b : -(3 / 2) ≤ B ∧ B ≤ 3 / 2
  c : -(25 / 10) ≤ C ∧ C ≤ 25 / 10
  a1 : A + B ≤ 21 * (A * C - B * B)
  a2 : A - B ≤ 21 * (A * C - B * B)
  c1 : C + B ≤ 21 * (A * C - B * B)
  c2 : C - B ≤ 21 * (A * C - B * B)
  dd : -(3 / 2) ≤ tD x0 x1 x2 y0 y1 y2 ∧ tD x0 x1 x2 y0 y1 y2 ≤ 3 / 2
  ee : -(3 / 2) ≤ tD y0 y1 y2 x0 x1 x2 ∧ tD y0 y1 y2 x0 x1 x2 ≤ 3 / 2
  x0 : -(13 / 10) ≤ x0 ∧ x0 ≤ 13 / 10
  x1 : -(13 / 10) ≤ x1 ∧ x1 ≤ 13 / 10
  x2 : -(13 / 10) ≤ x2 ∧ x2 ≤ 13 / 10
  y0 : -(13 / 10) ≤ y0 ∧ y0 ≤ 13 / 10
  y1 : -(13 / 10) ≤ y1 ∧ y1 ≤ 13 / 10
  y2 : -(13 / 10) ≤ y2 ∧ y2 ≤ 13 / 10
theorem tab_of {x0 x1 x2 y0 y1 y2 : Rat} (h : tabB x0 x1 x2 y0 y1 y2 = true) : Tab x0 x1 x2 y0 y1 y2 (tA x0 x1 x2) (tB x0 x1 x2 y0 y1 y2) (tA y0 y1 y2) := by
  simp only [tabB, inB, Bool.and_eq_true, decide_eq_true_eq] at h
  obtain ⟨⟨⟨⟨⟨⟨⟨⟨⟨⟨⟨⟨⟨⟨⟨h1, h2⟩, h3⟩, h4⟩, h5⟩, h6⟩, h7⟩, h8⟩, h9⟩, h10⟩, h11⟩, h12⟩, h13⟩, h14⟩, h15⟩, h16⟩ := h
  exact ⟨h1, h2, h3, h4, h5, h6, h7, h8, h9, h10, h11, h12, h13, h14, h15, h16⟩
theorem fit_at {up : Bool} {a k : Nat} (ha : a < 16) (h2 : 2 ≤ k) (h7 : k ≤ 7) : tabJ a (jAt up a k) (jAt up a (2 * k)) = true := by
  have := List.all_eq_true.1 (List.all_eq_true.1 fit_tab a (List.mem_range.2 ha)) k (List.mem_range.2 (by omega))
  have n : ¬ k < 2 := by omega
  simp only [n, decide_false, Bool.false_or, Bool.and_eq_true] at this
  cases up
  · exact this.2
  · exact this.1
theorem prod_near {u x v y : Rat} (u1 : -(9 / 1000000) ≤ u - x) (u2 : u - x ≤ 9 / 1000000) (v1 : -(9 / 1000000) ≤ v - y) (v2 : v - y ≤ 9 / 1000000) (hx : -(13 / 10) ≤ x ∧ x ≤ 13 / 10) (hy : -(13 / 10) ≤ y ∧ y ≤ 13 / 10) :
    -(24 / 1000000) ≤ u * v - x * y ∧ u * v - x * y ≤ 24 / 1000000 := by
  have a := mul_bd u1 u2 hy.1 hy.2
  have b := mul_bd hx.1 hx.2 v1 v2
  have c := mul_bd u1 u2 v1 v2
  constructor <;> grind
theorem cube_near {u x v y : Rat} (u1 : -(9 / 1000000) ≤ u - x) (u2 : u - x ≤ 9 / 1000000) (v1 : -(9 / 1000000) ≤ v - y) (v2 : v - y ≤ 9 / 1000000) (hx : -(13 / 10) ≤ x ∧ x ≤ 13 / 10) (hy : -(13 / 10) ≤ y ∧ y ≤ 13 / 10) :
    -(1 / 10000) ≤ u * (u * u + v * v) - x * (x * x + y * y) ∧ u * (u * u + v * v) - x * (x * x + y * y) ≤ 1 / 10000 := by
  have p1 := prod_near u1 u2 u1 u2 hx hx
  have p2 := prod_near v1 v2 v1 v2 hy hy
  have s1 := mul_bd hx.1 hx.2 hx.1 hx.2
  have s2 := mul_bd hy.1 hy.2 hy.1 hy.2
  have t1 := sq_pos x
  have t2 := sq_pos y
  obtain ⟨S, hS⟩ : ∃ S, S = x * x + y * y := ⟨_, rfl⟩
  obtain ⟨T, hT⟩ : ∃ T, T = u * u + v * v := ⟨_, rfl⟩
  have hd : -(48 / 1000000) ≤ T - S ∧ T - S ≤ 48 / 1000000 := by rw [hS, hT]; constructor <;> grind
  have hSb : -(338 / 100) ≤ S ∧ S ≤ 338 / 100 := by rw [hS]; constructor <;> grind
  rw [← hS, ← hT]
  clear p1 p2 s1 s2 t1 t2 hS hT
  have a := mul_bd (x := u) (B := 131 / 100) (by grind) (by grind) hd.1 hd.2
  have b := mul_bd u1 u2 hSb.1 hSb.2
  constructor <;> grind
/-- how far a place is from the circle about (α, β) -/
theorem eps_one {U V c s α β : Rat} (hu : Unit c s) (u1 : -(26 / 10000000) ≤ U - (c + α)) (u2 : U - (c + α) ≤ 26 / 10000000) (v1 : -(26 / 10000000) ≤ V - (s + β)) (v2 : V - (s + β) ≤ 26 / 10000000) :
    -(11 / 1000000) ≤ U * U + V * V - 2 * α * U - 2 * β * V - (1 - α * α - β * β) ∧ U * U + V * V - 2 * α * U - 2 * β * V - (1 - α * α - β * β) ≤ 11 / 1000000 := by
  obtain ⟨b1, b2⟩ := hu.bd
  obtain ⟨h1, h2⟩ := hu
  obtain ⟨e, he⟩ : ∃ e, e = U - (c + α) := ⟨_, rfl⟩
  obtain ⟨f, hf⟩ : ∃ f, f = V - (s + β) := ⟨_, rfl⟩
  rw [← he] at u1 u2
  rw [← hf] at v1 v2
  have m1 := mul_bd b1.1 b1.2 u1 u2
  have m2 := mul_bd b2.1 b2.2 v1 v2
  have m3 := mul_bd u1 u2 u1 u2
  have m4 := mul_bd v1 v2 v1 v2
  have key : U * U + V * V - 2 * α * U - 2 * β * V - (1 - α * α - β * β) = (c * c + s * s) - 1 + 2 * (c * e) + 2 * (s * f) + e * e + f * f := by
    have : U = c + α + e := by rw [he]; grind
    have : V = s + β + f := by rw [hf]; grind
    subst U V
    grind
  rw [key]
  constructor <;> grind
theorem resid {U0 U1 U2 V0 V1 V2 α β e0 e1 e2 : Rat} (a1 : -(101 / 100) ≤ α) (a2 : α ≤ 101 / 100) (b1 : -(101 / 100) ≤ β) (b2 : β ≤ 101 / 100) (s1 : -(14 / 1000000) ≤ U0 + U1 + U2) (s2 : U0 + U1 + U2 ≤ 14 / 1000000)
    (u0 : -(14 / 10) ≤ U0 ∧ U0 ≤ 14 / 10) (u1 : -(14 / 10) ≤ U1 ∧ U1 ≤ 14 / 10) (u2 : -(14 / 10) ≤ U2 ∧ U2 ≤ 14 / 10)
    (h0 : e0 = U0 * U0 + V0 * V0 - 2 * α * U0 - 2 * β * V0 - (1 - α * α - β * β)) (h1 : e1 = U1 * U1 + V1 * V1 - 2 * α * U1 - 2 * β * V1 - (1 - α * α - β * β)) (h2 : e2 = U2 * U2 + V2 * V2 - 2 * α * U2 - 2 * β * V2 - (1 - α * α - β * β))
    (k0 : -(11 / 1000000) ≤ e0 ∧ e0 ≤ 11 / 1000000) (k1 : -(11 / 1000000) ≤ e1 ∧ e1 ≤ 11 / 1000000) (k2 : -(11 / 1000000) ≤ e2 ∧ e2 ≤ 11 / 1000000) :
    -(65 / 1000000) ≤ tD U0 U1 U2 V0 V1 V2 - 2 * α * tA U0 U1 U2 - 2 * β * tB U0 U1 U2 V0 V1 V2 ∧ tD U0 U1 U2 V0 V1 V2 - 2 * α * tA U0 U1 U2 - 2 * β * tB U0 U1 U2 V0 V1 V2 ≤ 65 / 1000000 := by
  have key : tD U0 U1 U2 V0 V1 V2 - 2 * α * tA U0 U1 U2 - 2 * β * tB U0 U1 U2 V0 V1 V2 = (1 - α * α - β * β) * (U0 + U1 + U2) + (U0 * e0 + U1 * e1 + U2 * e2) := by
    rw [h0, h1, h2]; unfold tD tA tB; grind
  rw [key]
  clear key h0 h1 h2
  have q1 := mul_bd a1 a2 a1 a2
  have q2 := mul_bd b1 b2 b1 b2
  have t1 := sq_pos α
  have t2 := sq_pos β
  obtain ⟨κ, hκ⟩ : ∃ κ, κ = 1 - α * α - β * β := ⟨_, rfl⟩
  have bκ : -(105 / 100) ≤ κ ∧ κ ≤ 105 / 100 := by rw [hκ]; constructor <;> grind
  rw [← hκ]
  clear q1 q2 t1 t2 hκ
  have m := mul_bd bκ.1 bκ.2 s1 s2
  have m0 := mul_bd u0.1 u0.2 k0.1 k0.2
  have m1 := mul_bd u1.1 u1.2 k1.1 k1.2
  have m2 := mul_bd u2.1 u2.2 k2.1 k2.2
  constructor <;> grind
/-- one coordinate of the solution -/
theorem solve_one {A B C D E α β n X q : Rat} (a1 : -(101 / 100) ≤ α) (a2 : α ≤ 101 / 100) (hD : -(125 / 1000000) ≤ D - 2 * α * A - 2 * β * B ∧ D - 2 * α * A - 2 * β * B ≤ 125 / 1000000) (hE : -(125 / 1000000) ≤ E - 2 * α * B - 2 * β * C ∧ E - 2 * α * B - 2 * β * C ≤ 125 / 1000000)
    (c0 : 0 ≤ C) (n0 : 11 / 100 ≤ n) (hn : -(2 / 100000) ≤ n - 2 * (A * C - B * B) ∧ n - 2 * (A * C - B * B) ≤ 2 / 100000) (c1 : C + B ≤ 107 / 10 * n) (c2 : C - B ≤ 107 / 10 * n) (hX : -(4 / 1000000) ≤ X - (D * C - E * B) ∧ X - (D * C - E * B) ≤ 4 / 1000000) (hq : q * n = X) :
    -(16 / 10000) ≤ q - α ∧ q - α ≤ 16 / 10000 := by
  obtain ⟨r, hr⟩ : ∃ r, r = D - 2 * α * A - 2 * β * B := ⟨_, rfl⟩
  obtain ⟨t, ht⟩ : ∃ t, t = E - 2 * α * B - 2 * β * C := ⟨_, rfl⟩
  obtain ⟨ξ, hξ⟩ : ∃ ξ, ξ = X - (D * C - E * B) := ⟨_, rfl⟩
  obtain ⟨ν, hν⟩ : ∃ ν, ν = n - 2 * (A * C - B * B) := ⟨_, rfl⟩
  rw [← hr] at hD
  rw [← ht] at hE
  rw [← hξ] at hX
  rw [← hν] at hn
  have key : (q - α) * n = r * C - t * B + ξ - α * ν := by
    have : (q - α) * n = X - α * n := by grind
    rw [this, hr, ht, hξ, hν]; grind
  clear hr ht hξ hν hq
  have m1 := Rat.mul_nonneg (a := 125 / 1000000 - r) (b := C) (by grind) c0
  have m2 := Rat.mul_nonneg (a := 125 / 1000000 + r) (b := C) (by grind) c0
  have m3 := mul_bd a1 a2 hn.1 hn.2
  obtain ⟨K, hK⟩ : ∃ K, K = r * C - t * B + ξ - α * ν := ⟨_, rfl⟩
  rw [← hK] at key
  have bK : -(125 / 1000000 * (107 / 10 * n) + 25 / 1000000) ≤ K ∧ K ≤ 125 / 1000000 * (107 / 10 * n) + 25 / 1000000 := by
    rw [hK]
    rcases Rat.le_total (a := 0) (b := B) with h | h
    · have m4 := Rat.mul_nonneg (a := 125 / 1000000 - t) (b := B) (by grind) h
      have m5 := Rat.mul_nonneg (a := 125 / 1000000 + t) (b := B) (by grind) h
      constructor <;> grind
    · have m4 := Rat.mul_nonneg (a := 125 / 1000000 - t) (b := -B) (by grind) (by grind)
      have m5 := Rat.mul_nonneg (a := 125 / 1000000 + t) (b := -B) (by grind) (by grind)
      constructor <;> grind
  clear m1 m2 m3 hK hD hE hX hn c1 c2
  constructor
  · refine Rat.not_lt.1 fun h => ?_
    have := Rat.mul_pos (a := -(16 / 10000) - (q - α)) (b := n) (by grind) (by grind)
    grind
  · refine Rat.not_lt.1 fun h => ?_
    have := Rat.mul_pos (a := (q - α) - 16 / 10000) (b := n) (by grind) (by grind)
    grind
/-- the determinant of the fit -/
theorem det_near {x0 x1 x2 y0 y1 y2 A0 B0 C0 A B C n : Rat} (T : Tab x0 x1 x2 y0 y1 y2 A0 B0 C0) (hA : -(8 / 100000) ≤ A - A0 ∧ A - A0 ≤ 8 / 100000) (hB : -(8 / 100000) ≤ B - B0 ∧ B - B0 ≤ 8 / 100000) (hC : -(8 / 100000) ≤ C - C0 ∧ C - C0 ≤ 8 / 100000) (hn : -(2 / 100000) ≤ n - 2 * (A * C - B * B) ∧ n - 2 * (A * C - B * B) ≤ 2 / 100000) :
    11 / 100 ≤ n ∧ C + B ≤ 107 / 10 * n ∧ C - B ≤ 107 / 10 * n ∧ A + B ≤ 107 / 10 * n ∧ A - B ≤ 107 / 10 * n := by
  have m1 := mul_bd (x := A - A0) (y := C0) hA.1 hA.2 T.c.1 T.c.2
  have m2 := mul_bd (x := A) (y := C - C0) (B := 26 / 10) (by have := T.a; grind) (by have := T.a; grind) hC.1 hC.2
  have m3 := mul_bd (x := B - B0) (y := B0) hB.1 hB.2 T.b.1 T.b.2
  have m4 := mul_bd (x := B) (y := B - B0) (B := 16 / 10) (by have := T.b; grind) (by have := T.b; grind) hB.1 hB.2
  obtain ⟨d0, hd0⟩ : ∃ d, d = A0 * C0 - B0 * B0 := ⟨_, rfl⟩
  have td := T.d
  have a1 := T.a1
  have a2 := T.a2
  have c1 := T.c1
  have c2 := T.c2
  rw [← hd0] at td a1 a2 c1 c2
  have hd : -(66 / 100000) ≤ (A * C - B * B) - d0 := by rw [hd0]; grind
  clear m1 m2 m3 m4 hd0 T
  obtain ⟨d, hdd⟩ : ∃ d, d = A * C - B * B := ⟨_, rfl⟩
  rw [← hdd] at hd hn
  clear hdd
  refine ⟨by grind, by grind, by grind, by grind, by grind⟩
end Go.Fl

namespace Go.Fl
open Ieee Go.RowKit
def aF (p : Nat → Cx) (m : Cx) : Nat → Nat
  | 0 => 0
  | k + 1 => fop .add .f32 (aF p m k) (fop .mul .f32 (minusF (p k) m).1 (minusF (p k) m).1)
def bF (p : Nat → Cx) (m : Cx) : Nat → Nat
  | 0 => 0
  | k + 1 => fop .add .f32 (bF p m k) (fop .mul .f32 (minusF (p k) m).1 (minusF (p k) m).2)
def cF (p : Nat → Cx) (m : Cx) : Nat → Nat
  | 0 => 0
  | k + 1 => fop .add .f32 (cF p m k) (fop .mul .f32 (minusF (p k) m).2 (minusF (p k) m).2)
def dF (p : Nat → Cx) (m : Cx) : Nat → Nat
  | 0 => 0
  | k + 1 => fop .add .f32 (dF p m k) (fop .mul .f32 (minusF (p k) m).1 (sqF (minusF (p k) m).1 (minusF (p k) m).2))
def eF (p : Nat → Cx) (m : Cx) : Nat → Nat
  | 0 => 0
  | k + 1 => fop .add .f32 (eF p m k) (fop .mul .f32 (minusF (p k) m).2 (sqF (minusF (p k) m).1 (minusF (p k) m).2))
def rnF (a b c : Nat) : Nat := fop .mul .f32 1073741824 (fop .sub .f32 (fop .mul .f32 a c) (fop .mul .f32 b b))
def rxF (a b c d e : Nat) : Nat := fop .quo .f32 (fop .sub .f32 (fop .mul .f32 d c) (fop .mul .f32 e b)) (rnF a b c)
def ryF (a b c d e : Nat) : Nat := fop .quo .f32 (fop .sub .f32 (fop .mul .f32 e a) (fop .mul .f32 d b)) (rnF a b c)
/-- the solution's steps are numbers -/
structure SolN (a b c d e : Nat) : Prop where
  ac : isN .f32 (fop .mul .f32 a c) = true
  bb : isN .f32 (fop .mul .f32 b b) = true
  df : isN .f32 (fop .sub .f32 (fop .mul .f32 a c) (fop .mul .f32 b b)) = true
  n : isN .f32 (rnF a b c) = true
  n0 : R .f32 (rnF a b c) ≠ 0
  dc : isN .f32 (fop .mul .f32 d c) = true
  eb : isN .f32 (fop .mul .f32 e b) = true
  ea : isN .f32 (fop .mul .f32 e a) = true
  db : isN .f32 (fop .mul .f32 d b) = true
  x : isN .f32 (fop .sub .f32 (fop .mul .f32 d c) (fop .mul .f32 e b)) = true
  y : isN .f32 (fop .sub .f32 (fop .mul .f32 e a) (fop .mul .f32 d b)) = true
  o : nN (rxF a b c d e, ryF a b c d e)
theorem H.of_rnd5 {r : Nat} {q s q' : Rat} (h : Rnd .f32 r q) (s1 : 1 / 1000 ≤ s) (s2 : s ≤ 1100) (e : q = s * q') (c : Rat) (c1 : 1 / 1000 ≤ c) (c2 : c ≤ 100) (h1 : -c ≤ q') (h2 : q' ≤ c) : ∃ v, H r s v ∧ -(c / 4194304) ≤ v - q' ∧ v - q' ≤ c / 4194304 := by
  have s0 : 0 < s := by grind
  have a1 := Rat.mul_nonneg (a := c - 1 / 1000) (b := s) (by grind) (by grind)
  have a2 := Rat.mul_nonneg (a := 100 - c) (b := s) (by grind) (by grind)
  have a3 := Rat.mul_nonneg (a := q' + c) (b := s) (by grind) (by grind)
  have a4 := Rat.mul_nonneg (a := c - q') (b := s) (by grind) (by grind)
  have f := h.sc (c := c * s) (by grind) (by grind) (by grind) (by grind)
  have hv : R .f32 r / s * s = R .f32 r := Rat.div_mul_cancel (by grind)
  obtain ⟨v, hvv⟩ : ∃ v, v = R .f32 r / s := ⟨_, rfl⟩
  rw [← hvv] at hv
  refine ⟨v, ⟨h.num, by grind⟩, ?_, ?_⟩
  · refine Rat.not_lt.1 fun k => ?_
    have := Rat.mul_pos (a := -(c / 4194304) - (v - q')) (b := s) (by grind) s0
    grind
  · refine Rat.not_lt.1 fun k => ?_
    have := Rat.mul_pos (a := (v - q') - c / 4194304) (b := s) (by grind) s0
    grind
theorem bd5 {s q c : Rat} (s2 : s ≤ 1100) (s0 : 0 ≤ s) (c2 : c ≤ 100) (h1 : -c ≤ q) (h2 : q ≤ c) : -1000000 ≤ s * q ∧ s * q ≤ 1000000 := by
  have a3 := Rat.mul_nonneg (a := q + c) (b := s) (by grind) (by grind)
  have a4 := Rat.mul_nonneg (a := c - q) (b := s) (by grind) (by grind)
  have a2 := Rat.mul_nonneg (a := 100 - c) (b := s) (by grind) (by grind)
  constructor <;> grind
theorem H.mul5 {x y : Nat} {s t u a b : Rat} (hx : H x s a) (hy : H y t b) (hu : s * t = u) (u1 : 1 / 1000 ≤ u) (u2 : u ≤ 1100) (c : Rat) (c1 : 1 / 1000 ≤ c) (c2 : c ≤ 100) (h1 : -c ≤ a * b) (h2 : a * b ≤ c) : ∃ v, H (fop .mul .f32 x y) u v ∧ -(c / 4194304) ≤ v - a * b ∧ v - a * b ≤ c / 4194304 := by
  have e : R .f32 x * R .f32 y = u * (a * b) := by rw [hx.2, hy.2, ← hu]; grind
  obtain ⟨k1, k2⟩ := bd5 u2 (by grind) c2 h1 h2
  exact H.of_rnd5 (rnd_mul hx.1 hy.1 (by rw [e]; exact k1) (by rw [e]; exact k2)) u1 u2 e c c1 c2 h1 h2
theorem H.sub5 {x y : Nat} {s a b : Rat} (hx : H x s a) (hy : H y s b) (u1 : 1 / 1000 ≤ s) (u2 : s ≤ 1100) (c : Rat) (c1 : 1 / 1000 ≤ c) (c2 : c ≤ 100) (h1 : -c ≤ a - b) (h2 : a - b ≤ c) : ∃ v, H (fop .sub .f32 x y) s v ∧ -(c / 4194304) ≤ v - (a - b) ∧ v - (a - b) ≤ c / 4194304 := by
  have e : R .f32 x - R .f32 y = s * (a - b) := by rw [hx.2, hy.2]; grind
  obtain ⟨k1, k2⟩ := bd5 u2 (by grind) c2 h1 h2
  exact H.of_rnd5 (rnd_sub hx.1 hy.1 (by rw [e]; exact k1) (by rw [e]; exact k2)) u1 u2 e c c1 c2 h1 h2
theorem sol_near {s A B C D E α β : Rat} {a b c d e : Nat} {x0 x1 x2 y0 y1 y2 A0 B0 C0 : Rat} (hs1 : 1 / 2 ≤ s) (hs2 : s ≤ 4) (T : Tab x0 x1 x2 y0 y1 y2 A0 B0 C0) (ha : H a (s * s) A) (hb : H b (s * s) B) (hc : H c (s * s) C) (hd : H d (s * (s * s)) D) (he : H e (s * (s * s)) E)
    (hA : -(8 / 100000) ≤ A - A0 ∧ A - A0 ≤ 8 / 100000) (hB : -(8 / 100000) ≤ B - B0 ∧ B - B0 ≤ 8 / 100000) (hC : -(8 / 100000) ≤ C - C0 ∧ C - C0 ≤ 8 / 100000) (A00 : 0 ≤ A) (C00 : 0 ≤ C) (bD : -(16 / 10) ≤ D ∧ D ≤ 16 / 10) (bE : -(16 / 10) ≤ E ∧ E ≤ 16 / 10)
    (a1 : -(101 / 100) ≤ α) (a2 : α ≤ 101 / 100) (b1 : -(101 / 100) ≤ β) (b2 : β ≤ 101 / 100) (hD : -(125 / 1000000) ≤ D - 2 * α * A - 2 * β * B ∧ D - 2 * α * A - 2 * β * B ≤ 125 / 1000000) (hE : -(125 / 1000000) ≤ E - 2 * α * B - 2 * β * C ∧ E - 2 * α * B - 2 * β * C ≤ 125 / 1000000) :
    SolN a b c d e ∧ ∃ q r, H (rxF a b c d e) s q ∧ H (ryF a b c d e) s r ∧ (-(161 / 100000) ≤ q - α ∧ q - α ≤ 161 / 100000) ∧ (-(161 / 100000) ≤ r - β ∧ r - β ≤ 161 / 100000) := by
  have s0 : 0 < s := by grind
  have ssb : 1 / 4 ≤ s * s ∧ s * s ≤ 16 := by
    have := Rat.mul_nonneg (a := s - 1 / 2) (b := s + 1 / 2) (by grind) (by grind)
    have := Rat.mul_nonneg (a := 4 - s) (b := s + 4) (by grind) (by grind)
    constructor <;> grind
  obtain ⟨S, hS⟩ : ∃ S, S = s * s := ⟨_, rfl⟩
  rw [← hS] at ssb ha hb hc hd he
  have s4 : 1 / 16 ≤ S * S ∧ S * S ≤ 256 := by
    have := Rat.mul_nonneg (a := S - 1 / 4) (b := S + 1 / 4) (by grind) (by grind)
    have := Rat.mul_nonneg (a := 16 - S) (b := S + 16) (by grind) (by grind)
    constructor <;> grind
  obtain ⟨S4, hS4⟩ : ∃ S4, S4 = S * S := ⟨_, rfl⟩
  rw [← hS4] at s4
  have s5 : 1 / 1000 ≤ s * S4 ∧ s * S4 ≤ 1100 := by
    have := Rat.mul_nonneg (a := s - 1 / 2) (b := S4) (by grind) (by grind)
    have := Rat.mul_nonneg (a := 4 - s) (b := S4) (by grind) (by grind)
    constructor <;> grind
  have e5 : s * S * S = s * S4 := by rw [hS4]; grind
  have hsc : Sc s := ⟨by grind, by grind⟩
  have hs4 : Sc S4 := ⟨by grind, by grind⟩
  have Ta := T.a
  have Tb := T.b
  have Tc := T.c
  have bA : 0 ≤ A ∧ A ≤ 26 / 10 := by constructor <;> grind
  have bB : -(16 / 10) ≤ B ∧ B ≤ 16 / 10 := by constructor <;> grind
  have bC : 0 ≤ C ∧ C ≤ 26 / 10 := by constructor <;> grind
  clear Ta Tb Tc
  have m1 := mul_bd (x := A) (y := C) (B := 26 / 10) (C := 26 / 10) (by grind) bA.2 (by grind) bC.2
  have m2 := mul_bd bB.1 bB.2 bB.1 bB.2
  have m3 := mul_bd (x := D) (y := C) (B := 16 / 10) (C := 26 / 10) bD.1 bD.2 (by grind) bC.2
  have m4 := mul_bd (x := E) (y := B) bE.1 bE.2 bB.1 bB.2
  have m5 := mul_bd (x := E) (y := A) (B := 16 / 10) (C := 26 / 10) bE.1 bE.2 (by grind) bA.2
  have m6 := mul_bd (x := D) (y := B) bD.1 bD.2 bB.1 bB.2
  have hDD := Lib.hid hD
  have hEE := Lib.hid hE
  have hAA := Lib.hid (And.intro hA (And.intro hB hC))
  clear hD hE hA hB hC
  obtain ⟨ac, hac, ac1, ac2⟩ := ha.mul5 hc hS4.symm (by grind) (by grind) 7 (by decide +kernel) (by decide +kernel) (by grind) (by grind)
  obtain ⟨bb, hbb, bb1, bb2⟩ := hb.mul5 hb hS4.symm (by grind) (by grind) 3 (by decide +kernel) (by decide +kernel) (by grind) (by grind)
  obtain ⟨dc, hdc, dc1, dc2⟩ := hd.mul5 hc e5 s5.1 s5.2 (42 / 10) (by decide +kernel) (by decide +kernel) (by grind) (by grind)
  obtain ⟨eb, heb, eb1, eb2⟩ := he.mul5 hb e5 s5.1 s5.2 (26 / 10) (by decide +kernel) (by decide +kernel) (by grind) (by grind)
  obtain ⟨ea, hea, ea1, ea2⟩ := he.mul5 ha e5 s5.1 s5.2 (42 / 10) (by decide +kernel) (by decide +kernel) (by grind) (by grind)
  obtain ⟨db, hdb, db1, db2⟩ := hd.mul5 hb e5 s5.1 s5.2 (26 / 10) (by decide +kernel) (by decide +kernel) (by grind) (by grind)
  obtain ⟨df, hdf, df1, df2⟩ := hac.sub5 hbb (by grind) (by grind) (10) (by decide +kernel) (by decide +kernel) (by grind) (by grind)
  obtain ⟨X, hX, X1, X2⟩ := hdc.sub5 heb s5.1 s5.2 (7) (by decide +kernel) (by decide +kernel) (by grind) (by grind)
  obtain ⟨Y, hY, Y1, Y2⟩ := hea.sub5 hdb s5.1 s5.2 (7) (by decide +kernel) (by decide +kernel) (by grind) (by grind)
  have h2 : H 1073741824 1 2 := ⟨(two32 0).1, by rw [(two32 0).2]; decide +kernel⟩
  obtain ⟨n, hn, n1, n2⟩ := h2.mul5 hdf (u := S4) (by grind) (by grind) (by grind) (21) (by decide +kernel) (by decide +kernel) (by grind) (by grind)
  have hnn : -(2 / 100000) ≤ n - 2 * (A * C - B * B) ∧ n - 2 * (A * C - B * B) ≤ 2 / 100000 := by constructor <;> grind
  have hXX : -(4 / 1000000) ≤ X - (D * C - E * B) ∧ X - (D * C - E * B) ≤ 4 / 1000000 := by constructor <;> grind
  have hYY : -(4 / 1000000) ≤ Y - (E * A - D * B) ∧ Y - (E * A - D * B) ≤ 4 / 1000000 := by constructor <;> grind
  clear m1 m2 m3 m4 m5 m6 ac1 ac2 bb1 bb2 dc1 dc2 eb1 eb2 ea1 ea2 db1 db2 df1 df2 X1 X2 Y1 Y2 n1 n2
  obtain ⟨g0, g1, g2, g3, g4⟩ := det_near T hAA.out.1 hAA.out.2.1 hAA.out.2.2 hnn
  have n0 : n ≠ 0 := by clear hnn hXX hYY; grind
  have hqx : X / n * n = X := Rat.div_mul_cancel n0
  have hqy : Y / n * n = Y := Rat.div_mul_cancel n0
  obtain ⟨q, hq⟩ : ∃ q, q = X / n := ⟨_, rfl⟩
  obtain ⟨r, hr⟩ : ∃ r, r = Y / n := ⟨_, rfl⟩
  rw [← hq] at hqx
  rw [← hr] at hqy
  have ox := solve_one (q := q) a1 a2 hDD.out hEE.out bC.1 g0 hnn g1 g2 hXX hqx
  have oy := solve_one (A := C) (B := B) (C := A) (D := E) (E := D) (α := β) (β := α) (n := n) (X := Y) (q := r) b1 b2 (by have := hEE.out; rw [show E - 2 * β * C - 2 * α * B = E - 2 * α * B - 2 * β * C by grind]; exact this) (by have := hDD.out; rw [show D - 2 * β * B - 2 * α * A = D - 2 * α * A - 2 * β * B by grind]; exact this) bA.1 g0 (by rw [show C * A - B * B = A * C - B * B by grind]; exact hnn) g3 g4 hYY hqy
  clear hnn hXX hYY hDD hEE hAA g0 g1 g2 g3 g4 hq hr
  have eX : H (fop .sub .f32 (fop .mul .f32 d c) (fop .mul .f32 e b)) (s * S4) X := hX
  obtain ⟨q', hq', qq1, qq2⟩ := hX.div (q := q) hn hsc hs4 n0 hqx (11 / 10) (by decide +kernel) (by decide +kernel) (by grind) (by grind)
  obtain ⟨r', hr', rr1, rr2⟩ := hY.div (q := r) hn hsc hs4 n0 hqy (11 / 10) (by decide +kernel) (by decide +kernel) (by grind) (by grind)
  have nz : R .f32 (rnF a b c) ≠ 0 := by
    have : R .f32 (rnF a b c) = S4 * n := hn.2
    rw [this]
    intro h
    rcases Rat.mul_eq_zero.1 h with h | h
    · have := s4.1
      rw [h] at this
      exact absurd this (by decide +kernel)
    · exact n0 h
  exact ⟨⟨hac.1, hbb.1, hdf.1, hn.1, nz, hdc.1, heb.1, hea.1, hdb.1, hX.1, hY.1, ⟨hq'.1, hr'.1⟩⟩, q', r', hq', hr', ⟨by grind, by grind⟩, ⟨by grind, by grind⟩⟩
/-- one coordinate of the three points about their mean -/
theorem coord_fit {s xx c0 c1 c2 P0 P1 P2 : Rat} {x0 x1 x2 : Nat} (hs : Sc s) (xb1 : -4 ≤ xx) (xb2 : xx ≤ 4) (h0 : H x0 s (xx + P0)) (h1 : H x1 s (xx + P1)) (h2 : H x2 s (xx + P2))
    (b0 : -(1000001 / 1000000) ≤ c0 ∧ c0 ≤ 1000001 / 1000000) (b1 : -(1000001 / 1000000) ≤ c1 ∧ c1 ≤ 1000001 / 1000000) (b2 : -(1000001 / 1000000) ≤ c2 ∧ c2 ≤ 1000001 / 1000000)
    (d0 : -(22 / 10000000) ≤ P0 - c0 ∧ P0 - c0 ≤ 22 / 10000000) (d1 : -(22 / 10000000) ≤ P1 - c1 ∧ P1 - c1 ≤ 22 / 10000000) (d2 : -(22 / 10000000) ≤ P2 - c2 ∧ P2 - c2 ≤ 22 / 10000000)
    (o0 : -(13 / 10) ≤ offC c0 c1 c2 ∧ offC c0 c1 c2 ≤ 13 / 10) (o1 : -(13 / 10) ≤ offC c1 c2 c0 ∧ offC c1 c2 c0 ≤ 13 / 10) (o2 : -(13 / 10) ≤ offC c2 c0 c1 ∧ offC c2 c0 c1 ≤ 13 / 10) :
    isN .f32 (fop .add .f32 0 x0) = true ∧ isN .f32 (fop .add .f32 (fop .add .f32 0 x0) x1) = true ∧ isN .f32 (fop .add .f32 (fop .add .f32 (fop .add .f32 0 x0) x1) x2) = true ∧
      ∃ m α U0 U1 U2, m = fop .quo .f32 (fop .add .f32 (fop .add .f32 (fop .add .f32 0 x0) x1) x2) (floatOfInt .f32 (3 : Nat)) ∧ H m s (xx - α) ∧ H (fop .sub .f32 x0 m) s U0 ∧ H (fop .sub .f32 x1 m) s U1 ∧ H (fop .sub .f32 x2 m) s U2 ∧
        (-(26 / 10000000) ≤ U0 - (c0 + α) ∧ U0 - (c0 + α) ≤ 26 / 10000000) ∧ (-(26 / 10000000) ≤ U1 - (c1 + α) ∧ U1 - (c1 + α) ≤ 26 / 10000000) ∧ (-(26 / 10000000) ≤ U2 - (c2 + α) ∧ U2 - (c2 + α) ≤ 26 / 10000000) ∧
        (-(9 / 1000000) ≤ U0 - offC c0 c1 c2 ∧ U0 - offC c0 c1 c2 ≤ 9 / 1000000) ∧ (-(9 / 1000000) ≤ U1 - offC c1 c2 c0 ∧ U1 - offC c1 c2 c0 ≤ 9 / 1000000) ∧ (-(9 / 1000000) ≤ U2 - offC c2 c0 c1 ∧ U2 - offC c2 c0 c1 ≤ 9 / 1000000) ∧
        (-(14 / 1000000) ≤ U0 + U1 + U2 ∧ U0 + U1 + U2 ≤ 14 / 1000000) ∧ -(101 / 100) ≤ α ∧ α ≤ 101 / 100 := by
  obtain ⟨n1, n2, n3, μ, hμ, m1, m2⟩ := mean_one hs h0 h1 h2 xb1 xb2 (by grind) (by grind) (by grind) (by grind) (by grind) (by grind)
  unfold offC at o0 o1 o2 ⊢
  obtain ⟨m, hm⟩ : ∃ m, m = fop .quo .f32 (fop .add .f32 (fop .add .f32 (fop .add .f32 0 x0) x1) x2) (floatOfInt .f32 (3 : Nat)) := ⟨_, rfl⟩
  rw [← hm] at hμ
  obtain ⟨U0, hU0, u01, u02⟩ := h0.sub hμ hs (14 / 10) (by decide +kernel) (by decide +kernel) (by grind) (by grind)
  obtain ⟨U1, hU1, u11, u12⟩ := h1.sub hμ hs (14 / 10) (by decide +kernel) (by decide +kernel) (by grind) (by grind)
  obtain ⟨U2, hU2, u21, u22⟩ := h2.sub hμ hs (14 / 10) (by decide +kernel) (by decide +kernel) (by grind) (by grind)
  refine ⟨n1, n2, n3, m, xx - μ, U0, U1, U2, hm, ?_, hU0, hU1, hU2, ⟨by grind, by grind⟩, ⟨by grind, by grind⟩, ⟨by grind, by grind⟩, ⟨by grind, by grind⟩, ⟨by grind, by grind⟩, ⟨by grind, by grind⟩, ⟨by grind, by grind⟩, by grind, by grind⟩
  rw [show xx - (xx - μ) = μ by grind]; exact hμ
def fitO (p : Nat → Cx) : Cx := (rxF (aF p (meF p 3) 3) (bF p (meF p 3) 3) (cF p (meF p 3) 3) (dF p (meF p 3) 3) (eF p (meF p 3) 3), ryF (aF p (meF p 3) 3) (bF p (meF p 3) 3) (cF p (meF p 3) 3) (dF p (meF p 3) 3) (eF p (meF p 3) 3))
def fitZ (p : Nat → Cx) : Cx := plusF (meF p 3) (fitO p)
def rsF (p : Nat → Cx) (z : Cx) : Nat → Nat
  | 0 => 0
  | k + 1 => fop .add .f32 (rsF p z k) (longF (minusF (p k) z))
def fitR (p : Nat → Cx) : Nat := fop .quo .f32 (rsF p (fitZ p) 3) (floatOfInt .f32 (3 : Nat))
/-- all steps of the fit are numbers -/
structure FitN (p : Nat → Cx) : Prop where
  pts : ∀ i, i < 3 → nN (p i)
  me : MeN p 3
  d : ∀ i, i < 3 → nN (minusF (p i) (meF p 3))
  st : ∀ i, i < 3 → StpN (minusF (p i) (meF p 3)).1 (minusF (p i) (meF p 3)).2
  acc : ∀ i, i ≤ 3 → isN .f32 (aF p (meF p 3) i) = true ∧ isN .f32 (bF p (meF p 3) i) = true ∧ isN .f32 (cF p (meF p 3) i) = true ∧ isN .f32 (dF p (meF p 3) i) = true ∧ isN .f32 (eF p (meF p 3) i) = true
  sol : SolN (aF p (meF p 3) 3) (bF p (meF p 3) 3) (cF p (meF p 3) 3) (dF p (meF p 3) 3) (eF p (meF p 3) 3)
  z : nN (fitZ p)
  w : ∀ i, i < 3 → nN (minusF (p i) (fitZ p))
  l : ∀ i, i < 3 → LongN (minusF (p i) (fitZ p))
  r : ∀ i, i ≤ 3 → isN .f32 (rsF p (fitZ p) i) = true
  rad : isN .f32 (fitR p) = true
theorem Acc.num {s k : Rat} {a b c d e : Nat} {A B C D E : Rat} (h : Acc s k a b c d e A B C D E) : isN .f32 a = true ∧ isN .f32 b = true ∧ isN .f32 c = true ∧ isN .f32 d = true ∧ isN .f32 e = true := by
  obtain ⟨_, h1, _⟩ := h.a
  obtain ⟨_, h2, _⟩ := h.b
  obtain ⟨_, h3, _⟩ := h.c
  obtain ⟨_, h4, _⟩ := h.d
  obtain ⟨_, h5, _⟩ := h.e
  exact ⟨h1.1, h2.1, h3.1, h4.1, h5.1⟩
end Go.Fl

namespace Go.Fl
open Ieee Go.RowKit
theorem tB_near {U0 U1 U2 V0 V1 V2 x0 x1 x2 y0 y1 y2 : Rat} (u0 : -(9 / 1000000) ≤ U0 - x0 ∧ U0 - x0 ≤ 9 / 1000000) (u1 : -(9 / 1000000) ≤ U1 - x1 ∧ U1 - x1 ≤ 9 / 1000000) (u2 : -(9 / 1000000) ≤ U2 - x2 ∧ U2 - x2 ≤ 9 / 1000000) (v0 : -(9 / 1000000) ≤ V0 - y0 ∧ V0 - y0 ≤ 9 / 1000000) (v1 : -(9 / 1000000) ≤ V1 - y1 ∧ V1 - y1 ≤ 9 / 1000000) (v2 : -(9 / 1000000) ≤ V2 - y2 ∧ V2 - y2 ≤ 9 / 1000000)
    (x0b : -(13 / 10) ≤ x0 ∧ x0 ≤ 13 / 10) (x1b : -(13 / 10) ≤ x1 ∧ x1 ≤ 13 / 10) (x2b : -(13 / 10) ≤ x2 ∧ x2 ≤ 13 / 10) (y0b : -(13 / 10) ≤ y0 ∧ y0 ≤ 13 / 10) (y1b : -(13 / 10) ≤ y1 ∧ y1 ≤ 13 / 10) (y2b : -(13 / 10) ≤ y2 ∧ y2 ≤ 13 / 10) :
    -(72 / 1000000) ≤ tB U0 U1 U2 V0 V1 V2 - tB x0 x1 x2 y0 y1 y2 ∧ tB U0 U1 U2 V0 V1 V2 - tB x0 x1 x2 y0 y1 y2 ≤ 72 / 1000000 := by
  have a := prod_near u0.1 u0.2 v0.1 v0.2 x0b y0b
  have b := prod_near u1.1 u1.2 v1.1 v1.2 x1b y1b
  have c := prod_near u2.1 u2.2 v2.1 v2.2 x2b y2b
  unfold tB
  constructor <;> grind
theorem tA_B (x0 x1 x2 : Rat) : tA x0 x1 x2 = tB x0 x1 x2 x0 x1 x2 := rfl
theorem tD_near {U0 U1 U2 V0 V1 V2 x0 x1 x2 y0 y1 y2 : Rat} (u0 : -(9 / 1000000) ≤ U0 - x0 ∧ U0 - x0 ≤ 9 / 1000000) (u1 : -(9 / 1000000) ≤ U1 - x1 ∧ U1 - x1 ≤ 9 / 1000000) (u2 : -(9 / 1000000) ≤ U2 - x2 ∧ U2 - x2 ≤ 9 / 1000000) (v0 : -(9 / 1000000) ≤ V0 - y0 ∧ V0 - y0 ≤ 9 / 1000000) (v1 : -(9 / 1000000) ≤ V1 - y1 ∧ V1 - y1 ≤ 9 / 1000000) (v2 : -(9 / 1000000) ≤ V2 - y2 ∧ V2 - y2 ≤ 9 / 1000000)
    (x0b : -(13 / 10) ≤ x0 ∧ x0 ≤ 13 / 10) (x1b : -(13 / 10) ≤ x1 ∧ x1 ≤ 13 / 10) (x2b : -(13 / 10) ≤ x2 ∧ x2 ≤ 13 / 10) (y0b : -(13 / 10) ≤ y0 ∧ y0 ≤ 13 / 10) (y1b : -(13 / 10) ≤ y1 ∧ y1 ≤ 13 / 10) (y2b : -(13 / 10) ≤ y2 ∧ y2 ≤ 13 / 10) :
    -(3 / 10000) ≤ tD U0 U1 U2 V0 V1 V2 - tD x0 x1 x2 y0 y1 y2 ∧ tD U0 U1 U2 V0 V1 V2 - tD x0 x1 x2 y0 y1 y2 ≤ 3 / 10000 := by
  have a := cube_near u0.1 u0.2 v0.1 v0.2 x0b y0b
  have b := cube_near u1.1 u1.2 v1.1 v1.2 x1b y1b
  have c := cube_near u2.1 u2.2 v2.1 v2.2 x2b y2b
  unfold tD
  constructor <;> grind
/-- the sums at the three points, nearly -/
theorem res_float {A B D α β A' B' D' : Rat} (a1 : -(101 / 100) ≤ α) (a2 : α ≤ 101 / 100) (b1 : -(101 / 100) ≤ β) (b2 : β ≤ 101 / 100) (h : -(65 / 1000000) ≤ D - 2 * α * A - 2 * β * B ∧ D - 2 * α * A - 2 * β * B ≤ 65 / 1000000) (hA : -(66 / 10000000) ≤ A' - A ∧ A' - A ≤ 66 / 10000000) (hB : -(66 / 10000000) ≤ B' - B ∧ B' - B ≤ 66 / 10000000) (hD : -(27 / 1000000) ≤ D' - D ∧ D' - D ≤ 27 / 1000000) :
    -(125 / 1000000) ≤ D' - 2 * α * A' - 2 * β * B' ∧ D' - 2 * α * A' - 2 * β * B' ≤ 125 / 1000000 := by
  have m1 := mul_bd a1 a2 hA.1 hA.2
  have m2 := mul_bd b1 b2 hB.1 hB.2
  constructor <;> grind
theorem xx_of {s x : Rat} (s0 : 0 < s) (x1 : -(4 * s) ≤ x) (x2 : x ≤ 4 * s) : ∃ xx, x = s * xx ∧ -4 ≤ xx ∧ xx ≤ 4 := by
  obtain ⟨xx, hxx⟩ : ∃ t, t = x / s := ⟨_, rfl⟩
  have exx : x = s * xx := by rw [hxx]; have := Rat.div_mul_cancel (a := x) (b := s) (by grind); grind
  refine ⟨xx, exx, ?_, ?_⟩
  · refine Rat.not_lt.1 fun k => ?_
    have := Rat.mul_pos (a := -4 - xx) (b := s) (by grind) s0
    grind
  · refine Rat.not_lt.1 fun k => ?_
    have := Rat.mul_pos (a := xx - 4) (b := s) (by grind) s0
    grind
theorem lt3 {P : Nat → Prop} (h0 : P 0) (h1 : P 1) (h2 : P 2) : ∀ i, i < 3 → P i := fun i hi => by
  have : i = 0 ∨ i = 1 ∨ i = 2 := by omega
  rcases this with rfl | rfl | rfl
  · exact h0
  · exact h1
  · exact h2
theorem le3 {P : Nat → Prop} (h0 : P 0) (h1 : P 1) (h2 : P 2) (h3 : P 3) : ∀ i, i ≤ 3 → P i := fun i hi => by
  have : i = 0 ∨ i = 1 ∨ i = 2 ∨ i = 3 := by omega
  rcases this with rfl | rfl | rfl | rfl
  · exact h0
  · exact h1
  · exact h2
  · exact h3
/-- what the sums tell at places about (α, β) -/
structure SumR (c0 c1 c2 α U0 U1 U2 : Rat) : Prop where
  e0 : -(26 / 10000000) ≤ U0 - (c0 + α) ∧ U0 - (c0 + α) ≤ 26 / 10000000
  e1 : -(26 / 10000000) ≤ U1 - (c1 + α) ∧ U1 - (c1 + α) ≤ 26 / 10000000
  e2 : -(26 / 10000000) ≤ U2 - (c2 + α) ∧ U2 - (c2 + α) ≤ 26 / 10000000
  f0 : -(9 / 1000000) ≤ U0 - offC c0 c1 c2 ∧ U0 - offC c0 c1 c2 ≤ 9 / 1000000
  f1 : -(9 / 1000000) ≤ U1 - offC c1 c2 c0 ∧ U1 - offC c1 c2 c0 ≤ 9 / 1000000
  f2 : -(9 / 1000000) ≤ U2 - offC c2 c0 c1 ∧ U2 - offC c2 c0 c1 ≤ 9 / 1000000
  s : -(14 / 1000000) ≤ U0 + U1 + U2 ∧ U0 + U1 + U2 ≤ 14 / 1000000
  a1 : -(101 / 100) ≤ α
  a2 : α ≤ 101 / 100
theorem SumR.bd {c0 c1 c2 α U0 U1 U2 : Rat} (h : SumR c0 c1 c2 α U0 U1 U2) (o0 : -(13 / 10) ≤ offC c0 c1 c2 ∧ offC c0 c1 c2 ≤ 13 / 10) (o1 : -(13 / 10) ≤ offC c1 c2 c0 ∧ offC c1 c2 c0 ≤ 13 / 10) (o2 : -(13 / 10) ≤ offC c2 c0 c1 ∧ offC c2 c0 c1 ≤ 13 / 10) :
    (-(14 / 10) ≤ U0 ∧ U0 ≤ 14 / 10) ∧ (-(14 / 10) ≤ U1 ∧ U1 ≤ 14 / 10) ∧ (-(14 / 10) ≤ U2 ∧ U2 ≤ 14 / 10) := by
  have := h.f0
  have := h.f1
  have := h.f2
  refine ⟨⟨?_, ?_⟩, ⟨?_, ?_⟩, ?_, ?_⟩ <;> grind
theorem sums_all {c0 c1 c2 s0 s1 s2 α β U0 U1 U2 V0 V1 V2 A' B' C' D' E' : Rat} (T : Tab (offC c0 c1 c2) (offC c1 c2 c0) (offC c2 c0 c1) (offC s0 s1 s2) (offC s1 s2 s0) (offC s2 s0 s1) (tA (offC c0 c1 c2) (offC c1 c2 c0) (offC c2 c0 c1)) (tB (offC c0 c1 c2) (offC c1 c2 c0) (offC c2 c0 c1) (offC s0 s1 s2) (offC s1 s2 s0) (offC s2 s0 s1)) (tA (offC s0 s1 s2) (offC s1 s2 s0) (offC s2 s0 s1)))
    (n0 : Unit c0 s0) (n1 : Unit c1 s1) (n2 : Unit c2 s2) (hu : SumR c0 c1 c2 α U0 U1 U2) (hv : SumR s0 s1 s2 β V0 V1 V2)
    (hA : -(66 / 10000000) ≤ A' - tA U0 U1 U2 ∧ A' - tA U0 U1 U2 ≤ 66 / 10000000) (hB : -(66 / 10000000) ≤ B' - tB U0 U1 U2 V0 V1 V2 ∧ B' - tB U0 U1 U2 V0 V1 V2 ≤ 66 / 10000000) (hC : -(66 / 10000000) ≤ C' - tA V0 V1 V2 ∧ C' - tA V0 V1 V2 ≤ 66 / 10000000)
    (hD : -(27 / 1000000) ≤ D' - tD U0 U1 U2 V0 V1 V2 ∧ D' - tD U0 U1 U2 V0 V1 V2 ≤ 27 / 1000000) (hE : -(27 / 1000000) ≤ E' - tD V0 V1 V2 U0 U1 U2 ∧ E' - tD V0 V1 V2 U0 U1 U2 ≤ 27 / 1000000) :
    (-(8 / 100000) ≤ A' - tA (offC c0 c1 c2) (offC c1 c2 c0) (offC c2 c0 c1) ∧ A' - tA (offC c0 c1 c2) (offC c1 c2 c0) (offC c2 c0 c1) ≤ 8 / 100000) ∧ (-(8 / 100000) ≤ B' - tB (offC c0 c1 c2) (offC c1 c2 c0) (offC c2 c0 c1) (offC s0 s1 s2) (offC s1 s2 s0) (offC s2 s0 s1) ∧ B' - tB (offC c0 c1 c2) (offC c1 c2 c0) (offC c2 c0 c1) (offC s0 s1 s2) (offC s1 s2 s0) (offC s2 s0 s1) ≤ 8 / 100000) ∧
      (-(8 / 100000) ≤ C' - tA (offC s0 s1 s2) (offC s1 s2 s0) (offC s2 s0 s1) ∧ C' - tA (offC s0 s1 s2) (offC s1 s2 s0) (offC s2 s0 s1) ≤ 8 / 100000) ∧ (-(16 / 10) ≤ D' ∧ D' ≤ 16 / 10) ∧ (-(16 / 10) ≤ E' ∧ E' ≤ 16 / 10) ∧
      (-(125 / 1000000) ≤ D' - 2 * α * A' - 2 * β * B' ∧ D' - 2 * α * A' - 2 * β * B' ≤ 125 / 1000000) ∧ (-(125 / 1000000) ≤ E' - 2 * α * B' - 2 * β * C' ∧ E' - 2 * α * B' - 2 * β * C' ≤ 125 / 1000000) := by
  obtain ⟨u0, u1, u2⟩ := hu.bd T.x0 T.x1 T.x2
  obtain ⟨v0, v1, v2⟩ := hv.bd T.y0 T.y1 T.y2
  have a := tB_near hu.f0 hu.f1 hu.f2 hu.f0 hu.f1 hu.f2 T.x0 T.x1 T.x2 T.x0 T.x1 T.x2
  have b := tB_near hu.f0 hu.f1 hu.f2 hv.f0 hv.f1 hv.f2 T.x0 T.x1 T.x2 T.y0 T.y1 T.y2
  have c := tB_near hv.f0 hv.f1 hv.f2 hv.f0 hv.f1 hv.f2 T.y0 T.y1 T.y2 T.y0 T.y1 T.y2
  have d := tD_near hu.f0 hu.f1 hu.f2 hv.f0 hv.f1 hv.f2 T.x0 T.x1 T.x2 T.y0 T.y1 T.y2
  have e := tD_near hv.f0 hv.f1 hv.f2 hu.f0 hu.f1 hu.f2 T.y0 T.y1 T.y2 T.x0 T.x1 T.x2
  rw [← tA_B, ← tA_B] at a c
  have k0 := eps_one n0 hu.e0.1 hu.e0.2 hv.e0.1 hv.e0.2
  have k1 := eps_one n1 hu.e1.1 hu.e1.2 hv.e1.1 hv.e1.2
  have k2 := eps_one n2 hu.e2.1 hu.e2.2 hv.e2.1 hv.e2.2
  have r1 := resid hu.a1 hu.a2 hv.a1 hv.a2 hu.s.1 hu.s.2 u0 u1 u2 rfl rfl rfl k0 k1 k2
  have sw : ∀ U V : Rat, V * V + U * U - 2 * β * V - 2 * α * U - (1 - β * β - α * α) = U * U + V * V - 2 * α * U - 2 * β * V - (1 - α * α - β * β) := fun U V => by grind
  have r2 := resid hv.a1 hv.a2 hu.a1 hu.a2 hv.s.1 hv.s.2 v0 v1 v2 rfl rfl rfl (by rw [sw]; exact k0) (by rw [sw]; exact k1) (by rw [sw]; exact k2)
  have eB : tB V0 V1 V2 U0 U1 U2 = tB U0 U1 U2 V0 V1 V2 := by unfold tB; grind
  rw [eB] at r2
  have f1 := res_float hu.a1 hu.a2 hv.a1 hv.a2 r1 hA hB hD
  have f2 := res_float hv.a1 hv.a2 hu.a1 hu.a2 r2 hC hB hE
  have dd := T.dd
  have ee := T.ee
  clear k0 k1 k2 sw r1 r2 eB u0 u1 u2 v0 v1 v2 n0 n1 n2 hu hv T
  obtain ⟨TA, hTA⟩ : ∃ t, t = tA U0 U1 U2 := ⟨_, rfl⟩
  obtain ⟨TB, hTB⟩ : ∃ t, t = tB U0 U1 U2 V0 V1 V2 := ⟨_, rfl⟩
  obtain ⟨TC, hTC⟩ : ∃ t, t = tA V0 V1 V2 := ⟨_, rfl⟩
  obtain ⟨TD, hTD⟩ : ∃ t, t = tD U0 U1 U2 V0 V1 V2 := ⟨_, rfl⟩
  obtain ⟨TE, hTE⟩ : ∃ t, t = tD V0 V1 V2 U0 U1 U2 := ⟨_, rfl⟩
  rw [← hTA] at a hA
  rw [← hTB] at b hB
  rw [← hTC] at c hC
  rw [← hTD] at d hD
  rw [← hTE] at e hE
  clear hTA hTB hTC hTD hTE
  have f2' : -(125 / 1000000) ≤ E' - 2 * α * B' - 2 * β * C' ∧ E' - 2 * α * B' - 2 * β * C' ≤ 125 / 1000000 := by
    rw [show E' - 2 * α * B' - 2 * β * C' = E' - 2 * β * C' - 2 * α * B' by grind]; exact f2
  have F1 := Lib.hid f1
  have F2 := Lib.hid f2'
  clear f1 f2 f2'
  exact ⟨⟨by grind, by grind⟩, ⟨by grind, by grind⟩, ⟨by grind, by grind⟩, ⟨by grind, by grind⟩, ⟨by grind, by grind⟩, F1.out, F2.out⟩
end Go.Fl

namespace Go.Fl
open Ieee Go.RowKit
/-- the steps to the middle are numbers -/
structure FitP (p : Nat → Cx) : Prop where
  pts : ∀ i, i < 3 → nN (p i)
  me : MeN p 3
  d : ∀ i, i < 3 → nN (minusF (p i) (meF p 3))
  st : ∀ i, i < 3 → StpN (minusF (p i) (meF p 3)).1 (minusF (p i) (meF p 3)).2
  acc : ∀ i, i ≤ 3 → isN .f32 (aF p (meF p 3) i) = true ∧ isN .f32 (bF p (meF p 3) i) = true ∧ isN .f32 (cF p (meF p 3) i) = true ∧ isN .f32 (dF p (meF p 3) i) = true ∧ isN .f32 (eF p (meF p 3) i) = true
  sol : SolN (aF p (meF p 3) 3) (bF p (meF p 3) 3) (cF p (meF p 3) 3) (dF p (meF p 3) 3) (eF p (meF p 3) 3)
  z : nN (fitZ p)
theorem tA_pos (a b c : Rat) : 0 ≤ tA a b c := by
  have := sq_pos a
  have := sq_pos b
  have := sq_pos c
  unfold tA; grind
theorem low_of {A B C : Rat} (h : 57 / 1000 ≤ A * C - B * B) (a0 : 0 ≤ A) (c0 : 0 ≤ C) (a1 : A ≤ 25 / 10) (c1 : C ≤ 25 / 10) : 2 / 100 ≤ A ∧ 2 / 100 ≤ C := by
  have b := sq_pos B
  have m1 := Rat.mul_nonneg (a := 25 / 10 - A) (b := C) (by grind) c0
  have m2 := Rat.mul_nonneg (a := 25 / 10 - C) (b := A) (by grind) a0
  constructor <;> grind
theorem fit_z {s x y : Rat} {p : Nat → Cx} {j k : Nat} (up : Bool) (hs1 : 1 / 2 ≤ s) (hs2 : s ≤ 4) (hj : j < 16) (h2 : 2 ≤ k) (h7 : k ≤ 7) (x1 : -(4 * s) ≤ x) (x2 : x ≤ 4 * s) (y1 : -(4 * s) ≤ y) (y2 : y ≤ 4 * s)
    (ha : Plc s x y (cosT j) (sinT j) (22 / 10000000) (p 0)) (hb : Plc s x y (cosT (jAt up j k)) (sinT (jAt up j k)) (22 / 10000000) (p 1)) (hc : Plc s x y (cosT (jAt up j (2 * k))) (sinT (jAt up j (2 * k))) (22 / 10000000) (p 2)) :
    FitP p ∧ Plc s x y 0 0 (163 / 100000) (fitZ p) := by
  have s0 : 0 < s := by grind
  have hsc : Sc s := ⟨by grind, by grind⟩
  have T := tab_of (fit_at (up := up) hj h2 h7)
  have ua := unitT hj
  have ub := unitT (jAt_lt up j k)
  have uc := unitT (jAt_lt up j (2 * k))
  obtain ⟨c0, hc0⟩ : ∃ t, t = cosT j := ⟨_, rfl⟩
  obtain ⟨c1, hc1⟩ : ∃ t, t = cosT (jAt up j k) := ⟨_, rfl⟩
  obtain ⟨c2, hc2⟩ : ∃ t, t = cosT (jAt up j (2 * k)) := ⟨_, rfl⟩
  obtain ⟨s0', hs0⟩ : ∃ t, t = sinT j := ⟨_, rfl⟩
  obtain ⟨s1', hs1'⟩ : ∃ t, t = sinT (jAt up j k) := ⟨_, rfl⟩
  obtain ⟨s2', hs2'⟩ : ∃ t, t = sinT (jAt up j (2 * k)) := ⟨_, rfl⟩
  rw [← hc0, ← hc1, ← hc2, ← hs0, ← hs1', ← hs2'] at T
  rw [← hc0, ← hs0] at ua ha
  rw [← hc1, ← hs1'] at ub hb
  rw [← hc2, ← hs2'] at uc hc
  clear hc0 hc1 hc2 hs0 hs1' hs2'
  obtain ⟨xx, exx, bx1, bx2⟩ := xx_of s0 x1 x2
  obtain ⟨yy, eyy, by1, by2⟩ := xx_of s0 y1 y2
  obtain ⟨P0, eP0, p01, p02⟩ := scale_of s0 ha.x1 ha.x2
  obtain ⟨P1, eP1, p11, p12⟩ := scale_of s0 hb.x1 hb.x2
  obtain ⟨P2, eP2, p21, p22⟩ := scale_of s0 hc.x1 hc.x2
  obtain ⟨Q0, eQ0, q01, q02⟩ := scale_of s0 ha.y1 ha.y2
  obtain ⟨Q1, eQ1, q11, q12⟩ := scale_of s0 hb.y1 hb.y2
  obtain ⟨Q2, eQ2, q21, q22⟩ := scale_of s0 hc.y1 hc.y2
  have H0 : H (p 0).1 s (xx + P0) := ⟨ha.n.1, by grind⟩
  have H1 : H (p 1).1 s (xx + P1) := ⟨hb.n.1, by grind⟩
  have H2 : H (p 2).1 s (xx + P2) := ⟨hc.n.1, by grind⟩
  have K0 : H (p 0).2 s (yy + Q0) := ⟨ha.n.2, by grind⟩
  have K1 : H (p 1).2 s (yy + Q1) := ⟨hb.n.2, by grind⟩
  have K2 : H (p 2).2 s (yy + Q2) := ⟨hc.n.2, by grind⟩
  obtain ⟨n1, n2, n3, mx, α, U0, U1, U2, hmx, hMx, hU0, hU1, hU2, d0, d1, d2, f0, f1, f2, su, a1, a2⟩ := coord_fit hsc bx1 bx2 H0 H1 H2 ua.bd.1 ub.bd.1 uc.bd.1 ⟨p01, p02⟩ ⟨p11, p12⟩ ⟨p21, p22⟩ T.x0 T.x1 T.x2
  obtain ⟨m1, m2, m3, my, β, V0, V1, V2, hmy, hMy, hV0, hV1, hV2, g0, g1, g2, k0, k1, k2, sv, b1, b2⟩ := coord_fit hsc by1 by2 K0 K1 K2 ua.bd.2 ub.bd.2 uc.bd.2 ⟨q01, q02⟩ ⟨q11, q12⟩ ⟨q21, q22⟩ T.y0 T.y1 T.y2
  have SU : SumR c0 c1 c2 α U0 U1 U2 := ⟨d0, d1, d2, f0, f1, f2, su, a1, a2⟩
  have SV : SumR s0' s1' s2' β V0 V1 V2 := ⟨g0, g1, g2, k0, k1, k2, sv, b1, b2⟩
  obtain ⟨u0, u1, u2⟩ := SU.bd T.x0 T.x1 T.x2
  obtain ⟨v0, v1, v2⟩ := SV.bd T.y0 T.y1 T.y2
  clear d0 d1 d2 f0 f1 f2 g0 g1 g2 k0 k1 k2 su sv p01 p02 p11 p12 p21 p22 q01 q02 q11 q12 q21 q22 eP0 eP1 eP2 eQ0 eQ1 eQ2 H0 H1 H2 K0 K1 K2
  have hme : MeN p 3 := ⟨le3 ⟨zero32_N.1, zero32_N.1⟩ ⟨n1, m1⟩ ⟨n2, m2⟩ ⟨n3, m3⟩, ⟨by subst hmx; exact hMx.1, by subst hmy; exact hMy.1⟩⟩
  have emx : mx = (meF p 3).1 := hmx
  have emy : my = (meF p 3).2 := hmy
  rw [emx] at hMx hU0 hU1 hU2
  rw [emy] at hMy hV0 hV1 hV2
  clear emx emy hmx hmy n1 n2 n3 m1 m2 m3
  obtain ⟨M, hM⟩ : ∃ M, M = meF p 3 := ⟨_, rfl⟩
  have eZ : fitZ p = plusF M (rxF (aF p M 3) (bF p M 3) (cF p M 3) (dF p M 3) (eF p M 3), ryF (aF p M 3) (bF p M 3) (cF p M 3) (dF p M 3) (eF p M 3)) := by rw [hM]; rfl
  rw [← hM] at hMx hU0 hU1 hU2 hMy hV0 hV1 hV2
  have hU0 : H (minusF (p 0) M).1 s U0 := hU0
  have hU1 : H (minusF (p 1) M).1 s U1 := hU1
  have hU2 : H (minusF (p 2) M).1 s U2 := hU2
  have hV0 : H (minusF (p 0) M).2 s V0 := hV0
  have hV1 : H (minusF (p 1) M).2 s V1 := hV1
  have hV2 : H (minusF (p 2) M).2 s V2 := hV2
  have r0 : (0 : Rat) ≤ 0 ∧ (0 : Rat) ≤ 2 ∧ (0 : Rat) ≤ 0 + 1 ∧ (0 + 1 : Rat) ≤ 2 ∧ (0 : Rat) ≤ 0 + 1 + 1 ∧ (0 + 1 + 1 : Rat) ≤ 2 := by decide +kernel
  obtain ⟨t0, A0⟩ := (Acc.zero s).step (by grind) (by grind) r0.1 r0.2.1 hU0 hV0 u0.1 u0.2 v0.1 v0.2
  obtain ⟨t1, A1⟩ := A0.step (by grind) (by grind) r0.2.2.1 r0.2.2.2.1 hU1 hV1 u1.1 u1.2 v1.1 v1.2
  obtain ⟨t2, A2⟩ := A1.step (by grind) (by grind) r0.2.2.2.2.1 r0.2.2.2.2.2 hU2 hV2 u2.1 u2.2 v2.1 v2.2
  have N0 := (Acc.zero s).num
  have N1 := A0.num
  have N2 := A1.num
  have N3 := A2.num
  obtain ⟨A', hA', a11, a12⟩ := A2.a
  obtain ⟨B', hB', b11, b12⟩ := A2.b
  obtain ⟨C', hC', c11, c12⟩ := A2.c
  obtain ⟨D', hD', d11, d12⟩ := A2.d
  obtain ⟨E', hE', e11, e12⟩ := A2.e
  have wA : -(66 / 10000000) ≤ A' - tA U0 U1 U2 ∧ A' - tA U0 U1 U2 ≤ 66 / 10000000 := by unfold tA; clear b11 b12 c11 c12 d11 d12 e11 e12; constructor <;> grind
  have wB : -(66 / 10000000) ≤ B' - tB U0 U1 U2 V0 V1 V2 ∧ B' - tB U0 U1 U2 V0 V1 V2 ≤ 66 / 10000000 := by unfold tB; clear a11 a12 c11 c12 d11 d12 e11 e12; constructor <;> grind
  have wC : -(66 / 10000000) ≤ C' - tA V0 V1 V2 ∧ C' - tA V0 V1 V2 ≤ 66 / 10000000 := by unfold tA; clear a11 a12 b11 b12 d11 d12 e11 e12; constructor <;> grind
  have wD : -(27 / 1000000) ≤ D' - tD U0 U1 U2 V0 V1 V2 ∧ D' - tD U0 U1 U2 V0 V1 V2 ≤ 27 / 1000000 := by unfold tD; clear a11 a12 b11 b12 c11 c12 e11 e12; constructor <;> grind
  have wE : -(27 / 1000000) ≤ E' - tD V0 V1 V2 U0 U1 U2 ∧ E' - tD V0 V1 V2 U0 U1 U2 ≤ 27 / 1000000 := by unfold tD; clear a11 a12 b11 b12 c11 c12 d11 d12; constructor <;> grind
  obtain ⟨zA, zB, zC, zD, zE, zF, zG⟩ := sums_all T ua ub uc SU SV wA wB wC wD wE
  clear a11 a12 b11 b12 c11 c12 d11 d12 e11 e12 wA wB wC wD wE u0 u1 u2 v0 v1 v2
  have lo := low_of T.d (tA_pos _ _ _) (tA_pos _ _ _) T.a.2 T.c.2
  have zA0 : 0 ≤ A' := by clear zF zG zB zC zD zE; grind
  have zC0 : 0 ≤ C' := by clear zF zG zB zA zD zE; grind
  obtain ⟨hS, q, r, hq, hr, q1, r1⟩ := sol_near hs1 hs2 T hA' hB' hC' hD' hE' zA zB zC zA0 zC0 zD zE a1 a2 b1 b2 zF zG
  clear zA zB zC zD zE zF zG zA0 zC0 lo T SU SV ua ub uc A0 A1 A2 hA' hB' hC' hD' hE'
  obtain ⟨ex, hex, ex1, ex2⟩ := hMx.add hq hsc (41 / 10) (by decide +kernel) (by decide +kernel) (by grind) (by grind)
  obtain ⟨ey, hey, ey1, ey2⟩ := hMy.add hr hsc (41 / 10) (by decide +kernel) (by decide +kernel) (by grind) (by grind)
  have gx1 := Rat.mul_nonneg (a := ex - xx + 163 / 100000) (b := s) (by grind) (by grind)
  have gx2 := Rat.mul_nonneg (a := 163 / 100000 - (ex - xx)) (b := s) (by grind) (by grind)
  have gy1 := Rat.mul_nonneg (a := ey - yy + 163 / 100000) (b := s) (by grind) (by grind)
  have gy2 := Rat.mul_nonneg (a := 163 / 100000 - (ey - yy)) (b := s) (by grind) (by grind)
  have zx : H (fitZ p).1 s ex := by rw [eZ]; exact hex
  have zy : H (fitZ p).2 s ey := by rw [eZ]; exact hey
  have R1 := zx.2
  have R2 := zy.2
  have nz : nN (fitZ p) := ⟨zx.1, zy.1⟩
  refine ⟨⟨lt3 ha.n hb.n hc.n, hme, ?_, ?_, ?_, ?_, nz⟩, nz, ?_, ?_, ?_, ?_⟩
  · rw [← hM]; exact lt3 ⟨hU0.1, hV0.1⟩ ⟨hU1.1, hV1.1⟩ ⟨hU2.1, hV2.1⟩
  · rw [← hM]; exact lt3 t0 t1 t2
  · rw [← hM]; exact le3 N0 N1 N2 N3
  · rw [← hM]; exact hS
  · rw [R1, exx]; grind
  · rw [R1, exx]; grind
  · rw [R2, eyy]; grind
  · rw [R2, eyy]; grind
end Go.Fl

namespace Go.Fl
open Ieee Go.RowKit
/-- from the middle to a place -/
theorem fway_H {s x y u1 u2 : Rat} {a m : Cx} (hs1 : 1 / 10 ≤ s) (hs2 : s ≤ 5) (hu : Unit u1 u2) (ha : Plc s x y u1 u2 (22 / 10000000) a) (hm : Plc s x y 0 0 (163 / 100000) m) :
    ∃ w1 w2, H (minusF a m).1 s w1 ∧ H (minusF a m).2 s w2 ∧ (-(1634 / 1000000) ≤ w1 - u1 ∧ w1 - u1 ≤ 1634 / 1000000) ∧ (-(1634 / 1000000) ≤ w2 - u2 ∧ w2 - u2 ≤ 1634 / 1000000) := by
  have s0 : 0 < s := by grind
  have hsc : Sc s := ⟨by grind, by grind⟩
  obtain ⟨bu1, bu2⟩ := hu.bd
  obtain ⟨α1, ea1, a11, a12⟩ := scale_of s0 ha.x1 ha.x2
  obtain ⟨α2, ea2, a21, a22⟩ := scale_of s0 ha.y1 ha.y2
  obtain ⟨β1, eb1, b11, b12⟩ := scale_of s0 hm.x1 hm.x2
  obtain ⟨β2, eb2, b21, b22⟩ := scale_of s0 hm.y1 hm.y2
  have k1 : R .f32 a.1 - R .f32 m.1 = s * (α1 - β1) := by grind
  have k2 : R .f32 a.2 - R .f32 m.2 = s * (α2 - β2) := by grind
  obtain ⟨c1, c2⟩ := bd_mul (s := s) (q := α1 - β1) (c := 3) (by grind) (by grind) (by grind) (by grind) (by grind)
  obtain ⟨c3, c4⟩ := bd_mul (s := s) (q := α2 - β2) (c := 3) (by grind) (by grind) (by grind) (by grind) (by grind)
  have r1 := rnd_sub ha.n.1 hm.n.1 (by rw [k1]; exact c1) (by rw [k1]; exact c2)
  have r2 := rnd_sub ha.n.2 hm.n.2 (by rw [k2]; exact c3) (by rw [k2]; exact c4)
  obtain ⟨p1, hp1, p11, p12⟩ := H.of_rnd r1 hsc k1 (11 / 10) (by grind) (by grind) (by grind) (by grind)
  obtain ⟨p2, hp2, p21, p22⟩ := H.of_rnd r2 hsc k2 (11 / 10) (by grind) (by grind) (by grind) (by grind)
  exact ⟨p1, p2, hp1, hp2, ⟨by grind, by grind⟩, ⟨by grind, by grind⟩⟩
/-- the radius -/
theorem fway_long {s u1 u2 w1 w2 : Rat} {z : Cx} (hs1 : 1 / 10 ≤ s) (hs2 : s ≤ 4) (hu : Unit u1 u2) (h1 : H z.1 s w1) (h2 : H z.2 s w2) (d1 : -(1634 / 1000000) ≤ w1 - u1 ∧ w1 - u1 ≤ 1634 / 1000000) (d2 : -(1634 / 1000000) ≤ w2 - u2 ∧ w2 - u2 ≤ 1634 / 1000000) :
    LongN z ∧ ∃ v, H (longF z) s v ∧ -(345 / 100000) ≤ v - 1 ∧ v - 1 ≤ 345 / 100000 := by
  obtain ⟨bu1, bu2⟩ := hu.bd
  have bw1 : -(1002 / 1000) ≤ w1 ∧ w1 ≤ 1002 / 1000 := by constructor <;> grind
  have bw2 : -(1002 / 1000) ≤ w2 ∧ w2 ≤ 1002 / 1000 := by constructor <;> grind
  have s0 : 0 < s := by grind
  obtain ⟨k1, k2⟩ := mul_bd (x := s) (y := w1) (B := 4) (C := 1002 / 1000) (by grind) hs2 bw1.1 bw1.2
  obtain ⟨k3, k4⟩ := mul_bd (x := s) (y := w2) (B := 4) (C := 1002 / 1000) (by grind) hs2 bw2.1 bw2.2
  have hl := long_near (z := z) ⟨h1.1, h2.1⟩ (by rw [h1.2]; grind) (by rw [h1.2]; grind) (by rw [h2.2]; grind) (by rw [h2.2]; grind)
  obtain ⟨r, r0, r1, r2, r3, r4⟩ := hl.val
  rw [h1.2, h2.2] at r1 r2
  obtain ⟨e1, he1⟩ : ∃ e, e = w1 - u1 := ⟨_, rfl⟩
  obtain ⟨e2, he2⟩ : ∃ e, e = w2 - u2 := ⟨_, rfl⟩
  rw [← he1] at d1
  rw [← he2] at d2
  have m1 := mul_bd bu1.1 bu1.2 d1.1 d1.2
  have m2 := mul_bd bu2.1 bu2.2 d2.1 d2.2
  have m3 := mul_bd d1.1 d1.2 d1.1 d1.2
  have m4 := mul_bd d2.1 d2.2 d2.1 d2.2
  obtain ⟨W, hW⟩ : ∃ W, W = w1 * w1 + w2 * w2 := ⟨_, rfl⟩
  have hWb : -(656 / 100000) ≤ W - 1 ∧ W - 1 ≤ 656 / 100000 := by
    have e : W = (u1 * u1 + u2 * u2) + 2 * (u1 * e1 + u2 * e2) + (e1 * e1 + e2 * e2) := by rw [hW, he1, he2]; grind
    obtain ⟨q1, q2⟩ := hu
    rw [e]; constructor <;> grind
  have eW : s * w1 * (s * w1) + s * w2 * (s * w2) = s * s * W := by rw [hW]; grind
  rw [eW] at r1 r2
  clear m1 m2 m3 m4 he1 he2 d1 d2 bu1 bu2 hu k1 k2 k3 k4 bw1 bw2 hW eW
  have ss : 1 / 100 ≤ s * s := by
    have := Rat.mul_nonneg (a := s - 1 / 10) (b := s + 1 / 10) (by grind) (by grind)
    grind
  have w1' := Rat.mul_nonneg (a := s * s) (b := W - 1 + 656 / 100000) (by grind) (by grind)
  have w2' := Rat.mul_nonneg (a := s * s) (b := 656 / 100000 - (W - 1)) (by grind) (by grind)
  have up : r ≤ s * (1 + 34 / 10000) := by
    refine Rat.not_lt.1 fun k => ?_
    have := Rat.mul_pos (a := r - s * (1 + 34 / 10000)) (b := r + s * (1 + 34 / 10000)) (by grind) (by grind)
    grind
  have dn : s * (1 - 34 / 10000) ≤ r := by
    refine Rat.not_lt.1 fun k => ?_
    have k2 : r + 1 / 1000000000000 < s * (1 - 335 / 100000) := by grind
    have := Rat.mul_pos (a := s * (1 - 335 / 100000) - (r + 1 / 1000000000000)) (b := s * (1 - 335 / 100000) + (r + 1 / 1000000000000)) (by grind) (by grind)
    grind
  have hv : R .f32 (longF z) / s * s = R .f32 (longF z) := Rat.div_mul_cancel (by grind)
  obtain ⟨v, hvv⟩ : ∃ v, v = R .f32 (longF z) / s := ⟨_, rfl⟩
  rw [← hvv] at hv
  refine ⟨hl, v, ⟨hl.num, by grind⟩, ?_, ?_⟩
  · refine Rat.not_lt.1 fun k => ?_
    have := Rat.mul_pos (a := -(345 / 100000) - (v - 1)) (b := s) (by grind) s0
    grind
  · refine Rat.not_lt.1 fun k => ?_
    have := Rat.mul_pos (a := (v - 1) - 345 / 100000) (b := s) (by grind) s0
    grind
theorem rad_sum {s v0 v1 v2 : Rat} {l0 l1 l2 : Nat} (hs : Sc s) (h0 : H l0 s v0) (h1 : H l1 s v1) (h2 : H l2 s v2) (a0 : -(345 / 100000) ≤ v0 - 1 ∧ v0 - 1 ≤ 345 / 100000) (a1 : -(345 / 100000) ≤ v1 - 1 ∧ v1 - 1 ≤ 345 / 100000) (a2 : -(345 / 100000) ≤ v2 - 1 ∧ v2 - 1 ≤ 345 / 100000) :
    isN .f32 (fop .add .f32 0 l0) = true ∧ isN .f32 (fop .add .f32 (fop .add .f32 0 l0) l1) = true ∧ isN .f32 (fop .add .f32 (fop .add .f32 (fop .add .f32 0 l0) l1) l2) = true ∧
      ∃ v, H (fop .quo .f32 (fop .add .f32 (fop .add .f32 (fop .add .f32 0 l0) l1) l2) (floatOfInt .f32 (3 : Nat))) s v ∧ -(346 / 100000) ≤ v - 1 ∧ v - 1 ≤ 346 / 100000 := by
  obtain ⟨b1, b2⟩ := a0
  obtain ⟨n1, n2, n3, μ, hμ, m1, m2⟩ := mean_one (xx := 1) (a := v0 - 1) (b := v1 - 1) (c := v2 - 1) hs (by rw [show 1 + (v0 - 1) = v0 by grind]; exact h0) (by rw [show 1 + (v1 - 1) = v1 by grind]; exact h1) (by rw [show 1 + (v2 - 1) = v2 by grind]; exact h2) (by decide +kernel) (by decide +kernel) (by grind) (by grind) (by grind) (by grind) (by grind) (by grind)
  exact ⟨n1, n2, n3, μ, hμ, by grind, by grind⟩
theorem fit_near {s x y : Rat} {p : Nat → Cx} {j k : Nat} (up : Bool) (hs1 : 1 / 2 ≤ s) (hs2 : s ≤ 4) (hj : j < 16) (h2 : 2 ≤ k) (h7 : k ≤ 7) (x1 : -(4 * s) ≤ x) (x2 : x ≤ 4 * s) (y1 : -(4 * s) ≤ y) (y2 : y ≤ 4 * s)
    (ha : Plc s x y (cosT j) (sinT j) (22 / 10000000) (p 0)) (hb : Plc s x y (cosT (jAt up j k)) (sinT (jAt up j k)) (22 / 10000000) (p 1)) (hc : Plc s x y (cosT (jAt up j (2 * k))) (sinT (jAt up j (2 * k))) (22 / 10000000) (p 2)) :
    FitN p ∧ Plc s x y 0 0 (163 / 100000) (fitZ p) ∧ ∃ v, H (fitR p) s v ∧ -(346 / 100000) ≤ v - 1 ∧ v - 1 ≤ 346 / 100000 := by
  obtain ⟨hP, hZ⟩ := fit_z up hs1 hs2 hj h2 h7 x1 x2 y1 y2 ha hb hc
  have ua := unitT hj
  have ub := unitT (jAt_lt up j k)
  have uc := unitT (jAt_lt up j (2 * k))
  have t1 : 1 / 10 ≤ s := by grind
  have t2 : s ≤ 5 := by grind
  have hsc : Sc s := ⟨by grind, by grind⟩
  obtain ⟨w1, w2, hw1, hw2, d1, d2⟩ := fway_H t1 t2 ua ha hZ
  obtain ⟨v1, v2, hv1, hv2, c1, c2⟩ := fway_H t1 t2 ub hb hZ
  obtain ⟨r1, r2, hr1, hr2, e1, e2⟩ := fway_H t1 t2 uc hc hZ
  obtain ⟨L0, l0, hl0, l01, l02⟩ := fway_long t1 hs2 ua hw1 hw2 d1 d2
  obtain ⟨L1, l1, hl1, l11, l12⟩ := fway_long t1 hs2 ub hv1 hv2 c1 c2
  obtain ⟨L2, l2, hl2, l21, l22⟩ := fway_long t1 hs2 uc hr1 hr2 e1 e2
  obtain ⟨n1, n2, n3, v, hv, vv1, vv2⟩ := rad_sum hsc hl0 hl1 hl2 ⟨l01, l02⟩ ⟨l11, l12⟩ ⟨l21, l22⟩
  exact ⟨⟨hP.pts, hP.me, hP.d, hP.st, hP.acc, hP.sol, hP.z, lt3 ⟨hw1.1, hw2.1⟩ ⟨hv1.1, hv2.1⟩ ⟨hr1.1, hr2.1⟩, lt3 L0 L1 L2, le3 zero32_N.1 n1 n2 n3, hv.1⟩, hZ, v, hv, vv1, vv2⟩
end Go.Fl

namespace Go.Fl
open Ieee Go.RowKit
def lnP (m w : Cx) (k : Nat) : Cx := plusF m (scaleF w (floatOfInt .f32 k))
theorem ln_one {mx wx k : Nat} (hm : isN .f32 mx = true) (hw : isN .f32 wx = true) (m1 : -2 ≤ R .f32 mx) (m2 : R .f32 mx ≤ 2) (w1 : -(1000002 / 1000000) ≤ R .f32 wx) (w2 : R .f32 wx ≤ 1000002 / 1000000) (hk : k ≤ 6) :
    isN .f32 (fop .mul .f32 wx (floatOfInt .f32 k)) = true ∧ isN .f32 (fop .add .f32 mx (fop .mul .f32 wx (floatOfInt .f32 k))) = true ∧
      -(3 / 1000000) ≤ R .f32 (fop .add .f32 mx (fop .mul .f32 wx (floatOfInt .f32 k))) - (R .f32 mx + R .f32 wx * qJ k) ∧ R .f32 (fop .add .f32 mx (fop .mul .f32 wx (floatOfInt .f32 k))) - (R .f32 mx + R .f32 wx * qJ k) ≤ 3 / 1000000 := by
  obtain ⟨n0, n1⟩ := int_H k (by omega)
  have k0 := qJ_nn k
  have k6 := qJ_le hk
  have e6 : qJ 6 = 6 := rfl
  rw [e6] at k6
  have b := mul_bd (x := R .f32 wx) (y := qJ k) w1 w2 (show -6 ≤ qJ k by grind) k6
  have r1 := rnd_mul hw n0 (by rw [n1]; grind) (by rw [n1]; grind)
  rw [n1] at r1
  have f1 := r1.n32 3 (by decide) (B := 8) rfl (by grind) (by grind)
  have r2 := rnd_add hm r1.num (by grind) (by grind)
  have f2 := r2.n32 4 (by decide) (B := 16) rfl (by grind) (by grind)
  exact ⟨r1.num, r2.num, by grind, by grind⟩
def s1F (f : Nat → Nat) : Nat → Nat
  | 0 => 0
  | i + 1 => fop .add .f32 (s1F f i) (f i)
theorem smF_1 (p : Nat → Cx) : ∀ i, (smF p i).1 = s1F (fun k => (p k).1) i
  | 0 => rfl
  | i + 1 => by show fop .add .f32 (smF p i).1 (p i).1 = fop .add .f32 (s1F _ i) _; rw [smF_1 p i]
theorem smF_2 (p : Nat → Cx) : ∀ i, (smF p i).2 = s1F (fun k => (p k).2) i
  | 0 => rfl
  | i + 1 => by show fop .add .f32 (smF p i).2 (p i).2 = fop .add .f32 (s1F _ i) _; rw [smF_2 p i]
def triN : Nat → Nat
  | 0 => 0
  | i + 1 => triN i + i
theorem triN_le : ∀ i, i < 8 → triN i ≤ 21 := by decide
theorem sum_near {f : Nat → Nat} {n : Nat} {x w : Rat} (hn : n ≤ 7) (x1 : -2 ≤ x) (x2 : x ≤ 2) (w1 : -(1000002 / 1000000) ≤ w) (w2 : w ≤ 1000002 / 1000000)
    (h : ∀ k, k < n → isN .f32 (f k) = true ∧ -(3 / 1000000) ≤ R .f32 (f k) - (x + w * qJ k) ∧ R .f32 (f k) - (x + w * qJ k) ≤ 3 / 1000000) :
    ∀ i, i ≤ n → isN .f32 (s1F f i) = true ∧ -(qJ i * (11 / 1000000)) ≤ R .f32 (s1F f i) - (x * qJ i + w * qJ (triN i)) ∧ R .f32 (s1F f i) - (x * qJ i + w * qJ (triN i)) ≤ qJ i * (11 / 1000000)
  | 0, _ => by
    have e0 : qJ 0 = 0 := rfl
    have et : qJ (triN 0) = 0 := rfl
    have z := zero32_N
    refine ⟨z.1, ?_, ?_⟩
    · show _ ≤ R .f32 0 - _; rw [z.2, e0, et]; grind
    · show R .f32 0 - _ ≤ _; rw [z.2, e0, et]; grind
  | i + 1, hi => by
    obtain ⟨a0, a1, a2⟩ := sum_near hn x1 x2 w1 w2 h i (by omega)
    obtain ⟨b0, b1, b2⟩ := h i (by omega)
    have i0 := qJ_nn i
    have i6 := qJ_le (show i ≤ 6 by omega)
    have e6 : qJ 6 = 6 := rfl
    rw [e6] at i6
    have t0 := qJ_nn (triN i)
    have t1 := qJ_le (triN_le i (by omega))
    have e21 : qJ 21 = 21 := rfl
    rw [e21] at t1
    have m1 := mul_bd x1 x2 (show -7 ≤ qJ i by grind) (show qJ i ≤ 7 by grind)
    have m2 := mul_bd w1 w2 (show -7 ≤ qJ i by grind) (show qJ i ≤ 7 by grind)
    have m3 := mul_bd w1 w2 (show -21 ≤ qJ (triN i) by grind) (show qJ (triN i) ≤ 21 by grind)
    have r := rnd_add a0 b0 (by grind) (by grind)
    have g := r.n32 6 (by decide) (B := 64) rfl (by grind) (by grind)
    have et : qJ (triN (i + 1)) = qJ (triN i) + qJ i := qJ_add _ _
    have es := qJ_succ i
    refine ⟨r.num, ?_, ?_⟩
    · show _ ≤ R .f32 (fop .add .f32 (s1F f i) (f i)) - _; rw [et, es]; grind
    · show R .f32 (fop .add .f32 (s1F f i) (f i)) - _ ≤ _; rw [et, es]; grind
def hN (n : Nat) : Rat := (qJ n - 1) / 2
def sgF (n : Nat) : Nat → Rat
  | 0 => 0
  | i + 1 => sgF n i + (qJ i - hN n) * (qJ i - hN n)
/-- what is told of a count of points -/
structure LnK (n : Nat) : Prop where
  n3 : 3 ≤ qJ n
  n7 : qJ n ≤ 7
  t : qJ n * hN n = qJ (triN n)
  h1 : 1 ≤ hN n
  h3 : hN n ≤ 3
  s1 : 2 ≤ sgF n n
  s2 : sgF n n ≤ 28
  e : 2 * (qJ n * (hN n * (34 / 1000000) + 6 / 1000000)) + 4 / 1000000 + sgF n n * (4 / 1000000) ≤ sgF n n / 5000
  sg : ∀ i, i ≤ n → 0 ≤ sgF n i ∧ sgF n i ≤ 28
  tb : ∀ i, i < n → -hN n ≤ qJ i - hN n ∧ qJ i - hN n ≤ hN n
theorem lnK_tab : (List.range 8).all (fun n => decide (n < 3) || (decide (3 ≤ qJ n) && decide (qJ n ≤ 7) && decide (qJ n * hN n = qJ (triN n)) && decide (1 ≤ hN n) && decide (hN n ≤ 3) && decide (2 ≤ sgF n n) && decide (sgF n n ≤ 28) &&
    decide (2 * (qJ n * (hN n * (34 / 1000000) + 6 / 1000000)) + 4 / 1000000 + sgF n n * (4 / 1000000) ≤ sgF n n / 5000) && (List.range (n + 1)).all (fun i => decide (0 ≤ sgF n i) && decide (sgF n i ≤ 28)) && (List.range n).all (fun i => decide (-hN n ≤ qJ i - hN n) && decide (qJ i - hN n ≤ hN n)))) = true := by decide +kernel
theorem lnK {n : Nat} (h3 : 3 ≤ n) (h7 : n ≤ 7) : LnK n := by
  have h := List.all_eq_true.1 lnK_tab n (List.mem_range.2 (by omega))
  have nn : ¬ n < 3 := by omega
  simp only [nn, decide_false, Bool.false_or, Bool.and_eq_true, decide_eq_true_eq] at h
  obtain ⟨⟨⟨⟨⟨⟨⟨⟨⟨a, b⟩, c⟩, d⟩, e⟩, f⟩, g⟩, i⟩, j⟩, k⟩ := h
  refine ⟨a, b, c, d, e, f, g, i, fun m hm => ?_, fun m hm => ?_⟩
  · have := List.all_eq_true.1 j m (List.mem_range.2 (by omega))
    simpa only [Bool.and_eq_true, decide_eq_true_eq] using this
  · have := List.all_eq_true.1 k m (List.mem_range.2 hm)
    simpa only [Bool.and_eq_true, decide_eq_true_eq] using this
theorem mean_near {f : Nat → Nat} {n : Nat} {x w : Rat} (hK : LnK n) (hn : n ≤ 7) (x1 : -2 ≤ x) (x2 : x ≤ 2) (w1 : -(1000002 / 1000000) ≤ w) (w2 : w ≤ 1000002 / 1000000)
    (h : ∀ k, k < n → isN .f32 (f k) = true ∧ -(3 / 1000000) ≤ R .f32 (f k) - (x + w * qJ k) ∧ R .f32 (f k) - (x + w * qJ k) ≤ 3 / 1000000) :
    isN .f32 (fop .quo .f32 (s1F f n) (floatOfInt .f32 n)) = true ∧ -(13 / 1000000) ≤ R .f32 (fop .quo .f32 (s1F f n) (floatOfInt .f32 n)) - (x + w * hN n) ∧ R .f32 (fop .quo .f32 (s1F f n) (floatOfInt .f32 n)) - (x + w * hN n) ≤ 13 / 1000000 := by
  obtain ⟨a0, a1, a2⟩ := sum_near hn x1 x2 w1 w2 h n (Nat.le_refl _)
  obtain ⟨n0, n1⟩ := int_H n (by omega)
  have k3 := hK.n3
  have k7 := hK.n7
  have kh := hK.h3
  have kl := hK.h1
  rw [← hK.t] at a1 a2
  obtain ⟨N, hN'⟩ : ∃ N, N = qJ n := ⟨_, rfl⟩
  obtain ⟨h', hh⟩ : ∃ t, t = hN n := ⟨_, rfl⟩
  rw [← hN'] at a1 a2 n1 k3 k7
  rw [← hh] at a1 a2 kh kl ⊢
  have q0 : R .f32 (s1F f n) / N * N = R .f32 (s1F f n) := Rat.div_mul_cancel (by grind)
  obtain ⟨q, hq⟩ : ∃ q, q = R .f32 (s1F f n) / N := ⟨_, rfl⟩
  rw [← hq] at q0
  have d1 : -(11 / 1000000) ≤ q - (x + w * h') ∧ q - (x + w * h') ≤ 11 / 1000000 := by
    constructor
    · refine Rat.not_lt.1 fun k => ?_
      have := Rat.mul_pos (a := -(11 / 1000000) - (q - (x + w * h'))) (b := N) (by grind) (by grind)
      grind
    · refine Rat.not_lt.1 fun k => ?_
      have := Rat.mul_pos (a := (q - (x + w * h')) - 11 / 1000000) (b := N) (by grind) (by grind)
      grind
  have m := mul_bd w1 w2 (show -3 ≤ h' by grind) kh
  have r := rnd_div (q := q) a0 n0 (by rw [n1]; grind) (by rw [n1]; exact q0) (by grind) (by grind)
  have g := r.n32 3 (by decide) (B := 8) rfl (by grind) (by grind)
  exact ⟨r.num, by grind, by grind⟩
/-- one step of a sum of products -/
theorem acc_near {a u v : Nat} {wu wv t K k h : Rat} (ha : isN .f32 a = true) (hu : isN .f32 u = true) (hv : isN .f32 v = true) (k0 : 0 ≤ k) (k6 : k ≤ 6) (h1 : 1 ≤ h) (h3 : h ≤ 3) (a1 : -(k * (h * (34 / 1000000) + 6 / 1000000)) ≤ R .f32 a - wu * wv * K) (a2 : R .f32 a - wu * wv * K ≤ k * (h * (34 / 1000000) + 6 / 1000000))
    (u1 : -(1000002 / 1000000) ≤ wu) (u2 : wu ≤ 1000002 / 1000000) (v1 : -(1000002 / 1000000) ≤ wv) (v2 : wv ≤ 1000002 / 1000000) (t1 : -h ≤ t) (t2 : t ≤ h) (e1 : -(17 / 1000000) + 1 / 10000000 ≤ R .f32 u - wu * t) (e2 : R .f32 u - wu * t ≤ 17 / 1000000 - 1 / 10000000) (e3 : -(17 / 1000000) + 1 / 10000000 ≤ R .f32 v - wv * t) (e4 : R .f32 v - wv * t ≤ 17 / 1000000 - 1 / 10000000) (K0 : 0 ≤ K) (K1 : K + t * t ≤ 28) :
    isN .f32 (fop .mul .f32 u v) = true ∧ isN .f32 (fop .add .f32 a (fop .mul .f32 u v)) = true ∧ -((k + 1) * (h * (34 / 1000000) + 6 / 1000000)) ≤ R .f32 (fop .add .f32 a (fop .mul .f32 u v)) - wu * wv * (K + t * t) ∧ R .f32 (fop .add .f32 a (fop .mul .f32 u v)) - wu * wv * (K + t * t) ≤ (k + 1) * (h * (34 / 1000000) + 6 / 1000000) := by
  obtain ⟨f, hf⟩ : ∃ f, f = R .f32 u - wu * t := ⟨_, rfl⟩
  obtain ⟨g, hg⟩ : ∃ g, g = R .f32 v - wv * t := ⟨_, rfl⟩
  rw [← hf] at e1 e2
  rw [← hg] at e3 e4
  obtain ⟨p, hp⟩ : ∃ p, p = wu * t := ⟨_, rfl⟩
  obtain ⟨q, hq⟩ : ∃ q, q = wv * t := ⟨_, rfl⟩
  have eu : R .f32 u = p + f := by grind
  have ev : R .f32 v = q + g := by grind
  obtain ⟨H, hH⟩ : ∃ H, H = h * (1000002 / 1000000) := ⟨_, rfl⟩
  have bp : -H ≤ p ∧ p ≤ H := by have := mul_bd u1 u2 t1 t2; rw [hp, hH]; constructor <;> grind
  have bq : -H ≤ q ∧ q ≤ H := by have := mul_bd v1 v2 t1 t2; rw [hq, hH]; constructor <;> grind
  have pq : wu * wv * (K + t * t) = wu * wv * K + p * q := by rw [hp, hq]; grind
  have cw : -(1000005 / 1000000) ≤ wu * wv ∧ wu * wv ≤ 1000005 / 1000000 := by have := mul_bd u1 u2 v1 v2; constructor <;> grind
  have tt := sq_pos t
  have z1 := mul_bd cw.1 cw.2 (show -28 ≤ K by grind) (show K ≤ 28 by grind)
  have z2 := mul_bd cw.1 cw.2 (show -28 ≤ K + t * t by grind) K1
  rw [pq] at z2 ⊢
  obtain ⟨W, hW⟩ : ∃ W, W = wu * wv * K := ⟨_, rfl⟩
  rw [← hW] at a1 a2 z1 z2 ⊢
  clear hW pq cw tt hp hq hf hg
  have m1 := mul_bd (x := p) (y := g) (B := H) (C := 17 / 1000000 - 1 / 10000000) bp.1 bp.2 (by grind) e4
  have m2 := mul_bd (x := q) (y := f) (B := H) (C := 17 / 1000000 - 1 / 10000000) bq.1 bq.2 (by grind) e2
  have m3 := mul_bd (x := f) (y := g) (B := 17 / 1000000) (C := 17 / 1000000) (by grind) (by grind) (by grind) (by grind)
  have m4 := mul_bd (x := p) (y := q) (B := 301 / 100) (C := 301 / 100) (by grind) (by grind) (by grind) (by grind)
  have m5 := Rat.mul_nonneg (a := 6 - k) (b := h) (by grind) (by grind)
  have r1 := rnd_mul hu hv (by rw [eu, ev]; grind) (by rw [eu, ev]; grind)
  rw [eu, ev] at r1
  have e : (p + f) * (q + g) = p * q + (p * g + q * f + f * g) := by grind
  rw [e] at r1
  have f1 := r1.n32 4 (by decide) (B := 16) rfl (by grind) (by grind)
  have r2 := rnd_add ha r1.num (by grind) (by grind)
  have f2 := r2.n32 5 (by decide) (B := 32) rfl (by grind) (by grind)
  exact ⟨r1.num, r2.num, by grind, by grind⟩
end Go.Fl

namespace Go.Fl
open Ieee Go.RowKit
theorem dbl_tab : (List.range 16).all (fun j => inB (1 / 10000000) (cosT (2 * j % 16) - (cosT j * cosT j - sinT j * sinT j)) && inB (1 / 10000000) (sinT (2 * j % 16) - 2 * (cosT j * sinT j)) && decide (cosT ((j + 8) % 16) = -cosT j) && decide (sinT ((j + 8) % 16) = -sinT j)) = true := by decide +kernel
structure Dbl (j : Nat) : Prop where
  c : -(1 / 10000000) ≤ cosT (2 * j % 16) - (cosT j * cosT j - sinT j * sinT j) ∧ cosT (2 * j % 16) - (cosT j * cosT j - sinT j * sinT j) ≤ 1 / 10000000
  s : -(1 / 10000000) ≤ sinT (2 * j % 16) - 2 * (cosT j * sinT j) ∧ sinT (2 * j % 16) - 2 * (cosT j * sinT j) ≤ 1 / 10000000
  oc : cosT ((j + 8) % 16) = -cosT j
  os : sinT ((j + 8) % 16) = -sinT j
theorem dbl {j : Nat} (h : j < 16) : Dbl j := by
  have := List.all_eq_true.1 dbl_tab j (List.mem_range.2 h)
  simp only [inB, Bool.and_eq_true, decide_eq_true_eq] at this
  obtain ⟨⟨⟨a, b⟩, c⟩, d⟩ := this
  exact ⟨a, b, c, d⟩
/-- one point less the mean -/
theorem dev_one {p m : Nat} {x w t h k : Rat} (hp : isN .f32 p = true) (hm : isN .f32 m = true) (p1 : -(3 / 1000000) ≤ R .f32 p - (x + w * k)) (p2 : R .f32 p - (x + w * k) ≤ 3 / 1000000) (m1 : -(13 / 1000000) ≤ R .f32 m - (x + w * h)) (m2 : R .f32 m - (x + w * h) ≤ 13 / 1000000) (ht : t = k - h) (t1 : -h ≤ t) (t2 : t ≤ h) (h3 : h ≤ 3)
    (w1 : -(1000002 / 1000000) ≤ w) (w2 : w ≤ 1000002 / 1000000) :
    isN .f32 (fop .sub .f32 p m) = true ∧ -(17 / 1000000) + 1 / 10000000 ≤ R .f32 (fop .sub .f32 p m) - w * t ∧ R .f32 (fop .sub .f32 p m) - w * t ≤ 17 / 1000000 - 1 / 10000000 := by
  have b := mul_bd (x := w) (y := t) w1 w2 (show -3 ≤ t by grind) (show t ≤ 3 by grind)
  have e : w * t = w * k - w * h := by rw [ht]; grind
  have r := rnd_sub hp hm (by grind) (by grind)
  have f := r.n32 2 (by decide) (B := 4) rfl (by grind) (by grind)
  exact ⟨r.num, by grind, by grind⟩
def mulF (x y : Cx) : Cx :=
  (fcv .f64 .f32 (fop .sub .f64 (fop .mul .f64 (fcv .f32 .f64 x.1) (fcv .f32 .f64 y.1)) (fop .mul .f64 (fcv .f32 .f64 x.2) (fcv .f32 .f64 y.2))),
   fcv .f64 .f32 (fop .add .f64 (fop .mul .f64 (fcv .f32 .f64 x.1) (fcv .f32 .f64 y.2)) (fop .mul .f64 (fcv .f32 .f64 x.2) (fcv .f32 .f64 y.1))))
structure MulN (x y : Cx) : Prop where
  xn : nN x
  yn : nN y
  ac : isN .f64 (fop .mul .f64 (fcv .f32 .f64 x.1) (fcv .f32 .f64 y.1)) = true
  bd : isN .f64 (fop .mul .f64 (fcv .f32 .f64 x.2) (fcv .f32 .f64 y.2)) = true
  ad : isN .f64 (fop .mul .f64 (fcv .f32 .f64 x.1) (fcv .f32 .f64 y.2)) = true
  bc : isN .f64 (fop .mul .f64 (fcv .f32 .f64 x.2) (fcv .f32 .f64 y.1)) = true
  u : isN .f64 (fop .sub .f64 (fop .mul .f64 (fcv .f32 .f64 x.1) (fcv .f32 .f64 y.1)) (fop .mul .f64 (fcv .f32 .f64 x.2) (fcv .f32 .f64 y.2))) = true
  v : isN .f64 (fop .add .f64 (fop .mul .f64 (fcv .f32 .f64 x.1) (fcv .f32 .f64 y.2)) (fop .mul .f64 (fcv .f32 .f64 x.2) (fcv .f32 .f64 y.1))) = true
  nu : isN .f32 (mulF x y).1 = true
  nv : isN .f32 (mulF x y).2 = true
theorem mul_near {x y : Cx} (hx : nN x) (hy : nN y) (x1 : -4 ≤ R .f32 x.1) (x2 : R .f32 x.1 ≤ 4) (x3 : -4 ≤ R .f32 x.2) (x4 : R .f32 x.2 ≤ 4) (y1 : -2 ≤ R .f32 y.1) (y2 : R .f32 y.1 ≤ 2) (y3 : -2 ≤ R .f32 y.2) (y4 : R .f32 y.2 ≤ 2) :
    MulN x y ∧ -(4 / 1000000) ≤ R .f32 (mulF x y).2 - (R .f32 x.1 * R .f32 y.2 + R .f32 x.2 * R .f32 y.1) ∧ R .f32 (mulF x y).2 - (R .f32 x.1 * R .f32 y.2 + R .f32 x.2 * R .f32 y.1) ≤ 4 / 1000000 := by
  obtain ⟨n1, e1⟩ := wide hx.1 (by grind) (by grind)
  obtain ⟨n2, e2⟩ := wide hx.2 (by grind) (by grind)
  obtain ⟨n3, e3⟩ := wide hy.1 (by grind) (by grind)
  obtain ⟨n4, e4⟩ := wide hy.2 (by grind) (by grind)
  have m1 := mul_bd x1 x2 y1 y2
  have m2 := mul_bd x3 x4 y3 y4
  have m3 := mul_bd x1 x2 y3 y4
  have m4 := mul_bd x3 x4 y1 y2
  have r1 := rnd_mul n1 n3 (by rw [e1, e3]; grind) (by rw [e1, e3]; grind)
  have r2 := rnd_mul n2 n4 (by rw [e2, e4]; grind) (by rw [e2, e4]; grind)
  have r3 := rnd_mul n1 n4 (by rw [e1, e4]; grind) (by rw [e1, e4]; grind)
  have r4 := rnd_mul n2 n3 (by rw [e2, e3]; grind) (by rw [e2, e3]; grind)
  rw [e1, e3] at r1
  rw [e2, e4] at r2
  rw [e1, e4] at r3
  rw [e2, e3] at r4
  have f1 := r1.n64 3 (by decide) (B := 8) rfl (by grind) (by grind)
  have f2 := r2.n64 3 (by decide) (B := 8) rfl (by grind) (by grind)
  have f3 := r3.n64 3 (by decide) (B := 8) rfl (by grind) (by grind)
  have f4 := r4.n64 3 (by decide) (B := 8) rfl (by grind) (by grind)
  have r5 := rnd_sub r1.num r2.num (by grind) (by grind)
  have r6 := rnd_add r3.num r4.num (by grind) (by grind)
  have f5 := r5.n64 5 (by decide) (B := 32) rfl (by grind) (by grind)
  have f6 := r6.n64 5 (by decide) (B := 32) rfl (by grind) (by grind)
  have r7 := narrow r5.num (by grind) (by grind)
  have r8 := narrow r6.num (by grind) (by grind)
  have f8 := r8.n32 5 (by decide) (B := 32) rfl (by grind) (by grind)
  refine ⟨⟨hx, hy, r1.num, r2.num, r3.num, r4.num, r5.num, r6.num, r7.num, r8.num⟩, ?_, ?_⟩
  · show _ ≤ R .f32 (fcv .f64 .f32 _) - _; grind
  · show R .f32 (fcv .f64 .f32 _) - _ ≤ _; grind
def lnA (p : Nat → Cx) (n : Nat) : Nat := agF (fop .mul .f32 1073741824 (bF p (meF p n) n)) (fop .sub .f32 (aF p (meF p n) n) (cF p (meF p n) n))
def lnH (p : Nat → Cx) (n : Nat) : Nat := fop .quo .f32 (lnA p n) 1073741824
def lnW (p : Nat → Cx) (n : Nat) : Cx := phF denI (fcv .f32 .f64 (lnH p n))
def lnX (p : Nat → Cx) (m l : Cx) (i : Nat) : Nat := absN (mulF (minusF (p i) m) (l.1, Op.negFloat .f32 l.2)).2
def mxF (p : Nat → Cx) (m l : Cx) : Nat → Nat
  | 0 => 0
  | i + 1 => maxF .f32 (mxF p m l i) (lnX p m l i)
/-- all steps of the line's fit are numbers -/
structure LnN (p : Nat → Cx) (n : Nat) : Prop where
  pts : ∀ i, i < n → nN (p i)
  me : MeN p n
  d : ∀ i, i < n → nN (minusF (p i) (meF p n))
  st : ∀ i, i < n → isN .f32 (fop .mul .f32 (minusF (p i) (meF p n)).1 (minusF (p i) (meF p n)).1) = true ∧ isN .f32 (fop .mul .f32 (minusF (p i) (meF p n)).1 (minusF (p i) (meF p n)).2) = true ∧ isN .f32 (fop .mul .f32 (minusF (p i) (meF p n)).2 (minusF (p i) (meF p n)).2) = true
  acc : ∀ i, i ≤ n → isN .f32 (aF p (meF p n) i) = true ∧ isN .f32 (bF p (meF p n) i) = true ∧ isN .f32 (cF p (meF p n) i) = true
  ac : isN .f32 (fop .sub .f32 (aF p (meF p n) n) (cF p (meF p n) n)) = true
  b2 : isN .f32 (fop .mul .f32 1073741824 (bF p (meF p n) n)) = true
  ag : AgN (fop .mul .f32 1073741824 (bF p (meF p n) n)) (fop .sub .f32 (aF p (meF p n) n) (cF p (meF p n) n))
  hf : isN .f32 (lnH p n) = true
  ph : PhN denI (fcv .f32 .f64 (lnH p n))
  al : nN (lnW p n)
  ml : ∀ i, i < n → MulN (minusF (p i) (meF p n)) ((lnW p n).1, Op.negFloat .f32 (lnW p n).2)
  xa : ∀ i, i < n → isN .f32 (lnX p (meF p n) (lnW p n) i) = true
  mx : ∀ i, i ≤ n → isN .f32 (mxF p (meF p n) (lnW p n) i) = true
end Go.Fl

namespace Go.Fl
open Ieee Go.RowKit
theorem aF_succ (p : Nat → Cx) (m : Cx) (i : Nat) : aF p m (i + 1) = fop .add .f32 (aF p m i) (fop .mul .f32 (minusF (p i) m).1 (minusF (p i) m).1) := rfl
/-- sums of products of what is near to a line -/
theorem accs {f : Nat → Nat} {u v : Nat → Nat} {n : Nat} {wu wv : Rat} (K : LnK n) (h7 : n ≤ 7) (h0 : f 0 = 0) (hs : ∀ i, f (i + 1) = fop .add .f32 (f i) (fop .mul .f32 (u i) (v i))) (u1 : -(1000002 / 1000000) ≤ wu) (u2 : wu ≤ 1000002 / 1000000) (v1 : -(1000002 / 1000000) ≤ wv) (v2 : wv ≤ 1000002 / 1000000)
    (du : ∀ i, i < n → isN .f32 (u i) = true ∧ -(17 / 1000000) + 1 / 10000000 ≤ R .f32 (u i) - wu * (qJ i - hN n) ∧ R .f32 (u i) - wu * (qJ i - hN n) ≤ 17 / 1000000 - 1 / 10000000)
    (dv : ∀ i, i < n → isN .f32 (v i) = true ∧ -(17 / 1000000) + 1 / 10000000 ≤ R .f32 (v i) - wv * (qJ i - hN n) ∧ R .f32 (v i) - wv * (qJ i - hN n) ≤ 17 / 1000000 - 1 / 10000000) :
    ∀ i, i ≤ n → isN .f32 (f i) = true ∧ (i < n → isN .f32 (fop .mul .f32 (u i) (v i)) = true) ∧ -(qJ i * (hN n * (34 / 1000000) + 6 / 1000000)) ≤ R .f32 (f i) - wu * wv * sgF n i ∧ R .f32 (f i) - wu * wv * sgF n i ≤ qJ i * (hN n * (34 / 1000000) + 6 / 1000000) := by
  have main : ∀ i, i ≤ n → isN .f32 (f i) = true ∧ -(qJ i * (hN n * (34 / 1000000) + 6 / 1000000)) ≤ R .f32 (f i) - wu * wv * sgF n i ∧ R .f32 (f i) - wu * wv * sgF n i ≤ qJ i * (hN n * (34 / 1000000) + 6 / 1000000) := by
    intro i
    induction i with
    | zero =>
      intro _
      have e0 : qJ 0 = 0 := rfl
      have es : sgF n 0 = 0 := rfl
      rw [h0, e0, es, zero32_N.2]
      exact ⟨zero32_N.1, by grind, by grind⟩
    | succ i ih =>
      intro hi
      obtain ⟨a0, a1, a2⟩ := ih (by omega)
      obtain ⟨b0, b1, b2⟩ := du i (by omega)
      obtain ⟨c0, c1, c2⟩ := dv i (by omega)
      have t := K.tb i (by omega)
      have g := K.sg i (by omega)
      have g' := K.sg (i + 1) (by omega)
      have i6 := qJ_le (show i ≤ 6 by omega)
      have r := acc_near (k := qJ i) a0 b0 c0 (qJ_nn i) i6 K.h1 K.h3 a1 a2 u1 u2 v1 v2 t.1 t.2 b1 b2 c1 c2 g.1 g'.2
      rw [hs, qJ_succ]
      exact ⟨r.2.1, r.2.2.1, r.2.2.2⟩
  intro i hi
  obtain ⟨a0, a1, a2⟩ := main i hi
  refine ⟨a0, fun hlt => ?_, a1, a2⟩
  obtain ⟨b0, b1, b2⟩ := du i hlt
  obtain ⟨c0, c1, c2⟩ := dv i hlt
  have t := K.tb i hlt
  have g := K.sg i hi
  have g' := K.sg (i + 1) (by omega)
  have i6 := qJ_le (show i ≤ 6 by omega)
  exact (acc_near (k := qJ i) a0 b0 c0 (qJ_nn i) i6 K.h1 K.h3 a1 a2 u1 u2 v1 v2 t.1 t.2 b1 b2 c1 c2 g.1 g'.2).1
/-- how far a point is from the line -/
theorem off_small {u v w1 w2 t c s σ l1 l2 : Rat} (hu : Unit c s) (hσ : σ = 1 ∨ σ = -1) (t1 : -3 ≤ t) (t2 : t ≤ 3) (e1 : -(17 / 1000000) ≤ u - w1 * t ∧ u - w1 * t ≤ 17 / 1000000) (e2 : -(17 / 1000000) ≤ v - w2 * t ∧ v - w2 * t ≤ 17 / 1000000)
    (n1 : -(6 / 10000000) ≤ w1 - c ∧ w1 - c ≤ 6 / 10000000) (n2 : -(6 / 10000000) ≤ w2 - s ∧ w2 - s ≤ 6 / 10000000) (d1 : -(1001 / 1000000) ≤ l1 - σ * c ∧ l1 - σ * c ≤ 1001 / 1000000) (d2 : -(1001 / 1000000) ≤ l2 - σ * s ∧ l2 - σ * s ≤ 1001 / 1000000) :
    -(62 / 10000) ≤ v * l1 - u * l2 ∧ v * l1 - u * l2 ≤ 62 / 10000 := by
  obtain ⟨b1, b2⟩ := hu.bd
  clear hu
  obtain ⟨ε1, h1⟩ : ∃ e, e = u - w1 * t := ⟨_, rfl⟩
  obtain ⟨ε2, h2⟩ : ∃ e, e = v - w2 * t := ⟨_, rfl⟩
  obtain ⟨η1, h3⟩ : ∃ e, e = w1 - c := ⟨_, rfl⟩
  obtain ⟨η2, h4⟩ : ∃ e, e = w2 - s := ⟨_, rfl⟩
  obtain ⟨δ1, h5⟩ : ∃ e, e = l1 - σ * c := ⟨_, rfl⟩
  obtain ⟨δ2, h6⟩ : ∃ e, e = l2 - σ * s := ⟨_, rfl⟩
  rw [← h1] at e1
  rw [← h2] at e2
  rw [← h3] at n1
  rw [← h4] at n2
  rw [← h5] at d1
  rw [← h6] at d2
  have key : v * l1 - u * l2 = σ * ((η2 * c - η1 * s) * t + (ε2 * c - ε1 * s)) + (v * δ1 - u * δ2) := by
    have q1 : l1 = σ * c + δ1 := by grind
    have q2 : l2 = σ * s + δ2 := by grind
    have q3 : w1 = c + η1 := by grind
    have q4 : w2 = s + η2 := by grind
    rw [h1, h2, q1, q2, q3, q4]; grind
  have bw1 : -(1000002 / 1000000) ≤ w1 ∧ w1 ≤ 1000002 / 1000000 := by constructor <;> grind
  have bw2 : -(1000002 / 1000000) ≤ w2 ∧ w2 ≤ 1000002 / 1000000 := by constructor <;> grind
  have m1 := mul_bd bw1.1 bw1.2 t1 t2
  have m2 := mul_bd bw2.1 bw2.2 t1 t2
  have bu : -(3001 / 1000) ≤ u ∧ u ≤ 3001 / 1000 := by constructor <;> grind
  have bv : -(3001 / 1000) ≤ v ∧ v ≤ 3001 / 1000 := by constructor <;> grind
  clear h1 h2 h3 h4 h5 h6 m1 m2
  have p1 := mul_bd n2.1 n2.2 b1.1 b1.2
  have p2 := mul_bd n1.1 n1.2 b2.1 b2.2
  have p3 := mul_bd e2.1 e2.2 b1.1 b1.2
  have p4 := mul_bd e1.1 e1.2 b2.1 b2.2
  have p5 := mul_bd bv.1 bv.2 d1.1 d1.2
  have p6 := mul_bd bu.1 bu.2 d2.1 d2.2
  have p7 := mul_bd (x := η2 * c - η1 * s) (y := t) (B := 13 / 10000000) (C := 3) (by grind) (by grind) t1 t2
  rw [key]
  clear key
  rcases hσ with rfl | rfl <;> constructor <;> grind
/-- near to a phasor -/
structure Wy (w : Cx) (j : Nat) : Prop where
  n : nN w
  c : -(6 / 10000000) ≤ R .f32 w.1 - cosT j ∧ R .f32 w.1 - cosT j ≤ 6 / 10000000
  s : -(6 / 10000000) ≤ R .f32 w.2 - sinT j ∧ R .f32 w.2 - sinT j ≤ 6 / 10000000
theorem Wy.bd {w : Cx} {j : Nat} (h : Wy w j) (hj : j < 16) : (-(1000002 / 1000000) ≤ R .f32 w.1 ∧ R .f32 w.1 ≤ 1000002 / 1000000) ∧ (-(1000002 / 1000000) ≤ R .f32 w.2 ∧ R .f32 w.2 ≤ 1000002 / 1000000) := by
  obtain ⟨b1, b2⟩ := (unitT hj).bd
  have := h.c
  have := h.s
  refine ⟨⟨?_, ?_⟩, ?_, ?_⟩ <;> grind
/-- the sums' values have the double angle -/
theorem dbl_near {A B C S E w1 w2 c s c2 s2 : Rat} (hu : Unit c s) (n1 : -(6 / 10000000) ≤ w1 - c ∧ w1 - c ≤ 6 / 10000000) (n2 : -(6 / 10000000) ≤ w2 - s ∧ w2 - s ≤ 6 / 10000000) (dc : -(1 / 10000000) ≤ c2 - (c * c - s * s) ∧ c2 - (c * c - s * s) ≤ 1 / 10000000) (ds : -(1 / 10000000) ≤ s2 - 2 * (c * s) ∧ s2 - 2 * (c * s) ≤ 1 / 10000000)
    (S0 : 2 ≤ S) (hA : -E ≤ A - w1 * w1 * S ∧ A - w1 * w1 * S ≤ E) (hB : -E ≤ B - w1 * w2 * S ∧ B - w1 * w2 * S ≤ E) (hC : -E ≤ C - w2 * w2 * S ∧ C - w2 * w2 * S ≤ E) :
    (-(2 * E + S * (3 / 1000000)) ≤ A - C - S * c2 ∧ A - C - S * c2 ≤ 2 * E + S * (3 / 1000000)) ∧ (-(2 * E + S * (3 / 1000000)) ≤ 2 * B - S * s2 ∧ 2 * B - S * s2 ≤ 2 * E + S * (3 / 1000000)) := by
  obtain ⟨b1, b2⟩ := hu.bd
  clear hu
  have p1 := mul_bd (x := w1 - c) (y := w1 + c) (B := 6 / 10000000) (C := 201 / 100) n1.1 n1.2 (by grind) (by grind)
  have p2 := mul_bd (x := w2 - s) (y := w2 + s) (B := 6 / 10000000) (C := 201 / 100) n2.1 n2.2 (by grind) (by grind)
  have p3 := mul_bd (x := w1 - c) (y := w2) (B := 6 / 10000000) (C := 101 / 100) n1.1 n1.2 (by grind) (by grind)
  have p4 := mul_bd (x := c) (y := w2 - s) (B := 101 / 100) (C := 6 / 10000000) (by grind) (by grind) n2.1 n2.2
  have d1 : -(3 / 1000000) ≤ w1 * w1 - w2 * w2 - c2 ∧ w1 * w1 - w2 * w2 - c2 ≤ 3 / 1000000 := by constructor <;> grind
  have d2 : -(3 / 1000000) ≤ 2 * (w1 * w2) - s2 ∧ 2 * (w1 * w2) - s2 ≤ 3 / 1000000 := by constructor <;> grind
  clear p1 p2 p3 p4 dc ds b1 b2 n1 n2
  have m1 := Rat.mul_nonneg (a := 3 / 1000000 - (w1 * w1 - w2 * w2 - c2)) (b := S) (by grind) (by grind)
  have m2 := Rat.mul_nonneg (a := 3 / 1000000 + (w1 * w1 - w2 * w2 - c2)) (b := S) (by grind) (by grind)
  have m3 := Rat.mul_nonneg (a := 3 / 1000000 - (2 * (w1 * w2) - s2)) (b := S) (by grind) (by grind)
  have m4 := Rat.mul_nonneg (a := 3 / 1000000 + (2 * (w1 * w2) - s2)) (b := S) (by grind) (by grind)
  refine ⟨⟨?_, ?_⟩, ?_, ?_⟩ <;> grind
/-- half an angle -/
theorem half_ang {φ j : Nat} {n : Int} (hj : j < 16) (hφ : isN .f32 φ = true) (hn : n = 0 ∨ n = -1) (h1 : -(9 / 100000) ≤ R .f32 φ - (qJ (2 * j % 16) / 16 + (n : Rat))) (h2 : R .f32 φ - (qJ (2 * j % 16) / 16 + (n : Rat)) ≤ 9 / 100000) :
    isN .f32 (fop .quo .f32 φ 1073741824) = true ∧ ∃ (J : Nat) (m : Int), (J = j ∨ J = (j + 8) % 16) ∧ (-1 ≤ R .f32 (fop .quo .f32 φ 1073741824) ∧ R .f32 (fop .quo .f32 φ 1073741824) ≤ 1) ∧ -(46 / 1000000) ≤ R .f32 (fop .quo .f32 φ 1073741824) - (qJ J / 16 + (m : Rat)) ∧ R .f32 (fop .quo .f32 φ 1073741824) - (qJ J / 16 + (m : Rat)) ≤ 46 / 1000000 := by
  obtain ⟨t0, t1⟩ := two32 0
  have c0 : ((0 : Int) : Rat) = 0 := rfl
  have c1 : ((-1 : Int) : Rat) = -1 := rfl
  have b16 := qJ_le (show 2 * j % 16 ≤ 15 by omega)
  have b0 := qJ_nn (2 * j % 16)
  have e15 : qJ 15 = 15 := rfl
  rw [e15] at b16
  have bn : -1 ≤ (n : Rat) ∧ (n : Rat) ≤ 0 := by rcases hn with rfl | rfl <;> simp only [c0, c1] <;> decide +kernel
  have hq : R .f32 φ / 2 * 2 = R .f32 φ := Rat.div_mul_cancel (by decide +kernel)
  obtain ⟨q, hqq⟩ : ∃ q, q = R .f32 φ / 2 := ⟨_, rfl⟩
  rw [← hqq] at hq
  have r := rnd_div (q := q) hφ t0 (by rw [t1]; decide +kernel) (by rw [t1]; exact hq) (by grind) (by grind)
  have f := r.n32 0 (by decide) (B := 1) rfl (by grind) (by grind)
  refine ⟨r.num, ?_⟩
  have ej : qJ (2 * j) = 2 * qJ j := by unfold qJ; rw [Int.natCast_mul, Rat.intCast_mul]; rfl
  have j0 := qJ_nn j
  rcases Nat.lt_or_ge j 8 with h | h
  · have e : 2 * j % 16 = 2 * j := by omega
    rw [e, ej] at h1 h2
    have j7 := qJ_le (show j ≤ 7 by omega)
    have e7 : qJ 7 = 7 := rfl
    rw [e7] at j7
    rcases hn with rfl | rfl
    · rw [c0] at h1 h2
      exact ⟨j, 0, .inl rfl, ⟨by grind, by grind⟩, by rw [c0]; grind, by rw [c0]; grind⟩
    · rw [c1] at h1 h2
      have e8 : (j + 8) % 16 = j + 8 := by omega
      have a8 := qJ_add j 8
      have q8 : qJ 8 = 8 := rfl
      exact ⟨(j + 8) % 16, -1, .inr rfl, ⟨by grind, by grind⟩, by rw [c1, e8]; grind, by rw [c1, e8]; grind⟩
  · have e : 2 * j % 16 + 16 = 2 * j := by omega
    have a16 := qJ_add (2 * j % 16) 16
    rw [e, ej] at a16
    have q16 : qJ 16 = 16 := rfl
    have j15 := qJ_le (show j ≤ 15 by omega)
    rw [e15] at j15
    have j8 := qJ_le h
    have q8 : qJ 8 = 8 := rfl
    rw [q8] at j8
    rcases hn with rfl | rfl
    · rw [c0] at h1 h2
      have e8 : (j + 8) % 16 + 8 = j := by omega
      have a8 := qJ_add ((j + 8) % 16) 8
      rw [e8] at a8
      exact ⟨(j + 8) % 16, 0, .inr rfl, ⟨by grind, by grind⟩, by rw [c0]; grind, by rw [c0]; grind⟩
    · rw [c1] at h1 h2
      exact ⟨j, -1, .inl rfl, ⟨by grind, by grind⟩, by rw [c1]; grind, by rw [c1]; grind⟩
structure LnV (p : Nat → Cx) (n : Nat) (m w : Cx) (j : Nat) : Prop where
  m1 : -(13 / 1000000) ≤ R .f32 (meF p n).1 - (R .f32 m.1 + R .f32 w.1 * hN n) ∧ R .f32 (meF p n).1 - (R .f32 m.1 + R .f32 w.1 * hN n) ≤ 13 / 1000000
  m2 : -(13 / 1000000) ≤ R .f32 (meF p n).2 - (R .f32 m.2 + R .f32 w.2 * hN n) ∧ R .f32 (meF p n).2 - (R .f32 m.2 + R .f32 w.2 * hN n) ≤ 13 / 1000000
  al : ∃ σ : Rat, (σ = 1 ∨ σ = -1) ∧ (-(1001 / 1000000) ≤ R .f32 (lnW p n).1 - σ * cosT j ∧ R .f32 (lnW p n).1 - σ * cosT j ≤ 1001 / 1000000) ∧ (-(1001 / 1000000) ≤ R .f32 (lnW p n).2 - σ * sinT j ∧ R .f32 (lnW p n).2 - σ * sinT j ≤ 1001 / 1000000)
  far0 : 0 ≤ R .f32 (mxF p (meF p n) (lnW p n) n)
  far : R .f32 (mxF p (meF p n) (lnW p n) n) ≤ 7 / 1000
theorem line_near {p : Nat → Cx} {n j : Nat} {m w : Cx} (hj : j < 16) (h3 : 3 ≤ n) (h7 : n ≤ 7) (hm : nN m) (x1 : -2 ≤ R .f32 m.1) (x2 : R .f32 m.1 ≤ 2) (y1 : -2 ≤ R .f32 m.2) (y2 : R .f32 m.2 ≤ 2) (hw : Wy w j) (hp : ∀ k, k < n → p k = lnP m w k) : LnN p n ∧ LnV p n m w j := by
  have K := lnK h3 h7
  have HK := Lib.hid K
  obtain ⟨⟨a1, a2⟩, b1, b2⟩ := hw.bd hj
  have L1 : ∀ k, k < n → isN .f32 (p k).1 = true ∧ -(3 / 1000000) ≤ R .f32 (p k).1 - (R .f32 m.1 + R .f32 w.1 * qJ k) ∧ R .f32 (p k).1 - (R .f32 m.1 + R .f32 w.1 * qJ k) ≤ 3 / 1000000 := fun k hk => by
    rw [hp k hk]
    exact (ln_one hm.1 hw.n.1 x1 x2 a1 a2 (by omega)).2
  have L2 : ∀ k, k < n → isN .f32 (p k).2 = true ∧ -(3 / 1000000) ≤ R .f32 (p k).2 - (R .f32 m.2 + R .f32 w.2 * qJ k) ∧ R .f32 (p k).2 - (R .f32 m.2 + R .f32 w.2 * qJ k) ≤ 3 / 1000000 := fun k hk => by
    rw [hp k hk]
    exact (ln_one hm.2 hw.n.2 y1 y2 b1 b2 (by omega)).2
  have S1 := sum_near h7 x1 x2 a1 a2 L1
  have S2 := sum_near h7 y1 y2 b1 b2 L2
  obtain ⟨M1, M11, M12⟩ := mean_near K h7 x1 x2 a1 a2 L1
  obtain ⟨M2, M21, M22⟩ := mean_near K h7 y1 y2 b1 b2 L2
  have em1 : fop .quo .f32 (s1F (fun k => (p k).1) n) (floatOfInt .f32 n) = (meF p n).1 := by rw [← smF_1]; rfl
  have em2 : fop .quo .f32 (s1F (fun k => (p k).2) n) (floatOfInt .f32 n) = (meF p n).2 := by rw [← smF_2]; rfl
  rw [em1] at M1 M11 M12
  rw [em2] at M2 M21 M22
  have hme : MeN p n := ⟨fun i hi => ⟨by rw [smF_1]; exact (S1 i hi).1, by rw [smF_2]; exact (S2 i hi).1⟩, M1, M2⟩
  have D1 : ∀ i, i < n → isN .f32 (minusF (p i) (meF p n)).1 = true ∧ -(17 / 1000000) + 1 / 10000000 ≤ R .f32 (minusF (p i) (meF p n)).1 - R .f32 w.1 * (qJ i - hN n) ∧ R .f32 (minusF (p i) (meF p n)).1 - R .f32 w.1 * (qJ i - hN n) ≤ 17 / 1000000 - 1 / 10000000 := fun i hi =>
    dev_one (L1 i hi).1 M1 (L1 i hi).2.1 (L1 i hi).2.2 M11 M12 rfl (K.tb i hi).1 (K.tb i hi).2 K.h3 a1 a2
  have D2 : ∀ i, i < n → isN .f32 (minusF (p i) (meF p n)).2 = true ∧ -(17 / 1000000) + 1 / 10000000 ≤ R .f32 (minusF (p i) (meF p n)).2 - R .f32 w.2 * (qJ i - hN n) ∧ R .f32 (minusF (p i) (meF p n)).2 - R .f32 w.2 * (qJ i - hN n) ≤ 17 / 1000000 - 1 / 10000000 := fun i hi =>
    dev_one (L2 i hi).1 M2 (L2 i hi).2.1 (L2 i hi).2.2 M21 M22 rfl (K.tb i hi).1 (K.tb i hi).2 K.h3 b1 b2
  have A := accs (f := aF p (meF p n)) (u := fun i => (minusF (p i) (meF p n)).1) (v := fun i => (minusF (p i) (meF p n)).1) K h7 rfl (fun _ => rfl) a1 a2 a1 a2 D1 D1
  have B := accs (f := bF p (meF p n)) (u := fun i => (minusF (p i) (meF p n)).1) (v := fun i => (minusF (p i) (meF p n)).2) K h7 rfl (fun _ => rfl) a1 a2 b1 b2 D1 D2
  have C := accs (f := cF p (meF p n)) (u := fun i => (minusF (p i) (meF p n)).2) (v := fun i => (minusF (p i) (meF p n)).2) K h7 rfl (fun _ => rfl) b1 b2 b1 b2 D2 D2
  obtain ⟨An, _, A1, A2⟩ := A n (Nat.le_refl _)
  obtain ⟨Bn, _, B1, B2⟩ := B n (Nat.le_refl _)
  obtain ⟨Cn, _, C1, C2⟩ := C n (Nat.le_refl _)
  have HP := Lib.hid (And.intro L1 (And.intro L2 (And.intro D1 D2)))
  have HS := Lib.hid (And.intro A (And.intro B C))
  have HM := Lib.hid (And.intro (And.intro M11 M12) (And.intro M21 M22))
  clear L1 L2 S1 S2 D1 D2 A B C em1 em2 M11 M12 M21 M22 hp
  have ks1 := K.s1
  have ks2 := K.s2
  have ke := K.e
  have kh := K.h3
  have kl := K.h1
  have kn := K.n7
  have kn0 := K.n3
  clear K
  obtain ⟨S, hS⟩ : ∃ t, t = sgF n n := ⟨_, rfl⟩
  obtain ⟨E, hE⟩ : ∃ t, t = qJ n * (hN n * (34 / 1000000) + 6 / 1000000) := ⟨_, rfl⟩
  have bE : E ≤ 8 / 10000 := by
    have := Rat.mul_nonneg (a := 7 - qJ n) (b := hN n) (by grind) (by grind)
    rw [hE]; grind
  rw [← hS] at ks1 ks2 ke A1 A2 B1 B2 C1 C2
  rw [← hE] at ke A1 A2 B1 B2 C1 C2
  clear kh kl kn kn0 hE
  obtain ⟨d1, d2⟩ := dbl_near (unitT hj) hw.c hw.s (dbl hj).c (dbl hj).s ks1 ⟨A1, A2⟩ ⟨B1, B2⟩ ⟨C1, C2⟩
  obtain ⟨t0, t1⟩ := two32 0
  have J2 : 2 * j % 16 < 16 := by omega
  obtain ⟨u1, u2⟩ := (unitT J2).bd
  obtain ⟨a, ha⟩ : ∃ t, t = aF p (meF p n) n := ⟨_, rfl⟩
  obtain ⟨b, hb⟩ : ∃ t, t = bF p (meF p n) n := ⟨_, rfl⟩
  obtain ⟨c, hc⟩ : ∃ t, t = cF p (meF p n) n := ⟨_, rfl⟩
  rw [← ha] at An d1
  rw [← hb] at Bn d2
  rw [← hc] at Cn d1
  clear A1 A2 B1 B2 C1 C2
  have z1 := mul_bd (x := S) (y := cosT (2 * j % 16)) (B := 28) (C := 1000001 / 1000000) (by grind) ks2 u1.1 u1.2
  have z2 := mul_bd (x := S) (y := sinT (2 * j % 16)) (B := 28) (C := 1000001 / 1000000) (by grind) ks2 u2.1 u2.2
  have r1 := rnd_sub An Cn (by grind) (by grind)
  have f1 := r1.n32 5 (by decide) (B := 32) rfl (by grind) (by grind)
  have r2 := rnd_mul t0 Bn (by rw [t1]; grind) (by rw [t1]; grind)
  rw [t1] at r2
  have f2 := r2.n32 5 (by decide) (B := 32) rfl (by grind) (by grind)
  obtain ⟨hA, A1, A2, n0, hn0, A3, A4⟩ := ang_near (p := S) J2 r2.num r1.num (by grind) (by grind) (by grind) (by grind) (by grind) (by grind)
  obtain ⟨hH, J, q, hJ, bh, H1, H2⟩ := half_ang hj hA.f hn0 A3 A4
  have eA : agF (fop .mul .f32 1073741824 b) (fop .sub .f32 a c) = lnA p n := by rw [ha, hb, hc]; rfl
  rw [eA] at hH H1 H2 bh
  have eH : fop .quo .f32 (lnA p n) 1073741824 = lnH p n := rfl
  rw [eH] at hH H1 H2 bh
  clear A1 A2 A3 A4 f1 f2 z1 z2 d1 d2 ke ks1 ks2 u1 u2 bE hS eH
  have hJ16 : J < 16 := by rcases hJ with rfl | rfl <;> omega
  have ha1 : aF p (meF p n) n = a := ha.symm
  have hb1 : bF p (meF p n) n = b := hb.symm
  have hc1 : cF p (meF p n) n = c := hc.symm
  obtain ⟨wn, wR⟩ := wide hH (by grind) (by grind)
  obtain ⟨hPh, P1, P2, P3, P4⟩ := phasor_near (eta := 1 / 10000) (zeta := 1 / 1000) (by decide +kernel) (by decide +kernel) (by decide +kernel) (by decide +kernel) (sinTab_w denI_ok) (n := q) hJ16 wn (by rw [wR]; grind) (by rw [wR]; grind) (by rw [wR]; grind) (by rw [wR]; grind)
  have eW : phF denI (fcv .f32 .f64 (lnH p n)) = lnW p n := rfl
  rw [eW] at P1 P2 P3 P4
  have nW : nN (lnW p n) := ⟨hPh.nc, hPh.ns⟩
  obtain ⟨σ, hσ, W1, W2⟩ : ∃ σ : Rat, (σ = 1 ∨ σ = -1) ∧ (-(1001 / 1000000) ≤ R .f32 (lnW p n).1 - σ * cosT j ∧ R .f32 (lnW p n).1 - σ * cosT j ≤ 1001 / 1000000) ∧ (-(1001 / 1000000) ≤ R .f32 (lnW p n).2 - σ * sinT j ∧ R .f32 (lnW p n).2 - σ * sinT j ≤ 1001 / 1000000) := by
    rcases hJ with rfl | rfl
    · exact ⟨1, .inl rfl, ⟨by grind, by grind⟩, by grind, by grind⟩
    · have o1 := (dbl hj).oc
      have o2 := (dbl hj).os
      rw [o1] at P1 P2
      rw [o2] at P3 P4
      exact ⟨-1, .inr rfl, ⟨by grind, by grind⟩, by grind, by grind⟩
  clear P1 P2 P3 P4 H1 H2 bh
  obtain ⟨l, hl⟩ : ∃ t, t = lnW p n := ⟨_, rfl⟩
  rw [← hl] at W1 W2 nW
  obtain ⟨nl, el⟩ := neg_R nW.2
  obtain ⟨v1, v2⟩ := (unitT hj).bd
  have bl1 : -2 ≤ R .f32 l.1 ∧ R .f32 l.1 ≤ 2 := by rcases hσ with rfl | rfl <;> constructor <;> grind
  have bl2 : -2 ≤ R .f32 l.2 ∧ R .f32 l.2 ≤ 2 := by rcases hσ with rfl | rfl <;> constructor <;> grind
  have X : ∀ i, i < n → MulN (minusF (p i) (meF p n)) (l.1, Op.negFloat .f32 l.2) ∧ isN .f32 (lnX p (meF p n) l i) = true ∧ 0 ≤ R .f32 (lnX p (meF p n) l i) ∧ R .f32 (lnX p (meF p n) l i) ≤ 7 / 1000 := fun i hi => by
    obtain ⟨e0, e1, e2⟩ := HP.out.2.2.1 i hi
    obtain ⟨g0, g1, g2⟩ := HP.out.2.2.2 i hi
    have t := HK.out.tb i hi
    have kh := HK.out.h3
    have o := off_small (unitT hj) hσ (t := qJ i - hN n) (by grind) (by grind) (u := R .f32 (minusF (p i) (meF p n)).1) (v := R .f32 (minusF (p i) (meF p n)).2) ⟨by grind, by grind⟩ ⟨by grind, by grind⟩ hw.c hw.s W1 W2
    have z1 := mul_bd (x := R .f32 w.1) (y := qJ i - hN n) (C := 3) a1 a2 (by grind) (by grind)
    have z2 := mul_bd (x := R .f32 w.2) (y := qJ i - hN n) (C := 3) b1 b2 (by grind) (by grind)
    obtain ⟨hM, m1, m2⟩ := mul_near (x := minusF (p i) (meF p n)) (y := (l.1, Op.negFloat .f32 l.2)) ⟨e0, g0⟩ ⟨nW.1, nl⟩ (by grind) (by grind) (by grind) (by grind) bl1.1 bl1.2 (by show _ ≤ R .f32 (Op.negFloat .f32 l.2); rw [el]; grind) (by show R .f32 (Op.negFloat .f32 l.2) ≤ _; rw [el]; grind)
    have m1 : -(4 / 1000000) ≤ R .f32 (mulF (minusF (p i) (meF p n)) (l.1, Op.negFloat .f32 l.2)).2 - (R .f32 (minusF (p i) (meF p n)).1 * R .f32 (Op.negFloat .f32 l.2) + R .f32 (minusF (p i) (meF p n)).2 * R .f32 l.1) := m1
    have m2 : R .f32 (mulF (minusF (p i) (meF p n)) (l.1, Op.negFloat .f32 l.2)).2 - (R .f32 (minusF (p i) (meF p n)).1 * R .f32 (Op.negFloat .f32 l.2) + R .f32 (minusF (p i) (meF p n)).2 * R .f32 l.1) ≤ 4 / 1000000 := m2
    rw [el] at m1 m2
    obtain ⟨q0, q1, q2, q3, q4⟩ := absN_R hM.nv
    refine ⟨hM, q0, q1, ?_⟩
    show R .f32 (absN _) ≤ _
    clear z1 z2 e1 e2 g1 g2 W1 W2
    rcases q2 with q2 | q2 <;> rw [q2] <;> grind
  have MX : ∀ i, i ≤ n → isN .f32 (mxF p (meF p n) l i) = true ∧ 0 ≤ R .f32 (mxF p (meF p n) l i) ∧ R .f32 (mxF p (meF p n) l i) ≤ 7 / 1000 := by
    intro i
    induction i with
    | zero => intro _; exact ⟨zero32_N.1, by show 0 ≤ R .f32 0; rw [zero32_N.2]; decide +kernel, by show R .f32 0 ≤ _; rw [zero32_N.2]; decide +kernel⟩
    | succ i ih =>
      intro hi
      obtain ⟨g0, g1, g2⟩ := ih (by omega)
      obtain ⟨_, k0, k1, k2⟩ := X i (by omega)
      obtain ⟨q0, q1, q2, q3⟩ := maxF_facts g0 k0
      rw [← R_le] at q1 q2
      refine ⟨q0, Rat.le_trans g1 q1, ?_⟩
      rcases q3 with q3 | q3
      · have : R .f32 (maxF .f32 (mxF p (meF p n) l i) (lnX p (meF p n) l i)) = R .f32 (mxF p (meF p n) l i) := R_eq.2 q3
        show R .f32 (maxF .f32 _ _) ≤ _
        rw [this]; exact g2
      · have : R .f32 (maxF .f32 (mxF p (meF p n) l i) (lnX p (meF p n) l i)) = R .f32 (lnX p (meF p n) l i) := R_eq.2 q3
        show R .f32 (maxF .f32 _ _) ≤ _
        rw [this]; exact k2
  rw [hl] at X MX W1 W2 nW
  have hs := HS.out
  have hP := HP.out
  have hM := HM.out
  exact ⟨⟨fun i hi => ⟨(hP.1 i hi).1, (hP.2.1 i hi).1⟩, hme, fun i hi => ⟨(hP.2.2.1 i hi).1, (hP.2.2.2 i hi).1⟩, fun i hi => ⟨(hs.1 i (by omega)).2.1 hi, (hs.2.1 i (by omega)).2.1 hi, (hs.2.2 i (by omega)).2.1 hi⟩, fun i hi => ⟨(hs.1 i hi).1, (hs.2.1 i hi).1, (hs.2.2 i hi).1⟩,
      by rw [ha1, hc1]; exact r1.num, by rw [hb1]; exact r2.num, by rw [ha1, hb1, hc1]; exact hA, hH, hPh, nW, fun i hi => (X i hi).1, fun i hi => (X i hi).2.1, fun i hi => (MX i hi).1⟩,
    hM.1, hM.2, ⟨σ, hσ, W1, W2⟩, (MX n (Nat.le_refl _)).2.1, (MX n (Nat.le_refl _)).2.2⟩
end Go.Fl

namespace Go.Fl
open Ieee Go.RowKit
def fourB : Nat := 1082130432
def roundF (b : Nat) : Nat := fop .quo .f32 (floatOfInt .f32 ((2 + b : Nat) : Int)) fourB
def radF (b : Nat) : Nat := fop .quo .f32 (roundF b) fourB
def unitF (z : Cx) : Cx := (fop .quo .f32 z.1 (longF z), fop .quo .f32 z.2 (longF z))
def dotF (a b : Cx) : Nat := fop .add .f32 (fop .mul .f32 a.1 b.1) (fop .mul .f32 a.2 b.2)
def rootF (x : Nat) : Nat := fcv .f64 .f32 (sqrtK (fcv .f32 .f64 x))
def coA : Cx := minusF (fourB, 0) (0, 0)
def coC : Cx := minusF (0, fourB) (0, 0)
def coU : Cx := unitF coA
def coV : Cx := unitF coC
def coK : Nat := fop .sub .f32 1065353216 (dotF coU coV)
def coM : Nat := crossF coU coV
def coH (r : Nat) : Nat := absN (fop .quo .f32 (fop .mul .f32 r (fop .sub .f32 1073741824 coK)) coM)
def coS : Cx := plusF coU coV
def coW : Cx := unitF coS
def coX (r : Nat) : Nat := fop .add .f32 (fop .mul .f32 (coH r) (coH r)) (fop .mul .f32 r r)
def coD (r : Nat) : Nat := fop .sub .f32 (rootF (coX r)) r
def coPa (r : Nat) : Cx := plusF (0, 0) (scaleF coU (coH r))
def coPb (r : Nat) : Cx := plusF (0, 0) (scaleF coW (coD r))
def coPc (r : Nat) : Cx := plusF (0, 0) (scaleF coV (coH r))
def nB (z : Cx) : Bool := isN .f32 z.1 && isN .f32 z.2
theorem nB_n {z : Cx} (h : nB z = true) : nN z := by simpa [nB, nN] using h
def plcB (s x y u1 u2 e : Rat) (z : Cx) : Bool := nB z && decide (s * (u1 - e) ≤ R .f32 z.1 - x) && decide (R .f32 z.1 - x ≤ s * (u1 + e)) && decide (s * (u2 - e) ≤ R .f32 z.2 - y) && decide (R .f32 z.2 - y ≤ s * (u2 + e))
theorem plcB_p {s x y u1 u2 e : Rat} {z : Cx} (h : plcB s x y u1 u2 e z = true) : Plc s x y u1 u2 e z := by
  simp only [plcB, Bool.and_eq_true, decide_eq_true_eq] at h
  obtain ⟨⟨⟨⟨a, b⟩, c⟩, d⟩, f⟩ := h
  exact ⟨nB_n a, b, c, d, f⟩
/-- the unit of a point: the steps are numbers -/
structure UnitN (z : Cx) : Prop where
  zn : nN z
  long : LongN z
  pos : 0 < R .f32 (longF z)
  u : nN (unitF z)
/-- what is the same for all radii -/
structure CoN : Prop where
  a : UnitN coA
  c : UnitN coC
  s : UnitN coS
  d1 : isN .f32 (fop .mul .f32 coU.1 coV.1) = true
  d2 : isN .f32 (fop .mul .f32 coU.2 coV.2) = true
  d3 : isN .f32 (dotF coU coV) = true
  k : isN .f32 coK = true
  c1 : isN .f32 (fop .mul .f32 coU.1 coV.2) = true
  c2 : isN .f32 (fop .mul .f32 coU.2 coV.1) = true
  m : isN .f32 coM = true
  m0 : R .f32 coM ≠ 0
  t : isN .f32 (fop .sub .f32 1073741824 coK) = true
def unB (z : Cx) : Bool := nB z && decide (-5 ≤ R .f32 z.1) && decide (R .f32 z.1 ≤ 5) && decide (-5 ≤ R .f32 z.2) && decide (R .f32 z.2 ≤ 5) && decide (0 < R .f32 (longF z)) && nB (unitF z)
theorem unB_n {z : Cx} (h : unB z = true) : UnitN z := by
  simp only [unB, Bool.and_eq_true, decide_eq_true_eq] at h
  obtain ⟨⟨⟨⟨⟨⟨a, b⟩, c⟩, d⟩, e⟩, f⟩, g⟩ := h
  exact ⟨nB_n a, long_near (nB_n a) b c d e, f, nB_n g⟩
theorem coN : CoN := by
  have h1 : unB coA = true := by decide +kernel
  have h2 : unB coC = true := by decide +kernel
  have h3 : unB coS = true := by decide +kernel
  exact ⟨unB_n h1, unB_n h2, unB_n h3, by decide +kernel, by decide +kernel, by decide +kernel, by decide +kernel, by decide +kernel, by decide +kernel, by decide +kernel, by decide +kernel, by decide +kernel⟩
/-- a radius: the steps to the three points are numbers -/
structure CoR (r : Nat) : Prop where
  rn : isN .f32 r = true
  r0 : 0 < R .f32 r
  h1 : isN .f32 (fop .mul .f32 r (fop .sub .f32 1073741824 coK)) = true
  h2 : isN .f32 (fop .quo .f32 (fop .mul .f32 r (fop .sub .f32 1073741824 coK)) coM) = true
  h : isN .f32 (coH r) = true
  hh : isN .f32 (fop .mul .f32 (coH r) (coH r)) = true
  rr : isN .f32 (fop .mul .f32 r r) = true
  x : isN .f32 (coX r) = true
  rt : FloatKind.f64.format.sqrt (fcv .f32 .f64 (coX r)) = some (sqrtK (fcv .f32 .f64 (coX r)))
  rtn : isN .f64 (sqrtK (fcv .f32 .f64 (coX r))) = true
  rtf : isN .f32 (rootF (coX r)) = true
  d : isN .f32 (coD r) = true
  ua : nN (scaleF coU (coH r))
  ub : nN (scaleF coW (coD r))
  uc : nN (scaleF coV (coH r))
  pa : Plc (R .f32 r) (R .f32 r) (R .f32 r) (cosT 12) (sinT 12) (22 / 10000000) (coPa r)
  pb : Plc (R .f32 r) (R .f32 r) (R .f32 r) (cosT 10) (sinT 10) (22 / 10000000) (coPb r)
  pc : Plc (R .f32 r) (R .f32 r) (R .f32 r) (cosT 8) (sinT 8) (22 / 10000000) (coPc r)
  lo : 1 / 10 ≤ R .f32 r
  hi : R .f32 r ≤ 1
def coB (r : Nat) : Bool :=
  isN .f32 r && decide (0 < R .f32 r) && isN .f32 (fop .mul .f32 r (fop .sub .f32 1073741824 coK)) && isN .f32 (fop .quo .f32 (fop .mul .f32 r (fop .sub .f32 1073741824 coK)) coM) && isN .f32 (coH r) && isN .f32 (fop .mul .f32 (coH r) (coH r)) && isN .f32 (fop .mul .f32 r r) &&
    isN .f32 (coX r) && (FloatKind.f64.format.sqrt (fcv .f32 .f64 (coX r))).isSome && isN .f64 (sqrtK (fcv .f32 .f64 (coX r))) && isN .f32 (rootF (coX r)) && isN .f32 (coD r) && nB (scaleF coU (coH r)) && nB (scaleF coW (coD r)) && nB (scaleF coV (coH r)) &&
    plcB (R .f32 r) (R .f32 r) (R .f32 r) (cosT 12) (sinT 12) (22 / 10000000) (coPa r) && plcB (R .f32 r) (R .f32 r) (R .f32 r) (cosT 10) (sinT 10) (22 / 10000000) (coPb r) && plcB (R .f32 r) (R .f32 r) (R .f32 r) (cosT 8) (sinT 8) (22 / 10000000) (coPc r) && decide (1 / 10 ≤ R .f32 r) && decide (R .f32 r ≤ 1)
theorem co_tab : (List.range 15).all (fun b => coB (radF b)) = true := by decide +kernel
theorem coR {b : Nat} (hb : b < 15) : CoR (radF b) := by
  have h := List.all_eq_true.1 co_tab b (List.mem_range.2 hb)
  simp only [coB, Bool.and_eq_true, decide_eq_true_eq] at h
  obtain ⟨⟨⟨⟨⟨⟨⟨⟨⟨⟨⟨⟨⟨⟨⟨⟨⟨⟨⟨h1, h2⟩, h3⟩, h4⟩, h5⟩, h6⟩, h7⟩, h8⟩, h9⟩, h10⟩, h11⟩, h12⟩, h13⟩, h14⟩, h15⟩, h16⟩, h17⟩, h18⟩, h19⟩, h20⟩ := h
  refine ⟨h1, h2, h3, h4, h5, h6, h7, h8, ?_, h10, h11, h12, nB_n h13, nB_n h14, nB_n h15, plcB_p h16, plcB_p h17, plcB_p h18, h19, h20⟩
  obtain ⟨q, hq⟩ := Option.isSome_iff_exists.1 h9
  unfold sqrtK
  rw [hq]; rfl
/-- the corner's arc -/
theorem corner_near {b : Nat} (hb : b < 15) : ArcN (coPa (radF b)) (coPb (radF b)) (coPc (radF b)) ∧ ArcV (R .f32 (radF b)) (R .f32 (radF b)) (R .f32 (radF b)) false 12 2 (midF (coPa (radF b)) (coPb (radF b)) (coPc (radF b))) (arR (coPa (radF b)) (coPb (radF b)) (coPc (radF b))) (arF (coPa (radF b)) (coPb (radF b)) (coPc (radF b))) (arT (coPa (radF b)) (coPb (radF b)) (coPc (radF b))) := by
  have h := coR hb
  have l := h.lo
  have u := h.hi
  exact thru_near false l (by grind) (by decide) (by decide) (by decide) (by grind) (by grind) (by grind) (by grind) h.pa h.pb h.pc
end Go.Fl

namespace Go.Fl
open Ieee Go.RowKit
def sixtB : Nat := 1098907648
def sixtD : Nat := 4625196817309499392
def miF (a : Nat) : Nat := fop .quo .f32 (floatOfInt .f32 ((a : Int) - 8)) fourB
def frF (j : Nat) : Nat := fop .quo .f32 (floatOfInt .f32 ((j : Nat) : Int)) sixtB
def tuP (t : Nat) : Nat := fop .quo .f32 (floatOfInt .f32 ((2 + t : Nat) : Int)) sixtB
def tuF (up : Bool) (t : Nat) : Nat := if up then tuP t else Op.negFloat .f32 (tuP t)
def argF (up : Bool) (j t d : Nat) : Nat := fop .add .f64 (fcv .f32 .f64 (frF j)) (fop .mul .f64 (floatOfInt .f64 ((d : Nat) : Int)) (fcv .f32 .f64 (tuF up t)))
def wyF (w : Nat) : Nat := fop .quo .f64 (floatOfInt .f64 ((w : Nat) : Int)) sixtD
structure MiN (a : Nat) : Prop where
  n : isN .f32 (miF a) = true
  lo : -2 ≤ R .f32 (miF a)
  hi : R .f32 (miF a) ≤ 2
theorem mi_tab : (List.range 17).all (fun a => isN .f32 (miF a) && decide (-2 ≤ R .f32 (miF a)) && decide (R .f32 (miF a) ≤ 2)) = true := by decide +kernel
theorem miN {a : Nat} (h : a < 17) : MiN a := by
  have := List.all_eq_true.1 mi_tab a (List.mem_range.2 h)
  simp only [Bool.and_eq_true, decide_eq_true_eq] at this
  exact ⟨this.1.1, this.1.2, this.2⟩
structure RoN (b : Nat) : Prop where
  n : isN .f32 (roundF b) = true
  lo : 1 / 2 ≤ R .f32 (roundF b)
  hi : R .f32 (roundF b) ≤ 4
  q : R .f32 (radF b) = R .f32 (roundF b) / 4
theorem ro_tab : (List.range 15).all (fun a => isN .f32 (roundF a) && decide (1 / 2 ≤ R .f32 (roundF a)) && decide (R .f32 (roundF a) ≤ 4) && decide (R .f32 (radF a) = R .f32 (roundF a) / 4)) = true := by decide +kernel
theorem roN {a : Nat} (h : a < 15) : RoN a := by
  have := List.all_eq_true.1 ro_tab a (List.mem_range.2 h)
  simp only [Bool.and_eq_true, decide_eq_true_eq] at this
  exact ⟨this.1.1.1, this.1.1.2, this.1.2, this.2⟩
structure TuN (up : Bool) (t : Nat) : Prop where
  n : isN .f32 (tuF up t) = true
  v : R .f32 (tuF up t) = sgQ up (2 + t) / 16
theorem tu_tab : (List.range 6).all (fun t => isN .f32 (tuF true t) && isN .f32 (tuF false t) && decide (R .f32 (tuF true t) = sgQ true (2 + t) / 16) && decide (R .f32 (tuF false t) = sgQ false (2 + t) / 16)) = true := by decide +kernel
theorem tuN {t : Nat} (up : Bool) (h : t < 6) : TuN up t := by
  have := List.all_eq_true.1 tu_tab t (List.mem_range.2 h)
  simp only [Bool.and_eq_true, decide_eq_true_eq] at this
  cases up
  · exact ⟨this.1.1.2, this.2⟩
  · exact ⟨this.1.1.1, this.1.2⟩
/-- the law's three phasors: their arguments are whole sixteenths -/
structure ArgN (up : Bool) (j t d : Nat) : Prop where
  fr : isN .f32 (frF j) = true
  w1 : isN .f64 (fcv .f32 .f64 (frF j)) = true
  w2 : isN .f64 (fcv .f32 .f64 (tuF up t)) = true
  p : isN .f64 (fop .mul .f64 (floatOfInt .f64 ((d : Nat) : Int)) (fcv .f32 .f64 (tuF up t))) = true
  n : isN .f64 (argF up j t d) = true
  lo : -800 ≤ R .f64 (argF up j t d)
  hi : R .f64 (argF up j t d) ≤ 800
  v : ∃ n : Int, R .f64 (argF up j t d) = qJ (jAt up j (d * (2 + t))) / 16 + (n : Rat)
def argB (up : Bool) (j t d : Nat) : Bool := isN .f32 (frF j) && isN .f64 (fcv .f32 .f64 (frF j)) && isN .f64 (fcv .f32 .f64 (tuF up t)) && isN .f64 (fop .mul .f64 (floatOfInt .f64 ((d : Nat) : Int)) (fcv .f32 .f64 (tuF up t))) && isN .f64 (argF up j t d) && decide (-800 ≤ R .f64 (argF up j t d)) && decide (R .f64 (argF up j t d) ≤ 800) &&
  (decide (R .f64 (argF up j t d) = qJ (jAt up j (d * (2 + t))) / 16 + ((-1 : Int) : Rat)) || decide (R .f64 (argF up j t d) = qJ (jAt up j (d * (2 + t))) / 16 + ((0 : Int) : Rat)) || decide (R .f64 (argF up j t d) = qJ (jAt up j (d * (2 + t))) / 16 + ((1 : Int) : Rat)))
theorem arg_tab : (List.range 16).all (fun j => (List.range 6).all fun t => (List.range 3).all fun d => argB true j t d && argB false j t d) = true := by decide +kernel
theorem argN {up : Bool} {j t d : Nat} (hj : j < 16) (ht : t < 6) (hd : d < 3) : ArgN up j t d := by
  have h := List.all_eq_true.1 (List.all_eq_true.1 (List.all_eq_true.1 arg_tab j (List.mem_range.2 hj)) t (List.mem_range.2 ht)) d (List.mem_range.2 hd)
  rw [Bool.and_eq_true] at h
  have h : argB up j t d = true := by cases up; exact h.2; exact h.1
  simp only [argB, Bool.and_eq_true, Bool.or_eq_true, decide_eq_true_eq] at h
  obtain ⟨⟨⟨⟨⟨⟨⟨a, b⟩, c⟩, d⟩, e⟩, f⟩, g⟩, k⟩ := h
  refine ⟨a, b, c, d, e, f, g, ?_⟩
  rcases k with (k | k) | k
  · exact ⟨_, k⟩
  · exact ⟨_, k⟩
  · exact ⟨_, k⟩
theorem wy_tab : (List.range 16).all (fun w => isN .f64 (wyF w) && decide (R .f64 (wyF w) = qJ w / 16)) = true := by decide +kernel
/-- the law's phasors -/
theorem ph_t {x J : Nat} {n : Int} (hJ : J < 16) (hx : isN .f64 x = true) (x1 : -800 ≤ R .f64 x) (x2 : R .f64 x ≤ 800) (h : R .f64 x = qJ J / 16 + (n : Rat)) : PhN denS x ∧ Wy (phF denS x) J := by
  obtain ⟨hPh, P1, P2, P3, P4⟩ := phasor_near (eta := 1 / 1000000000) (zeta := 1 / 50000000) (by decide +kernel) (by decide +kernel) (by decide +kernel) (by decide +kernel) (sinTab_t denS_ok) (n := n) hJ hx x1 x2 (by rw [h]; grind) (by rw [h]; grind)
  exact ⟨hPh, ⟨hPh.nc, hPh.ns⟩, ⟨by grind, by grind⟩, by grind, by grind⟩
theorem ph_way {w : Nat} (hw : w < 16) : isN .f64 (wyF w) = true ∧ PhN denS (wyF w) ∧ Wy (phF denS (wyF w)) w := by
  have h := List.all_eq_true.1 wy_tab w (List.mem_range.2 hw)
  simp only [Bool.and_eq_true, decide_eq_true_eq] at h
  have w0 := qJ_nn w
  have w15 := qJ_le (show w ≤ 15 by omega)
  have e15 : qJ 15 = 15 := rfl
  rw [e15] at w15
  have := ph_t (x := wyF w) (n := 0) hw h.1 (by rw [h.2]; grind) (by rw [h.2]; grind) (by rw [h.2, show ((0 : Int) : Rat) = 0 from rfl]; grind)
  exact ⟨h.1, this.1, this.2⟩
/-- a short distance -/
theorem dist_le {a b : Cx} {c : Rat} (ha : nN a) (hb : nN b) (c0 : 1 / 1000 ≤ c) (c1 : c ≤ 1 / 100) (x1 : -c ≤ R .f32 a.1 - R .f32 b.1) (x2 : R .f32 a.1 - R .f32 b.1 ≤ c) (y1 : -c ≤ R .f32 a.2 - R .f32 b.2) (y2 : R .f32 a.2 - R .f32 b.2 ≤ c) : nN (minusF a b) ∧ LongN (minusF a b) ∧ R .f32 (longF (minusF a b)) ≤ 15 / 10 * c + 2 / 1000000 := by
  have r1 := rnd_sub ha.1 hb.1 (by grind) (by grind)
  have r2 := rnd_sub ha.2 hb.2 (by grind) (by grind)
  have f1 := r1.n32 0 (by decide) (B := 1) rfl (by grind) (by grind)
  have f2 := r2.n32 0 (by decide) (B := 1) rfl (by grind) (by grind)
  have nd : nN (minusF a b) := ⟨r1.num, r2.num⟩
  obtain ⟨e, he⟩ : ∃ e, e = c + 1 / 8388608 := ⟨_, rfl⟩
  have z1 : -e ≤ R .f32 (minusF a b).1 ∧ R .f32 (minusF a b).1 ≤ e := by
    rw [he]
    constructor
    · show _ ≤ R .f32 (fop .sub .f32 a.1 b.1); grind
    · show R .f32 (fop .sub .f32 a.1 b.1) ≤ _; grind
  have z2 : -e ≤ R .f32 (minusF a b).2 ∧ R .f32 (minusF a b).2 ≤ e := by
    rw [he]
    constructor
    · show _ ≤ R .f32 (fop .sub .f32 a.2 b.2); grind
    · show R .f32 (fop .sub .f32 a.2 b.2) ≤ _; grind
  have hl := long_near nd (by grind) (by grind) (by grind) (by grind)
  obtain ⟨t, t0, t1, t2, t3, t4⟩ := hl.val
  have q1 := mul_bd z1.1 z1.2 z1.1 z1.2
  have q2 := mul_bd z2.1 z2.2 z2.1 z2.2
  have ee : 1 / 1000000 ≤ e * e := by
    have := Rat.mul_nonneg (a := e - 1 / 1000) (b := e + 1 / 1000) (by grind) (by grind)
    grind
  have ts : t ≤ 15 / 10 * e := sq_lt (by grind) (by grind)
  exact ⟨nd, hl, by grind⟩
/-- a law's test of a gap -/
structure GapT (a b c : Nat) : Prop where
  g : isN .f64 (if R .f64 a < R .f64 b then fop .sub .f64 b a else fop .sub .f64 a b) = true
  gt : (FloatKind.f64.format.order (gapF a b) c == some .gt) = false
  lt : (FloatKind.f64.format.order (gapF a b) c == some .lt) = true
theorem gap_t {a b c : Nat} {e : Rat} (ha : isN .f64 a = true) (hb : isN .f64 b = true) (hc : isN .f64 c = true) (a1 : -1000 ≤ R .f64 a) (a2 : R .f64 a ≤ 1000) (b1 : -1000 ≤ R .f64 b) (b2 : R .f64 b ≤ 1000) (h1 : -e ≤ R .f64 a - R .f64 b) (h2 : R .f64 a - R .f64 b ≤ e) (he : e + 2 / 1000000 ≤ R .f64 c) : GapT a b c := by
  obtain ⟨g1, g2, g3⟩ := gap_facts ha hb (by grind) (by grind) (by grind) (by grind)
  have h := g2 e h1 h2
  exact ⟨g3, by rw [ord_G64 g1 hc]; exact decide_eq_false (by grind), by rw [ord_R64 g1 hc]; exact decide_eq_true (by grind)⟩
def c01 : Nat := 4576918229304087675
def c02 : Nat := 4581421828931458171
def c10 : Nat := 4591870180066957722
theorem c01_R : isN .f64 c01 = true ∧ 9 / 1000 ≤ R .f64 c01 := ⟨by decide +kernel, by decide +kernel⟩
theorem c02_R : isN .f64 c02 = true ∧ 19 / 1000 ≤ R .f64 c02 := ⟨by decide +kernel, by decide +kernel⟩
theorem c10_R : isN .f64 c10 = true ∧ 99 / 1000 ≤ R .f64 c10 := ⟨by decide +kernel, by decide +kernel⟩
/-- a law's test of a number -/
structure NumT (x c : Nat) : Prop where
  w : nanB .f32 x = false
  gt : (FloatKind.f64.format.order (fcv .f32 .f64 x) c == some .gt) = false
  lt : (FloatKind.f64.format.order (fcv .f32 .f64 x) c == some .lt) = true
theorem num_t {x c : Nat} {e : Rat} (hx : isN .f32 x = true) (hc : isN .f64 c = true) (x1 : -1000 ≤ R .f32 x) (h : R .f32 x ≤ e) (e1 : e ≤ 1000) (he : e + 2 / 1000000 ≤ R .f64 c) : NumT x c := by
  obtain ⟨n, v⟩ := wide hx (by grind) (by grind)
  exact ⟨isN.nan hx, by rw [ord_G64 n hc, v]; exact decide_eq_false (by grind), by rw [ord_R64 n hc, v]; exact decide_eq_true (by grind)⟩
end Go.Fl
