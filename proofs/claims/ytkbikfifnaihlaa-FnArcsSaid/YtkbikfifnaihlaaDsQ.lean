/- Dashes: segments of a path, places on them, pieces between two places. Plain Lean. -/
import Derived.Test.YtkbikfifnaihlaaDsP
namespace Go.Fl
open Ieee Go.RowKit
/-- a segment of a path: two points of numbers, their difference exact -/
structure Seg (P Q : Cx) : Prop where
  p : nN P
  q : nN Q
  d : nN (minusF Q P)
  d1 : R .f32 (minusF Q P).1 = R .f32 Q.1 - R .f32 P.1
  d2 : R .f32 (minusF Q P).2 = R .f32 Q.2 - R .f32 P.2
  a1 : 1 / 2 ≤ R .f32 Q.1 - R .f32 P.1
  a2 : R .f32 Q.1 - R .f32 P.1 ≤ 2
  a3 : -1 ≤ R .f32 Q.2 - R .f32 P.2
  a4 : R .f32 Q.2 - R .f32 P.2 ≤ 1
  b1 : 0 ≤ R .f32 P.1
  b2 : R .f32 P.1 ≤ 10
  b3 : -6 ≤ R .f32 P.2
  b4 : R .f32 P.2 ≤ 6
def lenF (P Q : Cx) : Nat := longF (minusF Q P)
theorem sq_ge {s b : Rat} (h : b * b ≤ s * s) (hs : 0 ≤ s) (hb : 0 ≤ b) : b ≤ s := sq_lt h hs
structure SegLen (P Q : Cx) : Prop where
  ln : LongN (minusF Q P)
  lo : 49 / 100 ≤ R .f32 (lenF P Q)
  hi : R .f32 (lenF P Q) ≤ 23 / 10
  up : R .f32 (lenF P Q) * R .f32 (lenF P Q) ≤ (R .f32 Q.1 - R .f32 P.1) * (R .f32 Q.1 - R .f32 P.1) + (R .f32 Q.2 - R .f32 P.2) * (R .f32 Q.2 - R .f32 P.2) + 1 / 100000
  dn : (R .f32 Q.1 - R .f32 P.1) * (R .f32 Q.1 - R .f32 P.1) + (R .f32 Q.2 - R .f32 P.2) * (R .f32 Q.2 - R .f32 P.2) ≤ R .f32 (lenF P Q) * R .f32 (lenF P Q) + 1 / 100000
theorem Seg.len {P Q : Cx} (h : Seg P Q) : SegLen P Q := by
  have e1 := h.d1
  have e2 := h.d2
  have h1 := h.a1
  have h2 := h.a2
  have h3 := h.a3
  have h4 := h.a4
  have hl := long_near h.d (by rw [e1]; grind) (by rw [e1]; grind) (by rw [e2]; grind) (by rw [e2]; grind)
  obtain ⟨s, s0, s1, s2, s3, s4⟩ := hl.val
  rw [e1, e2] at s1 s2
  obtain ⟨v1, hv1⟩ : ∃ v, v = R .f32 Q.1 - R .f32 P.1 := ⟨_, rfl⟩
  obtain ⟨v2, hv2⟩ : ∃ v, v = R .f32 Q.2 - R .f32 P.2 := ⟨_, rfl⟩
  rw [← hv1, ← hv2] at s1 s2
  rw [← hv1] at h1 h2
  rw [← hv2] at h3 h4
  have c1 : 1 / 4 ≤ v1 * v1 := by
    have := Rat.mul_nonneg (a := v1 - 1 / 2) (b := v1 + 1 / 2) (by grind) (by grind)
    grind
  have c2 := (mul_up (x := v1) (y := v1) (by grind) h2 (by grind) h2).2
  have c3 := (mul_bd h3 h4 h3 h4).2
  have c4 := sq_pos v2
  have sb : s ≤ 224 / 100 := sq_lt (by grind) (by grind)
  have sl : 4999 / 10000 ≤ s := by
    have := sq_ge (s := s + 1 / 1000000000000) (b := 49995 / 100000) (by grind) (by grind) (by grind)
    grind
  have l0 := hl.nn
  refine ⟨hl, ?_, ?_, ?_, ?_⟩
  · unfold lenF; grind
  · unfold lenF; grind
  · unfold lenF
    rw [← hv1, ← hv2]
    have := Rat.mul_nonneg (a := s + 1 / 1000000 - R .f32 (longF (minusF Q P))) (b := s + 1 / 1000000 + R .f32 (longF (minusF Q P))) (by grind) (by grind)
    grind
  · unfold lenF
    rw [← hv1, ← hv2]
    have := Rat.mul_nonneg (a := R .f32 (longF (minusF Q P)) - (s - 1 / 1000000)) (b := s - 1 / 1000000 + R .f32 (longF (minusF Q P))) (by grind) (by grind)
    grind
/-- z is at the part t of a segment, nearly -/
structure OnAt (P Q : Cx) (t : Rat) (z : Cx) : Prop where
  n : nN z
  t0 : 0 ≤ t
  t1 : t ≤ 1
  x1 : R .f32 P.1 + t * (R .f32 Q.1 - R .f32 P.1) - 3 / 1000000 ≤ R .f32 z.1
  x2 : R .f32 z.1 ≤ R .f32 P.1 + t * (R .f32 Q.1 - R .f32 P.1) + 3 / 1000000
  y1 : R .f32 P.2 + t * (R .f32 Q.2 - R .f32 P.2) - 3 / 1000000 ≤ R .f32 z.2
  y2 : R .f32 z.2 ≤ R .f32 P.2 + t * (R .f32 Q.2 - R .f32 P.2) + 3 / 1000000
theorem Seg.at0 {P Q : Cx} (h : Seg P Q) : OnAt P Q 0 P := ⟨h.p, by grind, by grind, by grind, by grind, by grind, by grind⟩
theorem Seg.at1 {P Q : Cx} (h : Seg P Q) : OnAt P Q 1 Q := ⟨h.q, by grind, by grind, by grind, by grind, by grind, by grind⟩
def placeF (P Q : Cx) (g : Nat) : Cx := plusF P (scaleF (minusF Q P) (fop .quo .f32 g (lenF P Q)))
structure PlaceN (P Q : Cx) (g : Nat) : Prop where
  q : isN .f32 (fop .quo .f32 g (lenF P Q)) = true
  s : nN (scaleF (minusF Q P) (fop .quo .f32 g (lenF P Q)))
  p : nN (placeF P Q g)
theorem Seg.place {P Q : Cx} (h : Seg P Q) {g : Nat} (hg : isN .f32 g = true) (g0 : 0 ≤ R .f32 g) (g1 : R .f32 g ≤ R .f32 (lenF P Q)) : PlaceN P Q g ∧ ∃ t, t * R .f32 (lenF P Q) = R .f32 g ∧ OnAt P Q t (placeF P Q g) := by
  have hL := h.len
  have l1 := hL.lo
  have e1 := h.d1
  have e2 := h.d2
  have h1 := h.a1
  have h2 := h.a2
  have h3 := h.a3
  have h4 := h.a4
  have k1 := h.b1
  have k2 := h.b2
  have k3 := h.b3
  have k4 := h.b4
  obtain ⟨L, hLL⟩ : ∃ L, L = R .f32 (lenF P Q) := ⟨_, rfl⟩
  rw [← hLL] at l1 g1
  have t0 : 0 ≤ R .f32 g / L := by rw [Rat.div_def]; exact Rat.mul_nonneg g0 (Rat.le_of_lt (Rat.inv_pos.2 (by grind)))
  have tl : R .f32 g / L * L = R .f32 g := Rat.div_mul_cancel (by grind)
  obtain ⟨t, ht⟩ : ∃ t, t = R .f32 g / L := ⟨_, rfl⟩
  rw [← ht] at t0 tl
  have t1 : t ≤ 1 := by
    refine Rat.not_lt.1 fun k => ?_
    have := Rat.mul_pos (a := t - 1) (b := L) (by grind) (by grind)
    grind
  have hq := rnd_div (q := t) hg hL.ln.num (by show R .f32 (lenF P Q) ≠ 0; rw [← hLL]; grind) (by show t * R .f32 (lenF P Q) = _; rw [← hLL]; exact tl) (by grind) (by grind)
  have f0 := hq.n32 0 (by decide) (B := 1) rfl (by grind) (by grind)
  obtain ⟨T, hT⟩ : ∃ T, T = fop .quo .f32 g (lenF P Q) := ⟨_, rfl⟩
  have hqn : isN .f32 T = true := by rw [hT]; exact hq.num
  have f0 : t - 1 / 8388608 ≤ R .f32 T ∧ R .f32 T ≤ t + 1 / 8388608 := by rw [hT]; exact f0
  obtain ⟨v1, hv1⟩ : ∃ v, v = R .f32 Q.1 - R .f32 P.1 := ⟨_, rfl⟩
  obtain ⟨v2, hv2⟩ : ∃ v, v = R .f32 Q.2 - R .f32 P.2 := ⟨_, rfl⟩
  rw [← hv1] at e1 h1 h2
  rw [← hv2] at e2 h3 h4
  have m1 := mul_bd (x := v1) (y := R .f32 T - t) (B := 2) (C := 1 / 8388608) (by grind) (by grind) (by grind) (by grind)
  have m2 := mul_bd (x := v2) (y := R .f32 T - t) (B := 1) (C := 1 / 8388608) (by grind) (by grind) (by grind) (by grind)
  have u1 := mul_up (x := t) (y := v1) (B := 1) (C := 2) t0 t1 (by grind) h2
  have u2 := mul_bd (x := t) (y := v2) (B := 1) (C := 1) (by grind) t1 (by grind) h4
  have q1 := rnd_mul h.d.1 hqn (by rw [e1]; grind) (by rw [e1]; grind)
  have q2 := rnd_mul h.d.2 hqn (by rw [e2]; grind) (by rw [e2]; grind)
  rw [e1] at q1
  rw [e2] at q2
  have f1 := q1.n32 2 (by decide) (B := 4) rfl (by grind) (by grind)
  have f2 := q2.n32 2 (by decide) (B := 4) rfl (by grind) (by grind)
  obtain ⟨s1, hs1⟩ : ∃ s, s = fop .mul .f32 (minusF Q P).1 T := ⟨_, rfl⟩
  obtain ⟨s2, hs2⟩ : ∃ s, s = fop .mul .f32 (minusF Q P).2 T := ⟨_, rfl⟩
  have n1 : isN .f32 s1 = true := by rw [hs1]; exact q1.num
  have n2 : isN .f32 s2 = true := by rw [hs2]; exact q2.num
  rw [← hs1] at f1
  rw [← hs2] at f2
  have q3 := rnd_add h.p.1 n1 (by grind) (by grind)
  have q4 := rnd_add h.p.2 n2 (by grind) (by grind)
  have f3 := q3.n32 4 (by decide) (B := 16) rfl (by grind) (by grind)
  have f4 := q4.n32 4 (by decide) (B := 16) rfl (by grind) (by grind)
  have ep1 : (placeF P Q g).1 = fop .add .f32 P.1 s1 := by rw [hs1, hT]; rfl
  have ep2 : (placeF P Q g).2 = fop .add .f32 P.2 s2 := by rw [hs2, hT]; rfl
  have hn : nN (placeF P Q g) := ⟨by rw [ep1]; exact q3.num, by rw [ep2]; exact q4.num⟩
  refine ⟨⟨hq.num, ⟨by show isN .f32 (fop .mul .f32 _ _) = true; rw [← hT, ← hs1]; exact n1, by show isN .f32 (fop .mul .f32 _ _) = true; rw [← hT, ← hs2]; exact n2⟩, hn⟩, t, by rw [← hLL]; exact tl, ⟨hn, t0, t1, ?_, ?_, ?_, ?_⟩⟩
  · rw [ep1, ← hv1]; grind
  · rw [ep1, ← hv1]; grind
  · rw [ep2, ← hv2]; grind
  · rw [ep2, ← hv2]; grind
/-- from A to B it is d far, nearly -/
structure PieceN (A B : Cx) (d : Rat) : Prop where
  mn : nN (minusF B A)
  ln : LongN (minusF B A)
  lo : d - 1 / 4000 ≤ R .f32 (longF (minusF B A))
  hi : R .f32 (longF (minusF B A)) ≤ d + 1 / 4000
  b0 : 0 ≤ d
  b1 : d ≤ 3
/-- the length of what is nearly a part of a segment -/
theorem part_len {v1 v2 t L z1 z2 s : Rat} (h1 : 0 ≤ v1) (h2 : v1 ≤ 2) (h3 : -1 ≤ v2) (h4 : v2 ≤ 1) (t0 : 0 ≤ t) (t1 : t ≤ 1) (l1 : 49 / 100 ≤ L) (l2 : L ≤ 23 / 10)
    (up : L * L ≤ v1 * v1 + v2 * v2 + 1 / 100000) (dn : v1 * v1 + v2 * v2 ≤ L * L + 1 / 100000) (a1 : -(7 / 1000000) ≤ z1 - t * v1) (a2 : z1 - t * v1 ≤ 7 / 1000000) (a3 : -(7 / 1000000) ≤ z2 - t * v2) (a4 : z2 - t * v2 ≤ 7 / 1000000)
    (s0 : 0 ≤ s) (s1 : s * s ≤ z1 * z1 + z2 * z2 + 1 / 100000000000) (s2 : z1 * z1 + z2 * z2 - 1 / 100000000000 ≤ (s + 1 / 1000000000000) * (s + 1 / 1000000000000)) : t * L - 1 / 5000 ≤ s ∧ s ≤ t * L + 1 / 5000 := by
  obtain ⟨e1, he1⟩ : ∃ e, e = z1 - t * v1 := ⟨_, rfl⟩
  obtain ⟨e2, he2⟩ : ∃ e, e = z2 - t * v2 := ⟨_, rfl⟩
  rw [← he1] at a1 a2
  rw [← he2] at a3 a4
  have z1e : z1 = t * v1 + e1 := by grind
  have z2e : z2 = t * v2 + e2 := by grind
  have b1 := mul_bd a1 a2 a1 a2
  have b2 := mul_bd a3 a4 a3 a4
  have b3 := sq_pos e1
  have b4 := sq_pos e2
  have c1 := mul_bd (x := v1) (y := e1) (B := 2) (C := 7 / 1000000) (by grind) h2 a1 a2
  have c2 := mul_bd (x := v2) (y := e2) (B := 1) (C := 7 / 1000000) (by grind) h4 a3 a4
  obtain ⟨C, hC⟩ : ∃ C, C = v1 * e1 + v2 * e2 := ⟨_, rfl⟩
  have hCb : -(21 / 1000000) ≤ C ∧ C ≤ 21 / 1000000 := by constructor <;> grind
  have d1 := Rat.mul_nonneg (a := t) (b := 21 / 1000000 - C) t0 (by grind)
  have d2 := Rat.mul_nonneg (a := t) (b := 21 / 1000000 + C) t0 (by grind)
  obtain ⟨M, hM⟩ : ∃ M, M = v1 * v1 + v2 * v2 := ⟨_, rfl⟩
  rw [← hM] at up dn
  have d3 := Rat.mul_nonneg (a := t * t) (b := L * L + 1 / 100000 - M) (Rat.mul_nonneg t0 t0) (by grind)
  have d4 := Rat.mul_nonneg (a := t * t) (b := M + 1 / 100000 - L * L) (Rat.mul_nonneg t0 t0) (by grind)
  have d5 := Rat.mul_nonneg (a := t) (b := 1 - t) t0 (by grind)
  have hz : z1 * z1 + z2 * z2 = t * t * M + 2 * (t * C) + (e1 * e1 + e2 * e2) := by rw [z1e, z2e, hM, hC]; grind
  obtain ⟨W, hW⟩ : ∃ W, W = t * L := ⟨_, rfl⟩
  have hWW : W * W = t * t * (L * L) := by rw [hW]; grind
  have w0 : 0 ≤ W := by rw [hW]; exact Rat.mul_nonneg t0 (by grind)
  have w1 := Rat.mul_nonneg (a := t) (b := L - 49 / 100) t0 (by grind)
  have wt : 49 / 100 * t ≤ W := by rw [hW]; grind
  have w2 : W ≤ 23 / 10 := by
    have := Rat.mul_nonneg (a := L) (b := 1 - t) (by grind) (by grind)
    rw [hW]; grind
  rw [← hW]
  clear hM hC a1 a2 a3 a4 z1e z2e he1 he2 c1 c2 up dn
  constructor
  · refine Rat.not_lt.1 fun k => ?_
    have k1 : s + 1 / 1000000000000 ≤ W - 1 / 5000 + 1 / 1000000000000 := by grind
    have k2 := mul_up (x := s + 1 / 1000000000000) (y := s + 1 / 1000000000000) (by grind) k1 (by grind) k1
    grind
  · refine Rat.not_lt.1 fun k => ?_
    have k2 := Rat.mul_nonneg (a := s - (W + 1 / 5000)) (b := s + (W + 1 / 5000)) (by grind) (by grind)
    grind
theorem Seg.piece {P Q A B : Cx} {a b : Rat} (h : Seg P Q) (hA : OnAt P Q a A) (hB : OnAt P Q b B) (hab : a ≤ b) : PieceN A B ((b - a) * R .f32 (lenF P Q)) := by
  have hL := h.len
  have l1 := hL.lo
  have l2 := hL.hi
  have up := hL.up
  have dn := hL.dn
  have h1 := h.a1
  have h2 := h.a2
  have h3 := h.a3
  have h4 := h.a4
  have k1 := hA.x1
  have k2 := hA.x2
  have k3 := hA.y1
  have k4 := hA.y2
  have k5 := hB.x1
  have k6 := hB.x2
  have k7 := hB.y1
  have k8 := hB.y2
  have a0 := hA.t0
  have b1 := hB.t1
  obtain ⟨v1, hv1⟩ : ∃ v, v = R .f32 Q.1 - R .f32 P.1 := ⟨_, rfl⟩
  obtain ⟨v2, hv2⟩ : ∃ v, v = R .f32 Q.2 - R .f32 P.2 := ⟨_, rfl⟩
  rw [← hv1] at up dn h1 h2 k1 k2 k5 k6
  rw [← hv2] at up dn h3 h4 k3 k4 k7 k8
  obtain ⟨L, hLL⟩ : ∃ L, L = R .f32 (lenF P Q) := ⟨_, rfl⟩
  rw [← hLL] at l1 l2 up dn ⊢
  obtain ⟨t, ht⟩ : ∃ t, t = b - a := ⟨_, rfl⟩
  have t0 : 0 ≤ t := by grind
  have t1 : t ≤ 1 := by grind
  have e1 : b * v1 - a * v1 = t * v1 := by rw [ht]; grind
  have e2 : b * v2 - a * v2 = t * v2 := by rw [ht]; grind
  have u1 := mul_up (x := t) (y := v1) (B := 1) (C := 2) t0 t1 (by grind) h2
  have u2 := mul_bd (x := t) (y := v2) (B := 1) (C := 1) (by grind) t1 (by grind) h4
  have q1 := rnd_sub hB.n.1 hA.n.1 (by grind) (by grind)
  have q2 := rnd_sub hB.n.2 hA.n.2 (by grind) (by grind)
  have f1 := q1.n32 2 (by decide) (B := 4) rfl (by grind) (by grind)
  have f2 := q2.n32 2 (by decide) (B := 4) rfl (by grind) (by grind)
  have hd : nN (minusF B A) := ⟨q1.num, q2.num⟩
  have g1 : -(7 / 1000000) ≤ R .f32 (minusF B A).1 - t * v1 ∧ R .f32 (minusF B A).1 - t * v1 ≤ 7 / 1000000 := by
    show _ ≤ R .f32 (fop .sub .f32 _ _) - _ ∧ R .f32 (fop .sub .f32 _ _) - _ ≤ _
    constructor <;> grind
  have g2 : -(7 / 1000000) ≤ R .f32 (minusF B A).2 - t * v2 ∧ R .f32 (minusF B A).2 - t * v2 ≤ 7 / 1000000 := by
    show _ ≤ R .f32 (fop .sub .f32 _ _) - _ ∧ R .f32 (fop .sub .f32 _ _) - _ ≤ _
    constructor <;> grind
  have hl := long_near hd (by grind) (by grind) (by grind) (by grind)
  obtain ⟨s, s0, s1, s2, s3, s4⟩ := hl.val
  obtain ⟨p1, p2⟩ := part_len (by grind) h2 h3 h4 t0 t1 l1 l2 up dn g1.1 g1.2 g2.1 g2.2 s0 s1 s2
  have w0 := Rat.mul_nonneg (a := t) (b := L) t0 (by grind)
  have w2 : t * L ≤ 23 / 10 := by
    have := Rat.mul_nonneg (a := L) (b := 1 - t) (by grind) (by grind)
    grind
  rw [← ht]
  exact ⟨hd, hl, by grind, by grind, w0, by grind⟩
end Go.Fl
