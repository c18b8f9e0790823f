/- The law's own tests. Plain Lean. -/
import Derived.Test.YtfpkdnopbnppmaaPnT
namespace Go.Fl
open Ieee Go.RowKit Go.Proofs.Ytfpkdnopbnppmaa
theorem F32.word {b x : Nat} (h : F32 b x) (hx : isN .f32 x = true) : b = x := by
  unfold F32 Go.Fl.can at h
  split at h
  · exfalso
    rw [← h] at hx
    revert hx
    decide +kernel
  · exact h
theorem R_ge {K : FloatKind} {x : Nat} {a b : Int} (hb : 0 < b) (h : a * ((2 ^ LP K : Nat) : Int) ≤ V K x * b) : (a : Rat) / (b : Rat) ≤ R K x := by
  have hbp : (0 : Rat) < (b : Rat) := Rat.intCast_pos.2 hb
  rw [← le_mulR hbp, Rat.div_mul_cancel (Rat.ne_of_gt hbp), ← le_mulR (uR_pos K)]
  have h1 : ((a * ((2 ^ LP K : Nat) : Int) : Int) : Rat) ≤ ((V K x * b : Int) : Rat) := Rat.intCast_le_intCast.2 h
  rw [Rat.intCast_mul, Rat.intCast_mul, ← R_mul] at h1
  have e : R K x * (b : Rat) * uR K = R K x * uR K * (b : Rat) := by grind
  rw [e]
  exact h1
theorem R_le_of {K : FloatKind} {x : Nat} {a b : Int} (hb : 0 < b) (h : V K x * b ≤ a * ((2 ^ LP K : Nat) : Int)) : R K x ≤ (a : Rat) / (b : Rat) := by
  have hbp : (0 : Rat) < (b : Rat) := Rat.intCast_pos.2 hb
  rw [← le_mulR hbp, Rat.div_mul_cancel (Rat.ne_of_gt hbp), ← le_mulR (uR_pos K)]
  have h1 : ((V K x * b : Int) : Rat) ≤ ((a * ((2 ^ LP K : Nat) : Int) : Int) : Rat) := Rat.intCast_le_intCast.2 h
  rw [Rat.intCast_mul, Rat.intCast_mul, ← R_mul] at h1
  have e : R K x * (b : Rat) * uR K = R K x * uR K * (b : Rat) := by grind
  rw [e]
  exact h1
theorem milli64 : isN .f64 4562254508917369340 = true ∧ 999 / 1000000 ≤ R .f64 4562254508917369340 ∧ R .f64 4562254508917369340 ≤ 1001 / 1000000 := by
  refine ⟨by decide +kernel, ?_, ?_⟩
  · have := R_ge (K := .f64) (x := 4562254508917369340) (a := 999) (b := 1000000) (by decide) (by decide +kernel)
    exact this
  · have := R_le_of (K := .f64) (x := 4562254508917369340) (a := 1001) (b := 1000000) (by decide) (by decide +kernel)
    exact this
theorem centi64 : isN .f64 4576918229304087675 = true ∧ 9 / 1000 ≤ R .f64 4576918229304087675 ∧ R .f64 4576918229304087675 ≤ 11 / 1000 := by
  refine ⟨by decide +kernel, ?_, ?_⟩
  · have := R_ge (K := .f64) (x := 4576918229304087675) (a := 9) (b := 1000) (by decide) (by decide +kernel)
    exact this
  · have := R_le_of (K := .f64) (x := 4576918229304087675) (a := 11) (b := 1000) (by decide) (by decide +kernel)
    exact this
theorem fifty64 : isN .f64 4581421828931458171 = true ∧ 19 / 1000 ≤ R .f64 4581421828931458171 ∧ R .f64 4581421828931458171 ≤ 21 / 1000 := by
  refine ⟨by decide +kernel, ?_, ?_⟩
  · have := R_ge (K := .f64) (x := 4581421828931458171) (a := 19) (b := 1000) (by decide) (by decide +kernel)
    exact this
  · have := R_le_of (K := .f64) (x := 4581421828931458171) (a := 21) (b := 1000) (by decide) (by decide +kernel)
    exact this
theorem one64 : isN .f64 4607182418800017408 = true ∧ R .f64 4607182418800017408 = 1 := by
  have q : Q .f64 4607182418800017408 1 0 := ⟨by decide +kernel, by decide +kernel, by decide⟩
  exact ⟨q.num, by rw [q.R]; decide +kernel⟩
theorem two64 : isN .f64 4611686018427387904 = true ∧ R .f64 4611686018427387904 = 2 := by
  have q : Q .f64 4611686018427387904 2 0 := ⟨by decide +kernel, by decide +kernel, by decide⟩
  exact ⟨q.num, by rw [q.R]; decide +kernel⟩
/-- one piece: not below zero, not above the most, no change but the rise's -/
structure PieceOk (a b most rise l : Nat) : Prop where
  na : isN .f64 (fcv .f32 .f64 a) = true
  nb : isN .f64 (fcv .f32 .f64 b) = true
  low : (FloatKind.f64.format.order (fcv .f32 .f64 a) 0 == some .lt) = false
  nm : isN .f64 (fop .add .f64 (fcv .f32 .f64 most) 4562254508917369340) = true
  high : (FloatKind.f64.format.order (fcv .f32 .f64 a) (fop .add .f64 (fcv .f32 .f64 most) 4562254508917369340) == some .gt) = false
  nbb : isN .f64 (fop .mul .f64 (fcv .f32 .f64 b) (fcv .f32 .f64 b)) = true
  naa : isN .f64 (fop .mul .f64 (fcv .f32 .f64 a) (fcv .f32 .f64 a)) = true
  ng : isN .f64 (if R .f64 (fop .mul .f64 (fcv .f32 .f64 b) (fcv .f32 .f64 b)) < R .f64 (fop .mul .f64 (fcv .f32 .f64 a) (fcv .f32 .f64 a)) then fop .sub .f64 (fop .mul .f64 (fcv .f32 .f64 a) (fcv .f32 .f64 a)) (fop .mul .f64 (fcv .f32 .f64 b) (fcv .f32 .f64 b)) else fop .sub .f64 (fop .mul .f64 (fcv .f32 .f64 b) (fcv .f32 .f64 b)) (fop .mul .f64 (fcv .f32 .f64 a) (fcv .f32 .f64 a))) = true
  n1 : isN .f64 (fop .mul .f64 4611686018427387904 (fcv .f32 .f64 rise)) = true
  n2 : isN .f64 (fop .mul .f64 (fop .mul .f64 4611686018427387904 (fcv .f32 .f64 rise)) (fcv .f32 .f64 l)) = true
  n3 : isN .f64 (fop .add .f64 (fop .mul .f64 (fop .mul .f64 4611686018427387904 (fcv .f32 .f64 rise)) (fcv .f32 .f64 l)) 4576918229304087675) = true
  rise : (FloatKind.f64.format.order (gapF (fop .mul .f64 (fcv .f32 .f64 b) (fcv .f32 .f64 b)) (fop .mul .f64 (fcv .f32 .f64 a) (fcv .f32 .f64 a))) (fop .add .f64 (fop .mul .f64 (fop .mul .f64 4611686018427387904 (fcv .f32 .f64 rise)) (fcv .f32 .f64 l)) 4576918229304087675) == some .gt) = false
theorem piece_ok {ls : List Nat} {most rise n k : Nat} (h : SpIn ls most rise n) (hk : k < n) : PieceOk (nF (spEnd ls most rise) k) (nF (spEnd ls most rise) (k + 1)) most rise (nF ls k) := by
  obtain ⟨hv, hs⟩ := speeds_ok h
  obtain ⟨s1, s2⟩ := hs k hk
  obtain ⟨a0, a1, a2⟩ := hv.num k (by omega)
  obtain ⟨b0, b1, b2⟩ := hv.num (k + 1) (by omega)
  obtain ⟨l0, l1, l2⟩ := h.ls k hk
  have m1 := h.m1
  have m2 := h.m2
  have r1 := h.r1
  have r2 := h.r2
  generalize nF (spEnd ls most rise) k = a at *
  generalize nF (spEnd ls most rise) (k + 1) = b at *
  generalize nF ls k = l at *
  obtain ⟨na, ea⟩ := wide a0 (by grind) (by grind)
  obtain ⟨nb, eb⟩ := wide b0 (by grind) (by grind)
  obtain ⟨nm, em⟩ := wide h.mN (by grind) (by grind)
  obtain ⟨nr, er⟩ := wide h.rN (by grind) (by grind)
  obtain ⟨nl, el⟩ := wide l0 (by grind) (by grind)
  obtain ⟨c1, c2, c3⟩ := milli64
  obtain ⟨d1, d2, d3⟩ := centi64
  have t1 := rnd_add nm c1 (by rw [em]; grind) (by rw [em]; grind)
  rw [em] at t1
  have f1 := t1.n64 3 (by decide) (B := 8) rfl (by grind) (by grind)
  obtain ⟨u1, u2⟩ := mul_up a1 (show R .f32 a ≤ 4 by grind) a1 (show R .f32 a ≤ 4 by grind)
  obtain ⟨v1, v2⟩ := mul_up b1 (show R .f32 b ≤ 4 by grind) b1 (show R .f32 b ≤ 4 by grind)
  obtain ⟨w1, w2⟩ := mul_up (x := R .f32 rise) (y := R .f32 l) (B := 4) (C := 4) (by grind) r2 (by grind) l2
  have t2 := rnd_mul nb nb (by rw [eb]; grind) (by rw [eb]; grind)
  rw [eb] at t2
  have f2 := t2.n64 5 (by decide) (B := 32) rfl (by grind) (by grind)
  have t3 := rnd_mul na na (by rw [ea]; grind) (by rw [ea]; grind)
  rw [ea] at t3
  have f3 := t3.n64 5 (by decide) (B := 32) rfl (by grind) (by grind)
  obtain ⟨g1, g2, g3⟩ := gap_facts t2.num t3.num (by grind) (by grind) (by grind) (by grind)
  have t4 := rnd_mul two64.1 nr (by rw [two64.2, er]; grind) (by rw [two64.2, er]; grind)
  rw [two64.2, er] at t4
  have f4 := t4.n64 3 (by decide) (B := 8) rfl (by grind) (by grind)
  have p5 := muld (x := R .f64 (fop .mul .f64 4611686018427387904 (fcv .f32 .f64 rise))) (y := 2 * R .f32 rise) (s := R .f32 l) (t := R .f32 l) (d := 1 / 1000000) (e := 0) (B := 10) (C := 4) ⟨by grind, by grind⟩ ⟨by grind, by grind⟩ (by grind) (by grind) (by grind) (by grind)
  obtain ⟨p6, p7⟩ := p5
  have t5 := rnd_mul t4.num nl (by rw [el]; grind) (by rw [el]; grind)
  rw [el] at t5
  have f5 := t5.n64 6 (by decide) (B := 64) rfl (by grind) (by grind)
  have t6 := rnd_add t5.num d1 (by grind) (by grind)
  have f6 := t6.n64 6 (by decide) (B := 64) rfl (by grind) (by grind)
  have g4 := g2 (2 * (R .f32 rise * R .f32 l) + 1 / 1000) (by grind) (by grind)
  refine ⟨na, nb, ?_, t1.num, ?_, t2.num, t3.num, g3, t4.num, t5.num, t6.num, ?_⟩
  · rw [lt_R na zero64.1, ea, zero64.2]; exact decide_eq_false (by grind)
  · rw [gt_R na t1.num, ea]; exact decide_eq_false (by grind)
  · rw [gt_R g1 t6.num]; exact decide_eq_false (by grind)
/-- the time: above zero, and no less than the least -/
theorem time_last {ls : List Nat} {most rise n : Nat} (h : SpIn ls most rise n) : isN .f32 (spSum ls (spEnd ls most rise) n) = true ∧ (FloatKind.f32.format.order (spSum ls (spEnd ls most rise) n) 0 == some .lt || FloatKind.f32.format.order (spSum ls (spEnd ls most rise) n) 0 == some .eq) = false ∧
    isN .f64 (fop .sub .f64 (leastK ls most n) 4562254508917369340) = true ∧ (FloatKind.f64.format.order (fcv .f32 .f64 (spSum ls (spEnd ls most rise) n)) (fop .sub .f64 (leastK ls most n) 4562254508917369340) == some .lt) = false := by
  obtain ⟨hv, _⟩ := speeds_ok h
  obtain ⟨t1, t2, t3, t4⟩ := time_ok h hv n (Nat.le_refl _)
  obtain ⟨l1, l2, l3, l4⟩ := least_ok h n (Nat.le_refl _)
  have n2 : (((2 : Nat) : Int) : Rat) ≤ (((n : Nat) : Int) : Rat) := cast_le h.n2
  have n7 : (((n : Nat) : Int) : Rat) ≤ (((7 : Nat) : Int) : Rat) := cast_le h.n7
  have e2 : (((2 : Nat) : Int) : Rat) = 2 := rfl
  have e7 : (((7 : Nat) : Int) : Rat) = 7 := rfl
  rw [e2] at n2
  rw [e7] at n7
  generalize (((n : Nat) : Int) : Rat) = N at *
  obtain ⟨c1, c2, c3⟩ := milli64
  obtain ⟨nt, et⟩ := wide t1 (by grind) (by grind)
  have s := rnd_sub l1 c1 (by grind) (by grind)
  have f := s.n64 7 (by decide) (B := 128) rfl (by grind) (by grind)
  refine ⟨t1, ?_, s.num, ?_⟩
  · rw [lt_R t1 zero_N.1, eq_R t1 zero_N.1, R_zero]
    have a : ¬ R .f32 (spSum ls (spEnd ls most rise) n) < 0 := by grind
    have b : ¬ R .f32 (spSum ls (spEnd ls most rise) n) = 0 := by grind
    rw [decide_eq_false a, decide_eq_false b]; rfl
  · rw [lt_R nt s.num, et]; exact decide_eq_false (by grind)
end Go.Fl
