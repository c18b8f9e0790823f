/- Dashes: how long a point is, nearly. -/
import Derived.Test.YtkbikfifnaihlaaDsA
namespace Go.Fl
open Ieee Go.RowKit
/-- the root of a number of 64 bits -/
def sqrtK (y : Nat) : Nat := (FloatKind.f64.format.sqrt y).getD (qnan .f64)
def msqrt (y : Nat) (w : World) : Nat := match FloatKind.f64.format.sqrt y with | some r => r | none => (Question.nanBits .f64 y y).cut (w.tape w.drawn (.nanBits .f64 y y))
def msqd (y : Nat) : Nat := if (FloatKind.f64.format.sqrt y).isSome then 0 else 1
theorem run_wid64 {x : Nat} (h : nanB .f32 x = false) : (∀ w, mcv .f32 .f64 x w = fcv .f32 .f64 x) ∧ mcd .f32 .f64 x = 0 := by
  refine ⟨fun w => ?_, ?_⟩
  · unfold mcv fcv; rw [h, fits_widen]; rfl
  · unfold mcd; rw [h, fits_widen]; rfl
theorem run_nar32 {x : Nat} (h : nanB .f64 x = false) (hn : isN .f32 (fcv .f64 .f32 x) = true) : (∀ w, mcv .f64 .f32 x w = fcv .f64 .f32 x) ∧ mcd .f64 .f32 x = 0 := by
  have hf : fits .f64 .f32 x = true := by
    unfold fits
    cases hd : FloatKind.f64.decode x with
    | number g m e =>
      have h2 : fcv .f64 .f32 x = FloatKind.f32.encode (.number g m e) := by unfold fcv; rw [h, ← hd]; rfl
      rw [h2] at hn
      obtain ⟨s, m', i, hr, _⟩ := isN_read hn
      show (!(FloatKind.f32.decode (FloatKind.f32.encode (.number g m e))).isInfinity) = true
      have h3 : FloatKind.f32.decode (FloatKind.f32.encode (.number g m e)) = .number s m' i := hr
      rw [h3]; rfl
    | infinity g => rfl
    | nan g f => rfl
  refine ⟨fun w => ?_, ?_⟩
  · unfold mcv fcv; rw [h, hf]; rfl
  · unfold mcd; rw [h, hf]; rfl
def powF (z : Cx) : Nat := fop .add .f64 (fop .mul .f64 (fcv .f32 .f64 z.1) (fcv .f32 .f64 z.1)) (fop .mul .f64 (fcv .f32 .f64 z.2) (fcv .f32 .f64 z.2))
def longF (z : Cx) : Nat := fcv .f64 .f32 (sqrtK (powF z))
theorem sq_pos (x : Rat) : 0 ≤ x * x := by
  rcases Rat.le_total (a := 0) (b := x) with k | k
  · exact Rat.mul_nonneg k k
  · have := Rat.mul_nonneg (a := -x) (b := -x) (by grind) (by grind)
    grind
theorem zero64_N : isN .f64 0 = true ∧ R .f64 0 = 0 := ⟨by decide +kernel, R_zero_iff.2 (by decide +kernel)⟩
theorem zero32_N : isN .f32 0 = true ∧ R .f32 0 = 0 := ⟨by decide +kernel, R_zero_iff.2 (by decide +kernel)⟩
/-- what is rounded keeps its side of zero -/
theorem Rnd.nn64 {r : Nat} {q : Rat} (h : Rnd .f64 r q) (h0 : 0 ≤ q) : 0 ≤ R .f64 r := by
  have := h.ge 0 zero64_N.1 (by rw [zero64_N.2]; exact h0)
  rwa [zero64_N.2] at this
theorem Rnd.nn32 {r : Nat} {q : Rat} (h : Rnd .f32 r q) (h0 : 0 ≤ q) : 0 ≤ R .f32 r := by
  have := h.ge 0 zero32_N.1 (by rw [zero32_N.2]; exact h0)
  rwa [zero32_N.2] at this
/-- the power of a point of numbers: nearly its square -/
structure PowN (z : Cx) : Prop where
  v1 : nanB .f32 z.1 = false
  v2 : nanB .f32 z.2 = false
  m1 : isN .f64 (fop .mul .f64 (fcv .f32 .f64 z.1) (fcv .f32 .f64 z.1)) = true
  m2 : isN .f64 (fop .mul .f64 (fcv .f32 .f64 z.2) (fcv .f32 .f64 z.2)) = true
  num : isN .f64 (powF z) = true
  nn : 0 ≤ R .f64 (powF z)
  ge : R .f32 z.1 * R .f32 z.1 + R .f32 z.2 * R .f32 z.2 - 1 / 100000000000 ≤ R .f64 (powF z)
  le : R .f64 (powF z) ≤ R .f32 z.1 * R .f32 z.1 + R .f32 z.2 * R .f32 z.2 + 1 / 100000000000
theorem pow_near {z : Cx} (h : nN z) (x1 : -32 ≤ R .f32 z.1) (x2 : R .f32 z.1 ≤ 32) (y1 : -32 ≤ R .f32 z.2) (y2 : R .f32 z.2 ≤ 32) : PowN z := by
  obtain ⟨n1, e1⟩ := wide h.1 (by grind) (by grind)
  obtain ⟨n2, e2⟩ := wide h.2 (by grind) (by grind)
  have s1 := sq_pos (R .f32 z.1)
  have s2 := sq_pos (R .f32 z.2)
  have b1 := mul_bd x1 x2 x1 x2
  have b2 := mul_bd y1 y2 y1 y2
  have q1 := rnd_mul n1 n1 (by rw [e1]; grind) (by rw [e1]; grind)
  rw [e1] at q1
  have f1 := q1.n64 10 (by decide) (B := 1024) rfl (by grind) (by grind)
  have q2 := rnd_mul n2 n2 (by rw [e2]; grind) (by rw [e2]; grind)
  rw [e2] at q2
  have f2 := q2.n64 10 (by decide) (B := 1024) rfl (by grind) (by grind)
  have z1 := q1.nn64 s1
  have z2 := q2.nn64 s2
  have q3 := rnd_add q1.num q2.num (by grind) (by grind)
  have z3 := q3.nn64 (by grind)
  have f3 := q3.n64 12 (by decide) (B := 4096) rfl (by grind) (by grind)
  exact ⟨isN.nan h.1, isN.nan h.2, q1.num, q2.num, q3.num, z3, by show _ ≤ R .f64 (fop .add .f64 _ _); grind, by show R .f64 (fop .add .f64 _ _) ≤ _; grind⟩
end Go.Fl
namespace Go.Proofs.Ytkbikfifnaihlaa
open Go.RowKit Go.Fl

theorem run_sqrt (y : Nat) (w : World) : (callFunc 66 #[.float .f64 y]).run Try.prog w = .ok (.value (.float .f64 (msqrt y w))) (w.drewN (msqd y)) := by
  have h := run_callFunc_extern (P := Try.prog) (e := Extern.MathSqrt.sqrt) Try.func66 (by kernel_rfl) (by kernel_rfl) (by kernel_rfl) (by kernel_rfl) #[.float .f64 y] w
  rw [h]
  have e : (Extern.MathSqrt.sqrt #[.float .f64 y]).run Try.prog w = .ok (.float .f64 (msqrt y w)) (w.drewN (msqd y)) := by
    show Sem.run Try.prog (match FloatKind.f64.format.sqrt y with | some r => pure (Value.float .f64 r) | none => do pure (Value.float .f64 (← choose (.nanBits .f64 y y)))) w = _
    unfold msqrt msqd
    cases hs : FloatKind.f64.format.sqrt y with
    | some r => simp [hs, World.drewN_zero]
    | none => simp [hs, Question.forced, World.drew_is_drewN]
  rw [e]; rfl
theorem mathSqrtR {y r : Nat} (h : FloatKind.f64.format.sqrt y = some r) (w : World) : Calls Try.prog 49 #[.float .f64 y] w fun e w' => e = .returned (.float .f64 r) ∧ w' = w := by
  have hs := run_sqrt y
  have m1 : ∀ w, msqrt y w = r := fun w => by unfold msqrt; rw [h]
  have m2 : msqd y = 0 := by unfold msqd; rw [h]; rfl
  have dz : ∀ w : World, w.drewN 0 = w := World.drewN_zero
  simp only [m1, m2, dz] at hs
  clear m1 m2 dz h
  go_enter Try.func49, Try.ntmps49
  go_wp2_with fail
  go_ret
  exact ⟨rfl, rfl⟩
theorem partsR {z : Cx} (h : nanB .f32 z.1 = false ∧ nanB .f32 z.2 = false) (w : World) : Calls Try.prog 62 #[cV z] w fun e w' => e = .returned (.tuple #[.float .f64 (fcv .f32 .f64 z.1), .float .f64 (fcv .f32 .f64 z.2)]) ∧ w' = w := by
  obtain ⟨m1, d1⟩ := run_wid64 h.1
  obtain ⟨m2, d2⟩ := run_wid64 h.2
  have dz : ∀ w : World, w.drewN 0 = w := World.drewN_zero
  obtain ⟨a, b⟩ := z
  clear h
  unfold cV
  go_enter Try.func62, Try.ntmps62
  go_wp2_with fail
  go_ret2
  exact ⟨rfl, rfl⟩
theorem powerN {z : Cx} (h : PowN z) (w : World) : Calls Try.prog 48 #[cV z] w fun x w' => x = .returned (.float .f64 (powF z)) ∧ w' = w := by
  obtain ⟨m1, d1⟩ := run_fopN h.m1
  obtain ⟨m2, d2⟩ := run_fopN h.m2
  obtain ⟨m3, d3⟩ := run_fopN (op := .add) h.num
  have dz : ∀ w : World, w.drewN 0 = w := World.drewN_zero
  have HN := Lib.hid (show nanB .f32 z.1 = false ∧ nanB .f32 z.2 = false from ⟨h.v1, h.v2⟩)
  clear h
  go_enter Try.func48, Try.ntmps48
  go_wp2_with fail
  refine (partsR HN.out _).mono ?_
  rintro e1 w1 ⟨rfl, rfl⟩
  go_wp2_with fail
  go_ret
  exact ⟨rfl, rfl⟩
end Go.Proofs.Ytkbikfifnaihlaa
