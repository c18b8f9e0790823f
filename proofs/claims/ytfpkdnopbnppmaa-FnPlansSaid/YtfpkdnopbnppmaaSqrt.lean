/- Contracts of the square root of a number of 32 bits. -/
import Derived.Test.YtfpkdnopbnppmaaLf
namespace Go.Fl
open Ieee

def sqrtK (y : Nat) : Nat := (FloatKind.f64.format.sqrt y).getD (qnan .f64)
/-- the root of a number, through 64 bits -/
def fsqrt (x : Nat) : Nat := fcv .f64 .f32 (sqrtK (fcv .f32 .f64 x))
def msqrt (y : Nat) (w : World) : Nat := match FloatKind.f64.format.sqrt y with | some r => r | none => (Question.nanBits .f64 y y).cut (w.tape w.drawn (.nanBits .f64 y y))
def msqd (y : Nat) : Nat := if (FloatKind.f64.format.sqrt y).isSome then 0 else 1

theorem root_not_nan {n : Nat} {x r : Datum} (h : x.root n = some r) : r.isNaN = false := by
  cases x <;> simp only [Datum.root] at h
  · split at h
    · cases h; rfl
    · split at h
      · cases h
      · cases h; rfl
  · split at h
    · cases h
    · cases h; rfl
  · cases h
theorem sqrt_not_nan {y r : Nat} (h : FloatKind.f64.format.sqrt y = some r) : nanB .f64 r = false := by
  simp only [Format.sqrt, Option.map_eq_some_iff] at h
  obtain ⟨d, hd, rfl⟩ := h
  exact write_not_nan (k := .f64) (root_not_nan hd)
theorem sqrt_nan {y : Nat} (h : nanB .f64 y = true) : FloatKind.f64.format.sqrt y = none := by
  obtain ⟨s, f, hd⟩ := isNaN_nan h
  simp only [Format.sqrt]
  rw [hd]; rfl
theorem sqrt_can (y : Nat) : FloatKind.f64.format.sqrt (can .f64 y) = FloatKind.f64.format.sqrt y := by
  by_cases h : nanB .f64 y = true
  · rw [sqrt_nan h, sqrt_nan (by rw [nanB_can]; exact h)]
  · rw [can_of_not (by simpa using h)]
theorem can_msqrt (y : Nat) (w : World) : can .f64 (msqrt y w) = sqrtK (can .f64 y) := by
  unfold msqrt sqrtK
  rw [sqrt_can]
  cases h : FloatKind.f64.format.sqrt y with
  | some r => exact can_of_not (sqrt_not_nan h)
  | none => exact can_of_nan (cut_nan .f64 y y _)
theorem fits_sqrt (x : Nat) : fits .f64 .f32 (sqrtK (fcv .f32 .f64 x)) = true := by
  unfold sqrtK
  cases h : FloatKind.f64.format.sqrt (fcv .f32 .f64 x) with
  | some r => exact fits_root x r h
  | none => decide +kernel
end Go.Fl

namespace Go.Proofs.Ytfpkdnopbnppmaa
open Go.RowKit Go.Fl

theorem run_sqrt (y : Nat) (w : World) : (callFunc 31 #[.float .f64 y]).run Try.prog w = .ok (.value (.float .f64 (msqrt y w))) (w.drewN (msqd y)) := by
  have h := run_callFunc_extern (P := Try.prog) (e := Extern.MathSqrt.sqrt) Try.func31 (by kernel_rfl) (by kernel_rfl) (by kernel_rfl) (by kernel_rfl) #[.float .f64 y] w
  rw [h]
  have e : (Extern.MathSqrt.sqrt #[.float .f64 y]).run Try.prog w = .ok (.float .f64 (msqrt y w)) (w.drewN (msqd y)) := by
    show Sem.run Try.prog (match FloatKind.f64.format.sqrt y with | some r => pure (Value.float .f64 r) | none => do pure (Value.float .f64 (← choose (.nanBits .f64 y y)))) w = _
    unfold msqrt msqd
    cases hs : FloatKind.f64.format.sqrt y with
    | some r => simp [hs, World.drewN_zero]
    | none => simp [hs, Question.forced, World.drew_is_drewN]
  rw [e]; rfl

theorem mathSqrt (y : Nat) (w : World) : Calls Try.prog 25 #[.float .f64 y] w fun e w' => (∃ r, e = .returned (.float .f64 r) ∧ can .f64 r = sqrtK (can .f64 y)) ∧ ∃ n, w' = w.drewN n := by
  have hs := run_sqrt y
  go_enter Try.func25, Try.ntmps25
  go_wp2_with fail
  go_ret
  exact ⟨⟨_, rfl, can_msqrt y _⟩, _, rfl⟩

theorem narrow_of {r x : Nat} {w : World} (h : can .f64 r = sqrtK (fcv .f32 .f64 x)) : F32 (mcv .f64 .f32 r w) (fsqrt x) := by
  unfold F32 fsqrt
  rw [can_mcv _ _ _ _ (by rw [← fits_can, h]; exact fits_sqrt x), h]

theorem rootNumber (x : Nat) (w : World) : Calls Try.prog 14 #[.float .f32 x] w fun e w' => (∃ r, e = .returned (.float .f32 r) ∧ F32 r (fsqrt (can .f32 x))) ∧ ∃ n, w' = w.drewN n := by
  go_enter Try.func14, Try.ntmps14
  go_wp2_with fail
  refine (mathSqrt _ _).mono ?_
  rintro e w' ⟨⟨r, rfl, hr⟩, n, rfl⟩
  rw [can_mcv _ _ _ _ (fits_widen x)] at hr
  have HR := Lib.hid hr
  clear hr
  go_wp2_with fail
  go_ret
  exact ⟨⟨_, rfl, narrow_of HR.out⟩, _, rfl⟩
end Go.Proofs.Ytfpkdnopbnppmaa
